/-
  A part of the proof of PrintNames: AbsClose, AbsSeatN.
-/
import Derived.ProofKit
import Derived.LaidMore
import Derived.Carry
import Derived.ChangeMaps5
import Derived.OpenShut
import Derived.Lib.LaidTab
import Derived.Deep.Strs
import Derived.Test.YtocbgffdpfiidaaGreatDoorCards
import Derived.Test.YtocbgffdpfiidaaGreatDoorTie
import Derived.Test.YtocbgffdpfiidaaGreatDoorP14
set_option linter.unusedSimpArgs false
set_option linter.unusedVariables false
set_option linter.defProp false
set_option maxRecDepth 100000
namespace Go.Abs
open Go Go.RowKit Go.ChangeShapes Go.WideShapes Go.ChangeMaps Go.MapKept
section
theorem acA{n:Int}(h:(Lit.int .i64 n).wf=true):zb n:=by
 have h1:IntKind.i64.min=-9223372036854775808:=rfl
 have h2:IntKind.i64.max=9223372036854775807:=rfl
 simp only[Lit.wf,aiL,ai2,h1,h2] at h
 exact h
def gy(W:World):Gh:={ S:=fun b o=>(∃ v,W.cell? ⟨b,o,none⟩=some v/\v.oneCell'=true/\∀ n,v≠.int .u8 n)\/(∃ E ck,W.heap[b]?=some (.map E ck)),κ:=fun _=>.none,ρ:=fun _=>0 }
theorem P9{W:World}{b o:Nat}{v:Value}(h:W.cell? ⟨b,o,none⟩=some v):b<W.heap.size:=by
 rcases aj8 b W.heap.size with h'|h'
 ·exact h'
 ·simp[World.cell?,aj0 h'] at h
theorem acB{G:Nat->List AV}{W:World}(hg:∀ (g j:Nat) (x:AV),(G g)[j]?=some x->∃ v,W.cell? ⟨g,j,none⟩=some v/\PR (gy W).S W v x/\∀ n,v≠.int .u8 n)
  (ht:∀ g,G g≠[]->∃ ty,nq W g ty (G g).length):aG G W.heap.size [] (gy W) W where
 size:=aiK _
 l7:=fun b o h=>by
  rcases h with ⟨v,h,_⟩|⟨E,ck,h⟩
  ·exact P9 h
  ·exact (aiN.1 h).1
 mG:=fun b h=>absurd rfl h
 aP:=fun g j x h=>by
  obtain⟨v,h1,h2,h3⟩:=hg g j x h
  exact⟨v,h1,h2,.inl ⟨v,h1,h2.dB,h3⟩⟩
 boxes:=fun loc ty cs h=>by simp at h
 refs:=fun loc ty cs h=>by simp at h
 uB:=ht
 bytes:=fun b o n h hc=>by
  rcases h with ⟨v,h,_,h3⟩|⟨E,ck,h⟩
  ·rw[h] at hc
   injection hc with hc
   exact absurd hc (h3 n)
  ·simp only[World.cell?,h] at hc
   cases hc
 more:=fun loc o h=>by simp at h
 types:=fun loc ty cs h=>by simp at h
theorem PX{gh:Gh}{n:Nat}{w:World}{p:aX}{v:Value}{b:Bool}(h:CR gh n w p v (.bool b)):v=.bool b:=by
 rcases h with h|⟨e,h,_⟩
 ·cases h with
  | plain v x h=>cases h;rfl
 ·cases h
theorem SB{P:Program}{A:AP}(hA:p8 P A){f:FuncId}{xs:List AV}(h:aA A f xs []=some (.bool true,none)){W:World}(hW:aG A.aP W.heap.size [] (gy W) W)
  {vs:Array Value} (hs:vs.size=xs.length) (hv:∀ (j:Nat) (v:Value) (x:AV),vs[j]?=some v->xs[j]?=some x->PR (gy W).S W v x) :
  Calls P f vs W fun e W'=>e=.returned (.bool true)/\Below W.heap.size W W':=by
 obtain⟨n,hn⟩:=lC.1 h
 obtain⟨_,_,hc⟩:=sG hA n f xs [] _ _ hn
 refine (hc W.heap.size (gy W) W vs hW (fun b=>.inl rfl) hs (fun j v x h1 h2=>.inl (.plain _ _ (hv j v x h1 h2)))).mono fun e W' ⟨v,aF,he,r⟩=>?_
 refine⟨by rw[he,PX r.val],r.st.os,r.st.tape,r.st.output,r.st.size,fun k hk=>?_⟩
 obtain⟨h1,_,_⟩:=r.st.xR k hk (by
  intro ht
  simp only[fH,gy] at ht
  rcases ht with ⟨l,ht⟩|⟨l,j,ht⟩|⟨j,ht⟩<;>cases ht)
 rcases h1 with h1|⟨C,ty,lo,hi,lo',jW,k1,_,⟨o,m,⟨v',h2,_,h3⟩|⟨E,ck,h2⟩,hm⟩,_⟩
 ·exact h1
 rotate_left
 ·rw[k1] at h2;cases h2
 ·exfalso
  have:W.cell? ⟨k,o,none⟩=some (.int .u8 m):=by
   simp only[World.cell?,k1];exact hm
  rw[this] at h2
  injection h2 with h2
  exact h3 m h2.symm
theorem pW{H:Type}{enc:TypeId × Value->H}{P:Program}(hl:laidOutB P=true){W W' : World}(hb:Below W.heap.size W W'){sp:Nat->Bool} :
  ∀ {ts:List TypeId} {vs:List Value} {ds:List (DataW H)} {ps:List MemPlace},(ts.all fun t=>P.readableRec t&&decide (t<P.types.size))=true->DataW.TrodAll enc P W 0 (fun _=>true) true ts vs ds ps ->
   (∀ x∈ps,x.block<W.heap.size)->(∀ p∈ps,sp p.block=true)->DataW.TrodAll enc P W' 0 sp true ts vs ds ps
 | [],[],[],_,_,h,_,_=>h
 | t :: ts,v :: vs,d :: ds,ps,ht,⟨p,q,h1,h2,e⟩,a7,hs=>by
  simp only[ajV,aiL] at ht
  exact⟨p,q,WideElems.Trod_stays hl ht.1.1 (of_decide_eq_true ht.1.2) h1 (fun x hx=>hb.same (a7 x (by rw[e];exact aka _ hx))) (fun x hx=>hs x (by rw[e];exact aka _ hx)),
   pW hl hb ht.2 h2 (fun x hx=>a7 x (by rw[e];exact akG _ hx)) (fun x hx=>hs x (by rw[e];exact akG _ hx)),e⟩
theorem Of{H:Type}{enc:TypeId × Value->H}{P:Program}(hl:laidOutB P=true){f:Func}{s:ChangeSpec}{W W' : World}{args:Array Value}{ds gs:List (DataW H)}{before:List MemPlace}{tb:TypeId}
  (hW:DataW.Whole enc P f.params.toList s.vars false W args.toList ds gs before) (hb:Below W.heap.size W W') (hv:s.vars=[])
  (hts:(f.params.toList.all fun t=>P.readableRec t&&decide (t<P.types.size))=true) (hr:f.resultTypes=#[tb]) (ht:P.underlying tb=some .bool)
  (qs:(s.fn H (ds++gs)).results=[.lit (.bool true)]) (dw:(s.fn H (ds++gs)).args=ds) (abd:(s.fn H (ds++gs)).vars=[]) :
  s.post enc P f false true false false W args (.bool true) W':=by
 have j6:=hW
 obtain⟨p,q,hA,hV,he,hfz,HJ⟩:=hW
 rw[hv] at hV
 obtain⟨rfl,rfl⟩:=trodVars_none hV
 have a7:∀ x∈before,x.block<W.heap.size:=fun x hx=>by simpa using j6.lt x hx
 subst he
 refine⟨ds,[],p++[],[],p,[],j6,?_,?_,?_,World.keptBut_mono (fun x hx=>hx.elim) (hb.frame fun _=>False),fun h=>by cases h⟩
 ·rw[qs,hr]
  exact trodAll_mk1 (shut_bool ht true)
 ·rw[dw]
  exact pW hl hb hts hA (fun x hx=>a7 x (aka _ hx)) (fun x hx=>by simpa using a7 x (aka _ hx))
 ·rw[abd,hv];rfl
section
variable {H:Type}{enc:TypeId × Value->H}{P:Program}{W:World}{sp:Nat->Bool}{hd:Bool}{b0:Nat}{t e:TypeId}{v:Value}{d:DataW H}{p:List MemPlace}
theorem Hk(ht:P.underlying t=some (.int .i64))(fZ:Value.okWide P W .any b0 t v)(h:DataW.Trod enc P W 0 sp hd t v d p) :
  ∃ n:Int,d=.lit (.int .i64 n)/\zb n/\PR (gy W).S W v (.int .i64 n):=by
 obtain⟨n,rfl,rfl,rfl,hw⟩:=open_int ht fZ h
 exact⟨n,rfl,acA hw,.int _ _⟩
theorem wJ(ht:P.underlying t=some (.slice e))(fZ:Value.okWide P W .any b0 t v):v=.slice none 0 0\/∃ b o len cap,v=.slice (some ⟨b,o,none⟩) len cap/\len<=cap:=by
 simp only[Value.okWide,ht,Cell.okWide,Cell.ok] at fZ
 split at fZ
 case h_7=>exact .inl rfl
 case h_9 e' a len cap hh =>
  obtain⟨h1,_,_,h3,_⟩:=fZ
  obtain⟨b,o,s⟩:=a
  simp only at h3
  subst h3
  exact .inr ⟨b,o,len,cap,rfl,h1⟩
 all_goals first|(simp_all;done)|exact fZ.elim
theorem KH(ht:P.underlying t=some (.slice e))(he:P.underlying e=some (.int .i64))(hc:P.cellsOf e=1)(fZ:Value.okWide P W .any b0 t v)(h:DataW.Trod enc P W 0 sp hd t v d p) :
  ∃ (l:List Int) (rest:List (DataW H)),((d=.nil/\l=[])\/d=.slice (lits .i64 l) rest)/\(∀ n∈l,zb n)/\PR (gy W).S W v (.slice (ints l) false):=by
 obtain⟨fuel,hf⟩:=h
 rcases open_ints ht he hc hf with ⟨fq,hx⟩|⟨a,len,cap,zs,fq,_,hlc,_,Q3,hx,bH,hwf⟩
 ·injection hx with hd' hp
  rcases wJ ht fZ with rfl|⟨b,o,len,cap,rfl,_⟩
  ·exact⟨[],[],.inl ⟨hd',rfl⟩,fun _ h=>(aks h).elim,.cB⟩
  ·simp[Value.cells] at fq
 ·injection hx with hd' hp
  rcases wJ ht fZ with rfl|⟨b,o,Jw,qR,rfl,_⟩
  ·simp[Value.cells] at fq
  ·simp only[Value.cells,akA,Value.slice.injEq,aiG,aj4] at fq
   obtain⟨rfl,rfl,rfl⟩:=fq
   have afZ:Jw<=zs.length:=by rw[Q3];split<;>omega
   have hI:∀ n∈zs,zb n:=fun n hn=>acA (hwf n hn)
   have sP:∀ (i:Nat) (r:List AV),(ints (zs.take Jw))[i]?=some r->i<Jw/\r=[.int .i64 (zs.getD i 0)]:=by
    intro i r hr
    rw[Me,ai0] at hr
    split at hr
    ·rename_i hi
     have uH:i<zs.length:=by omega
     rw[aiJ uH] at hr
     simp only[aiV,aiG] at hr
     exact⟨hi,by rw[<- hr,ajf,aiJ uH];rfl⟩
    ·simp at hr
   refine⟨zs.take Jw,lits .i64 (zs.drop Jw),.inr hd',fun n hn=>hI n (ajR hn),.slice b o Jw qR 1 _ (fun i j=>.int .i64 (zs.getD i 0)) ?_ hlc ?_ ?_ ?_⟩
   ·rw[lP,List.length_take];omega
   ·intro i r hr
    rw[(sP i r hr).2];rfl
   ·intro i j r x hr hx
    obtain⟨hi,rfl⟩:=sP i r hr
    have hj:j=0:=by
     cases j with
     | zero=>rfl
     | succ j=>simp at hx
    subst hj
    have xy:=bH i (by omega)
    have LA:(Addr.mk b o none).add i=⟨b,o+i*1+0,none⟩:=by
     unfold Addr.add
     split
     ·rename_i h0;subst h0;simp
     ·simp
    have gz:W.cell? ⟨b,o+i*1+0,none⟩=some (.int .i64 (zs.getD i 0)):=by rw[<- LA];exact xy
    exact⟨.inl ⟨_,gz,rfl,fun n hn=>by cases hn⟩,gz,rfl⟩
   ·intro i j r x hr hx
    obtain⟨hi,rfl⟩:=sP i r hr
    cases j with
    | zero =>
     simp only[ai4,aiG] at hx
     subst hx
     exact .int _ _
    | succ j=>simp at hx
end
def pK(W:World)(g:Nat)(xs:List AV):Prop :=
 (∃ ty,nq W g ty xs.length)/\∀ (j:Nat) (x:AV),xs[j]?=some x->∃ v,W.cell? ⟨g,j,none⟩=some v/\PR (gy W).S W v x/\∀ n,v≠.int .u8 n
theorem J5{G:Nat->List AV}{W:World}(h:∀ g,G g≠[]->pK W g (G g)):aG G W.heap.size [] (gy W) W:=by
 refine acB (fun g j x hx=>?_) (fun g hg=>(h g hg).1)
 exact (h g (fun h=>by rw[h] at hx;simp at hx)).2 j x hx
theorem tr{P:Program}{W:World}{name:String}{g:Nat}{cs:Array Value}{xs:List AV}(hg:P.globalNamed name=some g)(hv:W.var? P name=some cs)(hl:cs.size=xs.length)
  (h:∀ (j:Nat) (v:Value) (x:AV),cs[j]?=some v->xs[j]?=some x->PR (gy W).S W v x/\∀ n,v≠.int .u8 n):pK W g xs:=by
 have hv0:=hv
 simp only[World.var?,hg,aiP] at hv
 refine⟨?_,fun j x hx=>?_⟩
 ·split at hv
  ·rename_i C ty fr hC
   injection hv with hv
   exact⟨ty,C,fr,hC,by rw[hv,hl]⟩
  ·cases hv
 ·have a7:j<cs.size:=by rw[hl];exact (aiI.1 hx).1
  exact⟨cs[j],by rw[World.var?_cell hg hv0 j,aiS a7],h j _ x (aiS a7) hx⟩
theorem rJ{P:Program}{W:World}{n:String}{d:DataW Unit} : ∀ {l:List (String × DataW Unit)} {ps:List MemPlace},DataW.LaidVars P W l ps->(n,d)∈l ->
  ∃ g t cs fuel p,P.globalNamed n=some g/\(P.globals[g]?).map (·.type)=some t/\W.var? P n=some cs/\DataW.trod (fun _=>()) P W 0 (fun _=>true) false fuel t cs.toList=some (d,p)/\∀ x∈MemPlace.row ⟨g,0,none⟩ cs.size,x∈ps
 | [],_,_,hm=>(aks hm).elim
 | (n',d') :: r,ps,⟨g,t,cs,fuel,p,q,h1,h2,h3,h4,hr,he⟩,hm=>by
  rcases aja.1 hm with hm|hm
  ·injection hm with e1 e2
   subst e1 e2
   exact⟨g,t,cs,fuel,p,h1,h2,h3,h4,fun x hx=>by rw[he];exact aka _ (aka _ hx)⟩
  ·obtain⟨g',t',cs',aag,p',k1,k2,k3,k4,k5⟩:=rJ hr hm
   exact⟨g',t',cs',aag,p',k1,k2,k3,k4,fun x hx=>by rw[he];exact akG _ (k5 x hx)⟩
theorem yD{P:Program}{W:World}{n:String}{d:DataW Unit}{l:List (String × DataW Unit)}(h:laidMetH P l W)(hm:(n,d)∈l)(hd:d.handleName?.isNone=true) :
  ∃ g t cs fuel p,P.globalNamed n=some g/\(P.globals[g]?).map (·.type)=some t/\W.var? P n=some cs/\DataW.trod (fun _=>()) P W 0 (fun _=>true) false fuel t cs.toList=some (d,p) /\
   ∀ j u v,j<cs.size->W.cell? ⟨g,j,none⟩=some (.iface u v)->Value.okWide P W .any 0 u v:=by
 have key:∀ l',laidMet P l' W->(n,d)∈l'->∃ g t cs fuel p,P.globalNamed n=some g/\(P.globals[g]?).map (·.type)=some t/\W.var? P n=some cs/\DataW.trod (fun _=>()) P W 0 (fun _=>true) false fuel t cs.toList=some (d,p) /\
   ∀ j u v,j<cs.size->W.cell? ⟨g,j,none⟩=some (.iface u v)->Value.okWide P W .any 0 u v:=by
  rintro l' ⟨ps,hv,_,pn⟩ DP
  obtain⟨g,t,cs,fuel,p,h1,h2,h3,h4,h5⟩:=rJ hv DP
  exact⟨g,t,cs,fuel,p,h1,h2,h3,h4,fun j u v hj hc=>(pn g j (h5 _ (by simp only[MemPlace.row];simpa using hj))).2 u v hc⟩
 unfold laidMetH at h
 split at h
 ·exact key _ h hm
 ·exact key _ h.1 (alm.2 ⟨hm,hd⟩)
theorem rK{P:Program}{W:World}{n:String}{d:DataW Unit}{l:List (String × DataW Unit)}(h:laidMetH P l W)(hm:(n,d)∈l)(hd:d.handleName?.isNone=true) :
  ∃ g t cs fuel p,P.globalNamed n=some g/\(P.globals[g]?).map (·.type)=some t/\W.var? P n=some cs/\DataW.trod (fun _=>()) P W 0 (fun _=>true) false fuel t cs.toList=some (d,p):=by
 obtain⟨g,t,cs,fuel,p,h1,h2,h3,h4,_⟩:=yD h hm hd
 exact⟨g,t,cs,fuel,p,h1,h2,h3,h4⟩
theorem C3{cs:List Value}{i:Nat}{v:Value}(h:(cs.drop (i*1)).take 1=[v]):cs[i]?=some v:=by
 have:((cs.drop (i*1)).take 1)[0]?=some v:=by rw[h];rfl
 simpa [ai0,aje] using this
theorem DC{P:Program}{W:World}{name:String}{l:List (String × DataW Unit)}{ss:List (List UInt8)}{g n:Nat}{t e:TypeId}(h:laidMetH P l W)(hm:(name,.agg (ss.map fun s=>.lit (.string s)))∈l)
  (hg:P.globalNamed name=some g) (Jl:(P.globals[g]?).map (·.type)=some t) (ht:P.underlying t=some (.array n e)) (he:P.underlying e=some .string) (Zu:P.cellsOf e=1) (hct:P.cellsOf t=n):pK W g (ss.map .str):=by
 obtain⟨g',t',cs,fuel,p,h1,h2,h3,h4⟩:=rK h hm rfl
 obtain rfl:=ajI (hg.symm.trans h1)
 obtain rfl:=ajI (Jl.symm.trans h2)
 obtain⟨xs,m,rfl,hx,hlen,hn,Ws⟩:=DataW.trod_array ht h4
 injection hx with hx hp
 injection hx with hx
 have tP:ss.length=n:=by
  have:=ak2 List.length hx
  simpa [hn] using this
 refine tr hg h3 (by rw[ai9,tP,<- hct,<- hlen];exact (alc).symm) fun j v x hv mF=>?_
 have hj:j<n:=by
  have:=(aiI.1 mF).1
  simpa [tP] using this
 have rZ:=Ws j hj
 rw[Zu] at rZ
 rw[aiJ (show j<xs.length by omega)] at rZ
 obtain⟨s,h5,h6,_⟩:=DataW.trod_string he rZ
 have n6:cs.toList[j]?=some v:=by rw[ajd];exact hv
 rw[C3 h5] at n6
 injection n6 with n6
 have h7:(ss.map fun s=>(DataW.lit (.string s):DataW Unit))[j]?=some (.lit (.string s.data.toList)):=by
  rw[hx,aiW,aiJ (show j<xs.length by omega),h6];rfl
 rw[aiW] at h7 mF
 cases hs:ss[j]? with
 | none=>rw[hs] at mF;cases mF
 | some b =>
  rw[hs] at h7 mF
  simp only[aiV,aiG,DataW.lit.injEq,Lit.string.injEq] at h7 mF
  subst mF n6
  exact⟨.str _ _ h7.symm,fun n hn=>by cases hn⟩
theorem Px{P:Program}{W:World}{name:String}{l:List (String × DataW Unit)}{k:IntKind}{zs:List Int}{g n:Nat}{t e:TypeId}(hk:k≠.u8)(h:laidMetH P l W)(hm:(name,.agg (zs.map fun z=>.lit (.int k z)))∈l)
  (hg:P.globalNamed name=some g) (Jl:(P.globals[g]?).map (·.type)=some t) (ht:P.underlying t=some (.array n e)) (he:P.underlying e=some (.int k)) (Zu:P.cellsOf e=1) (hct:P.cellsOf t=n):pK W g (zs.map (.int k)):=by
 obtain⟨g',t',cs,fuel,p,h1,h2,h3,h4⟩:=rK h hm rfl
 obtain rfl:=ajI (hg.symm.trans h1)
 obtain rfl:=ajI (Jl.symm.trans h2)
 have fq:=Lib.cells_of_tab ht he Zu hct h4
 have fC:cs.size=zs.length:=by rw[<- alc,fq,ai9]
 refine tr hg h3 (by rw[ai9,fC]) fun j v x hv hx=>?_
 rw[<- ajd,fq] at hv
 rw[aiW] at hv hx
 cases hz:zs[j]? with
 | none=>rw[hz] at hv;cases hv
 | some z =>
  rw[hz] at hv hx
  simp only[aiV,aiG] at hv hx
  subst hv hx
  exact⟨.int _ _,fun n hn=>by injection hn with h1 h2;exact hk h1⟩
theorem Uh{P:Program}{W:World}{name nm:String}{l:List (String × DataW Unit)}{d:DataW Unit}{g:Nat}{t te:TypeId}{ms:Array (String × TypeId)}(h:laidMetH P l W)(hm:(name,.iface nm d)∈l)
  (hd:(DataW.iface nm d).handleName?.isNone=true) (hg:P.globalNamed name=some g) (Jl:(P.globals[g]?).map (·.type)=some t) (ht:P.underlying t=some (.interface ms)) (br:∀ u,P.typeName? 3 u=some nm->u=te)
  (fh:∀ v,Value.okWide P W .any 0 te v->v.oneCell'=true):pK W g [.iface te .any]:=by
 obtain⟨g',t',cs,fuel,p,h1,h2,h3,h4,pn⟩:=yD h hm hd
 obtain rfl:=ajI (hg.symm.trans h1)
 obtain rfl:=ajI (Jl.symm.trans h2)
 cases fuel with
 | zero=>simp[DataW.trod] at h4
 | succ fuel =>
  unfold DataW.trod at h4
  rw[ht] at h4
  split at h4<;>try (rename_i hh _;cases hh;done)
  all_goals first|(simp_all;done)|skip
  rename_i u v fq hh
  split at h4
  ·cases h4
  ·rename_i nm' hn
   simp only[aiE,aiH,DataW.iface.injEq] at h4
   obtain⟨⟨d',p'⟩,h5,⟨rfl,rfl⟩,_⟩:=h4
   have hu:=br u hn
   subst hu
   have LG:cs=#[.iface u v]:=by
    cases cs;simp_all
   subst LG
   refine tr hg h3 rfl fun j v' x hv hx=>?_
   cases j with
   | zero =>
    simp only[ai3,ai4,aiG] at hv hx
    subst hv hx
    exact⟨.iface _ _ _ (.any _ (fh _ (pn 0 _ _ (by simp) (by rw[World.var?_cell hg h3 0];rfl)))),fun n hn=>by cases hn⟩
   | succ j=>simp at hx
  ·cases h4
theorem G8{P:Program}{W:World}{name:String}{l:List (String × DataW Unit)}{ss:List (List UInt8)}{g:Nat}{t e:TypeId}(h:laidMetH P l W)(hm:(name,.slice (ss.map fun s=>.lit (.string s)) [])∈l)
  (hg:P.globalNamed name=some g) (Jl:(P.globals[g]?).map (·.type)=some t) (ht:P.underlying t=some (.slice e)) (he:P.underlying e=some .string) (Zu:P.cellsOf e=1) (cU:0<ss.length):pK W g [.slice (strs ss) false]:=by
 obtain⟨g',t',cs,fuel,p,h1,h2,h3,h4⟩:=rK h hm rfl
 obtain rfl:=ajI (hg.symm.trans h1)
 obtain rfl:=ajI (Jl.symm.trans h2)
 obtain⟨a,cap,fq,hlc,Ws⟩:=open_row ht Zu h4
 rw[ai9] at fq hlc
 have LG:cs=#[.slice (some a) ss.length cap]:=by cases cs;simp_all
 subst LG
 refine tr hg h3 rfl fun j v x hv hx=>?_
 cases j with
 | succ j=>simp at hx
 | zero =>
  simp only[ai3,ai4,aiG] at hv hx
  subst hv hx
  have iR:∀ i,∀ s,ss[i]?=some s->∃ b:ByteArray,b.data.toList=s/\W.cell? (a.add i)=some (.string b):=by
   intro i s hs
   obtain⟨v,n,q,k1,k2⟩:=Ws i (.lit (.string s)) (by rw[aiW,hs];rfl)
   obtain⟨b,k3,k4,_⟩:=DataW.trod_string he k2
   simp only[aiH,DataW.lit.injEq,Lit.string.injEq,akA,aj4] at k3 k4
   subst k3
   exact⟨b,k4.1.symm,k1⟩
  obtain⟨b,o,sb⟩:=a
  have hsb:sb=none:=by
   obtain⟨s0,_,k2⟩:=iR 0 ss[0] (aiJ cU)
   have e0:(Addr.mk b o sb).add 0=⟨b,o,sb⟩:=by simp[Addr.add]
   rw[e0] at k2
   cases sb with
   | none=>rfl
   | some z =>
    unfold World.cell? at k2
    split at k2
    ·simp at k2
    ·cases k2
  subst hsb
  have sP:∀ (i:Nat) (r:List AV),(strs ss)[i]?=some r->∃ s,ss[i]?=some s/\r=[.str s]:=by
   intro i r hr
   rw[strs,aiW] at hr
   cases hk:ss[i]? with
   | none=>rw[hk] at hr;cases hr
   | some s=>rw[hk] at hr;injection hr with hr;exact⟨s,rfl,hr.symm⟩
  have iT:∀ i s,ss[i]?=some s->∃ B:ByteArray,W.cell? ⟨b,o+i*1+0,none⟩=some (.string B)/\B.data.toList=s:=by
   intro i s hs
   obtain⟨B,k1,k2⟩:=iR i s hs
   have LA:(Addr.mk b o none).add i=⟨b,o+i*1+0,none⟩:=by
    unfold Addr.add
    split
    ·rename_i h0;subst h0;simp
    ·simp
   rw[LA] at k2
   exact⟨B,k2,k1⟩
  refine⟨.slice b o _ cap 1 _ (fun i j=>(W.cell? ⟨b,o+i*1+0,none⟩).getD .nilIface) (by rw[strs,ai9]) hlc ?_ ?_ ?_,fun n hn=>by cases hn⟩
  ·intro i r hr
   obtain⟨s,_,rfl⟩:=sP i r hr
   rfl
  ·intro i j r x hr hx
   obtain⟨s,hs,rfl⟩:=sP i r hr
   cases j with
   | succ j=>simp at hx
   | zero =>
    obtain⟨B,k1,_⟩:=iT i s hs
    rw[k1]
    exact⟨.inl ⟨_,k1,rfl,fun n hn=>by cases hn⟩,rfl,rfl⟩
  ·intro i j r x hr hx
   obtain⟨s,hs,rfl⟩:=sP i r hr
   cases j with
   | succ j=>simp at hx
   | zero =>
    obtain⟨B,k1,k2⟩:=iT i s hs
    rw[k1]
    simp only[ai4,aiG] at hx
    subst hx
    exact .str _ _ k2
def rowOf(q:Lit × DataW Unit):List AV :=
 match q with
 | (.string k,.agg [.lit (.int .i64 a),.lit (.int .i64 b)])=>[.str k,.int .i64 a,.int .i64 b]
 | _=>[]
theorem Pw{P:Program}{W:World}{name:String}{l:List (String × DataW Unit)}{L:List (Lit × DataW Unit)}{g:Nat}{t k e:TypeId}{f0 f1:Field}(h:laidMetH P l W)(hm:(name,.map L)∈l)
  (hg:P.globalNamed name=some g) (Jl:(P.globals[g]?).map (·.type)=some t) (ht:P.underlying t=some (.map k e)) (hk:P.underlying k=some .string) (he:P.underlying e=some (.struct #[f0,f1]))
  (Zu:P.cellsOf e=2) (hf0:P.underlying f0.type=some (.int .i64)) (hf1:P.underlying f1.type=some (.int .i64)) (UN:P.cellsOf f0.type=1) (hc1:P.cellsOf f1.type=1) (ho0:f0.offset=0) (WH:f1.offset=1)
  (hL:∀ q∈L,∃ k a b,q=(.string k,.agg [.lit (.int .i64 a),.lit (.int .i64 b)])):pK W g [.mc 1 false true (L.map rowOf)]:=by
 obtain⟨g',t',cs,fuel,p,h1,h2,h3,h4⟩:=rK h hm rfl
 obtain rfl:=ajI (hg.symm.trans h1)
 obtain rfl:=ajI (Jl.symm.trans h2)
 rcases WideElems.open_map ht h4 with ⟨_,hx⟩|⟨b,es,ck,n,rfl,fq,hb,_,F,hx⟩
 ·simp at hx
 have LG:cs=#[.map (some b)]:=by cases cs;simp_all
 subst LG
 injection hx with hx hp
 injection hx with hx
 have yu:(es.toList.map (WideElems.rg P k (WideElems.elemAt (fun _=>()) P W 0 (fun _=>true) false n e))).Perm L:=by rw[hx];exact (WideShapes.sorted_perm _).symm
 have each:∀ x∈es.toList,∃ (s:ByteArray) (a c:Int),x.key=.string s/\x.val=.agg #[.int .i64 a,.int .i64 c]/\rowOf (WideElems.rg P k (WideElems.elemAt (fun _=>()) P W 0 (fun _=>true) false n e) x)=[.str s.data.toList,.int .i64 a,.int .i64 c]:=by
  intro x ZG
  obtain⟨k0,a,c,hq⟩:=hL _ (yu.mem_iff.1 (List.mem_map_of_mem ZG))
  obtain⟨y,hy⟩:=F.reads x ZG
  rw[WideElems.rg_of hy] at hq ⊢
  subst hq
  have PO:=WideElems.rd_key hy
  obtain⟨z,hz,hz2⟩:=WideElems.rd_val hy
  unfold WideElems.elemAt at hz
  split at hz
  ·rename_i HF
   obtain⟨y0,y1,m,rfl,hl,g0,g1⟩:=ChangeShapes.trod_struct2 he hz
   rw[UN,ho0] at g0
   rw[hc1,WH] at g1
   have fZ:∃ c0 c1,x.val=.agg #[c0,c1]:=by
    unfold Value.formed at HF
    rw[he] at HF
    cases hv:x.val<;>rw[hv] at HF hl<;>simp_all
    rename_i cs
    obtain⟨cl⟩:=cs
    match cl,HF with
    | [c0,c1],_=>exact⟨c0,c1,rfl⟩
   obtain⟨c0,c1,fZ⟩:=fZ
   rw[fZ] at g0 g1
   simp only[Value.cells,ajW,ajP,ajJ,ako] at g0 g1
   obtain⟨a',e1,e2,_⟩:=DataW.trod_int hf0 g0
   obtain⟨c',e3,e4,_⟩:=DataW.trod_int hf1 g1
   simp only[akA,aj4] at e1 e3
   subst e1 e3 e2 e4
   simp only[DataW.agg.injEq,akA,aj4,DataW.lit.injEq,Lit.int.injEq,ald] at hz2
   obtain⟨rfl,rfl⟩:=hz2
   have adX:∃ s:ByteArray,x.key=.string s/\s.data.toList=k0:=by
    cases PS:x.key<;>simp[keyOf,hk,mapKey,PS] at PO
    exact⟨_,rfl,PO.2⟩
   obtain⟨s,k1,rfl⟩:=adX
   exact⟨s,_,_,k1,fZ,rfl⟩
  ·cases hz
 refine tr hg h3 rfl fun j v x hv mF=>?_
 cases j with
 | succ j=>simp at mF
 | zero =>
  simp only[ai3,ai4,aiG] at hv mF
  subst hv mF
  refine⟨.mc b 1 false true _ ((es.toList.map (WideElems.rg P k (WideElems.elemAt (fun _=>()) P W 0 (fun _=>true) false n e))).map rowOf) es ck
   (fun i j=>match es[i]? with|some x=>(match j with|0=>x.key|j+1=>(x.val.cells[j]?).getD .nilIface)|none=>.nilIface) (.inr ⟨_,_,hb⟩) hb ⟨by simp,?_,?_,?_⟩ (yu.map rowOf) ?_,fun n hn=>by cases hn⟩
  ·intro i x rD
   exact ((stamped_iff es ck).1 F.stamped).1 x (by have:=akE rD;simpa using this)
  ·intro i j x y rD hy1 HO
   have HJ:=((stamped_iff es ck).1 F.stamped).2.1
   have hi:i<(es.toList.map (·.born)).length:=by
    have:=(aiN.1 rD).1
    simpa using this
   refine (List.getElem?_inj hi HJ).1 ?_
   rw[aiW,aiW,ajd,ajd,rD,hy1]
   simp only[aiV,HO]
  ·intro i x r rD hr
   have ZG:x∈es.toList:=by
    have:=akE rD
    simpa using this
   obtain⟨s,a,c,k1,k2,k3⟩:=each x ZG
   rw[ake,aiW,ajd,rD] at hr
   simp only[aiV,Function.comp_apply,aiG] at hr
   rw[k3] at hr
   subst hr
   refine⟨by simp,fun _=>rfl,fun h=>(by cases h),?_,?_⟩
   ·simp[oc,rD]
   ·simp[oc,rD,k2,Value.cells,List.range_succ]
  ·intro i j r x hr rD
   rw[ake,aiW,ajd] at hr
   cases hx2:es[i]? with
   | none=>rw[hx2] at hr;cases hr
   | some y =>
    rw[hx2] at hr
    have ZG:y∈es.toList:=by
     have:=akE hx2
     simpa using this
    obtain⟨s,a,c,k1,k2,k3⟩:=each y ZG
    simp only[aiV,Function.comp_apply,aiG] at hr
    rw[k3] at hr
    subst hr
    match j with
    | 0=>simp only[ai4,aiG] at rD;subst rD;simp only[k1];exact .str _ _ rfl
    | 1=>simp only[ai4,ajH,aiG] at rD;subst rD;simp only[k2,Value.cells];exact .int _ _
    | 2=>simp only[ai4,ajH,aiG] at rD;subst rD;simp only[k2,Value.cells];exact .int _ _
    | j+3=>simp at rD
end
end Go.Abs
namespace Go.Proofs.YtocbgffdpfiidaaGreatDoor
open Go Go.Abs Go.Proofs Go.RowKit
def mn:List (String × DataW Unit):=Rows.printNamesRow.laid
theorem Jt{W:World}(h:laidMetH Tryz.prog mn W):pK W 0 (H7 0):=by
 obtain⟨g,t,cs,fuel,p,hg,ht,hv,hd⟩:=h.funcs (n:= "splicery/lex.kinds") (d:=.agg [.agg [.iface "func" (.lit (.string [115,112,108,105,99,101,114,121,47,108,101,120,46,108,101,116,116,101,114])),.iface "func" (.lit (.string [115,112,108,105,99,101,114,121,47,108,101,120,46,101,105,116,104,101,114]))],.agg [.iface "func" (.lit (.string [115,112,108,105,99,101,114,121,47,108,101,120,46,100,105,103,105,116])),.iface "func" (.lit (.string [115,112,108,105,99,101,114,121,47,108,101,120,46,100,105,103,105,116]))]]) (by simp[mn,Rows.printNamesRow,Rows.laid_splicery_lex_kinds])
 have F6:Tryz.prog.globalNamed "splicery/lex.kinds"=some 0:=by kernel_rfl
 have ht0:(Tryz.prog.globals[0]?).map (·.type)=some 129:=by kernel_rfl
 obtain rfl:=ajI (F6.symm.trans hg)
 obtain rfl:=ajI (ht0.symm.trans ht)
 have u97:Tryz.prog.underlying 129=some (.array 2 128):=by kernel_rfl
 have u96:Tryz.prog.underlying 128=some (.array 2 127):=by kernel_rfl
 have c96:Tryz.prog.cellsOf 128=2:=by kernel_rfl
 have c97:Tryz.prog.cellsOf 129=4:=by kernel_rfl
 have c91:Tryz.prog.cellsOf 127=1:=by kernel_rfl
 obtain⟨xs,m,rfl,hx,hlen,hn,Ws⟩:=DataW.trod_array u97 hd
 injection hx with hx hp
 rw[c97] at hlen
 obtain⟨l⟩:=cs
 simp only at hlen Ws hv
 match l,hlen with
 | [v0,v1,v2,v3],_ =>
 match xs,hn with
 | [x0,x1],_ =>
 have e0:=Ws 0 (by omega)
 have e1:=Ws 1 (by omega)
 simp only[c96,alj,ajW,ajP,ajJ,ai4,ajH,alo,ako] at e0 e1
 simp only[DataW.funcsOut,DataW.funcsOutAll,aiU,aiX,DataW.agg.injEq,akA,aj4,beq_self_eq_true,ajY] at hx
 obtain⟨vL,rD⟩:=hx
 obtain⟨ys,k,rfl,hy,_,hyn,abh⟩:=DataW.trod_array u96 e0
 obtain⟨zs,k',pH,hz,_,hzn,abj⟩:=DataW.trod_array u96 e1
 rw[hy] at vL
 rw[hz] at rD
 match ys,hyn with
 | [y0,y1],_ =>
 match zs,hzn with
 | [z0,z1],_ =>
 have f0:=abh 0 (by omega)
 have f1:=abh 1 (by omega)
 have g0:=abj 0 (by omega)
 have g1:=abj 1 (by omega)
 simp only[c91,alj,ajW,ajP,ajJ,ai4,ajH,alo,ako] at f0 f1 g0 g1
 simp only[aiU,aiX,DataW.agg.injEq,akA,aj4] at vL rD
 obtain⟨a0,q0⟩:=y0
 obtain⟨a1,q1⟩:=y1
 obtain⟨b0,r0⟩:=z0
 obtain⟨b1,r1⟩:=z1
 simp only at vL rD
 obtain⟨rfl,rfl⟩:=vL
 obtain⟨rfl,rfl⟩:=rD
 obtain rfl:=func_of_trod (f0:=100) (show Tryz.prog.underlying 127=some (.func #[5] #[4] false) by kernel_rfl) (by kernel_rfl) f0
 obtain rfl:=func_of_trod (f0:=187) (show Tryz.prog.underlying 127=some (.func #[5] #[4] false) by kernel_rfl) (by kernel_rfl) f1
 obtain rfl:=func_of_trod (f0:=188) (show Tryz.prog.underlying 127=some (.func #[5] #[4] false) by kernel_rfl) (by kernel_rfl) g0
 obtain rfl:=func_of_trod (f0:=188) (show Tryz.prog.underlying 127=some (.func #[5] #[4] false) by kernel_rfl) (by kernel_rfl) g1
 refine tr F6 hv rfl fun j v x hj hx=>?_
 match j with
 | 0=>simp only[ai3,ai4,aiG,H7] at hj hx;subst hj hx;exact⟨.func _,fun n h=>by cases h⟩
 | 1=>simp only[ai3,ai4,ajH,aiG,H7] at hj hx;subst hj hx;exact⟨.func _,fun n h=>by cases h⟩
 | 2=>simp only[ai3,ai4,ajH,aiG,H7] at hj hx;subst hj hx;exact⟨.func _,fun n h=>by cases h⟩
 | 3=>simp only[ai3,ai4,ajH,aiG,H7] at hj hx;subst hj hx;exact⟨.func _,fun n h=>by cases h⟩
 | k+4=>simp at hj
theorem BV{W:World}(h:laidMetH Tryz.prog mn W){name:String}{d:DataW Unit}{g:Nat}(hm:(name,.iface "*errors.errorString" (.ptr d))∈mn)(hg:Tryz.prog.globalNamed name=some g)
  (Jl:(Tryz.prog.globals[g]?).map (·.type)=some 94):pK W g [.iface y6 .any]:=by
 refine Uh (nm:= "*errors.errorString") h hm (by rfl) hg Jl (show Tryz.prog.underlying 94=some (.interface #[("Error",56)]) by kernel_rfl) (fun u hu=>typeName_ptr_named (nm:= "errors.errorString") (tp:=210) (by kernel_rfl) (by kernel_rfl) (by decide) u hu) ?_
 intro v hv
 simp only[Value.okWide,show Tryz.prog.underlying y6=some (.pointer 212) by kernel_rfl,Cell.okWide,Cell.ok] at hv
 cases v<;>simp_all [Value.oneCell']
def opsL:List (Lit × DataW Unit):=[(.string [37],.agg [.lit (.int .i64 4),.lit (.int .i64 6)]),(.string [42],.agg [.lit (.int .i64 2),.lit (.int .i64 6)]),(.string [43],.agg [.lit (.int .i64 0),.lit (.int .i64 5)]),(.string [45],.agg [.lit (.int .i64 1),.lit (.int .i64 5)]),(.string [47],.agg [.lit (.int .i64 3),.lit (.int .i64 6)]),(.string [60],.agg [.lit (.int .i64 5),.lit (.int .i64 3)]),(.string [61,61],.agg [.lit (.int .i64 6),.lit (.int .i64 3)]),(.string [97,110,100],.agg [.lit (.int .i64 7),.lit (.int .i64 2)]),(.string [106,111,105,110],.agg [.lit (.int .i64 10),.lit (.int .i64 4)]),(.string [111,114],.agg [.lit (.int .i64 8),.lit (.int .i64 1)])]
theorem Ui{W:World}(h:laidMetH Tryz.prog mn W):∀ g,A.aP g≠[]->pK W g (A.aP g):=by
 intro g hg
 match g with
 | 0=>exact Jt h
 | 1=>exact DC (ss:=jj) (name:= "splicery/lex.signs") h (aiT (i:=5) rfl) (g:=1) (n:=18) (t:=130) (e:=9) (by kernel_rfl) (by kernel_rfl) (by kernel_rfl) (by kernel_rfl) (by kernel_rfl) (by kernel_rfl)
 | 2=>exact G8 (ss:=qy) (name:= "splicery/syntax.kinds") h (aiT (i:=9) rfl) (g:=2) (t:=23) (e:=9) (by kernel_rfl) (by kernel_rfl) (by kernel_rfl) (by kernel_rfl) (by kernel_rfl) (by decide)
 | 3=>exact DC (ss:=dP) (name:= "splicery/lex.keywords") h (aiT (i:=7) rfl) (g:=3) (n:=27) (t:=159) (e:=9) (by kernel_rfl) (by kernel_rfl) (by kernel_rfl) (by kernel_rfl) (by kernel_rfl) (by kernel_rfl)
 | 4=>exact Pw (L:=opsL) (name:= "splicery/syntax.operators") h (aiT (i:=8) rfl) (g:=4) (t:=171) (k:=9) (e:=169) (f0:=⟨ "op",3,0,false,"","splicery/syntax",0⟩) (f1:=⟨ "level",3,1,false,"","splicery/syntax",8⟩) (by kernel_rfl) (by kernel_rfl) (by kernel_rfl) (by kernel_rfl) (by kernel_rfl) (by kernel_rfl) (by kernel_rfl) (by kernel_rfl) (by kernel_rfl) (by kernel_rfl) (by rfl) (by rfl) (by intro q hq;simp only[opsL,aja,aks,alq] at hq;rcases hq with h|h|h|h|h|h|h|h|h|h<;>exact⟨_,_,_,h⟩)
 | 5=>exact absurd rfl hg
 | 6=>exact Px (k:=.u64) (zs:=Lib.pow10Tab) (name:= "internal/strconv.uint64pow10") (fun h=>by cases h) h (aiT (i:=2) rfl) (g:=6) (n:=20) (t:=194) (e:=181) (by kernel_rfl) (by kernel_rfl) (by kernel_rfl) (by kernel_rfl) (by kernel_rfl) (by kernel_rfl)
 | 7=>exact BV h (name:= "strconv.ErrSyntax") (d:=.agg [.lit (.string [105,110,118,97,108,105,100,32,115,121,110,116,97,120])]) (aiT (i:=4) rfl) (by kernel_rfl) (by kernel_rfl)
 | 8=>exact BV h (name:= "strconv.ErrRange") (d:=.agg [.lit (.string [118,97,108,117,101,32,111,117,116,32,111,102,32,114,97,110,103,101])]) (aiT (i:=3) rfl) (by kernel_rfl) (by kernel_rfl)
 | 9=>exact absurd rfl hg
 | 10=>exact absurd rfl hg
 | k+11=>exact absurd rfl hg
theorem afa{W:World}(h:laidMetH Tryz.prog mn W):aG A.aP W.heap.size [] (gy W) W:=J5 (Ui h)
end Go.Proofs.YtocbgffdpfiidaaGreatDoor
