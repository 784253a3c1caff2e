/-
  A part of the proof of ScopeFinds: AbsClose, AbsSeatV.
-/
import Derived.ProofKit
import Derived.LaidMore
import Derived.Carry
import Derived.ChangeMaps5
import Derived.OpenShut
import Derived.Lib.LaidTab
import Derived.Deep.Strs
import Derived.Test.YthbncinhhdogpaaGreatDoorCards
import Derived.Test.YthbncinhhdogpaaGreatDoorTie
import Derived.Test.YthbncinhhdogpaaGreatDoorP14
set_option linter.unusedSimpArgs false
set_option linter.unusedVariables false
set_option linter.defProp false
set_option maxRecDepth 100000
namespace Go.Abs
open Go Go.RowKit Go.ChangeShapes Go.WideShapes Go.ChangeMaps Go.MapKept
section
theorem ah7{n:Int}(h:(Lit.int .i64 n).wf=true):pS n:=by
 have h1:IntKind.i64.min=-9223372036854775808:=rfl
 have h2:IntKind.i64.max=9223372036854775807:=rfl
 simp only[Lit.wf,Bool.and_eq_true,apS,h1,h2] at h
 exact h
def gC(W:World):Gh:={ S:=fun b o=>(∃ v,W.cell? ⟨b,o,none⟩=some v/\v.oneCell'=true/\∀ n,v≠.int .u8 n)\/(∃ E ck,W.heap[b]?=some (.map E ck)),κ:=fun _=>.none,ρ:=fun _=>0 }
theorem UH{W:World}{b o:Nat}{v:Value}(h:W.cell? ⟨b,o,none⟩=some v):b<W.heap.size:=by
 rcases aqP b W.heap.size with h'|h'
 ·exact h'
 ·simp[World.cell?,aqV h'] at h
theorem ah9{G:Nat->List AV}{W:World}(hg:∀ (g j:Nat) (x:AV),(G g)[j]?=some x->∃ v,W.cell? ⟨g,j,none⟩=some v/\PR (gC W).S W v x/\∀ n,v≠.int .u8 n)
  (ht:∀ g,G g≠[]->∃ ty,pR W g ty (G g).length):aM G W.heap.size [] (gC W) W where
 size:=apz _
 nB:=fun b o h=>by
  rcases h with ⟨v,h,_⟩|⟨E,ck,h⟩
  ·exact UH h
  ·exact (apD.1 h).1
 oT:=fun b h=>absurd rfl h
 aO:=fun g j x h=>by
  obtain⟨v,h1,h2,h3⟩:=hg g j x h
  exact⟨v,h1,h2,.inl ⟨v,h1,h2.fg,h3⟩⟩
 boxes:=fun loc ty cs h=>by simp at h
 refs:=fun loc ty cs h=>by simp at h
 xg:=ht
 bytes:=fun b o n h hc=>by
  rcases h with ⟨v,h,_,h3⟩|⟨E,ck,h⟩
  ·rw[h] at hc
   injection hc with hc
   exact absurd hc (h3 n)
  ·simp only[World.cell?,h] at hc
   cases hc
 more:=fun loc o h=>by simp at h
 types:=fun loc ty cs h=>by simp at h
theorem Uy{gh:Gh}{n:Nat}{w:World}{p:bc}{v:Value}{b:Bool}(h:CR gh n w p v (.bool b)):v=.bool b:=by
 rcases h with h|⟨e,h,_⟩
 ·cases h with
  | plain v x h=>cases h;rfl
 ·cases h
theorem Xq{P:Program}{A:AP}(hA:nD P A){f:FuncId}{xs:List AV}(h:az A f xs []=some (.bool true,none)){W:World}(hW:aM A.aO W.heap.size [] (gC W) W)
  {vs:Array Value} (hs:vs.size=xs.length) (hv:∀ (j:Nat) (v:Value) (x:AV),vs[j]?=some v->xs[j]?=some x->PR (gC W).S W v x) :
  Calls P f vs W fun e W'=>e=.returned (.bool true)/\Below W.heap.size W W':=by
 obtain⟨n,hn⟩:=lZ.1 h
 obtain⟨_,_,hc⟩:=vB hA n f xs [] _ _ hn
 refine (hc W.heap.size (gC W) W vs hW (fun b=>.inl rfl) hs (fun j v x h1 h2=>.inl (.plain _ _ (hv j v x h1 h2)))).mono fun e W' ⟨v,aK,he,r⟩=>?_
 refine⟨by rw[he,Uy r.val],r.st.os,r.st.tape,r.st.output,r.st.size,fun k hk=>?_⟩
 obtain⟨h1,_,_⟩:=r.st.zS k hk (by
  intro ht
  simp only[gU,gC] at ht
  rcases ht with ⟨l,ht⟩|⟨l,j,ht⟩|⟨j,ht⟩<;>cases ht)
 rcases h1 with h1|⟨C,ty,lo,hi,lo',jr,k1,_,⟨o,m,⟨v',h2,_,h3⟩|⟨E,ck,h2⟩,hm⟩,_⟩
 ·exact h1
 rotate_left
 ·rw[k1] at h2;cases h2
 ·exfalso
  have:W.cell? ⟨k,o,none⟩=some (.int .u8 m):=by
   simp only[World.cell?,k1];exact hm
  rw[this] at h2
  injection h2 with h2
  exact h3 m h2.symm
theorem th{H:Type}{enc:TypeId × Value->H}{P:Program}(hl:laidOutB P=true){W W' : World}(hb:Below W.heap.size W W'){sp:Nat->Bool} :
  ∀ {ts:List TypeId} {vs:List Value} {ds:List (DataW H)} {ps:List MemPlace},(ts.all fun t=>P.readableRec t&&decide (t<P.types.size))=true->DataW.TrodAll enc P W 0 (fun _=>true) true ts vs ds ps ->
   (∀ x∈ps,x.block<W.heap.size)->(∀ p∈ps,sp p.block=true)->DataW.TrodAll enc P W' 0 sp true ts vs ds ps
 | [],[],[],_,_,h,_,_=>h
 | t :: ts,v :: vs,d :: ds,ps,ht,⟨p,q,h1,h2,e⟩,aU,hs=>by
  simp only[List.all_cons,Bool.and_eq_true] at ht
  exact⟨p,q,WideElems.Trod_stays hl ht.1.1 (of_decide_eq_true ht.1.2) h1 (fun x hx=>hb.same (aU x (by rw[e];exact aq4 _ hx))) (fun x hx=>hs x (by rw[e];exact aq4 _ hx)),
   th hl hb ht.2 h2 (fun x hx=>aU x (by rw[e];exact arC _ hx)) (fun x hx=>hs x (by rw[e];exact arC _ hx)),e⟩
theorem SZ{H:Type}{enc:TypeId × Value->H}{P:Program}(hl:laidOutB P=true){f:Func}{s:ChangeSpec}{W W' : World}{args:Array Value}{ds gs:List (DataW H)}{before:List MemPlace}{tb:TypeId}
  (hW:DataW.Whole enc P f.params.toList s.vars false W args.toList ds gs before) (hb:Below W.heap.size W W') (hv:s.vars=[])
  (hts:(f.params.toList.all fun t=>P.readableRec t&&decide (t<P.types.size))=true) (hr:f.resultTypes=#[tb]) (ht:P.underlying tb=some .bool)
  (rG:(s.fn H (ds++gs)).results=[.lit (.bool true)]) (dF:(s.fn H (ds++gs)).args=ds) (agV:(s.fn H (ds++gs)).vars=[]) :
  s.post enc P f false true false false W args (.bool true) W':=by
 have lk:=hW
 obtain⟨p,q,hA,hV,he,hfz,od⟩:=hW
 rw[hv] at hV
 obtain⟨rfl,rfl⟩:=trodVars_none hV
 have aU:∀ x∈before,x.block<W.heap.size:=fun x hx=>by simpa using lk.lt x hx
 subst he
 refine⟨ds,[],p++[],[],p,[],lk,?_,?_,?_,World.keptBut_mono (fun x hx=>hx.elim) (hb.frame fun _=>False),fun h=>by cases h⟩
 ·rw[rG,hr]
  exact trodAll_mk1 (shut_bool ht true)
 ·rw[dF]
  exact th hl hb hts hA (fun x hx=>aU x (aq4 _ hx)) (fun x hx=>by simpa using aU x (aq4 _ hx))
 ·rw[agV,hv];rfl
section
variable {H:Type}{enc:TypeId × Value->H}{P:Program}{W:World}{sp:Nat->Bool}{hd:Bool}{b0:Nat}{t e:TypeId}{v:Value}{d:DataW H}{p:List MemPlace}
theorem UF(ht:P.underlying t=some (.int .i64))(gy:Value.okWide P W .any b0 t v)(h:DataW.Trod enc P W 0 sp hd t v d p) :
  ∃ n:Int,d=.lit (.int .i64 n)/\pS n/\PR (gC W).S W v (.int .i64 n):=by
 obtain⟨n,rfl,rfl,rfl,hw⟩:=open_int ht gy h
 exact⟨n,rfl,ah7 hw,.int _ _⟩
theorem Im(ht:P.underlying t=some .string)(gy:Value.okWide P W .any b0 t v)(h:DataW.Trod enc P W 0 sp hd t v d p) :
  ∃ l:List UInt8,d=.lit (.string l)/\PR (gC W).S W v (.str l):=by
 obtain⟨s,rfl,rfl,rfl,_⟩:=open_string ht gy h
 exact⟨_,rfl,.str _ _ rfl⟩
theorem zy(ht:P.underlying t=some (.slice e))(gy:Value.okWide P W .any b0 t v):v=.slice none 0 0\/∃ b o len cap,v=.slice (some ⟨b,o,none⟩) len cap/\len<=cap:=by
 simp only[Value.okWide,ht,Cell.okWide,Cell.ok] at gy
 split at gy
 case h_7=>exact .inl rfl
 case h_9 e' a len cap hh =>
  obtain⟨h1,_,_,h3,_⟩:=gy
  obtain⟨b,o,s⟩:=a
  simp only at h3
  subst h3
  exact .inr ⟨b,o,len,cap,rfl,h1⟩
 all_goals first|(simp_all;done)|exact gy.elim
theorem Fc(ht:P.underlying t=some (.slice e))(he:P.underlying e=some (.int .i64))(hc:P.cellsOf e=1)(gy:Value.okWide P W .any b0 t v)(h:DataW.Trod enc P W 0 sp hd t v d p) :
  ∃ (l:List Int) (rest:List (DataW H)),((d=.nil/\l=[])\/d=.slice (lits .i64 l) rest)/\(∀ n∈l,pS n)/\PR (gC W).S W v (.slice (ints l) false):=by
 obtain⟨fuel,hf⟩:=h
 rcases open_ints ht he hc hf with ⟨fF,hx⟩|⟨a,len,cap,zs,fF,_,hlc,_,VP,hx,cP,hwf⟩
 ·injection hx with M1 hp
  rcases zy ht gy with rfl|⟨b,o,len,cap,rfl,_⟩
  ·exact⟨[],[],.inl ⟨M1,rfl⟩,fun _ h=>(aqA h).elim,.cW⟩
  ·simp[Value.cells] at fF
 ·injection hx with M1 hp
  rcases zy ht gy with rfl|⟨b,o,Nv,uh,rfl,_⟩
  ·simp[Value.cells] at fF
  ·simp only[Value.cells,aqT,Value.slice.injEq,apv,aqU] at fF
   obtain⟨rfl,rfl,rfl⟩:=fF
   have al9:Nv<=zs.length:=by rw[VP];split<;>omega
   have hI:∀ n∈zs,pS n:=fun n hn=>ah7 (hwf n hn)
   have fQ:∀ (i:Nat) (r:List AV),(ints (zs.take Nv))[i]?=some r->i<Nv/\r=[.int .i64 (zs.getD i 0)]:=by
    intro i r hr
    rw[QB,apR] at hr
    split at hr
    ·rename_i hi
     have hi2:i<zs.length:=by omega
     rw[apy hi2] at hr
     simp only[Option.map_some,apv] at hr
     exact⟨hi,by rw[<- hr,apX,apy hi2];rfl⟩
    ·simp at hr
   refine⟨zs.take Nv,lits .i64 (zs.drop Nv),.inr M1,fun n hn=>hI n (arI hn),.slice b o Nv uh 1 _ (fun i j=>.int .i64 (zs.getD i 0)) ?_ hlc ?_ ?_ ?_⟩
   ·rw[ma,ard];omega
   ·intro i r hr
    rw[(fQ i r hr).2];rfl
   ·intro i j r x hr hx
    obtain⟨hi,rfl⟩:=fQ i r hr
    have hj:j=0:=by
     cases j with
     | zero=>rfl
     | succ j=>simp at hx
    subst hj
    have tY:=cP i (by omega)
    have aa6:(Addr.mk b o none).add i=⟨b,o+i*1+0,none⟩:=by
     unfold Addr.add
     split
     ·rename_i h0;subst h0;simp
     ·simp
    have w8:W.cell? ⟨b,o+i*1+0,none⟩=some (.int .i64 (zs.getD i 0)):=by rw[<- aa6];exact tY
    exact⟨.inl ⟨_,w8,rfl,fun n hn=>by cases hn⟩,w8,rfl⟩
   ·intro i j r x hr hx
    obtain⟨hi,rfl⟩:=fQ i r hr
    cases j with
    | zero =>
     simp only[apH,apv] at hx
     subst hx
     exact .int _ _
    | succ j=>simp at hx
end
def xB(W:World)(g:Nat)(xs:List AV):Prop :=
 (∃ ty,pR W g ty xs.length)/\∀ (j:Nat) (x:AV),xs[j]?=some x->∃ v,W.cell? ⟨g,j,none⟩=some v/\PR (gC W).S W v x/\∀ n,v≠.int .u8 n
theorem Ob{G:Nat->List AV}{W:World}(h:∀ g,G g≠[]->xB W g (G g)):aM G W.heap.size [] (gC W) W:=by
 refine ah9 (fun g j x hx=>?_) (fun g hg=>(h g hg).1)
 exact (h g (fun h=>by rw[h] at hx;simp at hx)).2 j x hx
theorem DQ{P:Program}{W:World}{name:String}{g:Nat}{cs:Array Value}{xs:List AV}(hg:P.globalNamed name=some g)(hv:W.var? P name=some cs)(hl:cs.size=xs.length)
  (h:∀ (j:Nat) (v:Value) (x:AV),cs[j]?=some v->xs[j]?=some x->PR (gC W).S W v x/\∀ n,v≠.int .u8 n):xB W g xs:=by
 have hv0:=hv
 simp only[World.var?,hg,apB] at hv
 refine⟨?_,fun j x hx=>?_⟩
 ·split at hv
  ·rename_i C ty fr hC
   injection hv with hv
   exact⟨ty,C,fr,hC,by rw[hv,hl]⟩
  ·cases hv
 ·have aU:j<cs.size:=by rw[hl];exact (apw.1 hx).1
  exact⟨cs[j],by rw[World.var?_cell hg hv0 j,apJ aU],h j _ x (apJ aU) hx⟩
theorem uT{P:Program}{W:World}{n:String}{d:DataW Unit} : ∀ {l:List (String × DataW Unit)} {ps:List MemPlace},DataW.LaidVars P W l ps->(n,d)∈l ->
  ∃ g t cs fuel p,P.globalNamed n=some g/\(P.globals[g]?).map (·.type)=some t/\W.var? P n=some cs/\DataW.trod (fun _=>()) P W 0 (fun _=>true) false fuel t cs.toList=some (d,p)/\∀ x∈MemPlace.row ⟨g,0,none⟩ cs.size,x∈ps
 | [],_,_,hm=>(aqA hm).elim
 | (n',d') :: r,ps,⟨g,t,cs,fuel,p,q,h1,h2,h3,h4,hr,he⟩,hm=>by
  rcases apO.1 hm with hm|hm
  ·injection hm with e1 e2
   subst e1 e2
   exact⟨g,t,cs,fuel,p,h1,h2,h3,h4,fun x hx=>by rw[he];exact aq4 _ (aq4 _ hx)⟩
  ·obtain⟨g',t',Oi,afT,p',k1,k2,k3,k4,k5⟩:=uT hr hm
   exact⟨g',t',Oi,afT,p',k1,k2,k3,k4,fun x hx=>by rw[he];exact arC _ (k5 x hx)⟩
theorem Ns{P:Program}{W:World}{n:String}{d:DataW Unit}{l:List (String × DataW Unit)}(h:laidMetH P l W)(hm:(n,d)∈l)(hd:d.handleName?.isNone=true) :
  ∃ g t cs fuel p,P.globalNamed n=some g/\(P.globals[g]?).map (·.type)=some t/\W.var? P n=some cs/\DataW.trod (fun _=>()) P W 0 (fun _=>true) false fuel t cs.toList=some (d,p) /\
   ∀ j u v,j<cs.size->W.cell? ⟨g,j,none⟩=some (.iface u v)->Value.okWide P W .any 0 u v:=by
 have key:∀ l',laidMet P l' W->(n,d)∈l'->∃ g t cs fuel p,P.globalNamed n=some g/\(P.globals[g]?).map (·.type)=some t/\W.var? P n=some cs/\DataW.trod (fun _=>()) P W 0 (fun _=>true) false fuel t cs.toList=some (d,p) /\
   ∀ j u v,j<cs.size->W.cell? ⟨g,j,none⟩=some (.iface u v)->Value.okWide P W .any 0 u v:=by
  rintro l' ⟨ps,hv,_,pa⟩ ZM
  obtain⟨g,t,cs,fuel,p,h1,h2,h3,h4,h5⟩:=uT hv ZM
  exact⟨g,t,cs,fuel,p,h1,h2,h3,h4,fun j u v hj hc=>(pa g j (h5 _ (by simp only[MemPlace.row];simpa using hj))).2 u v hc⟩
 unfold laidMetH at h
 split at h
 ·exact key _ h hm
 ·exact key _ h.1 (aqx.2 ⟨hm,hd⟩)
theorem yW{P:Program}{W:World}{n:String}{d:DataW Unit}{l:List (String × DataW Unit)}(h:laidMetH P l W)(hm:(n,d)∈l)(hd:d.handleName?.isNone=true) :
  ∃ g t cs fuel p,P.globalNamed n=some g/\(P.globals[g]?).map (·.type)=some t/\W.var? P n=some cs/\DataW.trod (fun _=>()) P W 0 (fun _=>true) false fuel t cs.toList=some (d,p):=by
 obtain⟨g,t,cs,fuel,p,h1,h2,h3,h4,_⟩:=Ns h hm hd
 exact⟨g,t,cs,fuel,p,h1,h2,h3,h4⟩
theorem G8{cs:List Value}{i:Nat}{v:Value}(h:(cs.drop (i*1)).take 1=[v]):cs[i]?=some v:=by
 have:((cs.drop (i*1)).take 1)[0]?=some v:=by rw[h];rfl
 simpa [apR,ap'] using this
theorem HM{P:Program}{W:World}{name:String}{l:List (String × DataW Unit)}{ss:List (List UInt8)}{g n:Nat}{t e:TypeId}(h:laidMetH P l W)(hm:(name,.agg (ss.map fun s=>.lit (.string s)))∈l)
  (hg:P.globalNamed name=some g) (Qv:(P.globals[g]?).map (·.type)=some t) (ht:P.underlying t=some (.array n e)) (he:P.underlying e=some .string) (hce:P.cellsOf e=1) (hct:P.cellsOf t=n):xB W g (ss.map .str):=by
 obtain⟨g',t',cs,fuel,p,h1,h2,h3,h4⟩:=yW h hm rfl
 obtain rfl:=aqi (hg.symm.trans h1)
 obtain rfl:=aqi (Qv.symm.trans h2)
 obtain⟨xs,m,rfl,hx,hlen,hn,HV⟩:=DataW.trod_array ht h4
 injection hx with hx hp
 injection hx with hx
 have pP:ss.length=n:=by
  have:=ar0 List.length hx
  simpa [hn] using this
 refine DQ hg h3 (by rw[apQ,pP,<- hct,<- hlen];exact (asb).symm) fun j v x hv n8=>?_
 have hj:j<n:=by
  have:=(apw.1 n8).1
  simpa [pP] using this
 have hJ:=HV j hj
 rw[hce] at hJ
 rw[apy (show j<xs.length by omega)] at hJ
 obtain⟨s,h5,h6,_⟩:=DataW.trod_string he hJ
 have tZ:cs.toList[j]?=some v:=by rw[ap7];exact hv
 rw[G8 h5] at tZ
 injection tZ with tZ
 have h7:(ss.map fun s=>(DataW.lit (.string s):DataW Unit))[j]?=some (.lit (.string s.data.toList)):=by
  rw[hx,apG,apy (show j<xs.length by omega),h6];rfl
 rw[apG] at h7 n8
 cases hs:ss[j]? with
 | none=>rw[hs] at n8;cases n8
 | some b =>
  rw[hs] at h7 n8
  simp only[Option.map_some,apv,DataW.lit.injEq,Lit.string.injEq] at h7 n8
  subst n8 tZ
  exact⟨.str _ _ h7.symm,fun n hn=>by cases hn⟩
theorem Ku{P:Program}{W:World}{name:String}{l:List (String × DataW Unit)}{ss:List (List UInt8)}{g:Nat}{t e:TypeId}(h:laidMetH P l W)(hm:(name,.slice (ss.map fun s=>.lit (.string s)) [])∈l)
  (hg:P.globalNamed name=some g) (Qv:(P.globals[g]?).map (·.type)=some t) (ht:P.underlying t=some (.slice e)) (he:P.underlying e=some .string) (hce:P.cellsOf e=1) (bC:0<ss.length):xB W g [.slice (strs ss) false]:=by
 obtain⟨g',t',cs,fuel,p,h1,h2,h3,h4⟩:=yW h hm rfl
 obtain rfl:=aqi (hg.symm.trans h1)
 obtain rfl:=aqi (Qv.symm.trans h2)
 obtain⟨a,cap,fF,hlc,HV⟩:=open_row ht hce h4
 rw[apQ] at fF hlc
 have abc:cs=#[.slice (some a) ss.length cap]:=by cases cs;simp_all
 subst abc
 refine DQ hg h3 rfl fun j v x hv hx=>?_
 cases j with
 | succ j=>simp at hx
 | zero =>
  simp only[apW,apH,apv] at hv hx
  subst hv hx
  have pe:∀ i,∀ s,ss[i]?=some s->∃ b:ByteArray,b.data.toList=s/\W.cell? (a.add i)=some (.string b):=by
   intro i s hs
   obtain⟨v,n,q,k1,k2⟩:=HV i (.lit (.string s)) (by rw[apG,hs];rfl)
   obtain⟨b,k3,k4,_⟩:=DataW.trod_string he k2
   simp only[apx,DataW.lit.injEq,Lit.string.injEq,aqT,aqU] at k3 k4
   subst k3
   exact⟨b,k4.1.symm,k1⟩
  obtain⟨b,o,sb⟩:=a
  have hsb:sb=none:=by
   obtain⟨s0,_,k2⟩:=pe 0 ss[0] (apy bC)
   have e0:(Addr.mk b o sb).add 0=⟨b,o,sb⟩:=by simp[Addr.add]
   rw[e0] at k2
   cases sb with
   | none=>rfl
   | some z =>
    unfold World.cell? at k2
    split at k2
    ·simp at k2
    ·cases k2
  subst hsb
  have fQ:∀ (i:Nat) (r:List AV),(strs ss)[i]?=some r->∃ s,ss[i]?=some s/\r=[.str s]:=by
   intro i r hr
   rw[strs,apG] at hr
   cases hk:ss[i]? with
   | none=>rw[hk] at hr;cases hr
   | some s=>rw[hk] at hr;injection hr with hr;exact⟨s,rfl,hr.symm⟩
  have iw:∀ i s,ss[i]?=some s->∃ B:ByteArray,W.cell? ⟨b,o+i*1+0,none⟩=some (.string B)/\B.data.toList=s:=by
   intro i s hs
   obtain⟨B,k1,k2⟩:=pe i s hs
   have aa6:(Addr.mk b o none).add i=⟨b,o+i*1+0,none⟩:=by
    unfold Addr.add
    split
    ·rename_i h0;subst h0;simp
    ·simp
   rw[aa6] at k2
   exact⟨B,k2,k1⟩
  refine⟨.slice b o _ cap 1 _ (fun i j=>(W.cell? ⟨b,o+i*1+0,none⟩).getD .nilIface) (by rw[strs,apQ]) hlc ?_ ?_ ?_,fun n hn=>by cases hn⟩
  ·intro i r hr
   obtain⟨s,_,rfl⟩:=fQ i r hr
   rfl
  ·intro i j r x hr hx
   obtain⟨s,hs,rfl⟩:=fQ i r hr
   cases j with
   | succ j=>simp at hx
   | zero =>
    obtain⟨B,k1,_⟩:=iw i s hs
    rw[k1]
    exact⟨.inl ⟨_,k1,rfl,fun n hn=>by cases hn⟩,rfl,rfl⟩
  ·intro i j r x hr hx
   obtain⟨s,hs,rfl⟩:=fQ i r hr
   cases j with
   | succ j=>simp at hx
   | zero =>
    obtain⟨B,k1,k2⟩:=iw i s hs
    rw[k1]
    simp only[apH,apv] at hx
    subst hx
    exact .str _ _ k2
def rowOf(q:Lit × DataW Unit):List AV :=
 match q with
 | (.string k,.agg [.lit (.int .i64 a),.lit (.int .i64 b)])=>[.str k,.int .i64 a,.int .i64 b]
 | _=>[]
theorem Ub{P:Program}{W:World}{name:String}{l:List (String × DataW Unit)}{L:List (Lit × DataW Unit)}{g:Nat}{t k e:TypeId}{f0 f1:Field}(h:laidMetH P l W)(hm:(name,.map L)∈l)
  (hg:P.globalNamed name=some g) (Qv:(P.globals[g]?).map (·.type)=some t) (ht:P.underlying t=some (.map k e)) (hk:P.underlying k=some .string) (he:P.underlying e=some (.struct #[f0,f1]))
  (hce:P.cellsOf e=2) (hf0:P.underlying f0.type=some (.int .i64)) (hf1:P.underlying f1.type=some (.int .i64)) (hc0:P.cellsOf f0.type=1) (hc1:P.cellsOf f1.type=1) (zO:f0.offset=0) (qn:f1.offset=1)
  (hL:∀ q∈L,∃ k a b,q=(.string k,.agg [.lit (.int .i64 a),.lit (.int .i64 b)])):xB W g [.mX 1 false true (L.map rowOf)]:=by
 obtain⟨g',t',cs,fuel,p,h1,h2,h3,h4⟩:=yW h hm rfl
 obtain rfl:=aqi (hg.symm.trans h1)
 obtain rfl:=aqi (Qv.symm.trans h2)
 rcases WideElems.open_map ht h4 with ⟨_,hx⟩|⟨b,es,ck,n,rfl,fF,hb,_,F,hx⟩
 ·simp at hx
 have abc:cs=#[.map (some b)]:=by cases cs;simp_all
 subst abc
 injection hx with hx hp
 injection hx with hx
 have Bj:(es.toList.map (WideElems.rg P k (WideElems.elemAt (fun _=>()) P W 0 (fun _=>true) false n e))).Perm L:=by rw[hx];exact (WideShapes.sorted_perm _).symm
 have each:∀ x∈es.toList,∃ (s:ByteArray) (a c:Int),x.key=.string s/\x.val=.agg #[.int .i64 a,.int .i64 c]/\rowOf (WideElems.rg P k (WideElems.elemAt (fun _=>()) P W 0 (fun _=>true) false n e) x)=[.str s.data.toList,.int .i64 a,.int .i64 c]:=by
  intro x hxm
  obtain⟨k0,a,c,hq⟩:=hL _ (Bj.mem_iff.1 (List.mem_map_of_mem hxm))
  obtain⟨y,hy⟩:=F.reads x hxm
  rw[WideElems.rg_of hy] at hq ⊢
  subst hq
  have ZH:=WideElems.rd_key hy
  obtain⟨z,hz,hz2⟩:=WideElems.rd_val hy
  unfold WideElems.elemAt at hz
  split at hz
  ·rename_i K1
   obtain⟨y0,y1,m,rfl,hl,g0,g1⟩:=ChangeShapes.trod_struct2 he hz
   rw[hc0,zO] at g0
   rw[hc1,qn] at g1
   have gy:∃ c0 c1,x.val=.agg #[c0,c1]:=by
    unfold Value.formed at K1
    rw[he] at K1
    cases hv:x.val<;>rw[hv] at K1 hl<;>simp_all
    rename_i cs
    obtain⟨cl⟩:=cs
    match cl,K1 with
    | [c0,c1],_=>exact⟨c0,c1,rfl⟩
   obtain⟨c0,c1,gy⟩:=gy
   rw[gy] at g0 g1
   simp only[Value.cells,aqh,aqR,are,arb] at g0 g1
   obtain⟨a',e1,e2,_⟩:=DataW.trod_int hf0 g0
   obtain⟨c',e3,e4,_⟩:=DataW.trod_int hf1 g1
   simp only[aqT,aqU] at e1 e3
   subst e1 e3 e2 e4
   simp only[DataW.agg.injEq,aqT,aqU,DataW.lit.injEq,Lit.int.injEq,arP] at hz2
   obtain⟨rfl,rfl⟩:=hz2
   have aj7:∃ s:ByteArray,x.key=.string s/\s.data.toList=k0:=by
    cases Us:x.key<;>simp[keyOf,hk,mapKey,Us] at ZH
    exact⟨_,rfl,ZH.2⟩
   obtain⟨s,k1,rfl⟩:=aj7
   exact⟨s,_,_,k1,gy,rfl⟩
  ·cases hz
 refine DQ hg h3 rfl fun j v x hv n8=>?_
 cases j with
 | succ j=>simp at n8
 | zero =>
  simp only[apW,apH,apv] at hv n8
  subst hv n8
  refine⟨.mX b 1 false true _ ((es.toList.map (WideElems.rg P k (WideElems.elemAt (fun _=>()) P W 0 (fun _=>true) false n e))).map rowOf) es ck
   (fun i j=>match es[i]? with|some x=>(match j with|0=>x.key|j+1=>(x.val.cells[j]?).getD .nilIface)|none=>.nilIface) (.inr ⟨_,_,hb⟩) hb ⟨by simp,?_,?_,?_⟩ (Bj.map rowOf) ?_,fun n hn=>by cases hn⟩
  ·intro i x rI
   exact ((stamped_iff es ck).1 F.stamped).1 x (by have:=ary rI;simpa using this)
  ·intro i j x y rI hy1 K9
   have od:=((stamped_iff es ck).1 F.stamped).2.1
   have hi:i<(es.toList.map (·.born)).length:=by
    have:=(apD.1 rI).1
    simpa using this
   refine (List.getElem?_inj hi od).1 ?_
   rw[apG,apG,ap7,ap7,rI,hy1]
   simp only[Option.map_some,K9]
  ·intro i x r rI hr
   have hxm:x∈es.toList:=by
    have:=ary rI
    simpa using this
   obtain⟨s,a,c,k1,k2,k3⟩:=each x hxm
   rw[arB,apG,ap7,rI] at hr
   simp only[Option.map_some,Function.comp_apply,apv] at hr
   rw[k3] at hr
   subst hr
   refine⟨by simp,fun _=>rfl,fun h=>(by cases h),?_,?_⟩
   ·simp[qR,rI]
   ·simp[qR,rI,k2,Value.cells,List.range_succ]
  ·intro i j r x hr rI
   rw[arB,apG,ap7] at hr
   cases ZX:es[i]? with
   | none=>rw[ZX] at hr;cases hr
   | some y =>
    rw[ZX] at hr
    have hxm:y∈es.toList:=by
     have:=ary ZX
     simpa using this
    obtain⟨s,a,c,k1,k2,k3⟩:=each y hxm
    simp only[Option.map_some,Function.comp_apply,apv] at hr
    rw[k3] at hr
    subst hr
    match j with
    | 0=>simp only[apH,apv] at rI;subst rI;simp only[k1];exact .str _ _ rfl
    | 1=>simp only[apH,apT,apv] at rI;subst rI;simp only[k2,Value.cells];exact .int _ _
    | 2=>simp only[apH,apT,apv] at rI;subst rI;simp only[k2,Value.cells];exact .int _ _
    | j+3=>simp at rI
end
end Go.Abs
namespace Go.Proofs.YthbncinhhdogpaaGreatDoor
open Go Go.Abs Go.Proofs Go.RowKit
def sy:List (String × DataW Unit):=Rows.scopeFindsUptoRow.laid
theorem Nr{W:World}(h:laidMetH Tryz.prog sy W):xB W 3 (LI 3):=by
 obtain⟨g,t,cs,fuel,p,hg,ht,hv,hd⟩:=h.funcs (n:= "splicery/lex.kinds") (d:=.agg [.agg [.iface "func" (.lit (.string [115,112,108,105,99,101,114,121,47,108,101,120,46,108,101,116,116,101,114])),.iface "func" (.lit (.string [115,112,108,105,99,101,114,121,47,108,101,120,46,101,105,116,104,101,114]))],.agg [.iface "func" (.lit (.string [115,112,108,105,99,101,114,121,47,108,101,120,46,100,105,103,105,116])),.iface "func" (.lit (.string [115,112,108,105,99,101,114,121,47,108,101,120,46,100,105,103,105,116]))]]) (by simp[sy,Rows.scopeFindsUptoRow,Rows.laid_splicery_lex_kinds])
 have Jq:Tryz.prog.globalNamed "splicery/lex.kinds"=some 3:=by kernel_rfl
 have ht0:(Tryz.prog.globals[3]?).map (·.type)=some 201:=by kernel_rfl
 obtain rfl:=aqi (Jq.symm.trans hg)
 obtain rfl:=aqi (ht0.symm.trans ht)
 have u97:Tryz.prog.underlying 201=some (.array 2 200):=by kernel_rfl
 have u96:Tryz.prog.underlying 200=some (.array 2 193):=by kernel_rfl
 have c96:Tryz.prog.cellsOf 200=2:=by kernel_rfl
 have c97:Tryz.prog.cellsOf 201=4:=by kernel_rfl
 have c91:Tryz.prog.cellsOf 193=1:=by kernel_rfl
 obtain⟨xs,m,rfl,hx,hlen,hn,HV⟩:=DataW.trod_array u97 hd
 injection hx with hx hp
 rw[c97] at hlen
 obtain⟨l⟩:=cs
 simp only at hlen HV hv
 match l,hlen with
 | [v0,v1,v2,v3],_ =>
 match xs,hn with
 | [x0,x1],_ =>
 have e0:=HV 0 (by omega)
 have e1:=HV 1 (by omega)
 simp only[c96,ars,aqh,aqR,are,apH,apT,ark,arb] at e0 e1
 simp only[DataW.funcsOut,DataW.funcsOutAll,apZ,aqe,DataW.agg.injEq,aqT,aqU,arU,aqH] at hx
 obtain⟨rH,rI⟩:=hx
 obtain⟨ys,k,rfl,hy,_,Qx,agX⟩:=DataW.trod_array u96 e0
 obtain⟨zs,k',gm,hz,_,hzn,agZ⟩:=DataW.trod_array u96 e1
 rw[hy] at rH
 rw[hz] at rI
 match ys,Qx with
 | [y0,y1],_ =>
 match zs,hzn with
 | [z0,z1],_ =>
 have f0:=agX 0 (by omega)
 have f1:=agX 1 (by omega)
 have g0:=agZ 0 (by omega)
 have g1:=agZ 1 (by omega)
 simp only[c91,ars,aqh,aqR,are,apH,apT,ark,arb] at f0 f1 g0 g1
 simp only[apZ,aqe,DataW.agg.injEq,aqT,aqU] at rH rI
 obtain⟨a0,q0⟩:=y0
 obtain⟨a1,q1⟩:=y1
 obtain⟨b0,r0⟩:=z0
 obtain⟨b1,r1⟩:=z1
 simp only at rH rI
 obtain⟨rfl,rfl⟩:=rH
 obtain⟨rfl,rfl⟩:=rI
 obtain rfl:=func_of_trod (f0:=125) (show Tryz.prog.underlying 193=some (.func #[5] #[4] false) by kernel_rfl) (by kernel_rfl) f0
 obtain rfl:=func_of_trod (f0:=169) (show Tryz.prog.underlying 193=some (.func #[5] #[4] false) by kernel_rfl) (by kernel_rfl) f1
 obtain rfl:=func_of_trod (f0:=170) (show Tryz.prog.underlying 193=some (.func #[5] #[4] false) by kernel_rfl) (by kernel_rfl) g0
 obtain rfl:=func_of_trod (f0:=170) (show Tryz.prog.underlying 193=some (.func #[5] #[4] false) by kernel_rfl) (by kernel_rfl) g1
 refine DQ Jq hv rfl fun j v x hj hx=>?_
 match j with
 | 0=>simp only[apW,apH,apv,LI] at hj hx;subst hj hx;exact⟨.func _,fun n h=>by cases h⟩
 | 1=>simp only[apW,apH,apT,apv,LI] at hj hx;subst hj hx;exact⟨.func _,fun n h=>by cases h⟩
 | 2=>simp only[apW,apH,apT,apv,LI] at hj hx;subst hj hx;exact⟨.func _,fun n h=>by cases h⟩
 | 3=>simp only[apW,apH,apT,apv,LI] at hj hx;subst hj hx;exact⟨.func _,fun n h=>by cases h⟩
 | k+4=>simp at hj
def opsL:List (Lit × DataW Unit):=[(.string [37],.agg [.lit (.int .i64 4),.lit (.int .i64 6)]),(.string [42],.agg [.lit (.int .i64 2),.lit (.int .i64 6)]),(.string [43],.agg [.lit (.int .i64 0),.lit (.int .i64 5)]),(.string [45],.agg [.lit (.int .i64 1),.lit (.int .i64 5)]),(.string [47],.agg [.lit (.int .i64 3),.lit (.int .i64 6)]),(.string [60],.agg [.lit (.int .i64 5),.lit (.int .i64 3)]),(.string [61,61],.agg [.lit (.int .i64 6),.lit (.int .i64 3)]),(.string [97,110,100],.agg [.lit (.int .i64 7),.lit (.int .i64 2)]),(.string [106,111,105,110],.agg [.lit (.int .i64 10),.lit (.int .i64 4)]),(.string [111,114],.agg [.lit (.int .i64 8),.lit (.int .i64 1)])]
theorem Y9{W:World}(h:laidMetH Tryz.prog sy W):∀ g,A.aO g≠[]->xB W g (A.aO g):=by
 intro g hg
 match g with
 | 0=>exact Ku (ss:=SX) (name:= "splicery/syntax.kinds") h (apF (i:=7) rfl) (g:=0) (t:=29) (e:=9) (by kernel_rfl) (by kernel_rfl) (by kernel_rfl) (by kernel_rfl) (by kernel_rfl) (by decide)
 | 1=>exact absurd rfl hg
 | 2=>exact HM (ss:=Bp) (name:= "splicery/lex.keywords") h (apF (i:=5) rfl) (g:=2) (n:=27) (t:=195) (e:=9) (by kernel_rfl) (by kernel_rfl) (by kernel_rfl) (by kernel_rfl) (by kernel_rfl) (by kernel_rfl)
 | 3=>exact Nr h
 | 4=>exact HM (ss:=TU) (name:= "splicery/lex.signs") h (apF (i:=3) rfl) (g:=4) (n:=18) (t:=202) (e:=9) (by kernel_rfl) (by kernel_rfl) (by kernel_rfl) (by kernel_rfl) (by kernel_rfl) (by kernel_rfl)
 | 5=>exact Ub (L:=opsL) (name:= "splicery/syntax.operators") h (apF (i:=6) rfl) (g:=5) (t:=212) (k:=9) (e:=214) (f0:=⟨ "op",3,0,false,"","splicery/syntax",0⟩) (f1:=⟨ "level",3,1,false,"","splicery/syntax",8⟩) (by kernel_rfl) (by kernel_rfl) (by kernel_rfl) (by kernel_rfl) (by kernel_rfl) (by kernel_rfl) (by kernel_rfl) (by kernel_rfl) (by kernel_rfl) (by kernel_rfl) (by rfl) (by rfl) (by intro q hq;simp only[opsL,apO,aqA,art] at hq;rcases hq with h|h|h|h|h|h|h|h|h|h<;>exact⟨_,_,_,h⟩)
 | k+6=>exact absurd rfl hg
theorem ak9{W:World}(h:laidMetH Tryz.prog sy W):aM A.aO W.heap.size [] (gC W) W:=Ob (Y9 h)
end Go.Proofs.YthbncinhhdogpaaGreatDoor
