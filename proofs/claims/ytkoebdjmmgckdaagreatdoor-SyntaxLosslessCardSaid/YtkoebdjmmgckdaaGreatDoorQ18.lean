/-
  A part of the proof of SyntaxLossless: AbsClose, AbsSeatU.
-/
import Derived.ProofKit
import Derived.LaidMore
import Derived.Carry
import Derived.ChangeMaps5
import Derived.OpenShut
import Derived.Lib.LaidTab
import Derived.Deep.Strs
import Derived.Test.YtkoebdjmmgckdaaGreatDoorCards
import Derived.Test.YtkoebdjmmgckdaaGreatDoorTie
import Derived.Test.YtkoebdjmmgckdaaGreatDoorQ17
set_option linter.unusedSimpArgs false
set_option linter.unusedVariables false
set_option linter.defProp false
set_option maxRecDepth 100000
noncomputable section
namespace Go.Abs
open Go Go.RowKit Go.ChangeShapes Go.WideShapes Go.ChangeMaps Go.MapKept
variable {ss:List (List UInt8)}{l:List (String × DataW Unit)}{xs:List AV}{g:Nat}{G:Nat->List AV}{W':World}
section
def anj{n:Int}(h:(Lit.int .i64 n).wf=true):CU n:=by
 have h1:IntKind.i64.min=-9223372036854775808:=rfl;have h2:IntKind.i64.max=9223372036854775807:=rfl;simp only[Lit.wf,aw4,aw',h1,h2] at h;exact h
def mn(W:World):Gh:={ S:=fun b o=>(∃ v,W.cell? ⟨b,o,none⟩=some v/\v.oneCell'=true/\∀ n,v≠.int .u8 n)\/(∃ E ck,W.heap[b]?=some (.map E ck)),κ:=fun _=>.none,ρ:=fun _=>0 }
def YR{W:World}{b o:Nat}{v:Value}(h:W.cell? ⟨b,o,none⟩=some v):b<W.heap.size:=by
 rcases azj b W.heap.size with h'|h'
 ·exact h'
 ·simp[World.cell?,Array.getElem?_eq_none h'] at h
def anl{W:World}(hg:∀ (g j:Nat) (x:AV),(G g)[j]?=some x->∃ v,W.cell? ⟨g,j,none⟩=some v/\PR (mn W).S W v x/\∀ n,v≠.int .u8 n)
  (ht:∀ g,G g≠[]->∃ ty,sJ W g ty (G g).length):aY G W.heap.size [] (mn W) W where
 size:=Nat.le_refl _
 qj:=fun b o h=>by
  rcases h with ⟨v,h,_⟩|⟨E,ck,h⟩
  ·exact YR h
  ·exact (axb.1 h).1
 ru:=fun b h=>absurd rfl h
 aX:=fun g j x h=>by
  obtain⟨v,h1,h2,h3⟩:=hg g j x h;exact⟨v,h1,h2,.inl ⟨v,h1,h2.fJ,h3⟩⟩
 boxes:=fun loc ty cs h=>by simp at h
 refs:=fun loc ty cs h=>by simp at h
 Cg:=ht
 bytes:=fun b o n h hc=>by
  rcases h with ⟨v,h,_,h3⟩|⟨E,ck,h⟩
  ·rw[h] at hc
   injection hc with hc
   exact absurd hc (h3 n)
  ·simp only[World.cell?,h] at hc
   cases hc
 more:=fun loc o h=>by simp at h
 types:=fun loc ty cs h=>by simp at h
def Yt{gh:Gh}{n:Nat}{w:World}{p:bF}{v:Value}{b:Bool}(h:CR gh n w p v (.bool b)):v=.bool b:=by
 rcases h with h|⟨e,h,_⟩
 ·cases h with
  | plain v x h=>cases h;rfl
 ·cases h
def aak{P:Program}{A:AP}(hA:lP P A){f:FuncId}(h:ai A f xs []=some (.bool true,none)){W:World}(hW:aY A.aX W.heap.size [] (mn W) W)
  {vs:Array Value} (hs:vs.size=xs.length) (hv:∀ (j:Nat) (v:Value) (x:AV),vs[j]?=some v->xs[j]?=some x->PR (mn W).S W v x) :
  Calls P f vs W fun e W'=>e=.returned (.bool true)/\Below W.heap.size W W':=by
 obtain⟨n,hn⟩:=pN.1 h;obtain⟨_,_,hc⟩:=Ay hA n f xs [] _ _ hn;refine (hc W.heap.size (mn W) W vs hW (fun b=>.inl rfl) hs (fun j v x h1 h2=>.inl (.plain _ _ (hv j v x h1 h2)))).mono fun e W' ⟨v,a8,he,r⟩=>?_
 refine⟨by rw[he,Yt r.val],r.st.os,r.st.tape,r.st.output,r.st.size,fun k hk=>?_⟩
 obtain⟨h1,_,_⟩:=r.st.oo k hk (by
  intro ht;simp only[iV,mn] at ht
  rcases ht with ⟨l,ht⟩|⟨l,j,ht⟩|⟨j,ht⟩<;>cases ht)
 rcases h1 with h1|⟨C,ty,lo,hi,lo',j6,k1,_,⟨o,m,⟨v',h2,_,h3⟩|⟨E,ck,h2⟩,hm⟩,_⟩
 ·exact h1
 rotate_left
 ·rw[k1] at h2;cases h2
 ·exfalso
  have:W.cell? ⟨k,o,none⟩=some (.int .u8 m):=by
   simp only[World.cell?,k1];exact hm
  rw[this] at h2;injection h2 with h2
  exact h3 m h2.symm
def xh{H:Type}{enc:TypeId × Value->H}{P:Program}(hl:laidOutB P=true){W:World}(hb:Below W.heap.size W W'){sp:Nat->Bool} :
  ∀ {ts:List TypeId} {vs:List Value} {ds:List (DataW H)} {ps:List MemPlace},(ts.all fun t=>P.readableRec t&&decide (t<P.types.size))=true->DataW.TrodAll enc P W 0 (fun _=>true) true ts vs ds ps ->
   (∀ x∈ps,x.block<W.heap.size)->(∀ p∈ps,sp p.block=true)->DataW.TrodAll enc P W' 0 sp true ts vs ds ps
 | [],[],[],_,_,h,_,_=>h
 | t :: ts,v :: vs,d :: ds,ps,ht,⟨p,q,h1,h2,e⟩,aP,hs=>by
  simp only[List.all_cons,aw4] at ht;exact⟨p,q,WideElems.Trod_stays hl ht.1.1 (of_decide_eq_true ht.1.2) h1 (fun x hx=>hb.same (aP x (by rw[e];exact ayC _ hx))) (fun x hx=>hs x (by rw[e];exact ayC _ hx)),
   xh hl hb ht.2 h2 (fun x hx=>aP x (by rw[e];exact ayY _ hx)) (fun x hx=>hs x (by rw[e];exact ayY _ hx)),e⟩
def V'{H:Type}{enc:TypeId × Value->H}{P:Program}(hl:laidOutB P=true){f:Func}{s:ChangeSpec}{W:World}{args:Array Value}{ds gs:List (DataW H)}{before:List MemPlace}{tb:TypeId}
  (hW:DataW.Whole enc P f.params.toList s.vars false W args.toList ds gs before) (hb:Below W.heap.size W W') (hv:s.vars=[])
  (hts:(f.params.toList.all fun t=>P.readableRec t&&decide (t<P.types.size))=true) (hr:f.resultTypes=#[tb]) (ht:P.underlying tb=some .bool)
  (rj:(s.fn H (ds++gs)).results=[.lit (.bool true)]) (fL:(s.fn H (ds++gs)).args=ds) (ak' : (s.fn H (ds++gs)).vars=[]) :
  s.post enc P f false true false false W args (.bool true) W':=by
 have n9:=hW;obtain⟨p,q,hA,hV,he,hfz,RO⟩:=hW;rw[hv] at hV;obtain⟨rfl,rfl⟩:=trodVars_none hV;have aP:∀ x∈before,x.block<W.heap.size:=fun x hx=>by simpa using n9.lt x hx
 subst he;refine⟨ds,[],p++[],[],p,[],n9,?_,?_,?_,World.keptBut_mono (fun x hx=>hx.elim) (hb.frame fun _=>False),fun h=>by cases h⟩
 ·rw[rj,hr]
  exact trodAll_mk1 (shut_bool ht true)
 ·rw[fL]
  exact xh hl hb hts hA (fun x hx=>aP x (ayC _ hx)) (fun x hx=>by simpa using aP x (ayC _ hx))
 ·rw[ak',hv];rfl
section
variable {H:Type}{enc:TypeId × Value->H}{P:Program}{W:World}{sp:Nat->Bool}{hd:Bool}{b0:Nat}{t e:TypeId}{v:Value}{d:DataW H}{p:List MemPlace}
def Ia(ht:P.underlying t=some (.int .i64))(jn:Value.okWide P W .any b0 t v)(h:DataW.Trod enc P W 0 sp hd t v d p) :
  ∃ n:Int,d=.lit (.int .i64 n)/\CU n/\PR (mn W).S W v (.int .i64 n):=by
 obtain⟨n,rfl,rfl,rfl,hw⟩:=open_int ht jn h;exact⟨n,rfl,anj hw,.int _ _⟩
def FD(ht:P.underlying t=some (.slice e))(jn:Value.okWide P W .any b0 t v):v=.slice none 0 0\/∃ b o len cap,v=.slice (some ⟨b,o,none⟩) len cap/\len<=cap:=by
 simp only[Value.okWide,ht,Cell.okWide,Cell.ok] at jn;split at jn
 case h_7=>exact .inl rfl
 case h_9 e' a len cap hh =>
  obtain⟨h1,_,_,h3,_⟩:=jn;obtain⟨b,o,s⟩:=a;simp only at h3;subst h3;exact .inr ⟨b,o,len,cap,rfl,h1⟩
 all_goals first|(simp_all;done)|exact jn.elim
def TH(ht:P.underlying t=some (.slice e))(he:P.underlying e=some (.int .i64))(hc:P.cellsOf e=1)(jn:Value.okWide P W .any b0 t v)(h:DataW.Trod enc P W 0 sp hd t v d p) :
  ∃ (l:List Int) (rest:List (DataW H)),((d=.nil/\l=[])\/d=.slice (lits .i64 l) rest)/\(∀ n∈l,CU n)/\PR (mn W).S W v (.slice (ints l) false):=by
 obtain⟨fuel,hf⟩:=h
 rcases open_ints ht he hc hf with ⟨iz,hx⟩|⟨a,len,cap,zs,iz,_,hlc,_,VB,hx,cZ,hwf⟩
 ·injection hx with hd' hp
  rcases FD ht jn with rfl|⟨b,o,len,cap,rfl,_⟩
  ·exact⟨[],[],.inl ⟨hd',rfl⟩,fun _ h=>(axR h).elim,.dr⟩
  ·simp[Value.cells] at iz
 ·injection hx with hd' hp
  rcases FD ht jn with rfl|⟨b,o,Se,yE,rfl,_⟩
  ·simp[Value.cells] at iz
  ·simp only[Value.cells,ayc,Value.slice.injEq,aw2,ax'] at iz
   obtain⟨rfl,rfl,rfl⟩:=iz;have asw:Se<=zs.length:=by rw[VB];split<;>omega
   have hI:∀ n∈zs,CU n:=fun n hn=>anj (hwf n hn)
   have AF:∀ (i:Nat) (r:List AV),(ints (zs.take Se))[i]?=some r->i<Se/\r=[.int .i64 (zs.getD i 0)]:=by
    intro i r hr;rw[VE,List.getElem?_take] at hr;split at hr
    ·rename_i hi
     have B3:i<zs.length:=af;rw[aw3 B3] at hr;simp only[axa,aw2] at hr;exact⟨hi,by rw[<- hr,List.getD_eq_getElem?_getD,aw3 B3];rfl⟩
    ·simp at hr
   refine⟨zs.take Se,lits .i64 (zs.drop Se),.inr hd',fun n hn=>hI n (axV hn),.slice b o Se yE 1 _ (fun i j=>.int .i64 (zs.getD i 0)) ?_ hlc ?_ ?_ ?_⟩
   ·rw[p7,axO];omega
   ·intro i r hr
    rw[(AF i r hr).2];rfl
   ·intro i j r x hr hx
    obtain⟨hi,rfl⟩:=AF i r hr;have hj:j=0:=by
     cases j with
     | zero=>rfl
     | succ j=>simp at hx
    subst hj;have Cx:=cZ i af;have UX:(Addr.mk b o none).add i=⟨b,o+i*1+0,none⟩:=by
     unfold Addr.add;split
     ·rename_i h0;subst h0;simp
     ·simp
    have gC:W.cell? ⟨b,o+i*1+0,none⟩=some (.int .i64 (zs.getD i 0)):=by rw[<- UX];exact Cx
    exact⟨.inl ⟨_,gC,rfl,fun n hn=>by cases hn⟩,gC,rfl⟩
   ·intro i j r x hr hx
    obtain⟨hi,rfl⟩:=AF i r hr;cases j with
    | zero =>
     simp only[axl,aw2] at hx;subst hx;exact .int _ _
    | succ j=>simp at hx
end
def wP(W:World)(g:Nat)(xs:List AV):Prop :=
 (∃ ty,sJ W g ty xs.length)/\∀ (j:Nat) (x:AV),xs[j]?=some x->∃ v,W.cell? ⟨g,j,none⟩=some v/\PR (mn W).S W v x/\∀ n,v≠.int .u8 n
def SV{W:World}(h:∀ g,G g≠[]->wP W g (G g)):aY G W.heap.size [] (mn W) W:=by
 refine anl (fun g j x hx=>?_) (fun g hg=>(h g hg).1)
 exact (h g (fun h=>by rw[h] at hx;simp at hx)).2 j x hx
def A8{P:Program}{W:World}{name:String}{cs:Array Value}(hg:P.globalNamed name=some g)(hv:W.var? P name=some cs)(hl:cs.size=xs.length)
  (h:∀ (j:Nat) (v:Value) (x:AV),cs[j]?=some v->xs[j]?=some x->PR (mn W).S W v x/\∀ n,v≠.int .u8 n):wP W g xs:=by
 have hv0:=hv;simp only[World.var?,hg,aw7] at hv;refine⟨?_,fun j x hx=>?_⟩
 ·split at hv
  ·rename_i C ty fr hC
   injection hv with hv
   exact⟨ty,C,fr,hC,by rw[hv,hl]⟩
  ·cases hv
 ·have aP:j<cs.size:=by rw[hl];exact (aw5.1 hx).1
  exact⟨cs[j],by rw[World.var?_cell hg hv0 j,axj aP],h j _ x (axj aP) hx⟩
def zu{P:Program}{W:World}{n:String}{d:DataW Unit} : ∀ {l:List (String × DataW Unit)} {ps:List MemPlace},DataW.LaidVars P W l ps->(n,d)∈l ->
  ∃ g t cs fuel p,P.globalNamed n=some g/\(P.globals[g]?).map (·.type)=some t/\W.var? P n=some cs/\DataW.trod (fun _=>()) P W 0 (fun _=>true) false fuel t cs.toList=some (d,p)/\∀ x∈MemPlace.row ⟨g,0,none⟩ cs.size,x∈ps
 | [],_,_,hm=>(axR hm).elim
 | (n',d') :: r,ps,⟨g,t,cs,fuel,p,q,h1,h2,h3,h4,hr,he⟩,hm=>by
  rcases axs.1 hm with hm|hm
  ·injection hm with e1 e2
   subst e1 e2;exact⟨g,t,cs,fuel,p,h1,h2,h3,h4,fun x hx=>by rw[he];exact ayC _ (ayC _ hx)⟩
  ·obtain⟨g',t',cs',ajX,p',k1,k2,k3,k4,k5⟩:=zu hr hm
   exact⟨g',t',cs',ajX,p',k1,k2,k3,k4,fun x hx=>by rw[he];exact ayY _ (k5 x hx)⟩
def He{P:Program}{W:World}{n:String}{d:DataW Unit}(h:laidMetH P l W)(hm:(n,d)∈l)(hd:d.handleName?.isNone=true) :
  ∃ g t cs fuel p,P.globalNamed n=some g/\(P.globals[g]?).map (·.type)=some t/\W.var? P n=some cs/\DataW.trod (fun _=>()) P W 0 (fun _=>true) false fuel t cs.toList=some (d,p) /\
   ∀ j u v,j<cs.size->W.cell? ⟨g,j,none⟩=some (.iface u v)->Value.okWide P W .any 0 u v:=by
 have key:∀ l',laidMet P l' W->(n,d)∈l'->∃ g t cs fuel p,P.globalNamed n=some g/\(P.globals[g]?).map (·.type)=some t/\W.var? P n=some cs/\DataW.trod (fun _=>()) P W 0 (fun _=>true) false fuel t cs.toList=some (d,p) /\
   ∀ j u v,j<cs.size->W.cell? ⟨g,j,none⟩=some (.iface u v)->Value.okWide P W .any 0 u v:=by
  rintro l' ⟨ps,hv,_,ri⟩ S8
  obtain⟨g,t,cs,fuel,p,h1,h2,h3,h4,h5⟩:=zu hv S8;exact⟨g,t,cs,fuel,p,h1,h2,h3,h4,fun j u v hj hc=>(ri g j (h5 _ (by simp only[MemPlace.row];simpa using hj))).2 u v hc⟩
 unfold laidMetH at h;split at h
 ·exact key _ h hm
 ·exact key _ h.1 (azi.2 ⟨hm,hd⟩)
def zw{P:Program}{W:World}{n:String}{d:DataW Unit}(h:laidMetH P l W)(hm:(n,d)∈l)(hd:d.handleName?.isNone=true) :
  ∃ g t cs fuel p,P.globalNamed n=some g/\(P.globals[g]?).map (·.type)=some t/\W.var? P n=some cs/\DataW.trod (fun _=>()) P W 0 (fun _=>true) false fuel t cs.toList=some (d,p):=by
 obtain⟨g,t,cs,fuel,p,h1,h2,h3,h4,_⟩:=He h hm hd;exact⟨g,t,cs,fuel,p,h1,h2,h3,h4⟩
def LF{cs:List Value}{i:Nat}{v:Value}(h:(cs.drop (i*1)).take 1=[v]):cs[i]?=some v:=by
 have:((cs.drop (i*1)).take 1)[0]?=some v:=by rw[h];rfl
 simpa [List.getElem?_take,ax9] using this
def Mh{P:Program}{W:World}{name:String}{n:Nat}{t e:TypeId}(h:laidMetH P l W)(hm:(name,.agg (ss.map fun s=>.lit (.string s)))∈l)
  (hg:P.globalNamed name=some g) (RT:(P.globals[g]?).map (·.type)=some t) (ht:P.underlying t=some (.array n e)) (he:P.underlying e=some .string) (hce:P.cellsOf e=1) (hct:P.cellsOf t=n):wP W g (ss.map .str):=by
 obtain⟨g',t',cs,fuel,p,h1,h2,h3,h4⟩:=zw h hm rfl;obtain rfl:=axS (hg.symm.trans h1);obtain rfl:=axS (RT.symm.trans h2);obtain⟨xs,m,rfl,hx,hlen,hn,B2⟩:=DataW.trod_array ht h4;injection hx with hx hp
 injection hx with hx
 have qu:ss.length=n:=by
  have:=ayj List.length hx
  simpa [hn] using this
 refine A8 hg h3 (by rw[List.length_map,qu,<- hct,<- hlen];exact (azM).symm) fun j v x hv uA=>?_
 have hj:j<n:=by
  have:=(aw5.1 uA).1
  simpa [qu] using this
 have B4:=B2 j hj;rw[hce] at B4;rw[aw3 (show j<xs.length by omega)] at B4
 obtain⟨s,h5,h6,_⟩:=DataW.trod_string he B4;have o9:cs.toList[j]?=some v:=by rw[axP];exact hv
 rw[LF h5] at o9;injection o9 with o9
 have h7:(ss.map fun s=>(DataW.lit (.string s):DataW Unit))[j]?=some (.lit (.string s.data.toList)):=by
  rw[hx,List.getElem?_map,aw3 (show j<xs.length by omega),h6];rfl
 rw[List.getElem?_map] at h7 uA;cases hs:ss[j]? with
 | none=>rw[hs] at uA;cases uA
 | some b =>
  rw[hs] at h7 uA;simp only[axa,aw2,DataW.lit.injEq,Lit.string.injEq] at h7 uA;subst uA o9;exact⟨.str _ _ h7.symm,fun n hn=>by cases hn⟩
def XL{P:Program}{W:World}{name:String}{k:IntKind}{zs:List Int}{n:Nat}{t e:TypeId}(hk:k≠.u8)(h:laidMetH P l W)(hm:(name,.agg (zs.map fun z=>.lit (.int k z)))∈l)
  (hg:P.globalNamed name=some g) (RT:(P.globals[g]?).map (·.type)=some t) (ht:P.underlying t=some (.array n e)) (he:P.underlying e=some (.int k)) (hce:P.cellsOf e=1) (hct:P.cellsOf t=n):wP W g (zs.map (.int k)):=by
 obtain⟨g',t',cs,fuel,p,h1,h2,h3,h4⟩:=zw h hm rfl;obtain rfl:=axS (hg.symm.trans h1);obtain rfl:=axS (RT.symm.trans h2);have iz:=Lib.cells_of_tab ht he hce hct h4;have j7:cs.size=zs.length:=by rw[<- azM,iz,List.length_map]
 refine A8 hg h3 (by rw[List.length_map,j7]) fun j v x hv hx=>?_
 rw[<- axP,iz] at hv;rw[List.getElem?_map] at hv hx;cases hz:zs[j]? with
 | none=>rw[hz] at hv;cases hv
 | some z =>
  rw[hz] at hv hx;simp only[axa,aw2] at hv hx;subst hv hx;exact⟨.int _ _,fun n hn=>by injection hn with h1 h2;exact hk h1⟩
def abO{P:Program}{W:World}{name nm:String}{d:DataW Unit}{t te:TypeId}{ms:Array (String × TypeId)}(h:laidMetH P l W)(hm:(name,.iface nm d)∈l)
  (hd:(DataW.iface nm d).handleName?.isNone=true) (hg:P.globalNamed name=some g) (RT:(P.globals[g]?).map (·.type)=some t) (ht:P.underlying t=some (.interface ms)) (bQ:∀ u,P.typeName? 3 u=some nm->u=te)
  (gV:∀ v,Value.okWide P W .any 0 te v->v.oneCell'=true):wP W g [.iface te .any]:=by
 obtain⟨g',t',cs,fuel,p,h1,h2,h3,h4,ri⟩:=He h hm hd;obtain rfl:=axS (hg.symm.trans h1);obtain rfl:=axS (RT.symm.trans h2);cases fuel with
 | zero=>simp[DataW.trod] at h4
 | succ fuel =>
  unfold DataW.trod at h4;rw[ht] at h4;split at h4<;>try (rename_i hh _;cases hh;done)
  all_goals first|(simp_all;done)|skip
  rename_i u v iz hh;split at h4
  ·cases h4
  ·rename_i nm' hn
   simp only[aw0,aw6,DataW.iface.injEq] at h4;obtain⟨⟨d',p'⟩,h5,⟨rfl,rfl⟩,_⟩:=h4;have hu:=bQ u hn;subst hu;have U5:cs=#[.iface u v]:=by
    cases cs;simp_all
   subst U5;refine A8 hg h3 rfl fun j v' x hv hx=>?_
   cases j with
   | zero =>
    simp only[axE,axl,aw2] at hv hx;subst hv hx;exact⟨.iface _ _ _ (.any _ (gV _ (ri 0 _ _ ae (by rw[World.var?_cell hg h3 0];rfl)))),fun n hn=>by cases hn⟩
   | succ j=>simp at hx
  ·cases h4
def ON{P:Program}{W:World}{name:String}{t e:TypeId}(h:laidMetH P l W)(hm:(name,.slice (ss.map fun s=>.lit (.string s)) [])∈l)
  (hg:P.globalNamed name=some g) (RT:(P.globals[g]?).map (·.type)=some t) (ht:P.underlying t=some (.slice e)) (he:P.underlying e=some .string) (hce:P.cellsOf e=1) (da:0<ss.length):wP W g [.slice (strs ss) false]:=by
 obtain⟨g',t',cs,fuel,p,h1,h2,h3,h4⟩:=zw h hm rfl;obtain rfl:=axS (hg.symm.trans h1);obtain rfl:=axS (RT.symm.trans h2);obtain⟨a,cap,iz,hlc,B2⟩:=open_row ht hce h4;rw[List.length_map] at iz hlc;have U5:cs=#[.slice (some a) ss.length cap]:=by cases cs;simp_all
 subst U5;refine A8 hg h3 rfl fun j v x hv hx=>?_
 cases j with
 | succ j=>simp at hx
 | zero =>
  simp only[axE,axl,aw2] at hv hx;subst hv hx;have gP:∀ i,∀ s,ss[i]?=some s->∃ b:ByteArray,b.data.toList=s/\W.cell? (a.add i)=some (.string b):=by
   intro i s hs;obtain⟨v,n,q,k1,k2⟩:=B2 i (.lit (.string s)) (by rw[List.getElem?_map,hs];rfl)
   obtain⟨b,k3,k4,_⟩:=DataW.trod_string he k2;simp only[aw6,DataW.lit.injEq,Lit.string.injEq,ayc,ax'] at k3 k4;subst k3;exact⟨b,k4.1.symm,k1⟩
  obtain⟨b,o,sb⟩:=a;have hsb:sb=none:=by
   obtain⟨s0,_,k2⟩:=gP 0 ss[0] (aw3 da);have e0:(Addr.mk b o sb).add 0=⟨b,o,sb⟩:=by simp[Addr.add]
   rw[e0] at k2;cases sb with
   | none=>rfl
   | some z =>
    unfold World.cell? at k2;split at k2
    ·simp at k2
    ·cases k2
  subst hsb;have AF:∀ (i:Nat) (r:List AV),(strs ss)[i]?=some r->∃ s,ss[i]?=some s/\r=[.str s]:=by
   intro i r hr;rw[strs,List.getElem?_map] at hr;cases hk:ss[i]? with
   | none=>rw[hk] at hr;cases hr
   | some s=>rw[hk] at hr;injection hr with hr;exact⟨s,rfl,hr.symm⟩
  have mB:∀ i s,ss[i]?=some s->∃ B:ByteArray,W.cell? ⟨b,o+i*1+0,none⟩=some (.string B)/\B.data.toList=s:=by
   intro i s hs;obtain⟨B,k1,k2⟩:=gP i s hs;have UX:(Addr.mk b o none).add i=⟨b,o+i*1+0,none⟩:=by
    unfold Addr.add;split
    ·rename_i h0;subst h0;simp
    ·simp
   rw[UX] at k2;exact⟨B,k2,k1⟩
  refine⟨.slice b o _ cap 1 _ (fun i j=>(W.cell? ⟨b,o+i*1+0,none⟩).getD .nilIface) (by rw[strs,List.length_map]) hlc ?_ ?_ ?_,fun n hn=>by cases hn⟩
  ·intro i r hr
   obtain⟨s,_,rfl⟩:=AF i r hr;rfl
  ·intro i j r x hr hx
   obtain⟨s,hs,rfl⟩:=AF i r hr;cases j with
   | succ j=>simp at hx
   | zero =>
    obtain⟨B,k1,_⟩:=mB i s hs;rw[k1];exact⟨.inl ⟨_,k1,rfl,fun n hn=>by cases hn⟩,rfl,rfl⟩
  ·intro i j r x hr hx
   obtain⟨s,hs,rfl⟩:=AF i r hr;cases j with
   | succ j=>simp at hx
   | zero =>
    obtain⟨B,k1,k2⟩:=mB i s hs;rw[k1];simp only[axl,aw2] at hx;subst hx;exact .str _ _ k2
def rowOf(q:Lit × DataW Unit):List AV :=
 match q with
 | (.string k,.agg [.lit (.int .i64 a),.lit (.int .i64 b)])=>[.str k,.int .i64 a,.int .i64 b]
 | _=>[]
def XK{P:Program}{W:World}{name:String}{L:List (Lit × DataW Unit)}{t k e:TypeId}{f0 f1:Field}(h:laidMetH P l W)(hm:(name,.map L)∈l)
  (hg:P.globalNamed name=some g) (RT:(P.globals[g]?).map (·.type)=some t) (ht:P.underlying t=some (.map k e)) (hk:P.underlying k=some .string) (he:P.underlying e=some (.struct #[f0,f1]))
  (hce:P.cellsOf e=2) (hf0:P.underlying f0.type=some (.int .i64)) (hf1:P.underlying f1.type=some (.int .i64)) (U2:P.cellsOf f0.type=1) (hc1:P.cellsOf f1.type=1) (ho0:f0.offset=0) (ho1:f1.offset=1)
  (hL:∀ q∈L,∃ k a b,q=(.string k,.agg [.lit (.int .i64 a),.lit (.int .i64 b)])):wP W g [.mA 1 false true (L.map rowOf)]:=by
 obtain⟨g',t',cs,fuel,p,h1,h2,h3,h4⟩:=zw h hm rfl;obtain rfl:=axS (hg.symm.trans h1);obtain rfl:=axS (RT.symm.trans h2)
 rcases WideElems.open_map ht h4 with ⟨_,hx⟩|⟨b,es,ck,n,rfl,iz,hb,_,F,hx⟩
 ·simp at hx
 have U5:cs=#[.map (some b)]:=by cases cs;simp_all
 subst U5;injection hx with hx hp
 injection hx with hx
 have G6:(es.toList.map (WideElems.rg P k (WideElems.elemAt (fun _=>()) P W 0 (fun _=>true) false n e))).Perm L:=by rw[hx];exact (WideShapes.sorted_perm _).symm
 have each:∀ x∈es.toList,∃ (s:ByteArray) (a c:Int),x.key=.string s/\x.val=.agg #[.int .i64 a,.int .i64 c]/\rowOf (WideElems.rg P k (WideElems.elemAt (fun _=>()) P W 0 (fun _=>true) false n e) x)=[.str s.data.toList,.int .i64 a,.int .i64 c]:=by
  intro x hxm;obtain⟨k0,a,c,hq⟩:=hL _ (G6.mem_iff.1 (ay6 hxm));obtain⟨y,hy⟩:=F.reads x hxm;rw[WideElems.rg_of hy] at hq ⊢;subst hq;have Aa:=WideElems.rd_key hy;obtain⟨z,hz,hz2⟩:=WideElems.rd_val hy;unfold WideElems.elemAt at hz;split at hz
  ·rename_i wW
   obtain⟨y0,y1,m,rfl,hl,g0,g1⟩:=ChangeShapes.trod_struct2 he hz;rw[U2,ho0] at g0;rw[hc1,ho1] at g1;have jn:∃ c0 c1,x.val=.agg #[c0,c1]:=by
    unfold Value.formed at wW;rw[he] at wW;cases hv:x.val<;>rw[hv] at wW hl<;>simp_all
    rename_i cs;obtain⟨cl⟩:=cs
    match cl,wW with
    | [c0,c1],_=>exact⟨c0,c1,rfl⟩
   obtain⟨c0,c1,jn⟩:=jn;rw[jn] at g0 g1;simp only[Value.cells,List.drop_zero,axJ,axQ,ayH] at g0 g1;obtain⟨a',e1,e2,_⟩:=DataW.trod_int hf0 g0;obtain⟨c',e3,e4,_⟩:=DataW.trod_int hf1 g1;simp only[ayc,ax'] at e1 e3;subst e1 e3 e2 e4;simp only[DataW.agg.injEq,ayc,ax',DataW.lit.injEq,Lit.int.injEq,ayV] at hz2;obtain⟨rfl,rfl⟩:=hz2;have apB:∃ s:ByteArray,x.key=.string s/\s.data.toList=k0:=by
    cases Yf:x.key<;>simp[keyOf,hk,mapKey,Yf] at Aa
    exact⟨_,rfl,Aa.2⟩
   obtain⟨s,k1,rfl⟩:=apB;exact⟨s,_,_,k1,jn,rfl⟩
  ·cases hz
 refine A8 hg h3 rfl fun j v x hv uA=>?_
 cases j with
 | succ j=>simp at uA
 | zero =>
  simp only[axE,axl,aw2] at hv uA;subst hv uA;refine⟨.mA b 1 false true _ ((es.toList.map (WideElems.rg P k (WideElems.elemAt (fun _=>()) P W 0 (fun _=>true) false n e))).map rowOf) es ck
   (fun i j=>match es[i]? with|some x=>(match j with|0=>x.key|j+1=>(x.val.cells[j]?).getD .nilIface)|none=>.nilIface) (.inr ⟨_,_,hb⟩) hb ⟨ae,?_,?_,?_⟩ (G6.map rowOf) ?_,fun n hn=>by cases hn⟩
  ·intro i x od
   exact ((stamped_iff es ck).1 F.stamped).1 x (by have:=ayX od;simpa using this)
  ·intro i j x y od Ta Yk
   have RO:=((stamped_iff es ck).1 F.stamped).2.1;have hi:i<(es.toList.map (·.born)).length:=by
    have:=(axb.1 od).1
    simpa using this
   refine (List.getElem?_inj hi RO).1 ?_;rw[List.getElem?_map,List.getElem?_map,axP,axP,od,Ta];simp only[axa,Yk]
  ·intro i x r od hr
   have hxm:x∈es.toList:=by
    have:=ayX od
    simpa using this
   obtain⟨s,a,c,k1,k2,k3⟩:=each x hxm;rw[List.map_map,List.getElem?_map,axP,od] at hr;simp only[axa,azO,aw2] at hr;rw[k3] at hr;subst hr;refine⟨ae,fun _=>rfl,fun h=>(by cases h),?_,?_⟩
   ·simp[uy,od]
   ·simp[uy,od,k2,Value.cells,List.range_succ]
  ·intro i j r x hr od
   rw[List.map_map,List.getElem?_map,axP] at hr;cases F0:es[i]? with
   | none=>rw[F0] at hr;cases hr
   | some y =>
    rw[F0] at hr;have hxm:y∈es.toList:=by
     have:=ayX F0
     simpa using this
    obtain⟨s,a,c,k1,k2,k3⟩:=each y hxm;simp only[axa,azO,aw2] at hr;rw[k3] at hr;subst hr
    match j with
    | 0=>simp only[axl,aw2] at od;subst od;simp only[k1];exact .str _ _ rfl
    | 1=>simp only[axl,axK,aw2] at od;subst od;simp only[k2,Value.cells];exact .int _ _
    | 2=>simp only[axl,axK,aw2] at od;subst od;simp only[k2,Value.cells];exact .int _ _
    | j+3=>simp at od
end
end Go.Abs
namespace Go.Proofs.YtkoebdjmmgckdaaGreatDoor
open Go Go.Abs Go.Proofs Go.RowKit
def qP:List (String × DataW Unit):=Rows.syntaxLosslessRow.laid
def Sa{W:World}(h:laidMetH Tryz.prog qP W):wP W 1 (BS 1):=by
 obtain⟨g,t,cs,fuel,p,hg,ht,hv,hd⟩:=h.funcs (n:= "splicery/lex.kinds") (d:=.agg [.agg [.iface "func" (.lit (.string [115,112,108,105,99,101,114,121,47,108,101,120,46,108,101,116,116,101,114])),.iface "func" (.lit (.string [115,112,108,105,99,101,114,121,47,108,101,120,46,101,105,116,104,101,114]))],.agg [.iface "func" (.lit (.string [115,112,108,105,99,101,114,121,47,108,101,120,46,100,105,103,105,116])),.iface "func" (.lit (.string [115,112,108,105,99,101,114,121,47,108,101,120,46,100,105,103,105,116]))]]) (by simp[qP,Rows.syntaxLosslessRow,Rows.laid_splicery_lex_kinds])
 have S5:Tryz.prog.globalNamed "splicery/lex.kinds"=some 1:=cB;have ht0:(Tryz.prog.globals[1]?).map (·.type)=some 153:=cB;obtain rfl:=axS (S5.symm.trans hg);obtain rfl:=axS (ht0.symm.trans ht);have u97:Tryz.prog.underlying 153=some (.array 2 152):=cB;have u96:Tryz.prog.underlying 152=some (.array 2 151):=cB;have c96:Tryz.prog.cellsOf 152=2:=cB;have c97:Tryz.prog.cellsOf 153=4:=cB;have c91:Tryz.prog.cellsOf 151=1:=cB;obtain⟨xs,m,rfl,hx,hlen,hn,B2⟩:=DataW.trod_array u97 hd;injection hx with hx hp
 rw[c97] at hlen;obtain⟨l⟩:=cs;simp only at hlen B2 hv
 match l,hlen with
 | [v0,v1,v2,v3],_ =>
 match xs,hn with
 | [x0,x1],_ =>
 have e0:=B2 0 af;have e1:=B2 1 af;simp only[c96,ay',List.drop_zero,axJ,axQ,axl,axK,azc,ayH] at e0 e1;simp only[DataW.funcsOut,DataW.funcsOutAll,axe,axB,DataW.agg.injEq,ayc,ax',ayo,ayE] at hx;obtain⟨CC,od⟩:=hx;obtain⟨ys,k,rfl,hy,_,hyn,ald⟩:=DataW.trod_array u96 e0;obtain⟨zs,k',ui,hz,_,hzn,alg⟩:=DataW.trod_array u96 e1;rw[hy] at CC;rw[hz] at od
 match ys,hyn with
 | [y0,y1],_ =>
 match zs,hzn with
 | [z0,z1],_ =>
 have f0:=ald 0 af;have f1:=ald 1 af;have g0:=alg 0 af;have g1:=alg 1 af;simp only[c91,ay',List.drop_zero,axJ,axQ,axl,axK,azc,ayH] at f0 f1 g0 g1;simp only[axe,axB,DataW.agg.injEq,ayc,ax'] at CC od;obtain⟨a0,q0⟩:=y0;obtain⟨a1,q1⟩:=y1;obtain⟨b0,r0⟩:=z0;obtain⟨b1,r1⟩:=z1;simp only at CC od;obtain⟨rfl,rfl⟩:=CC;obtain⟨rfl,rfl⟩:=od;obtain rfl:=func_of_trod (f0:=94) (show Tryz.prog.underlying 151=some (.func #[5] #[4] false) by kernel_rfl) cB f0
 obtain rfl:=func_of_trod (f0:=191) (show Tryz.prog.underlying 151=some (.func #[5] #[4] false) by kernel_rfl) cB f1
 obtain rfl:=func_of_trod (f0:=192) (show Tryz.prog.underlying 151=some (.func #[5] #[4] false) by kernel_rfl) cB g0
 obtain rfl:=func_of_trod (f0:=192) (show Tryz.prog.underlying 151=some (.func #[5] #[4] false) by kernel_rfl) cB g1
 refine A8 S5 hv rfl fun j v x hj hx=>?_
 match j with
 | 0=>simp only[axE,axl,aw2,BS] at hj hx;subst hj hx;exact⟨.func _,fun n h=>by cases h⟩
 | 1=>simp only[axE,axl,axK,aw2,BS] at hj hx;subst hj hx;exact⟨.func _,fun n h=>by cases h⟩
 | 2=>simp only[axE,axl,axK,aw2,BS] at hj hx;subst hj hx;exact⟨.func _,fun n h=>by cases h⟩
 | 3=>simp only[axE,axl,axK,aw2,BS] at hj hx;subst hj hx;exact⟨.func _,fun n h=>by cases h⟩
 | k+4=>simp at hj
def Ks{W:World}(h:laidMetH Tryz.prog qP W){name:String}{d:DataW Unit}{g:Nat}(hm:(name,.iface "*errors.errorString" (.ptr d))∈qP)(hg:Tryz.prog.globalNamed name=some g)
  (RT:(Tryz.prog.globals[g]?).map (·.type)=some 103):wP W g [.iface HS .any]:=by
 refine abO (nm:= "*errors.errorString") h hm (by rfl) hg RT (show Tryz.prog.underlying 103=some (.interface #[("Error",61)]) by kernel_rfl) (fun u hu=>typeName_ptr_named (nm:= "errors.errorString") (tp:=219) cB cB (by decide) u hu) ?_
 intro v hv;simp only[Value.okWide,show Tryz.prog.underlying HS=some (.pointer 221) by kernel_rfl,Cell.okWide,Cell.ok] at hv
 cases v<;>simp_all [Value.oneCell']
def opsL:List (Lit × DataW Unit):=[(.string [37],.agg [.lit (.int .i64 4),.lit (.int .i64 6)]),(.string [42],.agg [.lit (.int .i64 2),.lit (.int .i64 6)]),(.string [43],.agg [.lit (.int .i64 0),.lit (.int .i64 5)]),(.string [45],.agg [.lit (.int .i64 1),.lit (.int .i64 5)]),(.string [47],.agg [.lit (.int .i64 3),.lit (.int .i64 6)]),(.string [60],.agg [.lit (.int .i64 5),.lit (.int .i64 3)]),(.string [61,61],.agg [.lit (.int .i64 6),.lit (.int .i64 3)]),(.string [97,110,100],.agg [.lit (.int .i64 7),.lit (.int .i64 2)]),(.string [106,111,105,110],.agg [.lit (.int .i64 10),.lit (.int .i64 4)]),(.string [111,114],.agg [.lit (.int .i64 8),.lit (.int .i64 1)])]
def abP{W:World}(h:laidMetH Tryz.prog qP W):∀ g,A.aX g≠[]->wP W g (A.aX g):=by
 intro g hg
 match g with
 | 0=>exact ON (ss:=cG) (name:= "splicery/syntax.kinds") h (axc (i:=9) rfl) (g:=0) (t:=25) (e:=9) cB cB cB cB cB (by decide)
 | 1=>exact Sa h
 | 2=>exact Mh (ss:=mL) (name:= "splicery/lex.signs") h (axc (i:=5) rfl) (g:=2) (n:=18) (t:=154) (e:=9) cB cB cB cB cB cB
 | 3=>exact Mh (ss:=fg) (name:= "splicery/lex.keywords") h (axc (i:=7) rfl) (g:=3) (n:=27) (t:=157) (e:=9) cB cB cB cB cB cB
 | 4=>exact XK (L:=opsL) (name:= "splicery/syntax.operators") h (axc (i:=8) rfl) (g:=4) (t:=180) (k:=9) (e:=178) (f0:=⟨ "op",3,0,false,"","splicery/syntax",0⟩) (f1:=⟨ "level",3,1,false,"","splicery/syntax",8⟩) cB cB cB cB cB cB cB cB cB cB (by rfl) (by rfl) (by intro q hq;simp only[opsL,axs,axR,ays] at hq;rcases hq with h|h|h|h|h|h|h|h|h|h<;>exact⟨_,_,_,h⟩)
 | 5=>exact absurd rfl hg
 | 6=>exact XL (k:=.u64) (zs:=Lib.pow10Tab) (name:= "internal/strconv.uint64pow10") (fun h=>by cases h) h (axc (i:=2) rfl) (g:=6) (n:=20) (t:=203) (e:=190) cB cB cB cB cB cB
 | 7=>exact Ks h (name:= "strconv.ErrSyntax") (d:=.agg [.lit (.string [105,110,118,97,108,105,100,32,115,121,110,116,97,120])]) (axc (i:=4) rfl) cB cB
 | 8=>exact Ks h (name:= "strconv.ErrRange") (d:=.agg [.lit (.string [118,97,108,117,101,32,111,117,116,32,111,102,32,114,97,110,103,101])]) (axc (i:=3) rfl) cB cB
 | k+9=>exact absurd rfl hg
def aro{W:World}(h:laidMetH Tryz.prog qP W):aY A.aX W.heap.size [] (mn W) W:=SV (abP h)
end Go.Proofs.YtkoebdjmmgckdaaGreatDoor
end
