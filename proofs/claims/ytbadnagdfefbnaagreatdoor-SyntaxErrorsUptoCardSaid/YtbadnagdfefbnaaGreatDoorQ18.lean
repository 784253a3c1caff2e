/-
  A part of the proof of SyntaxErrors: AbsClose, AbsSeatU.
-/
import Derived.ProofKit
import Derived.LaidMore
import Derived.Carry
import Derived.ChangeMaps5
import Derived.OpenShut
import Derived.Lib.LaidTab
import Derived.Deep.Strs
import Derived.Test.YtbadnagdfefbnaaGreatDoorCards
import Derived.Test.YtbadnagdfefbnaaGreatDoorTie
import Derived.Test.YtbadnagdfefbnaaGreatDoorQ17
set_option linter.unusedSimpArgs false
set_option linter.unusedVariables false
set_option linter.defProp false
set_option maxRecDepth 100000
noncomputable section
namespace Go.Abs
open Go Go.RowKit Go.ChangeShapes Go.WideShapes Go.ChangeMaps Go.MapKept
variable {ss:List (List UInt8)}{xs:List AV}{g:Nat}{G:Nat->List AV}{W':World}
section
def akK{n:Int}(h:(Lit.int .i64 n).wf=true):BD n:=by
 have h1:IntKind.i64.min=-9223372036854775808:=rfl;have h2:IntKind.i64.max=9223372036854775807:=rfl;simp only[Lit.wf,au6,avf,h1,h2] at h;exact h
def mo(W:World):Gh:={ S:=fun b o=>(∃ v,W.cell? ⟨b,o,none⟩=some v/\v.oneCell'=true/\∀ n,v≠.int .u8 n)\/(∃ E ck,W.heap[b]?=some (.map E ck)),κ:=fun _=>.none,ρ:=fun _=>0 }
def Xs{W:World}{b o:Nat}{v:Value}(h:W.cell? ⟨b,o,none⟩=some v):b<W.heap.size:=by
 rcases awQ b W.heap.size with h'|h'
 ·exact h'
 ·simp[World.cell?,Array.getElem?_eq_none h'] at h
def akM{W:World}(hg:∀ (g j:Nat) (x:AV),(G g)[j]?=some x->∃ v,W.cell? ⟨g,j,none⟩=some v/\PR (mo W).S W v x/\∀ n,v≠.int .u8 n)
  (ht:∀ g,G g≠[]->∃ ty,sy W g ty (G g).length):a8 G W.heap.size [] (mo W) W where
 size:=Nat.le_refl _
 qa:=fun b o h=>by
  rcases h with ⟨v,h,_⟩|⟨E,ck,h⟩
  ·exact Xs h
  ·exact (avc.1 h).1
 ry:=fun b h=>absurd rfl h
 aY:=fun g j x h=>by
  obtain⟨v,h1,h2,h3⟩:=hg g j x h;exact⟨v,h1,h2,.inl ⟨v,h1,h2.gb,h3⟩⟩
 boxes:=fun loc ty cs h=>by simp at h
 refs:=fun loc ty cs h=>by simp at h
 BA:=ht
 bytes:=fun b o n h hc=>by
  rcases h with ⟨v,h,_,h3⟩|⟨E,ck,h⟩
  ·rw[h] at hc
   injection hc with hc
   exact absurd hc (h3 n)
  ·simp only[World.cell?,h] at hc
   cases hc
 more:=fun loc o h=>by simp at h
 types:=fun loc ty cs h=>by simp at h
def Xa{gh:Gh}{n:Nat}{w:World}{p:bM}{v:Value}{b:Bool}(h:CR gh n w p v (.bool b)):v=.bool b:=by
 rcases h with h|⟨e,h,_⟩
 ·cases h with
  | plain v x h=>cases h;rfl
 ·cases h
def YJ{P:Program}{A:AP}(hA:lV P A){f:FuncId}(h:aj A f xs []=some (.bool true,none)){W:World}(hW:a8 A.aY W.heap.size [] (mo W) W)
  {vs:Array Value} (hs:vs.size=xs.length) (hv:∀ (j:Nat) (v:Value) (x:AV),vs[j]?=some v->xs[j]?=some x->PR (mo W).S W v x) :
  Calls P f vs W fun e W'=>e=.returned (.bool true)/\Below W.heap.size W W':=by
 obtain⟨n,hn⟩:=pC.1 h;obtain⟨_,_,hc⟩:=zW hA n f xs [] _ _ hn;refine (hc W.heap.size (mo W) W vs hW (fun b=>.inl rfl) hs (fun j v x h1 h2=>.inl (.plain _ _ (hv j v x h1 h2)))).mono fun e W' ⟨v,br,he,r⟩=>?_
 refine⟨by rw[he,Xa r.val],r.st.os,r.st.tape,r.st.output,r.st.size,fun k hk=>?_⟩
 obtain⟨h1,_,_⟩:=r.st.oH k hk (by
  intro ht;simp only[jd,mo] at ht
  rcases ht with ⟨l,ht⟩|⟨l,j,ht⟩|⟨j,ht⟩<;>cases ht)
 rcases h1 with h1|⟨C,ty,lo,hi,lo',kP,k1,_,⟨o,m,⟨v',h2,_,h3⟩|⟨E,ck,h2⟩,hm⟩,_⟩
 ·exact h1
 rotate_left
 ·rw[k1] at h2;cases h2
 ·exfalso
  have:W.cell? ⟨k,o,none⟩=some (.int .u8 m):=by
   simp only[World.cell?,k1];exact hm
  rw[this] at h2;injection h2 with h2
  exact h3 m h2.symm
def wL{H:Type}{enc:TypeId × Value->H}{P:Program}(hl:laidOutB P=true){W:World}(hb:Below W.heap.size W W'){sp:Nat->Bool} :
  ∀ {ts:List TypeId} {vs:List Value} {ds:List (DataW H)} {ps:List MemPlace},(ts.all fun t=>P.readableRec t&&decide (t<P.types.size))=true->DataW.TrodAll enc P W 0 (fun _=>true) true ts vs ds ps ->
   (∀ x∈ps,x.block<W.heap.size)->(∀ p∈ps,sp p.block=true)->DataW.TrodAll enc P W' 0 sp true ts vs ds ps
 | [],[],[],_,_,h,_,_=>h
 | t :: ts,v :: vs,d :: ds,ps,ht,⟨p,q,h1,h2,e⟩,aZ,hs=>by
  simp only[List.all_cons,au6] at ht;exact⟨p,q,WideElems.Trod_stays hl ht.1.1 (of_decide_eq_true ht.1.2) h1 (fun x hx=>hb.same (aZ x (by rw[e];exact awF _ hx))) (fun x hx=>hs x (by rw[e];exact awF _ hx)),
   wL hl hb ht.2 h2 (fun x hx=>aZ x (by rw[e];exact axl _ hx)) (fun x hx=>hs x (by rw[e];exact axl _ hx)),e⟩
def UT{H:Type}{enc:TypeId × Value->H}{P:Program}(hl:laidOutB P=true){f:Func}{s:ChangeSpec}{W:World}{args:Array Value}{ds gs:List (DataW H)}{before:List MemPlace}{tb:TypeId}
  (hW:DataW.Whole enc P f.params.toList s.vars false W args.toList ds gs before) (hb:Below W.heap.size W W') (hv:s.vars=[])
  (hts:(f.params.toList.all fun t=>P.readableRec t&&decide (t<P.types.size))=true) (hr:f.resultTypes=#[tb]) (ht:P.underlying tb=some .bool)
  (rj:(s.fn H (ds++gs)).results=[.lit (.bool true)]) (gm:(s.fn H (ds++gs)).args=ds) (aiS:(s.fn H (ds++gs)).vars=[]) :
  s.post enc P f false true false false W args (.bool true) W':=by
 have nW:=hW;obtain⟨p,q,hA,hV,he,hfz,Qn⟩:=hW;rw[hv] at hV;obtain⟨rfl,rfl⟩:=trodVars_none hV;have aZ:∀ x∈before,x.block<W.heap.size:=fun x hx=>by simpa using nW.lt x hx
 subst he;refine⟨ds,[],p++[],[],p,[],nW,?_,?_,?_,World.keptBut_mono (fun x hx=>hx.elim) (hb.frame fun _=>False),fun h=>by cases h⟩
 ·rw[rj,hr]
  exact trodAll_mk1 (shut_bool ht true)
 ·rw[gm]
  exact wL hl hb hts hA (fun x hx=>aZ x (awF _ hx)) (fun x hx=>by simpa using aZ x (awF _ hx))
 ·rw[aiS,hv];rfl
section
variable {H:Type}{enc:TypeId × Value->H}{P:Program}{W:World}{sp:Nat->Bool}{hd:Bool}{b0:Nat}{t e:TypeId}{v:Value}{d:DataW H}{p:List MemPlace}
def Hi(ht:P.underlying t=some (.int .i64))(js:Value.okWide P W .any b0 t v)(h:DataW.Trod enc P W 0 sp hd t v d p) :
  ∃ n:Int,d=.lit (.int .i64 n)/\BD n/\PR (mo W).S W v (.int .i64 n):=by
 obtain⟨n,rfl,rfl,rfl,hw⟩:=open_int ht js h;exact⟨n,rfl,akK hw,.int _ _⟩
def DO(ht:P.underlying t=some (.slice e))(js:Value.okWide P W .any b0 t v):v=.slice none 0 0\/∃ b o len cap,v=.slice (some ⟨b,o,none⟩) len cap/\len<=cap:=by
 simp only[Value.okWide,ht,Cell.okWide,Cell.ok] at js;split at js
 case h_7=>exact .inl rfl
 case h_9 e' a len cap hh =>
  obtain⟨h1,_,_,h3,_⟩:=js;obtain⟨b,o,s⟩:=a;simp only at h3;subst h3;exact .inr ⟨b,o,len,cap,rfl,h1⟩
 all_goals first|(simp_all;done)|exact js.elim
def I6(ht:P.underlying t=some (.slice e))(he:P.underlying e=some (.int .i64))(hc:P.cellsOf e=1)(js:Value.okWide P W .any b0 t v)(h:DataW.Trod enc P W 0 sp hd t v d p) :
  ∃ (l:List Int) (rest:List (DataW H)),((d=.nil/\l=[])\/d=.slice (lits .i64 l) rest)/\(∀ n∈l,BD n)/\PR (mo W).S W v (.slice (ints l) false):=by
 obtain⟨fuel,hf⟩:=h
 rcases open_ints ht he hc hf with ⟨iL,hx⟩|⟨a,len,cap,zs,iL,_,hlc,_,Ub,hx,di,hwf⟩
 ·injection hx with hd' hp
  rcases DO ht js with rfl|⟨b,o,len,cap,rfl,_⟩
  ·exact⟨[],[],.inl ⟨hd',rfl⟩,fun _ h=>(avQ h).elim,.dF⟩
  ·simp[Value.cells] at iL
 ·injection hx with hd' hp
  rcases DO ht js with rfl|⟨b,o,QL,ye,rfl,_⟩
  ·simp[Value.cells] at iL
  ·simp only[Value.cells,awe,Value.slice.injEq,au4,av'] at iL
   obtain⟨rfl,rfl,rfl⟩:=iL;have apQ:QL<=zs.length:=by rw[Ub];split<;>omega
   have hI:∀ n∈zs,BD n:=fun n hn=>akK (hwf n hn)
   have z8:∀ (i:Nat) (r:List AV),(ints (zs.take QL))[i]?=some r->i<QL/\r=[.int .i64 (zs.getD i 0)]:=by
    intro i r hr;rw[Ue,avw] at hr;split at hr
    ·rename_i hi
     have Bp:i<zs.length:=ah;rw[au5 Bp] at hr;simp only[ave,au4] at hr;exact⟨hi,by rw[<- hr,List.getD_eq_getElem?_getD,au5 Bp];rfl⟩
    ·simp at hr
   refine⟨zs.take QL,lits .i64 (zs.drop QL),.inr hd',fun n hn=>hI n (awm hn),.slice b o QL ye 1 _ (fun i j=>.int .i64 (zs.getD i 0)) ?_ hlc ?_ ?_ ?_⟩
   ·rw[ma,avU];omega
   ·intro i r hr
    rw[(z8 i r hr).2];rfl
   ·intro i j r x hr hx
    obtain⟨hi,rfl⟩:=z8 i r hr;have hj:j=0:=by
     cases j with
     | zero=>rfl
     | succ j=>simp at hx
    subst hj;have BT:=di i ah;have Tt:(Addr.mk b o none).add i=⟨b,o+i*1+0,none⟩:=by
     unfold Addr.add;split
     ·rename_i h0;subst h0;simp
     ·simp
    have gV:W.cell? ⟨b,o+i*1+0,none⟩=some (.int .i64 (zs.getD i 0)):=by rw[<- Tt];exact BT
    exact⟨.inl ⟨_,gV,rfl,fun n hn=>by cases hn⟩,gV,rfl⟩
   ·intro i j r x hr hx
    obtain⟨hi,rfl⟩:=z8 i r hr;cases j with
    | zero =>
     simp only[avk,au4] at hx;subst hx;exact .int _ _
    | succ j=>simp at hx
end
def wo(W:World)(g:Nat)(xs:List AV):Prop :=
 (∃ ty,sy W g ty xs.length)/\∀ (j:Nat) (x:AV),xs[j]?=some x->∃ v,W.cell? ⟨g,j,none⟩=some v/\PR (mo W).S W v x/\∀ n,v≠.int .u8 n
def Rr{W:World}(h:∀ g,G g≠[]->wo W g (G g)):a8 G W.heap.size [] (mo W) W:=by
 refine akM (fun g j x hx=>?_) (fun g hg=>(h g hg).1)
 exact (h g (fun h=>by rw[h] at hx;simp at hx)).2 j x hx
def Aw{P:Program}{W:World}{name:String}{cs:Array Value}(hg:P.globalNamed name=some g)(hv:W.var? P name=some cs)(hl:cs.size=xs.length)
  (h:∀ (j:Nat) (v:Value) (x:AV),cs[j]?=some v->xs[j]?=some x->PR (mo W).S W v x/\∀ n,v≠.int .u8 n):wo W g xs:=by
 have hv0:=hv;simp only[World.var?,hg,au9] at hv;refine⟨?_,fun j x hx=>?_⟩
 ·split at hv
  ·rename_i C ty fr hC
   injection hv with hv
   exact⟨ty,C,fr,hC,by rw[hv,hl]⟩
  ·cases hv
 ·have aZ:j<cs.size:=by rw[hl];exact (au7.1 hx).1
  exact⟨cs[j],by rw[World.var?_cell hg hv0 j,avh aZ],h j _ x (avh aZ) hx⟩
def yY{P:Program}{W:World}{n:String}{d:DataW Unit} : ∀ {l:List (String × DataW Unit)} {ps:List MemPlace},DataW.LaidVars P W l ps->(n,d)∈l ->
  ∃ g t cs fuel p,P.globalNamed n=some g/\(P.globals[g]?).map (·.type)=some t/\W.var? P n=some cs/\DataW.trod (fun _=>()) P W 0 (fun _=>true) false fuel t cs.toList=some (d,p)/\∀ x∈MemPlace.row ⟨g,0,none⟩ cs.size,x∈ps
 | [],_,_,hm=>(avQ hm).elim
 | (n',d') :: r,ps,⟨g,t,cs,fuel,p,q,h1,h2,h3,h4,hr,he⟩,hm=>by
  rcases avs.1 hm with hm|hm
  ·injection hm with e1 e2
   subst e1 e2;exact⟨g,t,cs,fuel,p,h1,h2,h3,h4,fun x hx=>by rw[he];exact awF _ (awF _ hx)⟩
  ·obtain⟨g',t',cs',ahC,p',k1,k2,k3,k4,k5⟩:=yY hr hm
   exact⟨g',t',cs',ahC,p',k1,k2,k3,k4,fun x hx=>by rw[he];exact axl _ (k5 x hx)⟩
def Gw{P:Program}{W:World}{n:String}{d:DataW Unit}{l:List (String × DataW Unit)}(h:laidMetH P l W)(hm:(n,d)∈l)(hd:d.handleName?.isNone=true) :
  ∃ g t cs fuel p,P.globalNamed n=some g/\(P.globals[g]?).map (·.type)=some t/\W.var? P n=some cs/\DataW.trod (fun _=>()) P W 0 (fun _=>true) false fuel t cs.toList=some (d,p) /\
   ∀ j u v,j<cs.size->W.cell? ⟨g,j,none⟩=some (.iface u v)->Value.okWide P W .any 0 u v:=by
 have key:∀ l',laidMet P l' W->(n,d)∈l'->∃ g t cs fuel p,P.globalNamed n=some g/\(P.globals[g]?).map (·.type)=some t/\W.var? P n=some cs/\DataW.trod (fun _=>()) P W 0 (fun _=>true) false fuel t cs.toList=some (d,p) /\
   ∀ j u v,j<cs.size->W.cell? ⟨g,j,none⟩=some (.iface u v)->Value.okWide P W .any 0 u v:=by
  rintro l' ⟨ps,hv,_,ri⟩ RE
  obtain⟨g,t,cs,fuel,p,h1,h2,h3,h4,h5⟩:=yY hv RE;exact⟨g,t,cs,fuel,p,h1,h2,h3,h4,fun j u v hj hc=>(ri g j (h5 _ (by simp only[MemPlace.row];simpa using hj))).2 u v hc⟩
 unfold laidMetH at h;split at h
 ·exact key _ h hm
 ·exact key _ h.1 (axn.2 ⟨hm,hd⟩)
def yZ{P:Program}{W:World}{n:String}{d:DataW Unit}{l:List (String × DataW Unit)}(h:laidMetH P l W)(hm:(n,d)∈l)(hd:d.handleName?.isNone=true) :
  ∃ g t cs fuel p,P.globalNamed n=some g/\(P.globals[g]?).map (·.type)=some t/\W.var? P n=some cs/\DataW.trod (fun _=>()) P W 0 (fun _=>true) false fuel t cs.toList=some (d,p):=by
 obtain⟨g,t,cs,fuel,p,h1,h2,h3,h4,_⟩:=Gw h hm hd;exact⟨g,t,cs,fuel,p,h1,h2,h3,h4⟩
def Kt{cs:List Value}{i:Nat}{v:Value}(h:(cs.drop (i*1)).take 1=[v]):cs[i]?=some v:=by
 have:((cs.drop (i*1)).take 1)[0]?=some v:=by rw[h];rfl
 simpa [avw,av9] using this
def K6{P:Program}{W:World}{name:String}{l:List (String × DataW Unit)}{n:Nat}{t e:TypeId}(h:laidMetH P l W)(hm:(name,.agg (ss.map fun s=>.lit (.string s)))∈l)
  (hg:P.globalNamed name=some g) (Qs:(P.globals[g]?).map (·.type)=some t) (ht:P.underlying t=some (.array n e)) (he:P.underlying e=some .string) (hce:P.cellsOf e=1) (hct:P.cellsOf t=n):wo W g (ss.map .str):=by
 obtain⟨g',t',cs,fuel,p,h1,h2,h3,h4⟩:=yZ h hm rfl;obtain rfl:=avS (hg.symm.trans h1);obtain rfl:=avS (Qs.symm.trans h2);obtain⟨xs,m,rfl,hx,hlen,hn,Gg⟩:=DataW.trod_array ht h4;injection hx with hx hp
 injection hx with hx
 have qv:ss.length=n:=by
  have:=awt List.length hx
  simpa [hn] using this
 refine Aw hg h3 (by rw[List.length_map,qv,<- hct,<- hlen];exact (axO).symm) fun j v x hv ui=>?_
 have hj:j<n:=by
  have:=(au7.1 ui).1
  simpa [qv] using this
 have Bq:=Gg j hj;rw[hce] at Bq;rw[au5 (show j<xs.length by omega)] at Bq
 obtain⟨s,h5,h6,_⟩:=DataW.trod_string he Bq;have oT:cs.toList[j]?=some v:=by rw[avP];exact hv
 rw[Kt h5] at oT;injection oT with oT
 have h7:(ss.map fun s=>(DataW.lit (.string s):DataW Unit))[j]?=some (.lit (.string s.data.toList)):=by
  rw[hx,List.getElem?_map,au5 (show j<xs.length by omega),h6];rfl
 rw[List.getElem?_map] at h7 ui;cases hs:ss[j]? with
 | none=>rw[hs] at ui;cases ui
 | some b =>
  rw[hs] at h7 ui;simp only[ave,au4,DataW.lit.injEq,Lit.string.injEq] at h7 ui;subst ui oT;exact⟨.str _ _ h7.symm,fun n hn=>by cases hn⟩
def Wr{P:Program}{W:World}{name:String}{l:List (String × DataW Unit)}{k:IntKind}{zs:List Int}{n:Nat}{t e:TypeId}(hk:k≠.u8)(h:laidMetH P l W)(hm:(name,.agg (zs.map fun z=>.lit (.int k z)))∈l)
  (hg:P.globalNamed name=some g) (Qs:(P.globals[g]?).map (·.type)=some t) (ht:P.underlying t=some (.array n e)) (he:P.underlying e=some (.int k)) (hce:P.cellsOf e=1) (hct:P.cellsOf t=n):wo W g (zs.map (.int k)):=by
 obtain⟨g',t',cs,fuel,p,h1,h2,h3,h4⟩:=yZ h hm rfl;obtain rfl:=avS (hg.symm.trans h1);obtain rfl:=avS (Qs.symm.trans h2);have iL:=Lib.cells_of_tab ht he hce hct h4;have kj:cs.size=zs.length:=by rw[<- axO,iL,List.length_map]
 refine Aw hg h3 (by rw[List.length_map,kj]) fun j v x hv hx=>?_
 rw[<- avP,iL] at hv;rw[List.getElem?_map] at hv hx;cases hz:zs[j]? with
 | none=>rw[hz] at hv;cases hv
 | some z =>
  rw[hz] at hv hx;simp only[ave,au4] at hv hx;subst hv hx;exact⟨.int _ _,fun n hn=>by injection hn with h1 h2;exact hk h1⟩
def Z9{P:Program}{W:World}{name nm:String}{l:List (String × DataW Unit)}{d:DataW Unit}{t te:TypeId}{ms:Array (String × TypeId)}(h:laidMetH P l W)(hm:(name,.iface nm d)∈l)
  (hd:(DataW.iface nm d).handleName?.isNone=true) (hg:P.globalNamed name=some g) (Qs:(P.globals[g]?).map (·.type)=some t) (ht:P.underlying t=some (.interface ms)) (bX:∀ u,P.typeName? 3 u=some nm->u=te)
  (iC:∀ v,Value.okWide P W .any 0 te v->v.oneCell'=true):wo W g [.iface te .any]:=by
 obtain⟨g',t',cs,fuel,p,h1,h2,h3,h4,ri⟩:=Gw h hm hd;obtain rfl:=avS (hg.symm.trans h1);obtain rfl:=avS (Qs.symm.trans h2);cases fuel with
 | zero=>simp[DataW.trod] at h4
 | succ fuel =>
  unfold DataW.trod at h4;rw[ht] at h4;split at h4<;>try (rename_i hh _;cases hh;done)
  all_goals first|(simp_all;done)|skip
  rename_i u v iL hh;split at h4
  ·cases h4
  ·rename_i nm' hn
   simp only[au2,au8,DataW.iface.injEq] at h4;obtain⟨⟨d',p'⟩,h5,⟨rfl,rfl⟩,_⟩:=h4;have hu:=bX u hn;subst hu;have TC:cs=#[.iface u v]:=by
    cases cs;simp_all
   subst TC;refine Aw hg h3 rfl fun j v' x hv hx=>?_
   cases j with
   | zero =>
    simp only[avC,avk,au4] at hv hx;subst hv hx;exact⟨.iface _ _ _ (.any _ (iC _ (ri 0 _ _ ag (by rw[World.var?_cell hg h3 0];rfl)))),fun n hn=>by cases hn⟩
   | succ j=>simp at hx
  ·cases h4
def Nt{P:Program}{W:World}{name:String}{l:List (String × DataW Unit)}{t e:TypeId}(h:laidMetH P l W)(hm:(name,.slice (ss.map fun s=>.lit (.string s)) [])∈l)
  (hg:P.globalNamed name=some g) (Qs:(P.globals[g]?).map (·.type)=some t) (ht:P.underlying t=some (.slice e)) (he:P.underlying e=some .string) (hce:P.cellsOf e=1) (dk:0<ss.length):wo W g [.slice (strs ss) false]:=by
 obtain⟨g',t',cs,fuel,p,h1,h2,h3,h4⟩:=yZ h hm rfl;obtain rfl:=avS (hg.symm.trans h1);obtain rfl:=avS (Qs.symm.trans h2);obtain⟨a,cap,iL,hlc,Gg⟩:=open_row ht hce h4;rw[List.length_map] at iL hlc;have TC:cs=#[.slice (some a) ss.length cap]:=by cases cs;simp_all
 subst TC;refine Aw hg h3 rfl fun j v x hv hx=>?_
 cases j with
 | succ j=>simp at hx
 | zero =>
  simp only[avC,avk,au4] at hv hx;subst hv hx;have iz:∀ i,∀ s,ss[i]?=some s->∃ b:ByteArray,b.data.toList=s/\W.cell? (a.add i)=some (.string b):=by
   intro i s hs;obtain⟨v,n,q,k1,k2⟩:=Gg i (.lit (.string s)) (by rw[List.getElem?_map,hs];rfl)
   obtain⟨b,k3,k4,_⟩:=DataW.trod_string he k2;simp only[au8,DataW.lit.injEq,Lit.string.injEq,awe,av'] at k3 k4;subst k3;exact⟨b,k4.1.symm,k1⟩
  obtain⟨b,o,sb⟩:=a;have hsb:sb=none:=by
   obtain⟨s0,_,k2⟩:=iz 0 ss[0] (au5 dk);have e0:(Addr.mk b o sb).add 0=⟨b,o,sb⟩:=by simp[Addr.add]
   rw[e0] at k2;cases sb with
   | none=>rfl
   | some z =>
    unfold World.cell? at k2;split at k2
    ·simp at k2
    ·cases k2
  subst hsb;have z8:∀ (i:Nat) (r:List AV),(strs ss)[i]?=some r->∃ s,ss[i]?=some s/\r=[.str s]:=by
   intro i r hr;rw[strs,List.getElem?_map] at hr;cases hk:ss[i]? with
   | none=>rw[hk] at hr;cases hr
   | some s=>rw[hk] at hr;injection hr with hr;exact⟨s,rfl,hr.symm⟩
  have mA:∀ i s,ss[i]?=some s->∃ B:ByteArray,W.cell? ⟨b,o+i*1+0,none⟩=some (.string B)/\B.data.toList=s:=by
   intro i s hs;obtain⟨B,k1,k2⟩:=iz i s hs;have Tt:(Addr.mk b o none).add i=⟨b,o+i*1+0,none⟩:=by
    unfold Addr.add;split
    ·rename_i h0;subst h0;simp
    ·simp
   rw[Tt] at k2;exact⟨B,k2,k1⟩
  refine⟨.slice b o _ cap 1 _ (fun i j=>(W.cell? ⟨b,o+i*1+0,none⟩).getD .nilIface) (by rw[strs,List.length_map]) hlc ?_ ?_ ?_,fun n hn=>by cases hn⟩
  ·intro i r hr
   obtain⟨s,_,rfl⟩:=z8 i r hr;rfl
  ·intro i j r x hr hx
   obtain⟨s,hs,rfl⟩:=z8 i r hr;cases j with
   | succ j=>simp at hx
   | zero =>
    obtain⟨B,k1,_⟩:=mA i s hs;rw[k1];exact⟨.inl ⟨_,k1,rfl,fun n hn=>by cases hn⟩,rfl,rfl⟩
  ·intro i j r x hr hx
   obtain⟨s,hs,rfl⟩:=z8 i r hr;cases j with
   | succ j=>simp at hx
   | zero =>
    obtain⟨B,k1,k2⟩:=mA i s hs;rw[k1];simp only[avk,au4] at hx;subst hx;exact .str _ _ k2
def rowOf(q:Lit × DataW Unit):List AV :=
 match q with
 | (.string k,.agg [.lit (.int .i64 a),.lit (.int .i64 b)])=>[.str k,.int .i64 a,.int .i64 b]
 | _=>[]
def Wq{P:Program}{W:World}{name:String}{l:List (String × DataW Unit)}{L:List (Lit × DataW Unit)}{t k e:TypeId}{f0 f1:Field}(h:laidMetH P l W)(hm:(name,.map L)∈l)
  (hg:P.globalNamed name=some g) (Qs:(P.globals[g]?).map (·.type)=some t) (ht:P.underlying t=some (.map k e)) (hk:P.underlying k=some .string) (he:P.underlying e=some (.struct #[f0,f1]))
  (hce:P.cellsOf e=2) (hf0:P.underlying f0.type=some (.int .i64)) (hf1:P.underlying f1.type=some (.int .i64)) (Ty:P.cellsOf f0.type=1) (hc1:P.cellsOf f1.type=1) (ho0:f0.offset=0) (ho1:f1.offset=1)
  (hL:∀ q∈L,∃ k a b,q=(.string k,.agg [.lit (.int .i64 a),.lit (.int .i64 b)])):wo W g [.mz 1 false true (L.map rowOf)]:=by
 obtain⟨g',t',cs,fuel,p,h1,h2,h3,h4⟩:=yZ h hm rfl;obtain rfl:=avS (hg.symm.trans h1);obtain rfl:=avS (Qs.symm.trans h2)
 rcases WideElems.open_map ht h4 with ⟨_,hx⟩|⟨b,es,ck,n,rfl,iL,hb,_,F,hx⟩
 ·simp at hx
 have TC:cs=#[.map (some b)]:=by cases cs;simp_all
 subst TC;injection hx with hx hp
 injection hx with hx
 have Gn:(es.toList.map (WideElems.rg P k (WideElems.elemAt (fun _=>()) P W 0 (fun _=>true) false n e))).Perm L:=by rw[hx];exact (WideShapes.sorted_perm _).symm
 have each:∀ x∈es.toList,∃ (s:ByteArray) (a c:Int),x.key=.string s/\x.val=.agg #[.int .i64 a,.int .i64 c]/\rowOf (WideElems.rg P k (WideElems.elemAt (fun _=>()) P W 0 (fun _=>true) false n e) x)=[.str s.data.toList,.int .i64 a,.int .i64 c]:=by
  intro x hxm;obtain⟨k0,a,c,hq⟩:=hL _ (Gn.mem_iff.1 (aw9 hxm));obtain⟨y,hy⟩:=F.reads x hxm;rw[WideElems.rg_of hy] at hq ⊢;subst hq;have AY:=WideElems.rd_key hy;obtain⟨z,hz,hz2⟩:=WideElems.rd_val hy;unfold WideElems.elemAt at hz;split at hz
  ·rename_i AW
   obtain⟨y0,y1,m,rfl,hl,g0,g1⟩:=ChangeShapes.trod_struct2 he hz;rw[Ty,ho0] at g0;rw[hc1,ho1] at g1;have js:∃ c0 c1,x.val=.agg #[c0,c1]:=by
    unfold Value.formed at AW;rw[he] at AW;cases hv:x.val<;>rw[hv] at AW hl<;>simp_all
    rename_i cs;obtain⟨cl⟩:=cs
    match cl,AW with
    | [c0,c1],_=>exact⟨c0,c1,rfl⟩
   obtain⟨c0,c1,js⟩:=js;rw[js] at g0 g1;simp only[Value.cells,List.drop_zero,avR,avY,awK] at g0 g1;obtain⟨a',e1,e2,_⟩:=DataW.trod_int hf0 g0;obtain⟨c',e3,e4,_⟩:=DataW.trod_int hf1 g1;simp only[awe,av'] at e1 e3;subst e1 e3 e2 e4;simp only[DataW.agg.injEq,awe,av',DataW.lit.injEq,Lit.int.injEq,awX] at hz2;obtain⟨rfl,rfl⟩:=hz2;have amS:∃ s:ByteArray,x.key=.string s/\s.data.toList=k0:=by
    cases WY:x.key<;>simp[keyOf,hk,mapKey,WY] at AY
    exact⟨_,rfl,AY.2⟩
   obtain⟨s,k1,rfl⟩:=amS;exact⟨s,_,_,k1,js,rfl⟩
  ·cases hz
 refine Aw hg h3 rfl fun j v x hv ui=>?_
 cases j with
 | succ j=>simp at ui
 | zero =>
  simp only[avC,avk,au4] at hv ui;subst hv ui;refine⟨.mz b 1 false true _ ((es.toList.map (WideElems.rg P k (WideElems.elemAt (fun _=>()) P W 0 (fun _=>true) false n e))).map rowOf) es ck
   (fun i j=>match es[i]? with|some x=>(match j with|0=>x.key|j+1=>(x.val.cells[j]?).getD .nilIface)|none=>.nilIface) (.inr ⟨_,_,hb⟩) hb ⟨ag,?_,?_,?_⟩ (Gn.map rowOf) ?_,fun n hn=>by cases hn⟩
  ·intro i x nY
   exact ((stamped_iff es ck).1 F.stamped).1 x (by have:=awY nY;simpa using this)
  ·intro i j x y nY hy1 W5
   have Qn:=((stamped_iff es ck).1 F.stamped).2.1;have hi:i<(es.toList.map (·.born)).length:=by
    have:=(avc.1 nY).1
    simpa using this
   refine (List.getElem?_inj hi Qn).1 ?_;rw[List.getElem?_map,List.getElem?_map,avP,avP,nY,hy1];simp only[ave,W5]
  ·intro i x r nY hr
   have hxm:x∈es.toList:=by
    have:=awY nY
    simpa using this
   obtain⟨s,a,c,k1,k2,k3⟩:=each x hxm;rw[awh,List.getElem?_map,avP,nY] at hr;simp only[ave,axQ,au4] at hr;rw[k3] at hr;subst hr;refine⟨ag,fun _=>rfl,fun h=>(by cases h),?_,?_⟩
   ·simp[uf,nY]
   ·simp[uf,nY,k2,Value.cells,List.range_succ]
  ·intro i j r x hr nY
   rw[awh,List.getElem?_map,avP] at hr;cases D9:es[i]? with
   | none=>rw[D9] at hr;cases hr
   | some y =>
    rw[D9] at hr;have hxm:y∈es.toList:=by
     have:=awY D9
     simpa using this
    obtain⟨s,a,c,k1,k2,k3⟩:=each y hxm;simp only[ave,axQ,au4] at hr;rw[k3] at hr;subst hr
    match j with
    | 0=>simp only[avk,au4] at nY;subst nY;simp only[k1];exact .str _ _ rfl
    | 1=>simp only[avk,avI,au4] at nY;subst nY;simp only[k2,Value.cells];exact .int _ _
    | 2=>simp only[avk,avI,au4] at nY;subst nY;simp only[k2,Value.cells];exact .int _ _
    | j+3=>simp at nY
end
end Go.Abs
namespace Go.Proofs.YtbadnagdfefbnaaGreatDoor
open Go Go.Abs Go.Proofs Go.RowKit
def qN:List (String × DataW Unit):=Rows.syntaxErrorsUptoRow.laid
def QI{W:World}(h:laidMetH Tryz.prog qN W):wo W 1 (Bg 1):=by
 obtain⟨g,t,cs,fuel,p,hg,ht,hv,hd⟩:=h.funcs (n:= "splicery/lex.kinds") (d:=.agg [.agg [.iface "func" (.lit (.string [115,112,108,105,99,101,114,121,47,108,101,120,46,108,101,116,116,101,114])),.iface "func" (.lit (.string [115,112,108,105,99,101,114,121,47,108,101,120,46,101,105,116,104,101,114]))],.agg [.iface "func" (.lit (.string [115,112,108,105,99,101,114,121,47,108,101,120,46,100,105,103,105,116])),.iface "func" (.lit (.string [115,112,108,105,99,101,114,121,47,108,101,120,46,100,105,103,105,116]))]]) (by simp[qN,Rows.syntaxErrorsUptoRow,Rows.laid_splicery_lex_kinds])
 have RB:Tryz.prog.globalNamed "splicery/lex.kinds"=some 1:=by kernel_rfl
 have ht0:(Tryz.prog.globals[1]?).map (·.type)=some 157:=by kernel_rfl
 obtain rfl:=avS (RB.symm.trans hg);obtain rfl:=avS (ht0.symm.trans ht);have u97:Tryz.prog.underlying 157=some (.array 2 156):=by kernel_rfl
 have u96:Tryz.prog.underlying 156=some (.array 2 155):=by kernel_rfl
 have c96:Tryz.prog.cellsOf 156=2:=by kernel_rfl
 have c97:Tryz.prog.cellsOf 157=4:=by kernel_rfl
 have c91:Tryz.prog.cellsOf 155=1:=by kernel_rfl
 obtain⟨xs,m,rfl,hx,hlen,hn,Gg⟩:=DataW.trod_array u97 hd;injection hx with hx hp
 rw[c97] at hlen;obtain⟨l⟩:=cs;simp only at hlen Gg hv
 match l,hlen with
 | [v0,v1,v2,v3],_ =>
 match xs,hn with
 | [x0,x1],_ =>
 have e0:=Gg 0 (by omega)
 have e1:=Gg 1 (by omega)
 simp only[c96,axd,List.drop_zero,avR,avY,avk,avI,axg,awK] at e0 e1;simp only[DataW.funcsOut,DataW.funcsOutAll,avm,avN,DataW.agg.injEq,awe,av',aw6,awT] at hx;obtain⟨D8,nY⟩:=hx;obtain⟨ys,k,rfl,hy,_,hyn,aiW⟩:=DataW.trod_array u96 e0;obtain⟨zs,k',tV,hz,_,hzn,ai0⟩:=DataW.trod_array u96 e1;rw[hy] at D8;rw[hz] at nY
 match ys,hyn with
 | [y0,y1],_ =>
 match zs,hzn with
 | [z0,z1],_ =>
 have f0:=aiW 0 (by omega)
 have f1:=aiW 1 (by omega)
 have g0:=ai0 0 (by omega)
 have g1:=ai0 1 (by omega)
 simp only[c91,axd,List.drop_zero,avR,avY,avk,avI,axg,awK] at f0 f1 g0 g1;simp only[avm,avN,DataW.agg.injEq,awe,av'] at D8 nY;obtain⟨a0,q0⟩:=y0;obtain⟨a1,q1⟩:=y1;obtain⟨b0,r0⟩:=z0;obtain⟨b1,r1⟩:=z1;simp only at D8 nY;obtain⟨rfl,rfl⟩:=D8;obtain⟨rfl,rfl⟩:=nY;obtain rfl:=func_of_trod (f0:=129) (show Tryz.prog.underlying 155=some (.func #[5] #[4] false) by kernel_rfl) (by kernel_rfl) f0
 obtain rfl:=func_of_trod (f0:=220) (show Tryz.prog.underlying 155=some (.func #[5] #[4] false) by kernel_rfl) (by kernel_rfl) f1
 obtain rfl:=func_of_trod (f0:=221) (show Tryz.prog.underlying 155=some (.func #[5] #[4] false) by kernel_rfl) (by kernel_rfl) g0
 obtain rfl:=func_of_trod (f0:=221) (show Tryz.prog.underlying 155=some (.func #[5] #[4] false) by kernel_rfl) (by kernel_rfl) g1
 refine Aw RB hv rfl fun j v x hj hx=>?_
 match j with
 | 0=>simp only[avC,avk,au4,Bg] at hj hx;subst hj hx;exact⟨.func _,fun n h=>by cases h⟩
 | 1=>simp only[avC,avk,avI,au4,Bg] at hj hx;subst hj hx;exact⟨.func _,fun n h=>by cases h⟩
 | 2=>simp only[avC,avk,avI,au4,Bg] at hj hx;subst hj hx;exact⟨.func _,fun n h=>by cases h⟩
 | 3=>simp only[avC,avk,avI,au4,Bg] at hj hx;subst hj hx;exact⟨.func _,fun n h=>by cases h⟩
 | k+4=>simp at hj
def Js{W:World}(h:laidMetH Tryz.prog qN W){name:String}{d:DataW Unit}{g:Nat}(hm:(name,.iface "*errors.errorString" (.ptr d))∈qN)(hg:Tryz.prog.globalNamed name=some g)
  (Qs:(Tryz.prog.globals[g]?).map (·.type)=some 136):wo W g [.iface G4 .any]:=by
 refine Z9 (nm:= "*errors.errorString") h hm (by rfl) hg Qs (show Tryz.prog.underlying 136=some (.interface #[("Error",90)]) by kernel_rfl) (fun u hu=>typeName_ptr_named (nm:= "errors.errorString") (tp:=244) (by kernel_rfl) (by kernel_rfl) (by decide) u hu) ?_
 intro v hv;simp only[Value.okWide,show Tryz.prog.underlying G4=some (.pointer 246) by kernel_rfl,Cell.okWide,Cell.ok] at hv
 cases v<;>simp_all [Value.oneCell']
def opsL:List (Lit × DataW Unit):=[(.string [37],.agg [.lit (.int .i64 4),.lit (.int .i64 6)]),(.string [42],.agg [.lit (.int .i64 2),.lit (.int .i64 6)]),(.string [43],.agg [.lit (.int .i64 0),.lit (.int .i64 5)]),(.string [45],.agg [.lit (.int .i64 1),.lit (.int .i64 5)]),(.string [47],.agg [.lit (.int .i64 3),.lit (.int .i64 6)]),(.string [60],.agg [.lit (.int .i64 5),.lit (.int .i64 3)]),(.string [61,61],.agg [.lit (.int .i64 6),.lit (.int .i64 3)]),(.string [97,110,100],.agg [.lit (.int .i64 7),.lit (.int .i64 2)]),(.string [106,111,105,110],.agg [.lit (.int .i64 10),.lit (.int .i64 4)]),(.string [111,114],.agg [.lit (.int .i64 8),.lit (.int .i64 1)])]
def aaa{W:World}(h:laidMetH Tryz.prog qN W):∀ g,A.aY g≠[]->wo W g (A.aY g):=by
 intro g hg
 match g with
 | 0=>exact Nt (ss:=dJ) (name:= "splicery/syntax.kinds") h (avb (i:=9) rfl) (g:=0) (t:=25) (e:=9) (by kernel_rfl) (by kernel_rfl) (by kernel_rfl) (by kernel_rfl) (by kernel_rfl) (by decide)
 | 1=>exact QI h
 | 2=>exact K6 (ss:=mD) (name:= "splicery/lex.signs") h (avb (i:=5) rfl) (g:=2) (n:=18) (t:=158) (e:=9) (by kernel_rfl) (by kernel_rfl) (by kernel_rfl) (by kernel_rfl) (by kernel_rfl) (by kernel_rfl)
 | 3=>exact K6 (ss:=fF) (name:= "splicery/lex.keywords") h (avb (i:=7) rfl) (g:=3) (n:=27) (t:=187) (e:=9) (by kernel_rfl) (by kernel_rfl) (by kernel_rfl) (by kernel_rfl) (by kernel_rfl) (by kernel_rfl)
 | 4=>exact Wq (L:=opsL) (name:= "splicery/syntax.operators") h (avb (i:=8) rfl) (g:=4) (t:=205) (k:=9) (e:=203) (f0:=⟨ "op",3,0,false,"","splicery/syntax",0⟩) (f1:=⟨ "level",3,1,false,"","splicery/syntax",8⟩) (by kernel_rfl) (by kernel_rfl) (by kernel_rfl) (by kernel_rfl) (by kernel_rfl) (by kernel_rfl) (by kernel_rfl) (by kernel_rfl) (by kernel_rfl) (by kernel_rfl) (by rfl) (by rfl) (by intro q hq;simp only[opsL,avs,avQ,aww] at hq;rcases hq with h|h|h|h|h|h|h|h|h|h<;>exact⟨_,_,_,h⟩)
 | 5=>exact absurd rfl hg
 | 6=>exact Wr (k:=.u64) (zs:=Lib.pow10Tab) (name:= "internal/strconv.uint64pow10") (fun h=>by cases h) h (avb (i:=2) rfl) (g:=6) (n:=20) (t:=219) (e:=207) (by kernel_rfl) (by kernel_rfl) (by kernel_rfl) (by kernel_rfl) (by kernel_rfl) (by kernel_rfl)
 | 7=>exact Js h (name:= "strconv.ErrSyntax") (d:=.agg [.lit (.string [105,110,118,97,108,105,100,32,115,121,110,116,97,120])]) (avb (i:=4) rfl) (by kernel_rfl) (by kernel_rfl)
 | 8=>exact Js h (name:= "strconv.ErrRange") (d:=.agg [.lit (.string [118,97,108,117,101,32,111,117,116,32,111,102,32,114,97,110,103,101])]) (avb (i:=3) rfl) (by kernel_rfl) (by kernel_rfl)
 | k+9=>exact absurd rfl hg
def aoJ{W:World}(h:laidMetH Tryz.prog qN W):a8 A.aY W.heap.size [] (mo W) W:=Rr (aaa h)
end Go.Proofs.YtbadnagdfefbnaaGreatDoor
end
