/-
  A part of the proof of PrintLossless: AbsClose, AbsSeatU.
-/
import Derived.ProofKit
import Derived.LaidMore
import Derived.Carry
import Derived.ChangeMaps5
import Derived.OpenShut
import Derived.Lib.LaidTab
import Derived.Deep.Strs
import Derived.Test.YtnhpoddlmjpapaaGreatDoorCards
import Derived.Test.YtnhpoddlmjpapaaGreatDoorTie
import Derived.Test.YtnhpoddlmjpapaaGreatDoorQ17
set_option linter.unusedSimpArgs false
set_option linter.unusedVariables false
set_option linter.defProp false
set_option maxRecDepth 100000
noncomputable section
namespace Go.Abs
open Go Go.RowKit Go.ChangeShapes Go.WideShapes Go.ChangeMaps Go.MapKept
variable {ss:List (List UInt8)}{l:List (String × DataW Unit)}{xs:List AV}{g:Nat}{G:Nat->List AV}{W':World}
section
def ak7{n:Int}(h:(Lit.int .i64 n).wf=true):BZ n:=by
 have h1:IntKind.i64.min=-9223372036854775808:=rfl;have h2:IntKind.i64.max=9223372036854775807:=rfl;simp only[Lit.wf,auT,au1,h1,h2] at h;exact h
def lT(W:World):Gh:={ S:=fun b o=>(∃ v,W.cell? ⟨b,o,none⟩=some v/\v.oneCell'=true/\∀ n,v≠.int .u8 n)\/(∃ E ck,W.heap[b]?=some (.map E ck)),κ:=fun _=>.none,ρ:=fun _=>0 }
def W6{W:World}{b o:Nat}{v:Value}(h:W.cell? ⟨b,o,none⟩=some v):b<W.heap.size:=by
 rcases axf b W.heap.size with h'|h'
 ·exact h'
 ·simp[World.cell?,Array.getElem?_eq_none h'] at h
def ak9{W:World}(hg:∀ (g j:Nat) (x:AV),(G g)[j]?=some x->∃ v,W.cell? ⟨g,j,none⟩=some v/\PR (lT W).S W v x/\∀ n,v≠.int .u8 n)
  (ht:∀ g,G g≠[]->∃ ty,rS W g ty (G g).length):bf G W.heap.size [] (lT W) W where
 size:=Nat.le_refl _
 pN:=fun b o h=>by
  rcases h with ⟨v,h,_⟩|⟨E,ck,h⟩
  ·exact W6 h
  ·exact (auZ.1 h).1
 qN:=fun b h=>absurd rfl h
 aW:=fun g j x h=>by
  obtain⟨v,h1,h2,h3⟩:=hg g j x h;exact⟨v,h1,h2,.inl ⟨v,h1,h2.gm,h3⟩⟩
 boxes:=fun loc ty cs h=>by simp at h
 refs:=fun loc ty cs h=>by simp at h
 Bq:=ht
 bytes:=fun b o n h hc=>by
  rcases h with ⟨v,h,_,h3⟩|⟨E,ck,h⟩
  ·rw[h] at hc
   injection hc with hc
   exact absurd hc (h3 n)
  ·simp only[World.cell?,h] at hc
   cases hc
 more:=fun loc o h=>by simp at h
 types:=fun loc ty cs h=>by simp at h
def WJ{gh:Gh}{n:Nat}{w:World}{p:bL}{v:Value}{b:Bool}(h:CR gh n w p v (.bool b)):v=.bool b:=by
 rcases h with h|⟨e,h,_⟩
 ·cases h with
  | plain v x h=>cases h;rfl
 ·cases h
def YB{P:Program}{A:AP}(hA:lL P A){f:FuncId}(h:aj A f xs []=some (.bool true,none)){W:World}(hW:bf A.aW W.heap.size [] (lT W) W)
  {vs:Array Value} (hs:vs.size=xs.length) (hv:∀ (j:Nat) (v:Value) (x:AV),vs[j]?=some v->xs[j]?=some x->PR (lT W).S W v x) :
  Calls P f vs W fun e W'=>e=.returned (.bool true)/\Below W.heap.size W W':=by
 obtain⟨n,hn⟩:=o5.1 h;obtain⟨_,_,hc⟩:=zL hA n f xs [] _ _ hn;refine (hc W.heap.size (lT W) W vs hW (fun b=>.inl rfl) hs (fun j v x h1 h2=>.inl (.plain _ _ (hv j v x h1 h2)))).mono fun e W' ⟨v,bt,he,r⟩=>?_
 refine⟨by rw[he,WJ r.val],r.st.os,r.st.tape,r.st.output,r.st.size,fun k hk=>?_⟩
 obtain⟨h1,_,_⟩:=r.st.od k hk (by
  intro ht;simp only[iV,lT] at ht
  rcases ht with ⟨l,ht⟩|⟨l,j,ht⟩|⟨j,ht⟩<;>cases ht)
 rcases h1 with h1|⟨C,ty,lo,hi,lo',j8,k1,_,⟨o,m,⟨v',h2,_,h3⟩|⟨E,ck,h2⟩,hm⟩,_⟩
 ·exact h1
 rotate_left
 ·rw[k1] at h2;cases h2
 ·exfalso
  have:W.cell? ⟨k,o,none⟩=some (.int .u8 m):=by
   simp only[World.cell?,k1];exact hm
  rw[this] at h2;injection h2 with h2
  exact h3 m h2.symm
def wC{H:Type}{enc:TypeId × Value->H}{P:Program}(hl:laidOutB P=true){W:World}(hb:Below W.heap.size W W'){sp:Nat->Bool} :
  ∀ {ts:List TypeId} {vs:List Value} {ds:List (DataW H)} {ps:List MemPlace},(ts.all fun t=>P.readableRec t&&decide (t<P.types.size))=true->DataW.TrodAll enc P W 0 (fun _=>true) true ts vs ds ps ->
   (∀ x∈ps,x.block<W.heap.size)->(∀ p∈ps,sp p.block=true)->DataW.TrodAll enc P W' 0 sp true ts vs ds ps
 | [],[],[],_,_,h,_,_=>h
 | t :: ts,v :: vs,d :: ds,ps,ht,⟨p,q,h1,h2,e⟩,aZ,hs=>by
  simp only[List.all_cons,auT] at ht;exact⟨p,q,WideElems.Trod_stays hl ht.1.1 (of_decide_eq_true ht.1.2) h1 (fun x hx=>hb.same (aZ x (by rw[e];exact aww _ hx))) (fun x hx=>hs x (by rw[e];exact aww _ hx)),
   wC hl hb ht.2 h2 (fun x hx=>aZ x (by rw[e];exact awO _ hx)) (fun x hx=>hs x (by rw[e];exact awO _ hx)),e⟩
def UG{H:Type}{enc:TypeId × Value->H}{P:Program}(hl:laidOutB P=true){f:Func}{s:ChangeSpec}{W:World}{args:Array Value}{ds gs:List (DataW H)}{before:List MemPlace}{tb:TypeId}
  (hW:DataW.Whole enc P f.params.toList s.vars false W args.toList ds gs before) (hb:Below W.heap.size W W') (hv:s.vars=[])
  (hts:(f.params.toList.all fun t=>P.readableRec t&&decide (t<P.types.size))=true) (hr:f.resultTypes=#[tb]) (ht:P.underlying tb=some .bool)
  (qF:(s.fn H (ds++gs)).results=[.lit (.bool true)]) (gp:(s.fn H (ds++gs)).args=ds) (aiZ:(s.fn H (ds++gs)).vars=[]) :
  s.post enc P f false true false false W args (.bool true) W':=by
 have nL:=hW;obtain⟨p,q,hA,hV,he,hfz,Qt⟩:=hW;rw[hv] at hV;obtain⟨rfl,rfl⟩:=trodVars_none hV;have aZ:∀ x∈before,x.block<W.heap.size:=fun x hx=>by simpa using nL.lt x hx
 subst he;refine⟨ds,[],p++[],[],p,[],nL,?_,?_,?_,World.keptBut_mono (fun x hx=>hx.elim) (hb.frame fun _=>False),fun h=>by cases h⟩
 ·rw[qF,hr]
  exact trodAll_mk1 (shut_bool ht true)
 ·rw[gp]
  exact wC hl hb hts hA (fun x hx=>aZ x (aww _ hx)) (fun x hx=>by simpa using aZ x (aww _ hx))
 ·rw[aiZ,hv];rfl
section
variable {H:Type}{enc:TypeId × Value->H}{P:Program}{W:World}{sp:Nat->Bool}{hd:Bool}{b0:Nat}{t e:TypeId}{v:Value}{d:DataW H}{p:List MemPlace}
def Hm(ht:P.underlying t=some (.int .i64))(iQ:Value.okWide P W .any b0 t v)(h:DataW.Trod enc P W 0 sp hd t v d p) :
  ∃ n:Int,d=.lit (.int .i64 n)/\BZ n/\PR (lT W).S W v (.int .i64 n):=by
 obtain⟨n,rfl,rfl,rfl,hw⟩:=open_int ht iQ h;exact⟨n,rfl,ak7 hw,.int _ _⟩
def LU(ht:P.underlying t=some .string)(iQ:Value.okWide P W .any b0 t v)(h:DataW.Trod enc P W 0 sp hd t v d p) :
  ∃ l:List UInt8,d=.lit (.string l)/\PR (lT W).S W v (.str l):=by
 obtain⟨s,rfl,rfl,rfl,_⟩:=open_string ht iQ h;exact⟨_,rfl,.str _ _ rfl⟩
def DL(ht:P.underlying t=some (.slice e))(iQ:Value.okWide P W .any b0 t v):v=.slice none 0 0\/∃ b o len cap,v=.slice (some ⟨b,o,none⟩) len cap/\len<=cap:=by
 simp only[Value.okWide,ht,Cell.okWide,Cell.ok] at iQ;split at iQ
 case h_7=>exact .inl rfl
 case h_9 e' a len cap hh =>
  obtain⟨h1,_,_,h3,_⟩:=iQ;obtain⟨b,o,s⟩:=a;simp only at h3;subst h3;exact .inr ⟨b,o,len,cap,rfl,h1⟩
 all_goals first|(simp_all;done)|exact iQ.elim
def Sf(ht:P.underlying t=some (.slice e))(he:P.underlying e=some (.int .i64))(hc:P.cellsOf e=1)(iQ:Value.okWide P W .any b0 t v)(h:DataW.Trod enc P W 0 sp hd t v d p) :
  ∃ (l:List Int) (rest:List (DataW H)),((d=.nil/\l=[])\/d=.slice (lits .i64 l) rest)/\(∀ n∈l,BZ n)/\PR (lT W).S W v (.slice (ints l) false):=by
 obtain⟨fuel,hf⟩:=h
 rcases open_ints ht he hc hf with ⟨iG,hx⟩|⟨a,len,cap,zs,iG,_,hlc,_,Ua,hx,dm,hwf⟩
 ·injection hx with hd' hp
  rcases DL ht iQ with rfl|⟨b,o,len,cap,rfl,_⟩
  ·exact⟨[],[],.inl ⟨hd',rfl⟩,fun _ h=>(avE h).elim,.dq⟩
  ·simp[Value.cells] at iG
 ·injection hx with hd' hp
  rcases DL ht iQ with rfl|⟨b,o,QR,xY,rfl,_⟩
  ·simp[Value.cells] at iG
  ·simp only[Value.cells,awa,Value.slice.injEq,auR,avZ] at iG
   obtain⟨rfl,rfl,rfl⟩:=iG;have aqg:QR<=zs.length:=by rw[Ua];split<;>omega
   have hI:∀ n∈zs,BZ n:=fun n hn=>ak7 (hwf n hn)
   have zR:∀ (i:Nat) (r:List AV),(ints (zs.take QR))[i]?=some r->i<QR/\r=[.int .i64 (zs.getD i 0)]:=by
    intro i r hr;rw[Ud,avn] at hr;split at hr
    ·rename_i hi
     have Bg:i<zs.length:=ah;rw[auS Bg] at hr;simp only[au2,auR] at hr;exact⟨hi,by rw[<- hr,List.getD_eq_getElem?_getD,auS Bg];rfl⟩
    ·simp at hr
   refine⟨zs.take QR,lits .i64 (zs.drop QR),.inr hd',fun n hn=>hI n (avL hn),.slice b o QR xY 1 _ (fun i j=>.int .i64 (zs.getD i 0)) ?_ hlc ?_ ?_ ?_⟩
   ·rw[pA,avK];omega
   ·intro i r hr
    rw[(zR i r hr).2];rfl
   ·intro i j r x hr hx
    obtain⟨hi,rfl⟩:=zR i r hr;have hj:j=0:=by
     cases j with
     | zero=>rfl
     | succ j=>simp at hx
    subst hj;have BI:=dm i ah;have Tt:(Addr.mk b o none).add i=⟨b,o+i*1+0,none⟩:=by
     unfold Addr.add;split
     ·rename_i h0;subst h0;simp
     ·simp
    have gT:W.cell? ⟨b,o+i*1+0,none⟩=some (.int .i64 (zs.getD i 0)):=by rw[<- Tt];exact BI
    exact⟨.inl ⟨_,gT,rfl,fun n hn=>by cases hn⟩,gT,rfl⟩
   ·intro i j r x hr hx
    obtain⟨hi,rfl⟩:=zR i r hr;cases j with
    | zero =>
     simp only[avb,auR] at hx;subst hx;exact .int _ _
    | succ j=>simp at hx
end
def vT(W:World)(g:Nat)(xs:List AV):Prop :=
 (∃ ty,rS W g ty xs.length)/\∀ (j:Nat) (x:AV),xs[j]?=some x->∃ v,W.cell? ⟨g,j,none⟩=some v/\PR (lT W).S W v x/\∀ n,v≠.int .u8 n
def Rv{W:World}(h:∀ g,G g≠[]->vT W g (G g)):bf G W.heap.size [] (lT W) W:=by
 refine ak9 (fun g j x hx=>?_) (fun g hg=>(h g hg).1)
 exact (h g (fun h=>by rw[h] at hx;simp at hx)).2 j x hx
def Ak{P:Program}{W:World}{name:String}{cs:Array Value}(hg:P.globalNamed name=some g)(hv:W.var? P name=some cs)(hl:cs.size=xs.length)
  (h:∀ (j:Nat) (v:Value) (x:AV),cs[j]?=some v->xs[j]?=some x->PR (lT W).S W v x/\∀ n,v≠.int .u8 n):vT W g xs:=by
 have hv0:=hv;simp only[World.var?,hg,auW] at hv;refine⟨?_,fun j x hx=>?_⟩
 ·split at hv
  ·rename_i C ty fr hC
   injection hv with hv
   exact⟨ty,C,fr,hC,by rw[hv,hl]⟩
  ·cases hv
 ·have aZ:j<cs.size:=by rw[hl];exact (auU.1 hx).1
  exact⟨cs[j],by rw[World.var?_cell hg hv0 j,au' aZ],h j _ x (au' aZ) hx⟩
def yM{P:Program}{W:World}{n:String}{d:DataW Unit} : ∀ {l:List (String × DataW Unit)} {ps:List MemPlace},DataW.LaidVars P W l ps->(n,d)∈l ->
  ∃ g t cs fuel p,P.globalNamed n=some g/\(P.globals[g]?).map (·.type)=some t/\W.var? P n=some cs/\DataW.trod (fun _=>()) P W 0 (fun _=>true) false fuel t cs.toList=some (d,p)/\∀ x∈MemPlace.row ⟨g,0,none⟩ cs.size,x∈ps
 | [],_,_,hm=>(avE hm).elim
 | (n',d') :: r,ps,⟨g,t,cs,fuel,p,q,h1,h2,h3,h4,hr,he⟩,hm=>by
  rcases avi.1 hm with hm|hm
  ·injection hm with e1 e2
   subst e1 e2;exact⟨g,t,cs,fuel,p,h1,h2,h3,h4,fun x hx=>by rw[he];exact aww _ (aww _ hx)⟩
  ·obtain⟨g',t',cs',ahN,p',k1,k2,k3,k4,k5⟩:=yM hr hm
   exact⟨g',t',cs',ahN,p',k1,k2,k3,k4,fun x hx=>by rw[he];exact awO _ (k5 x hx)⟩
def Gy{P:Program}{W:World}{n:String}{d:DataW Unit}(h:laidMetH P l W)(hm:(n,d)∈l)(hd:d.handleName?.isNone=true) :
  ∃ g t cs fuel p,P.globalNamed n=some g/\(P.globals[g]?).map (·.type)=some t/\W.var? P n=some cs/\DataW.trod (fun _=>()) P W 0 (fun _=>true) false fuel t cs.toList=some (d,p) /\
   ∀ j u v,j<cs.size->W.cell? ⟨g,j,none⟩=some (.iface u v)->Value.okWide P W .any 0 u v:=by
 have key:∀ l',laidMet P l' W->(n,d)∈l'->∃ g t cs fuel p,P.globalNamed n=some g/\(P.globals[g]?).map (·.type)=some t/\W.var? P n=some cs/\DataW.trod (fun _=>()) P W 0 (fun _=>true) false fuel t cs.toList=some (d,p) /\
   ∀ j u v,j<cs.size->W.cell? ⟨g,j,none⟩=some (.iface u v)->Value.okWide P W .any 0 u v:=by
  rintro l' ⟨ps,hv,_,qE⟩ RL
  obtain⟨g,t,cs,fuel,p,h1,h2,h3,h4,h5⟩:=yM hv RL;exact⟨g,t,cs,fuel,p,h1,h2,h3,h4,fun j u v hj hc=>(qE g j (h5 _ (by simp only[MemPlace.row];simpa using hj))).2 u v hc⟩
 unfold laidMetH at h;split at h
 ·exact key _ h hm
 ·exact key _ h.1 (axe.2 ⟨hm,hd⟩)
def yN{P:Program}{W:World}{n:String}{d:DataW Unit}(h:laidMetH P l W)(hm:(n,d)∈l)(hd:d.handleName?.isNone=true) :
  ∃ g t cs fuel p,P.globalNamed n=some g/\(P.globals[g]?).map (·.type)=some t/\W.var? P n=some cs/\DataW.trod (fun _=>()) P W 0 (fun _=>true) false fuel t cs.toList=some (d,p):=by
 obtain⟨g,t,cs,fuel,p,h1,h2,h3,h4,_⟩:=Gy h hm hd;exact⟨g,t,cs,fuel,p,h1,h2,h3,h4⟩
def KF{cs:List Value}{i:Nat}{v:Value}(h:(cs.drop (i*1)).take 1=[v]):cs[i]?=some v:=by
 have:((cs.drop (i*1)).take 1)[0]?=some v:=by rw[h];rfl
 simpa [avn,avY] using this
def Lg{P:Program}{W:World}{name:String}{n:Nat}{t e:TypeId}(h:laidMetH P l W)(hm:(name,.agg (ss.map fun s=>.lit (.string s)))∈l)
  (hg:P.globalNamed name=some g) (Qx:(P.globals[g]?).map (·.type)=some t) (ht:P.underlying t=some (.array n e)) (he:P.underlying e=some .string) (hce:P.cellsOf e=1) (hct:P.cellsOf t=n):vT W g (ss.map .str):=by
 obtain⟨g',t',cs,fuel,p,h1,h2,h3,h4⟩:=yN h hm rfl;obtain rfl:=avF (hg.symm.trans h1);obtain rfl:=avF (Qx.symm.trans h2);obtain⟨xs,m,rfl,hx,hlen,hn,CN⟩:=DataW.trod_array ht h4;injection hx with hx hp
 injection hx with hx
 have ri:ss.length=n:=by
  have:=awu List.length hx
  simpa [hn] using this
 refine Ak hg h3 (by rw[List.length_map,ri,<- hct,<- hlen];exact (axI).symm) fun j v x hv tV=>?_
 have hj:j<n:=by
  have:=(auU.1 tV).1
  simpa [ri] using this
 have Bh:=CN j hj;rw[hce] at Bh;rw[auS (show j<xs.length by omega)] at Bh
 obtain⟨s,h5,h6,_⟩:=DataW.trod_string he Bh;have oG:cs.toList[j]?=some v:=by rw[avD];exact hv
 rw[KF h5] at oG;injection oG with oG
 have h7:(ss.map fun s=>(DataW.lit (.string s):DataW Unit))[j]?=some (.lit (.string s.data.toList)):=by
  rw[hx,List.getElem?_map,auS (show j<xs.length by omega),h6];rfl
 rw[List.getElem?_map] at h7 tV;cases hs:ss[j]? with
 | none=>rw[hs] at tV;cases tV
 | some b =>
  rw[hs] at h7 tV;simp only[au2,auR,DataW.lit.injEq,Lit.string.injEq] at h7 tV;subst tV oG;exact⟨.str _ _ h7.symm,fun n hn=>by cases hn⟩
def Wa{P:Program}{W:World}{name:String}{k:IntKind}{zs:List Int}{n:Nat}{t e:TypeId}(hk:k≠.u8)(h:laidMetH P l W)(hm:(name,.agg (zs.map fun z=>.lit (.int k z)))∈l)
  (hg:P.globalNamed name=some g) (Qx:(P.globals[g]?).map (·.type)=some t) (ht:P.underlying t=some (.array n e)) (he:P.underlying e=some (.int k)) (hce:P.cellsOf e=1) (hct:P.cellsOf t=n):vT W g (zs.map (.int k)):=by
 obtain⟨g',t',cs,fuel,p,h1,h2,h3,h4⟩:=yN h hm rfl;obtain rfl:=avF (hg.symm.trans h1);obtain rfl:=avF (Qx.symm.trans h2);have iG:=Lib.cells_of_tab ht he hce hct h4;have j9:cs.size=zs.length:=by rw[<- axI,iG,List.length_map]
 refine Ak hg h3 (by rw[List.length_map,j9]) fun j v x hv hx=>?_
 rw[<- avD,iG] at hv;rw[List.getElem?_map] at hv hx;cases hz:zs[j]? with
 | none=>rw[hz] at hv;cases hv
 | some z =>
  rw[hz] at hv hx;simp only[au2,auR] at hv hx;subst hv hx;exact⟨.int _ _,fun n hn=>by injection hn with h1 h2;exact hk h1⟩
def Z5{P:Program}{W:World}{name nm:String}{d:DataW Unit}{t te:TypeId}{ms:Array (String × TypeId)}(h:laidMetH P l W)(hm:(name,.iface nm d)∈l)
  (hd:(DataW.iface nm d).handleName?.isNone=true) (hg:P.globalNamed name=some g) (Qx:(P.globals[g]?).map (·.type)=some t) (ht:P.underlying t=some (.interface ms)) (bU:∀ u,P.typeName? 3 u=some nm->u=te)
  (iw:∀ v,Value.okWide P W .any 0 te v->v.oneCell'=true):vT W g [.iface te .any]:=by
 obtain⟨g',t',cs,fuel,p,h1,h2,h3,h4,qE⟩:=Gy h hm hd;obtain rfl:=avF (hg.symm.trans h1);obtain rfl:=avF (Qx.symm.trans h2);cases fuel with
 | zero=>simp[DataW.trod] at h4
 | succ fuel =>
  unfold DataW.trod at h4;rw[ht] at h4;split at h4<;>try (rename_i hh _;cases hh;done)
  all_goals first|(simp_all;done)|skip
  rename_i u v iG hh;split at h4
  ·cases h4
  ·rename_i nm' hn
   simp only[auP,auV,DataW.iface.injEq] at h4;obtain⟨⟨d',p'⟩,h5,⟨rfl,rfl⟩,_⟩:=h4;have hu:=bU u hn;subst hu;have TC:cs=#[.iface u v]:=by
    cases cs;simp_all
   subst TC;refine Ak hg h3 rfl fun j v' x hv hx=>?_
   cases j with
   | zero =>
    simp only[avu,avb,auR] at hv hx;subst hv hx;exact⟨.iface _ _ _ (.any _ (iw _ (qE 0 _ _ ag (by rw[World.var?_cell hg h3 0];rfl)))),fun n hn=>by cases hn⟩
   | succ j=>simp at hx
  ·cases h4
def NQ{P:Program}{W:World}{name:String}{t e:TypeId}(h:laidMetH P l W)(hm:(name,.slice (ss.map fun s=>.lit (.string s)) [])∈l)
  (hg:P.globalNamed name=some g) (Qx:(P.globals[g]?).map (·.type)=some t) (ht:P.underlying t=some (.slice e)) (he:P.underlying e=some .string) (hce:P.cellsOf e=1) (dp:0<ss.length):vT W g [.slice (strs ss) false]:=by
 obtain⟨g',t',cs,fuel,p,h1,h2,h3,h4⟩:=yN h hm rfl;obtain rfl:=avF (hg.symm.trans h1);obtain rfl:=avF (Qx.symm.trans h2);obtain⟨a,cap,iG,hlc,CN⟩:=open_row ht hce h4;rw[List.length_map] at iG hlc;have TC:cs=#[.slice (some a) ss.length cap]:=by cases cs;simp_all
 subst TC;refine Ak hg h3 rfl fun j v x hv hx=>?_
 cases j with
 | succ j=>simp at hx
 | zero =>
  simp only[avu,avb,auR] at hv hx;subst hv hx;have gZ:∀ i,∀ s,ss[i]?=some s->∃ b:ByteArray,b.data.toList=s/\W.cell? (a.add i)=some (.string b):=by
   intro i s hs;obtain⟨v,n,q,k1,k2⟩:=CN i (.lit (.string s)) (by rw[List.getElem?_map,hs];rfl)
   obtain⟨b,k3,k4,_⟩:=DataW.trod_string he k2;simp only[auV,DataW.lit.injEq,Lit.string.injEq,awa,avZ] at k3 k4;subst k3;exact⟨b,k4.1.symm,k1⟩
  obtain⟨b,o,sb⟩:=a;have hsb:sb=none:=by
   obtain⟨s0,_,k2⟩:=gZ 0 ss[0] (auS dp);have e0:(Addr.mk b o sb).add 0=⟨b,o,sb⟩:=by simp[Addr.add]
   rw[e0] at k2;cases sb with
   | none=>rfl
   | some z =>
    unfold World.cell? at k2;split at k2
    ·simp at k2
    ·cases k2
  subst hsb;have zR:∀ (i:Nat) (r:List AV),(strs ss)[i]?=some r->∃ s,ss[i]?=some s/\r=[.str s]:=by
   intro i r hr;rw[strs,List.getElem?_map] at hr;cases hk:ss[i]? with
   | none=>rw[hk] at hr;cases hr
   | some s=>rw[hk] at hr;injection hr with hr;exact⟨s,rfl,hr.symm⟩
  have mo:∀ i s,ss[i]?=some s->∃ B:ByteArray,W.cell? ⟨b,o+i*1+0,none⟩=some (.string B)/\B.data.toList=s:=by
   intro i s hs;obtain⟨B,k1,k2⟩:=gZ i s hs;have Tt:(Addr.mk b o none).add i=⟨b,o+i*1+0,none⟩:=by
    unfold Addr.add;split
    ·rename_i h0;subst h0;simp
    ·simp
   rw[Tt] at k2;exact⟨B,k2,k1⟩
  refine⟨.slice b o _ cap 1 _ (fun i j=>(W.cell? ⟨b,o+i*1+0,none⟩).getD .nilIface) (by rw[strs,List.length_map]) hlc ?_ ?_ ?_,fun n hn=>by cases hn⟩
  ·intro i r hr
   obtain⟨s,_,rfl⟩:=zR i r hr;rfl
  ·intro i j r x hr hx
   obtain⟨s,hs,rfl⟩:=zR i r hr;cases j with
   | succ j=>simp at hx
   | zero =>
    obtain⟨B,k1,_⟩:=mo i s hs;rw[k1];exact⟨.inl ⟨_,k1,rfl,fun n hn=>by cases hn⟩,rfl,rfl⟩
  ·intro i j r x hr hx
   obtain⟨s,hs,rfl⟩:=zR i r hr;cases j with
   | succ j=>simp at hx
   | zero =>
    obtain⟨B,k1,k2⟩:=mo i s hs;rw[k1];simp only[avb,auR] at hx;subst hx;exact .str _ _ k2
def rowOf(q:Lit × DataW Unit):List AV :=
 match q with
 | (.string k,.agg [.lit (.int .i64 a),.lit (.int .i64 b)])=>[.str k,.int .i64 a,.int .i64 b]
 | _=>[]
def V'{P:Program}{W:World}{name:String}{L:List (Lit × DataW Unit)}{t k e:TypeId}{f0 f1:Field}(h:laidMetH P l W)(hm:(name,.map L)∈l)
  (hg:P.globalNamed name=some g) (Qx:(P.globals[g]?).map (·.type)=some t) (ht:P.underlying t=some (.map k e)) (hk:P.underlying k=some .string) (he:P.underlying e=some (.struct #[f0,f1]))
  (hce:P.cellsOf e=2) (hf0:P.underlying f0.type=some (.int .i64)) (hf1:P.underlying f1.type=some (.int .i64)) (Ty:P.cellsOf f0.type=1) (hc1:P.cellsOf f1.type=1) (ho0:f0.offset=0) (ho1:f1.offset=1)
  (hL:∀ q∈L,∃ k a b,q=(.string k,.agg [.lit (.int .i64 a),.lit (.int .i64 b)])):vT W g [.mn 1 false true (L.map rowOf)]:=by
 obtain⟨g',t',cs,fuel,p,h1,h2,h3,h4⟩:=yN h hm rfl;obtain rfl:=avF (hg.symm.trans h1);obtain rfl:=avF (Qx.symm.trans h2)
 rcases WideElems.open_map ht h4 with ⟨_,hx⟩|⟨b,es,ck,n,rfl,iG,hb,_,F,hx⟩
 ·simp at hx
 have TC:cs=#[.map (some b)]:=by cases cs;simp_all
 subst TC;injection hx with hx hp
 injection hx with hx
 have Gq:(es.toList.map (WideElems.rg P k (WideElems.elemAt (fun _=>()) P W 0 (fun _=>true) false n e))).Perm L:=by rw[hx];exact (WideShapes.sorted_perm _).symm
 have each:∀ x∈es.toList,∃ (s:ByteArray) (a c:Int),x.key=.string s/\x.val=.agg #[.int .i64 a,.int .i64 c]/\rowOf (WideElems.rg P k (WideElems.elemAt (fun _=>()) P W 0 (fun _=>true) false n e) x)=[.str s.data.toList,.int .i64 a,.int .i64 c]:=by
  intro x hxm;obtain⟨k0,a,c,hq⟩:=hL _ (Gq.mem_iff.1 (awW hxm));obtain⟨y,hy⟩:=F.reads x hxm;rw[WideElems.rg_of hy] at hq ⊢;subst hq;have zi:=WideElems.rd_key hy;obtain⟨z,hz,T9⟩:=WideElems.rd_val hy;unfold WideElems.elemAt at hz;split at hz
  ·rename_i AL
   obtain⟨y0,y1,m,rfl,hl,g0,g1⟩:=ChangeShapes.trod_struct2 he hz;rw[Ty,ho0] at g0;rw[hc1,ho1] at g1;have iQ:∃ c0 c1,x.val=.agg #[c0,c1]:=by
    unfold Value.formed at AL;rw[he] at AL;cases hv:x.val<;>rw[hv] at AL hl<;>simp_all
    rename_i cs;obtain⟨cl⟩:=cs
    match cl,AL with
    | [c0,c1],_=>exact⟨c0,c1,rfl⟩
   obtain⟨c0,c1,iQ⟩:=iQ;rw[iQ] at g0 g1;simp only[Value.cells,List.drop_zero,av2,avV,awz] at g0 g1;obtain⟨a',e1,e2,_⟩:=DataW.trod_int hf0 g0;obtain⟨c',e3,e4,_⟩:=DataW.trod_int hf1 g1;simp only[awa,avZ] at e1 e3;subst e1 e3 e2 e4;simp only[DataW.agg.injEq,awa,avZ,DataW.lit.injEq,Lit.int.injEq,awL] at T9;obtain⟨rfl,rfl⟩:=T9;have ano:∃ s:ByteArray,x.key=.string s/\s.data.toList=k0:=by
    cases Wv:x.key<;>simp[keyOf,hk,mapKey,Wv] at zi
    exact⟨_,rfl,zi.2⟩
   obtain⟨s,k1,rfl⟩:=ano;exact⟨s,_,_,k1,iQ,rfl⟩
  ·cases hz
 refine Ak hg h3 rfl fun j v x hv tV=>?_
 cases j with
 | succ j=>simp at tV
 | zero =>
  simp only[avu,avb,auR] at hv tV;subst hv tV;refine⟨.mn b 1 false true _ ((es.toList.map (WideElems.rg P k (WideElems.elemAt (fun _=>()) P W 0 (fun _=>true) false n e))).map rowOf) es ck
   (fun i j=>match es[i]? with|some x=>(match j with|0=>x.key|j+1=>(x.val.cells[j]?).getD .nilIface)|none=>.nilIface) (.inr ⟨_,_,hb⟩) hb ⟨ag,?_,?_,?_⟩ (Gq.map rowOf) ?_,fun n hn=>by cases hn⟩
  ·intro i x nN
   exact ((stamped_iff es ck).1 F.stamped).1 x (by have:=awN nN;simpa using this)
  ·intro i j x y nN hy1 WC
   have Qt:=((stamped_iff es ck).1 F.stamped).2.1;have hi:i<(es.toList.map (·.born)).length:=by
    have:=(auZ.1 nN).1
    simpa using this
   refine (List.getElem?_inj hi Qt).1 ?_;rw[List.getElem?_map,List.getElem?_map,avD,avD,nN,hy1];simp only[au2,WC]
  ·intro i x r nN hr
   have hxm:x∈es.toList:=by
    have:=awN nN
    simpa using this
   obtain⟨s,a,c,k1,k2,k3⟩:=each x hxm;rw[avT,List.getElem?_map,avD,nN] at hr;simp only[au2,axK,auR] at hr;rw[k3] at hr;subst hr;refine⟨ag,fun _=>rfl,fun h=>(by cases h),?_,?_⟩
   ·simp[tS,nN]
   ·simp[tS,nN,k2,Value.cells,List.range_succ]
  ·intro i j r x hr nN
   rw[avT,List.getElem?_map,avD] at hr;cases D9:es[i]? with
   | none=>rw[D9] at hr;cases hr
   | some y =>
    rw[D9] at hr;have hxm:y∈es.toList:=by
     have:=awN D9
     simpa using this
    obtain⟨s,a,c,k1,k2,k3⟩:=each y hxm;simp only[au2,axK,auR] at hr;rw[k3] at hr;subst hr
    match j with
    | 0=>simp only[avb,auR] at nN;subst nN;simp only[k1];exact .str _ _ rfl
    | 1=>simp only[avb,avy,auR] at nN;subst nN;simp only[k2,Value.cells];exact .int _ _
    | 2=>simp only[avb,avy,auR] at nN;subst nN;simp only[k2,Value.cells];exact .int _ _
    | j+3=>simp at nN
end
end Go.Abs
namespace Go.Proofs.YtnhpoddlmjpapaaGreatDoor
open Go Go.Abs Go.Proofs Go.RowKit
def qt:List (String × DataW Unit):=Rows.printLosslessUptoRow.laid
def QO{W:World}(h:laidMetH Tryz.prog qt W):vT W 1 (xN 1):=by
 obtain⟨g,t,cs,fuel,p,hg,ht,hv,hd⟩:=h.funcs (n:= "splicery/lex.kinds") (d:=.agg [.agg [.iface "func" (.lit (.string [115,112,108,105,99,101,114,121,47,108,101,120,46,108,101,116,116,101,114])),.iface "func" (.lit (.string [115,112,108,105,99,101,114,121,47,108,101,120,46,101,105,116,104,101,114]))],.agg [.iface "func" (.lit (.string [115,112,108,105,99,101,114,121,47,108,101,120,46,100,105,103,105,116])),.iface "func" (.lit (.string [115,112,108,105,99,101,114,121,47,108,101,120,46,100,105,103,105,116]))]]) (by simp[qt,Rows.printLosslessUptoRow,Rows.laid_splicery_lex_kinds])
 have RF:Tryz.prog.globalNamed "splicery/lex.kinds"=some 1:=by kernel_rfl
 have ht0:(Tryz.prog.globals[1]?).map (·.type)=some 148:=by kernel_rfl
 obtain rfl:=avF (RF.symm.trans hg);obtain rfl:=avF (ht0.symm.trans ht);have u97:Tryz.prog.underlying 148=some (.array 2 147):=by kernel_rfl
 have u96:Tryz.prog.underlying 147=some (.array 2 146):=by kernel_rfl
 have c96:Tryz.prog.cellsOf 147=2:=by kernel_rfl
 have c97:Tryz.prog.cellsOf 148=4:=by kernel_rfl
 have c91:Tryz.prog.cellsOf 146=1:=by kernel_rfl
 obtain⟨xs,m,rfl,hx,hlen,hn,CN⟩:=DataW.trod_array u97 hd;injection hx with hx hp
 rw[c97] at hlen;obtain⟨l⟩:=cs;simp only at hlen CN hv
 match l,hlen with
 | [v0,v1,v2,v3],_ =>
 match xs,hn with
 | [x0,x1],_ =>
 have e0:=CN 0 (by omega)
 have e1:=CN 1 (by omega)
 simp only[c96,aw2,List.drop_zero,av2,avV,avb,avy,aw6,awz] at e0 e1;simp only[DataW.funcsOut,DataW.funcsOutAll,au9,avC,DataW.agg.injEq,awa,avZ,beq_self_eq_true,awE] at hx;obtain⟨D8,nN⟩:=hx;obtain⟨ys,k,rfl,hy,_,hyn,ai4⟩:=DataW.trod_array u96 e0;obtain⟨zs,k',tF,hz,_,hzn,ai7⟩:=DataW.trod_array u96 e1;rw[hy] at D8;rw[hz] at nN
 match ys,hyn with
 | [y0,y1],_ =>
 match zs,hzn with
 | [z0,z1],_ =>
 have f0:=ai4 0 (by omega)
 have f1:=ai4 1 (by omega)
 have g0:=ai7 0 (by omega)
 have g1:=ai7 1 (by omega)
 simp only[c91,aw2,List.drop_zero,av2,avV,avb,avy,aw6,awz] at f0 f1 g0 g1;simp only[au9,avC,DataW.agg.injEq,awa,avZ] at D8 nN;obtain⟨a0,q0⟩:=y0;obtain⟨a1,q1⟩:=y1;obtain⟨b0,r0⟩:=z0;obtain⟨b1,r1⟩:=z1;simp only at D8 nN;obtain⟨rfl,rfl⟩:=D8;obtain⟨rfl,rfl⟩:=nN;obtain rfl:=func_of_trod (f0:=90) (show Tryz.prog.underlying 146=some (.func #[5] #[4] false) by kernel_rfl) (by kernel_rfl) f0
 obtain rfl:=func_of_trod (f0:=188) (show Tryz.prog.underlying 146=some (.func #[5] #[4] false) by kernel_rfl) (by kernel_rfl) f1
 obtain rfl:=func_of_trod (f0:=189) (show Tryz.prog.underlying 146=some (.func #[5] #[4] false) by kernel_rfl) (by kernel_rfl) g0
 obtain rfl:=func_of_trod (f0:=189) (show Tryz.prog.underlying 146=some (.func #[5] #[4] false) by kernel_rfl) (by kernel_rfl) g1
 refine Ak RF hv rfl fun j v x hj hx=>?_
 match j with
 | 0=>simp only[avu,avb,auR,xN] at hj hx;subst hj hx;exact⟨.func _,fun n h=>by cases h⟩
 | 1=>simp only[avu,avb,avy,auR,xN] at hj hx;subst hj hx;exact⟨.func _,fun n h=>by cases h⟩
 | 2=>simp only[avu,avb,avy,auR,xN] at hj hx;subst hj hx;exact⟨.func _,fun n h=>by cases h⟩
 | 3=>simp only[avu,avb,avy,auR,xN] at hj hx;subst hj hx;exact⟨.func _,fun n h=>by cases h⟩
 | k+4=>simp at hj
def JD{W:World}(h:laidMetH Tryz.prog qt W){name:String}{d:DataW Unit}{g:Nat}(hm:(name,.iface "*errors.errorString" (.ptr d))∈qt)(hg:Tryz.prog.globalNamed name=some g)
  (Qx:(Tryz.prog.globals[g]?).map (·.type)=some 129):vT W g [.iface G7 .any]:=by
 refine Z5 (nm:= "*errors.errorString") h hm (by rfl) hg Qx (show Tryz.prog.underlying 129=some (.interface #[("Error",54)]) by kernel_rfl) (fun u hu=>typeName_ptr_named (nm:= "errors.errorString") (tp:=214) (by kernel_rfl) (by kernel_rfl) (by decide) u hu) ?_
 intro v hv;simp only[Value.okWide,show Tryz.prog.underlying G7=some (.pointer 216) by kernel_rfl,Cell.okWide,Cell.ok] at hv
 cases v<;>simp_all [Value.oneCell']
def opsL:List (Lit × DataW Unit):=[(.string [37],.agg [.lit (.int .i64 4),.lit (.int .i64 6)]),(.string [42],.agg [.lit (.int .i64 2),.lit (.int .i64 6)]),(.string [43],.agg [.lit (.int .i64 0),.lit (.int .i64 5)]),(.string [45],.agg [.lit (.int .i64 1),.lit (.int .i64 5)]),(.string [47],.agg [.lit (.int .i64 3),.lit (.int .i64 6)]),(.string [60],.agg [.lit (.int .i64 5),.lit (.int .i64 3)]),(.string [61,61],.agg [.lit (.int .i64 6),.lit (.int .i64 3)]),(.string [97,110,100],.agg [.lit (.int .i64 7),.lit (.int .i64 2)]),(.string [106,111,105,110],.agg [.lit (.int .i64 10),.lit (.int .i64 4)]),(.string [111,114],.agg [.lit (.int .i64 8),.lit (.int .i64 1)])]
def Z6{W:World}(h:laidMetH Tryz.prog qt W):∀ g,A.aW g≠[]->vT W g (A.aW g):=by
 intro g hg
 match g with
 | 0=>exact NQ (ss:=fI) (name:= "splicery/syntax.kinds") h (au0 (i:=9) rfl) (g:=0) (t:=24) (e:=9) (by kernel_rfl) (by kernel_rfl) (by kernel_rfl) (by kernel_rfl) (by kernel_rfl) (by decide)
 | 1=>exact QO h
 | 2=>exact Lg (ss:=mA) (name:= "splicery/lex.signs") h (au0 (i:=5) rfl) (g:=2) (n:=18) (t:=149) (e:=9) (by kernel_rfl) (by kernel_rfl) (by kernel_rfl) (by kernel_rfl) (by kernel_rfl) (by kernel_rfl)
 | 3=>exact Lg (ss:=fG) (name:= "splicery/lex.keywords") h (au0 (i:=7) rfl) (g:=3) (n:=27) (t:=152) (e:=9) (by kernel_rfl) (by kernel_rfl) (by kernel_rfl) (by kernel_rfl) (by kernel_rfl) (by kernel_rfl)
 | 4=>exact V' (L:=opsL) (name:= "splicery/syntax.operators") h (au0 (i:=8) rfl) (g:=4) (t:=173) (k:=9) (e:=171) (f0:=⟨ "op",3,0,false,"","splicery/syntax",0⟩) (f1:=⟨ "level",3,1,false,"","splicery/syntax",8⟩) (by kernel_rfl) (by kernel_rfl) (by kernel_rfl) (by kernel_rfl) (by kernel_rfl) (by kernel_rfl) (by kernel_rfl) (by kernel_rfl) (by kernel_rfl) (by kernel_rfl) (by rfl) (by rfl) (by intro q hq;simp only[opsL,avi,avE,awk] at hq;rcases hq with h|h|h|h|h|h|h|h|h|h<;>exact⟨_,_,_,h⟩)
 | 5=>exact absurd rfl hg
 | 6=>exact Wa (k:=.u64) (zs:=Lib.pow10Tab) (name:= "internal/strconv.uint64pow10") (fun h=>by cases h) h (au0 (i:=2) rfl) (g:=6) (n:=20) (t:=198) (e:=185) (by kernel_rfl) (by kernel_rfl) (by kernel_rfl) (by kernel_rfl) (by kernel_rfl) (by kernel_rfl)
 | 7=>exact JD h (name:= "strconv.ErrSyntax") (d:=.agg [.lit (.string [105,110,118,97,108,105,100,32,115,121,110,116,97,120])]) (au0 (i:=4) rfl) (by kernel_rfl) (by kernel_rfl)
 | 8=>exact JD h (name:= "strconv.ErrRange") (d:=.agg [.lit (.string [118,97,108,117,101,32,111,117,116,32,111,102,32,114,97,110,103,101])]) (au0 (i:=3) rfl) (by kernel_rfl) (by kernel_rfl)
 | k+9=>exact absurd rfl hg
def apb{W:World}(h:laidMetH Tryz.prog qt W):bf A.aW W.heap.size [] (lT W) W:=Rv (Z6 h)
end Go.Proofs.YtnhpoddlmjpapaaGreatDoor
end
