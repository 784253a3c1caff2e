/-
  A part of the proof of SyntaxTokens: AbsClose, AbsSeatT.
-/
import Derived.ProofKit
import Derived.LaidMore
import Derived.Carry
import Derived.ChangeMaps5
import Derived.OpenShut
import Derived.Lib.LaidTab
import Derived.Deep.Strs
import Derived.Test.YtbdhkgiakaegdaaGreatDoorCards
import Derived.Test.YtbdhkgiakaegdaaGreatDoorTie
import Derived.Test.YtbdhkgiakaegdaaGreatDoorP23
set_option linter.unusedSimpArgs false
set_option linter.unusedVariables false
set_option linter.defProp false
set_option maxRecDepth 100000
namespace Go.Abs
open Go Go.RowKit Go.ChangeShapes Go.WideShapes Go.ChangeMaps Go.MapKept
section
theorem agG{n:Int}(h:(Lit.int .i64 n).wf=true):D1 n:=by
 have h1:IntKind.i64.min=-9223372036854775808:=rfl
 have h2:IntKind.i64.max=9223372036854775807:=rfl
 simp only[Lit.wf,an7,aoq,h1,h2] at h
 exact h
def iP(W:World):Gh:={ S:=fun b o=>(∃ v,W.cell? ⟨b,o,none⟩=some v/\v.oneCell'=true/\∀ n,v≠.int .u8 n)\/(∃ E ck,W.heap[b]?=some (.map E ck)),κ:=fun _=>.none,ρ:=fun _=>0 }
theorem Tz{W:World}{b o:Nat}{v:Value}(h:W.cell? ⟨b,o,none⟩=some v):b<W.heap.size:=by
 rcases apL b W.heap.size with h'|h'
 ·exact h'
 ·simp[World.cell?,apG h'] at h
theorem agI{G:Nat->List AV}{W:World}(hg:∀ (g j:Nat) (x:AV),(G g)[j]?=some x->∃ v,W.cell? ⟨g,j,none⟩=some v/\PR (iP W).S W v x/\∀ n,v≠.int .u8 n)
  (ht:∀ g,G g≠[]->∃ ty,py W g ty (G g).length):bc G W.heap.size [] (iP W) W where
 size:=an4 _
 nT:=fun b o h=>by
  rcases h with ⟨v,h,_⟩|⟨E,ck,h⟩
  ·exact Tz h
  ·exact (aob.1 h).1
 pR:=fun b h=>absurd rfl h
 aZ:=fun g j x h=>by
  obtain⟨v,h1,h2,h3⟩:=hg g j x h
  exact⟨v,h1,h2,.inl ⟨v,h1,h2.fR,h3⟩⟩
 boxes:=fun loc ty cs h=>by simp at h
 refs:=fun loc ty cs h=>by simp at h
 xE:=ht
 bytes:=fun b o n h hc=>by
  rcases h with ⟨v,h,_,h3⟩|⟨E,ck,h⟩
  ·rw[h] at hc
   injection hc with hc
   exact absurd hc (h3 n)
  ·simp only[World.cell?,h] at hc
   cases hc
 more:=fun loc o h=>by simp at h
 types:=fun loc ty cs h=>by simp at h
theorem To{gh:Gh}{n:Nat}{w:World}{p:bM}{v:Value}{b:Bool}(h:CR gh n w p v (.bool b)):v=.bool b:=by
 rcases h with h|⟨e,h,_⟩
 ·cases h with
  | plain v x h=>cases h;rfl
 ·cases h
theorem V7{P:Program}{A:AP}(hA:mj P A){f:FuncId}{xs:List AV}(h:aE A f xs []=some (.bool true,none)){W:World}(hW:bc A.aZ W.heap.size [] (iP W) W)
  {vs:Array Value} (hs:vs.size=xs.length) (hv:∀ (j:Nat) (v:Value) (x:AV),vs[j]?=some v->xs[j]?=some x->PR (iP W).S W v x) :
  Calls P f vs W fun e W'=>e=.returned (.bool true)/\Below W.heap.size W W':=by
 obtain⟨n,hn⟩:=ke.1 h
 obtain⟨_,_,hc⟩:=rI hA n f xs [] _ _ hn
 refine (hc W.heap.size (iP W) W vs hW (fun b=>.inl rfl) hs (fun j v x h1 h2=>.inl (.plain _ _ (hv j v x h1 h2)))).mono fun e W' ⟨v,aX,he,r⟩=>?_
 refine⟨by rw[he,To r.val],r.st.os,r.st.tape,r.st.output,r.st.size,fun k hk=>?_⟩
 obtain⟨h1,_,_⟩:=r.st.Ap k hk (by
  intro ht
  simp only[iH,iP] at ht
  rcases ht with ⟨l,ht⟩|⟨l,j,ht⟩|⟨j,ht⟩<;>cases ht)
 rcases h1 with h1|⟨C,ty,lo,hi,lo',mn,k1,_,⟨o,m,⟨v',h2,_,h3⟩|⟨E,ck,h2⟩,hm⟩,_⟩
 ·exact h1
 rotate_left
 ·rw[k1] at h2;cases h2
 ·exfalso
  have:W.cell? ⟨k,o,none⟩=some (.int .u8 m):=by
   simp only[World.cell?,k1];exact hm
  rw[this] at h2
  injection h2 with h2
  exact h3 m h2.symm
theorem sK{H:Type}{enc:TypeId × Value->H}{P:Program}(hl:laidOutB P=true){W W' : World}(hb:Below W.heap.size W W'){sp:Nat->Bool} :
  ∀ {ts:List TypeId} {vs:List Value} {ds:List (DataW H)} {ps:List MemPlace},(ts.all fun t=>P.readableRec t&&decide (t<P.types.size))=true->DataW.TrodAll enc P W 0 (fun _=>true) true ts vs ds ps ->
   (∀ x∈ps,x.block<W.heap.size)->(∀ p∈ps,sp p.block=true)->DataW.TrodAll enc P W' 0 sp true ts vs ds ps
 | [],[],[],_,_,h,_,_=>h
 | t :: ts,v :: vs,d :: ds,ps,ht,⟨p,q,h1,h2,e⟩,bA,hs=>by
  simp only[aoV,an7] at ht
  exact⟨p,q,WideElems.Trod_stays hl ht.1.1 (of_decide_eq_true ht.1.2) h1 (fun x hx=>hb.same (bA x (by rw[e];exact apC _ hx))) (fun x hx=>hs x (by rw[e];exact apC _ hx)),
   sK hl hb ht.2 h2 (fun x hx=>bA x (by rw[e];exact ap4 _ hx)) (fun x hx=>hs x (by rw[e];exact ap4 _ hx)),e⟩
theorem Rz{H:Type}{enc:TypeId × Value->H}{P:Program}(hl:laidOutB P=true){f:Func}{s:ChangeSpec}{W W' : World}{args:Array Value}{ds gs:List (DataW H)}{before:List MemPlace}{tb:TypeId}
  (hW:DataW.Whole enc P f.params.toList s.vars false W args.toList ds gs before) (hb:Below W.heap.size W W') (hv:s.vars=[])
  (hts:(f.params.toList.all fun t=>P.readableRec t&&decide (t<P.types.size))=true) (hr:f.resultTypes=#[tb]) (ht:P.underlying tb=some .bool)
  (qX:(s.fn H (ds++gs)).results=[.lit (.bool true)]) (fP:(s.fn H (ds++gs)).args=ds) (afh:(s.fn H (ds++gs)).vars=[]) :
  s.post enc P f false true false false W args (.bool true) W':=by
 have mg:=hW
 obtain⟨p,q,hA,hV,he,hfz,Lo⟩:=hW
 rw[hv] at hV
 obtain⟨rfl,rfl⟩:=trodVars_none hV
 have bA:∀ x∈before,x.block<W.heap.size:=fun x hx=>by simpa using mg.lt x hx
 subst he
 refine⟨ds,[],p++[],[],p,[],mg,?_,?_,?_,World.keptBut_mono (fun x hx=>hx.elim) (hb.frame fun _=>False),fun h=>by cases h⟩
 ·rw[qX,hr]
  exact trodAll_mk1 (shut_bool ht true)
 ·rw[fP]
  exact sK hl hb hts hA (fun x hx=>bA x (apC _ hx)) (fun x hx=>by simpa using bA x (apC _ hx))
 ·rw[afh,hv];rfl
section
variable {H:Type}{enc:TypeId × Value->H}{P:Program}{W:World}{sp:Nat->Bool}{hd:Bool}{b0:Nat}{t e:TypeId}{v:Value}{d:DataW H}{p:List MemPlace}
theorem Ch(ht:P.underlying t=some (.int .i64))(ib:Value.okWide P W .any b0 t v)(h:DataW.Trod enc P W 0 sp hd t v d p) :
  ∃ n:Int,d=.lit (.int .i64 n)/\D1 n/\PR (iP W).S W v (.int .i64 n):=by
 obtain⟨n,rfl,rfl,rfl,hw⟩:=open_int ht ib h
 exact⟨n,rfl,agG hw,.int _ _⟩
theorem Iz(ht:P.underlying t=some .string)(ib:Value.okWide P W .any b0 t v)(h:DataW.Trod enc P W 0 sp hd t v d p) :
  ∃ l:List UInt8,d=.lit (.string l)/\PR (iP W).S W v (.str l):=by
 obtain⟨s,rfl,rfl,rfl,_⟩:=open_string ht ib h
 exact⟨_,rfl,.str _ _ rfl⟩
theorem p7(ht:P.underlying t=some (.slice e))(ib:Value.okWide P W .any b0 t v):v=.slice none 0 0\/∃ b o len cap,v=.slice (some ⟨b,o,none⟩) len cap/\len<=cap:=by
 simp only[Value.okWide,ht,Cell.okWide,Cell.ok] at ib
 split at ib
 case h_7=>exact .inl rfl
 case h_9 e' a len cap hh =>
  obtain⟨h1,_,_,h3,_⟩:=ib
  obtain⟨b,o,s⟩:=a
  simp only at h3
  subst h3
  exact .inr ⟨b,o,len,cap,rfl,h1⟩
 all_goals first|(simp_all;done)|exact ib.elim
theorem Oy(ht:P.underlying t=some (.slice e))(he:P.underlying e=some (.int .i64))(hc:P.cellsOf e=1)(ib:Value.okWide P W .any b0 t v)(h:DataW.Trod enc P W 0 sp hd t v d p) :
  ∃ (l:List Int) (rest:List (DataW H)),((d=.nil/\l=[])\/d=.slice (lits .i64 l) rest)/\(∀ n∈l,D1 n)/\PR (iP W).S W v (.slice (ints l) false):=by
 obtain⟨fuel,hf⟩:=h
 rcases open_ints ht he hc hf with ⟨ia,hx⟩|⟨a,len,cap,zs,ia,_,hlc,_,N8,hx,dw,hwf⟩
 ·injection hx with Uj hp
  rcases p7 ht ib with rfl|⟨b,o,len,cap,rfl,_⟩
  ·exact⟨[],[],.inl ⟨Uj,rfl⟩,fun _ h=>(apN h).elim,.dM⟩
  ·simp[Value.cells] at ia
 ·injection hx with Uj hp
  rcases p7 ht ib with rfl|⟨b,o,tJ,r6,rfl,_⟩
  ·simp[Value.cells] at ia
  ·simp only[Value.cells,apE,Value.slice.injEq,anV,apt] at ia
   obtain⟨rfl,rfl,rfl⟩:=ia
   have afp:tJ<=zs.length:=by rw[N8];split<;>omega
   have hI:∀ n∈zs,D1 n:=fun n hn=>agG (hwf n hn)
   have qU:∀ (i:Nat) (r:List AV),(ints (zs.take tJ))[i]?=some r->i<tJ/\r=[.int .i64 (zs.getD i 0)]:=by
    intro i r hr
    rw[P2,aov] at hr
    split at hr
    ·rename_i hi
     have AM:i<zs.length:=by omega
     rw[an3 AM] at hr
     simp only[aoi,anV] at hr
     exact⟨hi,by rw[<- hr,aoO,an3 AM];rfl⟩
    ·simp at hr
   refine⟨zs.take tJ,lits .i64 (zs.drop tJ),.inr Uj,fun n hn=>hI n (apD hn),.slice b o tJ r6 1 _ (fun i j=>.int .i64 (zs.getD i 0)) ?_ hlc ?_ ?_ ?_⟩
   ·rw[nB,ao2];omega
   ·intro i r hr
    rw[(qU i r hr).2];rfl
   ·intro i j r x hr hx
    obtain⟨hi,rfl⟩:=qU i r hr
    have hj:j=0:=by
     cases j with
     | zero=>rfl
     | succ j=>simp at hx
    subst hj
    have y9:=dw i (by omega)
    have Py:(Addr.mk b o none).add i=⟨b,o+i*1+0,none⟩:=by
     unfold Addr.add
     split
     ·rename_i h0;subst h0;simp
     ·simp
    have iR:W.cell? ⟨b,o+i*1+0,none⟩=some (.int .i64 (zs.getD i 0)):=by rw[<- Py];exact y9
    exact⟨.inl ⟨_,iR,rfl,fun n hn=>by cases hn⟩,iR,rfl⟩
   ·intro i j r x hr hx
    obtain⟨hi,rfl⟩:=qU i r hr
    cases j with
    | zero =>
     simp only[aor,anV] at hx
     subst hx
     exact .int _ _
    | succ j=>simp at hx
theorem Oz(ht:P.underlying t=some (.slice e))(he:P.underlying e=some .string)(hc:P.cellsOf e=1)(ib:Value.okWide P W .any b0 t v)(h:DataW.Trod enc P W 0 sp hd t v d p) :
  ∃ (l:List (List UInt8)) (rest:List (DataW H)),((d=.nil/\l=[])\/d=.slice (l.map fun s=>.lit (.string s)) rest)/\PR (iP W).S W v (.slice (strs l) false):=by
 obtain⟨fuel,hf⟩:=h
 rcases Go.Deep.open_strs ht he hc hf with ⟨ia,hx⟩|⟨a,len,cap,m,Sx,ia,_,hlc,_,N8,hx,dw⟩
 ·injection hx with Uj hp
  rcases p7 ht ib with rfl|⟨b,o,len,cap,rfl,_⟩
  ·exact⟨[],[],.inl ⟨Uj,rfl⟩,.dM⟩
  ·simp[Value.cells] at ia
 ·injection hx with Uj hp
  rcases p7 ht ib with rfl|⟨b,o,tJ,r6,rfl,_⟩
  ·simp[Value.cells] at ia
  ·simp only[Value.cells,apE,Value.slice.injEq,anV,apt] at ia
   obtain⟨rfl,rfl,rfl⟩:=ia
   have afp:tJ<=m:=by rw[N8];split<;>omega
   have qU:∀ (i:Nat) (r:List AV),(strs ((List.range tJ).map fun i=>(Sx i).data.toList))[i]?=some r->i<tJ/\r=[.str (Sx i).data.toList]:=by
    intro i r hr
    simp only[strs,aol,apV] at hr
    cases hk:(List.range tJ)[i]? with
    | none=>rw[hk] at hr;cases hr
    | some k =>
     obtain⟨hi,qj⟩:=an2.1 hk
     simp only[List.getElem_range] at qj
     subst qj
     rw[hk] at hr
     injection hr with hr
     exact⟨by simpa using hi,hr.symm⟩
   refine⟨(List.range tJ).map fun i=>(Sx i).data.toList,(List.range (m-tJ)).map fun j=>.lit (.string (Sx (tJ+j)).data.toList),.inr (by rw[Uj,apH];rfl),.slice b o tJ r6 1 _ (fun i j=>.string (Sx i)) ?_ hlc ?_ ?_ ?_⟩
   ·rw[strs,aoI,aoI,List.length_range]
   ·intro i r hr
    rw[(qU i r hr).2];rfl
   ·intro i j r x hr hx
    obtain⟨hi,rfl⟩:=qU i r hr
    have hj:j=0:=by
     cases j with
     | zero=>rfl
     | succ j=>simp at hx
    subst hj
    have y9:=(dw i (by omega)).1
    have Py:(Addr.mk b o none).add i=⟨b,o+i*1+0,none⟩:=by
     unfold Addr.add
     split
     ·rename_i h0;subst h0;simp
     ·simp
    have iR:W.cell? ⟨b,o+i*1+0,none⟩=some (.string (Sx i)):=by rw[<- Py];exact y9
    exact⟨.inl ⟨_,iR,rfl,fun n hn=>by cases hn⟩,iR,rfl⟩
   ·intro i j r x hr hx
    obtain⟨hi,rfl⟩:=qU i r hr
    cases j with
    | zero =>
     simp only[aor,anV] at hx
     subst hx
     exact .str _ _ rfl
    | succ j=>simp at hx
end
def sq(W:World)(g:Nat)(xs:List AV):Prop :=
 (∃ ty,py W g ty xs.length)/\∀ (j:Nat) (x:AV),xs[j]?=some x->∃ v,W.cell? ⟨g,j,none⟩=some v/\PR (iP W).S W v x/\∀ n,v≠.int .u8 n
theorem NU{G:Nat->List AV}{W:World}(h:∀ g,G g≠[]->sq W g (G g)):bc G W.heap.size [] (iP W) W:=by
 refine agI (fun g j x hx=>?_) (fun g hg=>(h g hg).1)
 exact (h g (fun h=>by rw[h] at hx;simp at hx)).2 j x hx
theorem wx{P:Program}{W:World}{name:String}{g:Nat}{cs:Array Value}{xs:List AV}(hg:P.globalNamed name=some g)(hv:W.var? P name=some cs)(hl:cs.size=xs.length)
  (h:∀ (j:Nat) (v:Value) (x:AV),cs[j]?=some v->xs[j]?=some x->PR (iP W).S W v x/\∀ n,v≠.int .u8 n):sq W g xs:=by
 have hv0:=hv
 simp only[World.var?,hg,an8] at hv
 refine⟨?_,fun j x hx=>?_⟩
 ·split at hv
  ·rename_i C ty fr hC
   injection hv with hv
   exact⟨ty,C,fr,hC,by rw[hv,hl]⟩
  ·cases hv
 ·have bA:j<cs.size:=by rw[hl];exact (an2.1 hx).1
  exact⟨cs[j],by rw[World.var?_cell hg hv0 j,aok bA],h j _ x (aok bA) hx⟩
theorem uW{P:Program}{W:World}{n:String}{d:DataW Unit} : ∀ {l:List (String × DataW Unit)} {ps:List MemPlace},DataW.LaidVars P W l ps->(n,d)∈l ->
  ∃ g t cs fuel p,P.globalNamed n=some g/\(P.globals[g]?).map (·.type)=some t/\W.var? P n=some cs/\DataW.trod (fun _=>()) P W 0 (fun _=>true) false fuel t cs.toList=some (d,p)/\∀ x∈MemPlace.row ⟨g,0,none⟩ cs.size,x∈ps
 | [],_,_,hm=>(apN hm).elim
 | (n',d') :: r,ps,⟨g,t,cs,fuel,p,q,h1,h2,h3,h4,hr,he⟩,hm=>by
  rcases aoH.1 hm with hm|hm
  ·injection hm with e1 e2
   subst e1 e2
   exact⟨g,t,cs,fuel,p,h1,h2,h3,h4,fun x hx=>by rw[he];exact apC _ (apC _ hx)⟩
  ·obtain⟨g',t',cs',aej,p',k1,k2,k3,k4,k5⟩:=uW hr hm
   exact⟨g',t',cs',aej,p',k1,k2,k3,k4,fun x hx=>by rw[he];exact ap4 _ (k5 x hx)⟩
theorem BK{P:Program}{W:World}{n:String}{d:DataW Unit}{l:List (String × DataW Unit)}(h:laidMetH P l W)(hm:(n,d)∈l)(hd:d.handleName?.isNone=true) :
  ∃ g t cs fuel p,P.globalNamed n=some g/\(P.globals[g]?).map (·.type)=some t/\W.var? P n=some cs/\DataW.trod (fun _=>()) P W 0 (fun _=>true) false fuel t cs.toList=some (d,p) /\
   ∀ j u v,j<cs.size->W.cell? ⟨g,j,none⟩=some (.iface u v)->Value.okWide P W .any 0 u v:=by
 have key:∀ l',laidMet P l' W->(n,d)∈l'->∃ g t cs fuel p,P.globalNamed n=some g/\(P.globals[g]?).map (·.type)=some t/\W.var? P n=some cs/\DataW.trod (fun _=>()) P W 0 (fun _=>true) false fuel t cs.toList=some (d,p) /\
   ∀ j u v,j<cs.size->W.cell? ⟨g,j,none⟩=some (.iface u v)->Value.okWide P W .any 0 u v:=by
  rintro l' ⟨ps,hv,_,lH⟩ YT
  obtain⟨g,t,cs,fuel,p,h1,h2,h3,h4,h5⟩:=uW hv YT
  exact⟨g,t,cs,fuel,p,h1,h2,h3,h4,fun j u v hj hc=>(lH g j (h5 _ (by simp only[MemPlace.row];simpa using hj))).2 u v hc⟩
 unfold laidMetH at h
 split at h
 ·exact key _ h hm
 ·exact key _ h.1 (aqL.2 ⟨hm,hd⟩)
theorem uX{P:Program}{W:World}{n:String}{d:DataW Unit}{l:List (String × DataW Unit)}(h:laidMetH P l W)(hm:(n,d)∈l)(hd:d.handleName?.isNone=true) :
  ∃ g t cs fuel p,P.globalNamed n=some g/\(P.globals[g]?).map (·.type)=some t/\W.var? P n=some cs/\DataW.trod (fun _=>()) P W 0 (fun _=>true) false fuel t cs.toList=some (d,p):=by
 obtain⟨g,t,cs,fuel,p,h1,h2,h3,h4,_⟩:=BK h hm hd
 exact⟨g,t,cs,fuel,p,h1,h2,h3,h4⟩
theorem Hp{cs:List Value}{i:Nat}{v:Value}(h:(cs.drop (i*1)).take 1=[v]):cs[i]?=some v:=by
 have:((cs.drop (i*1)).take 1)[0]?=some v:=by rw[h];rfl
 simpa [aov,aoS] using this
theorem HX{P:Program}{W:World}{name:String}{l:List (String × DataW Unit)}{ss:List (List UInt8)}{g n:Nat}{t e:TypeId}(h:laidMetH P l W)(hm:(name,.agg (ss.map fun s=>.lit (.string s)))∈l)
  (hg:P.globalNamed name=some g) (M0:(P.globals[g]?).map (·.type)=some t) (ht:P.underlying t=some (.array n e)) (he:P.underlying e=some .string) (hce:P.cellsOf e=1) (hct:P.cellsOf t=n):sq W g (ss.map .str):=by
 obtain⟨g',t',cs,fuel,p,h1,h2,h3,h4⟩:=uX h hm rfl
 obtain rfl:=apc (hg.symm.trans h1)
 obtain rfl:=apc (M0.symm.trans h2)
 obtain⟨xs,m,rfl,hx,hlen,hn,hel⟩:=DataW.trod_array ht h4
 injection hx with hx hp
 injection hx with hx
 have tV:ss.length=n:=by
  have:=apK List.length hx
  simpa [hn] using this
 refine wx hg h3 (by rw[aoI,tV,<- hct,<- hlen];exact (aqC).symm) fun j v x hv oI=>?_
 have hj:j<n:=by
  have:=(an2.1 oI).1
  simpa [tV] using this
 have xy:=hel j hj
 rw[hce] at xy
 rw[an3 (show j<xs.length by omega)] at xy
 obtain⟨s,h5,h6,_⟩:=DataW.trod_string he xy
 have tW:cs.toList[j]?=some v:=by rw[aoL];exact hv
 rw[Hp h5] at tW
 injection tW with tW
 have h7:(ss.map fun s=>(DataW.lit (.string s):DataW Unit))[j]?=some (.lit (.string s.data.toList)):=by
  rw[hx,aol,an3 (show j<xs.length by omega),h6];rfl
 rw[aol] at h7 oI
 cases hs:ss[j]? with
 | none=>rw[hs] at oI;cases oI
 | some b =>
  rw[hs] at h7 oI
  simp only[aoi,anV,DataW.lit.injEq,Lit.string.injEq] at h7 oI
  subst oI tW
  exact⟨.str _ _ h7.symm,fun n hn=>by cases hn⟩
theorem SP{P:Program}{W:World}{name:String}{l:List (String × DataW Unit)}{k:IntKind}{zs:List Int}{g n:Nat}{t e:TypeId}(hk:k≠.u8)(h:laidMetH P l W)(hm:(name,.agg (zs.map fun z=>.lit (.int k z)))∈l)
  (hg:P.globalNamed name=some g) (M0:(P.globals[g]?).map (·.type)=some t) (ht:P.underlying t=some (.array n e)) (he:P.underlying e=some (.int k)) (hce:P.cellsOf e=1) (hct:P.cellsOf t=n):sq W g (zs.map (.int k)):=by
 obtain⟨g',t',cs,fuel,p,h1,h2,h3,h4⟩:=uX h hm rfl
 obtain rfl:=apc (hg.symm.trans h1)
 obtain rfl:=apc (M0.symm.trans h2)
 have ia:=Lib.cells_of_tab ht he hce hct h4
 have iF:cs.size=zs.length:=by rw[<- aqC,ia,aoI]
 refine wx hg h3 (by rw[aoI,iF]) fun j v x hv hx=>?_
 rw[<- aoL,ia] at hv
 rw[aol] at hv hx
 cases hz:zs[j]? with
 | none=>rw[hz] at hv;cases hv
 | some z =>
  rw[hz] at hv hx
  simp only[aoi,anV] at hv hx
  subst hv hx
  exact⟨.int _ _,fun n hn=>by injection hn with h1 h2;exact hk h1⟩
theorem XT{P:Program}{W:World}{name nm:String}{l:List (String × DataW Unit)}{d:DataW Unit}{g:Nat}{t te:TypeId}{ms:Array (String × TypeId)}(h:laidMetH P l W)(hm:(name,.iface nm d)∈l)
  (hd:(DataW.iface nm d).handleName?.isNone=true) (hg:P.globalNamed name=some g) (M0:(P.globals[g]?).map (·.type)=some t) (ht:P.underlying t=some (.interface ms)) (cb:∀ u,P.typeName? 3 u=some nm->u=te)
  (gT:∀ v,Value.okWide P W .any 0 te v->v.oneCell'=true):sq W g [.iface te .any]:=by
 obtain⟨g',t',cs,fuel,p,h1,h2,h3,h4,lH⟩:=BK h hm hd
 obtain rfl:=apc (hg.symm.trans h1)
 obtain rfl:=apc (M0.symm.trans h2)
 cases fuel with
 | zero=>simp[DataW.trod] at h4
 | succ fuel =>
  unfold DataW.trod at h4
  rw[ht] at h4
  split at h4<;>try (rename_i hh _;cases hh;done)
  all_goals first|(simp_all;done)|skip
  rename_i u v ia hh
  split at h4
  ·cases h4
  ·rename_i nm' hn
   simp only[anT,anY,DataW.iface.injEq] at h4
   obtain⟨⟨d',p'⟩,h5,⟨rfl,rfl⟩,_⟩:=h4
   have hu:=cb u hn
   subst hu
   have PD:cs=#[.iface u v]:=by
    cases cs;simp_all
   subst PD
   refine wx hg h3 rfl fun j v' x hv hx=>?_
   cases j with
   | zero =>
    simp only[aow,aor,anV] at hv hx
    subst hv hx
    exact⟨.iface _ _ _ (.any _ (gT _ (lH 0 _ _ (by simp) (by rw[World.var?_cell hg h3 0];rfl)))),fun n hn=>by cases hn⟩
   | succ j=>simp at hx
  ·cases h4
theorem KI{P:Program}{W:World}{name:String}{l:List (String × DataW Unit)}{ss:List (List UInt8)}{g:Nat}{t e:TypeId}(h:laidMetH P l W)(hm:(name,.slice (ss.map fun s=>.lit (.string s)) [])∈l)
  (hg:P.globalNamed name=some g) (M0:(P.globals[g]?).map (·.type)=some t) (ht:P.underlying t=some (.slice e)) (he:P.underlying e=some .string) (hce:P.cellsOf e=1) (ff:0<ss.length):sq W g [.slice (strs ss) false]:=by
 obtain⟨g',t',cs,fuel,p,h1,h2,h3,h4⟩:=uX h hm rfl
 obtain rfl:=apc (hg.symm.trans h1)
 obtain rfl:=apc (M0.symm.trans h2)
 obtain⟨a,cap,ia,hlc,hel⟩:=open_row ht hce h4
 rw[aoI] at ia hlc
 have PD:cs=#[.slice (some a) ss.length cap]:=by cases cs;simp_all
 subst PD
 refine wx hg h3 rfl fun j v x hv hx=>?_
 cases j with
 | succ j=>simp at hx
 | zero =>
  simp only[aow,aor,anV] at hv hx
  subst hv hx
  have lA:∀ i,∀ s,ss[i]?=some s->∃ b:ByteArray,b.data.toList=s/\W.cell? (a.add i)=some (.string b):=by
   intro i s hs
   obtain⟨v,n,q,k1,k2⟩:=hel i (.lit (.string s)) (by rw[aol,hs];rfl)
   obtain⟨b,k3,k4,_⟩:=DataW.trod_string he k2
   simp only[anY,DataW.lit.injEq,Lit.string.injEq,apE,apt] at k3 k4
   subst k3
   exact⟨b,k4.1.symm,k1⟩
  obtain⟨b,o,sb⟩:=a
  have hsb:sb=none:=by
   obtain⟨s0,_,k2⟩:=lA 0 ss[0] (an3 ff)
   have e0:(Addr.mk b o sb).add 0=⟨b,o,sb⟩:=by simp[Addr.add]
   rw[e0] at k2
   cases sb with
   | none=>rfl
   | some z =>
    unfold World.cell? at k2
    split at k2
    ·simp at k2
    ·cases k2
  subst hsb
  have qU:∀ (i:Nat) (r:List AV),(strs ss)[i]?=some r->∃ s,ss[i]?=some s/\r=[.str s]:=by
   intro i r hr
   rw[strs,aol] at hr
   cases hk:ss[i]? with
   | none=>rw[hk] at hr;cases hr
   | some s=>rw[hk] at hr;injection hr with hr;exact⟨s,rfl,hr.symm⟩
  have j5:∀ i s,ss[i]?=some s->∃ B:ByteArray,W.cell? ⟨b,o+i*1+0,none⟩=some (.string B)/\B.data.toList=s:=by
   intro i s hs
   obtain⟨B,k1,k2⟩:=lA i s hs
   have Py:(Addr.mk b o none).add i=⟨b,o+i*1+0,none⟩:=by
    unfold Addr.add
    split
    ·rename_i h0;subst h0;simp
    ·simp
   rw[Py] at k2
   exact⟨B,k2,k1⟩
  refine⟨.slice b o _ cap 1 _ (fun i j=>(W.cell? ⟨b,o+i*1+0,none⟩).getD .nilIface) (by rw[strs,aoI]) hlc ?_ ?_ ?_,fun n hn=>by cases hn⟩
  ·intro i r hr
   obtain⟨s,_,rfl⟩:=qU i r hr
   rfl
  ·intro i j r x hr hx
   obtain⟨s,hs,rfl⟩:=qU i r hr
   cases j with
   | succ j=>simp at hx
   | zero =>
    obtain⟨B,k1,_⟩:=j5 i s hs
    rw[k1]
    exact⟨.inl ⟨_,k1,rfl,fun n hn=>by cases hn⟩,rfl,rfl⟩
  ·intro i j r x hr hx
   obtain⟨s,hs,rfl⟩:=qU i r hr
   cases j with
   | succ j=>simp at hx
   | zero =>
    obtain⟨B,k1,k2⟩:=j5 i s hs
    rw[k1]
    simp only[aor,anV] at hx
    subst hx
    exact .str _ _ k2
def rowOf(q:Lit × DataW Unit):List AV :=
 match q with
 | (.string k,.agg [.lit (.int .i64 a),.lit (.int .i64 b)])=>[.str k,.int .i64 a,.int .i64 b]
 | _=>[]
theorem SO{P:Program}{W:World}{name:String}{l:List (String × DataW Unit)}{L:List (Lit × DataW Unit)}{g:Nat}{t k e:TypeId}{f0 f1:Field}(h:laidMetH P l W)(hm:(name,.map L)∈l)
  (hg:P.globalNamed name=some g) (M0:(P.globals[g]?).map (·.type)=some t) (ht:P.underlying t=some (.map k e)) (hk:P.underlying k=some .string) (he:P.underlying e=some (.struct #[f0,f1]))
  (hce:P.cellsOf e=2) (hf0:P.underlying f0.type=some (.int .i64)) (Te:P.underlying f1.type=some (.int .i64)) (YL:P.cellsOf f0.type=1) (hc1:P.cellsOf f1.type=1) (ho0:f0.offset=0) (ho1:f1.offset=1)
  (hL:∀ q∈L,∃ k a b,q=(.string k,.agg [.lit (.int .i64 a),.lit (.int .i64 b)])):sq W g [.ny 1 false true (L.map rowOf)]:=by
 obtain⟨g',t',cs,fuel,p,h1,h2,h3,h4⟩:=uX h hm rfl
 obtain rfl:=apc (hg.symm.trans h1)
 obtain rfl:=apc (M0.symm.trans h2)
 rcases WideElems.open_map ht h4 with ⟨_,hx⟩|⟨b,es,ck,n,rfl,ia,hb,_,F,hx⟩
 ·simp at hx
 have PD:cs=#[.map (some b)]:=by cases cs;simp_all
 subst PD
 injection hx with hx hp
 injection hx with hx
 have BA:(es.toList.map (WideElems.rg P k (WideElems.elemAt (fun _=>()) P W 0 (fun _=>true) false n e))).Perm L:=by rw[hx];exact (WideShapes.sorted_perm _).symm
 have each:∀ x∈es.toList,∃ (s:ByteArray) (a c:Int),x.key=.string s/\x.val=.agg #[.int .i64 a,.int .i64 c]/\rowOf (WideElems.rg P k (WideElems.elemAt (fun _=>()) P W 0 (fun _=>true) false n e) x)=[.str s.data.toList,.int .i64 a,.int .i64 c]:=by
  intro x hxm
  obtain⟨k0,a,c,hq⟩:=hL _ (BA.mem_iff.1 (List.mem_map_of_mem hxm))
  obtain⟨y,hy⟩:=F.reads x hxm
  rw[WideElems.rg_of hy] at hq ⊢
  subst hq
  have vT:=WideElems.rd_key hy
  obtain⟨z,hz,hz2⟩:=WideElems.rd_val hy
  unfold WideElems.elemAt at hz
  split at hz
  ·rename_i Lm
   obtain⟨y0,y1,m,rfl,hl,g0,g1⟩:=ChangeShapes.trod_struct2 he hz
   rw[YL,ho0] at g0
   rw[hc1,ho1] at g1
   have ib:∃ c0 c1,x.val=.agg #[c0,c1]:=by
    unfold Value.formed at Lm
    rw[he] at Lm
    cases hv:x.val<;>rw[hv] at Lm hl<;>simp_all
    rename_i cs
    obtain⟨cl⟩:=cs
    match cl,Lm with
    | [c0,c1],_=>exact⟨c0,c1,rfl⟩
   obtain⟨c0,c1,ib⟩:=ib
   rw[ib] at g0 g1
   simp only[Value.cells,ape,apj,aoQ,apF] at g0 g1
   obtain⟨a',e1,e2,_⟩:=DataW.trod_int hf0 g0
   obtain⟨c',e3,e4,_⟩:=DataW.trod_int Te g1
   simp only[apE,apt] at e1 e3
   subst e1 e3 e2 e4
   simp only[DataW.agg.injEq,apE,apt,DataW.lit.injEq,Lit.int.injEq,aqu] at hz2
   obtain⟨rfl,rfl⟩:=hz2
   have ah5:∃ s:ByteArray,x.key=.string s/\s.data.toList=k0:=by
    cases Tg:x.key<;>simp[keyOf,hk,mapKey,Tg] at vT
    exact⟨_,rfl,vT.2⟩
   obtain⟨s,k1,rfl⟩:=ah5
   exact⟨s,_,_,k1,ib,rfl⟩
  ·cases hz
 refine wx hg h3 rfl fun j v x hv oI=>?_
 cases j with
 | succ j=>simp at oI
 | zero =>
  simp only[aow,aor,anV] at hv oI
  subst hv oI
  refine⟨.ny b 1 false true _ ((es.toList.map (WideElems.rg P k (WideElems.elemAt (fun _=>()) P W 0 (fun _=>true) false n e))).map rowOf) es ck
   (fun i j=>match es[i]? with|some x=>(match j with|0=>x.key|j+1=>(x.val.cells[j]?).getD .nilIface)|none=>.nilIface) (.inr ⟨_,_,hb⟩) hb ⟨by simp,?_,?_,?_⟩ (BA.map rowOf) ?_,fun n hn=>by cases hn⟩
  ·intro i x uR
   exact ((stamped_iff es ck).1 F.stamped).1 x (by have:=ap3 uR;simpa using this)
  ·intro i j x y uR hy1 Lu
   have Lo:=((stamped_iff es ck).1 F.stamped).2.1
   have hi:i<(es.toList.map (·.born)).length:=by
    have:=(aob.1 uR).1
    simpa using this
   refine (List.getElem?_inj hi Lo).1 ?_
   rw[aol,aol,aoL,aoL,uR,hy1]
   simp only[aoi,Lu]
  ·intro i x r uR hr
   have hxm:x∈es.toList:=by
    have:=ap3 uR
    simpa using this
   obtain⟨s,a,c,k1,k2,k3⟩:=each x hxm
   rw[apH,aol,aoL,uR] at hr
   simp only[aoi,Function.comp_apply,anV] at hr
   rw[k3] at hr
   subst hr
   refine⟨by simp,fun _=>rfl,fun h=>(by cases h),?_,?_⟩
   ·simp[qs,uR]
   ·simp[qs,uR,k2,Value.cells,List.range_succ]
  ·intro i j r x hr uR
   rw[apH,aol,aoL] at hr
   cases hx2:es[i]? with
   | none=>rw[hx2] at hr;cases hr
   | some y =>
    rw[hx2] at hr
    have hxm:y∈es.toList:=by
     have:=ap3 hx2
     simpa using this
    obtain⟨s,a,c,k1,k2,k3⟩:=each y hxm
    simp only[aoi,Function.comp_apply,anV] at hr
    rw[k3] at hr
    subst hr
    match j with
    | 0=>simp only[aor,anV] at uR;subst uR;simp only[k1];exact .str _ _ rfl
    | 1=>simp only[aor,api,anV] at uR;subst uR;simp only[k2,Value.cells];exact .int _ _
    | 2=>simp only[aor,api,anV] at uR;subst uR;simp only[k2,Value.cells];exact .int _ _
    | j+3=>simp at uR
end
end Go.Abs
namespace Go.Proofs.YtbdhkgiakaegdaaGreatDoor
open Go Go.Abs Go.Proofs Go.RowKit
def oq:List (String × DataW Unit):=Rows.syntaxTokensUptoRow.laid
theorem Na{W:World}(h:laidMetH Tryz.prog oq W):sq W 2 (D' 2):=by
 obtain⟨g,t,cs,fuel,p,hg,ht,hv,hd⟩:=h.funcs (n:= "splicery/lex.kinds") (d:=.agg [.agg [.iface "func" (.lit (.string [115,112,108,105,99,101,114,121,47,108,101,120,46,108,101,116,116,101,114])),.iface "func" (.lit (.string [115,112,108,105,99,101,114,121,47,108,101,120,46,101,105,116,104,101,114]))],.agg [.iface "func" (.lit (.string [115,112,108,105,99,101,114,121,47,108,101,120,46,100,105,103,105,116])),.iface "func" (.lit (.string [115,112,108,105,99,101,114,121,47,108,101,120,46,100,105,103,105,116]))]]) (by simp[oq,Rows.syntaxTokensUptoRow,Rows.laid_splicery_lex_kinds])
 have JF:Tryz.prog.globalNamed "splicery/lex.kinds"=some 2:=by kernel_rfl
 have ht0:(Tryz.prog.globals[2]?).map (·.type)=some 155:=by kernel_rfl
 obtain rfl:=apc (JF.symm.trans hg)
 obtain rfl:=apc (ht0.symm.trans ht)
 have u97:Tryz.prog.underlying 155=some (.array 2 154):=by kernel_rfl
 have u96:Tryz.prog.underlying 154=some (.array 2 135):=by kernel_rfl
 have c96:Tryz.prog.cellsOf 154=2:=by kernel_rfl
 have c97:Tryz.prog.cellsOf 155=4:=by kernel_rfl
 have c91:Tryz.prog.cellsOf 135=1:=by kernel_rfl
 obtain⟨xs,m,rfl,hx,hlen,hn,hel⟩:=DataW.trod_array u97 hd
 injection hx with hx hp
 rw[c97] at hlen
 obtain⟨l⟩:=cs
 simp only at hlen hel hv
 match l,hlen with
 | [v0,v1,v2,v3],_ =>
 match xs,hn with
 | [x0,x1],_ =>
 have e0:=hel 0 (by omega)
 have e1:=hel 1 (by omega)
 simp only[c96,aqj,ape,apj,aoQ,aor,api,apU,apF] at e0 e1
 simp only[DataW.funcsOut,DataW.funcsOutAll,aoc,aof,DataW.agg.injEq,apE,apt,apA,apu] at hx
 obtain⟨ze,uR⟩:=hx
 obtain⟨ys,k,rfl,hy,_,hyn,afl⟩:=DataW.trod_array u96 e0
 obtain⟨zs,k',qj,hz,_,hzn,afn⟩:=DataW.trod_array u96 e1
 rw[hy] at ze
 rw[hz] at uR
 match ys,hyn with
 | [y0,y1],_ =>
 match zs,hzn with
 | [z0,z1],_ =>
 have f0:=afl 0 (by omega)
 have f1:=afl 1 (by omega)
 have g0:=afn 0 (by omega)
 have g1:=afn 1 (by omega)
 simp only[c91,aqj,ape,apj,aoQ,aor,api,apU,apF] at f0 f1 g0 g1
 simp only[aoc,aof,DataW.agg.injEq,apE,apt] at ze uR
 obtain⟨a0,q0⟩:=y0
 obtain⟨a1,q1⟩:=y1
 obtain⟨b0,r0⟩:=z0
 obtain⟨b1,r1⟩:=z1
 simp only at ze uR
 obtain⟨rfl,rfl⟩:=ze
 obtain⟨rfl,rfl⟩:=uR
 obtain rfl:=func_of_trod (f0:=78) (show Tryz.prog.underlying 135=some (.func #[5] #[4] false) by kernel_rfl) (by kernel_rfl) f0
 obtain rfl:=func_of_trod (f0:=169) (show Tryz.prog.underlying 135=some (.func #[5] #[4] false) by kernel_rfl) (by kernel_rfl) f1
 obtain rfl:=func_of_trod (f0:=170) (show Tryz.prog.underlying 135=some (.func #[5] #[4] false) by kernel_rfl) (by kernel_rfl) g0
 obtain rfl:=func_of_trod (f0:=170) (show Tryz.prog.underlying 135=some (.func #[5] #[4] false) by kernel_rfl) (by kernel_rfl) g1
 refine wx JF hv rfl fun j v x hj hx=>?_
 match j with
 | 0=>simp only[aow,aor,anV,D'] at hj hx;subst hj hx;exact⟨.func _,fun n h=>by cases h⟩
 | 1=>simp only[aow,aor,api,anV,D'] at hj hx;subst hj hx;exact⟨.func _,fun n h=>by cases h⟩
 | 2=>simp only[aow,aor,api,anV,D'] at hj hx;subst hj hx;exact⟨.func _,fun n h=>by cases h⟩
 | 3=>simp only[aow,aor,api,anV,D'] at hj hx;subst hj hx;exact⟨.func _,fun n h=>by cases h⟩
 | k+4=>simp at hj
theorem Gc{W:World}(h:laidMetH Tryz.prog oq W){name:String}{d:DataW Unit}{g:Nat}(hm:(name,.iface "*errors.errorString" (.ptr d))∈oq)(hg:Tryz.prog.globalNamed name=some g)
  (M0:(Tryz.prog.globals[g]?).map (·.type)=some 176):sq W g [.iface B6 .any]:=by
 refine XT (nm:= "*errors.errorString") h hm (by rfl) hg M0 (show Tryz.prog.underlying 176=some (.interface #[("Error",66)]) by kernel_rfl) (fun u hu=>typeName_ptr_named (nm:= "errors.errorString") (tp:=203) (by kernel_rfl) (by kernel_rfl) (by decide) u hu) ?_
 intro v hv
 simp only[Value.okWide,show Tryz.prog.underlying B6=some (.pointer 205) by kernel_rfl,Cell.okWide,Cell.ok] at hv
 cases v<;>simp_all [Value.oneCell']
def opsL:List (Lit × DataW Unit):=[(.string [37],.agg [.lit (.int .i64 4),.lit (.int .i64 6)]),(.string [42],.agg [.lit (.int .i64 2),.lit (.int .i64 6)]),(.string [43],.agg [.lit (.int .i64 0),.lit (.int .i64 5)]),(.string [45],.agg [.lit (.int .i64 1),.lit (.int .i64 5)]),(.string [47],.agg [.lit (.int .i64 3),.lit (.int .i64 6)]),(.string [60],.agg [.lit (.int .i64 5),.lit (.int .i64 3)]),(.string [61,61],.agg [.lit (.int .i64 6),.lit (.int .i64 3)]),(.string [97,110,100],.agg [.lit (.int .i64 7),.lit (.int .i64 2)]),(.string [106,111,105,110],.agg [.lit (.int .i64 10),.lit (.int .i64 4)]),(.string [111,114],.agg [.lit (.int .i64 8),.lit (.int .i64 1)])]
theorem XU{W:World}(h:laidMetH Tryz.prog oq W):∀ g,A.aZ g≠[]->sq W g (A.aZ g):=by
 intro g hg
 match g with
 | 0=>exact KI (ss:=pS) (name:= "splicery/syntax.kinds") h (aoh (i:=9) rfl) (g:=0) (t:=23) (e:=9) (by kernel_rfl) (by kernel_rfl) (by kernel_rfl) (by kernel_rfl) (by kernel_rfl) (by decide)
 | 1=>exact HX (ss:=fC) (name:= "splicery/lex.keywords") h (aoh (i:=7) rfl) (g:=1) (n:=27) (t:=138) (e:=9) (by kernel_rfl) (by kernel_rfl) (by kernel_rfl) (by kernel_rfl) (by kernel_rfl) (by kernel_rfl)
 | 2=>exact Na h
 | 3=>exact HX (ss:=kH) (name:= "splicery/lex.signs") h (aoh (i:=5) rfl) (g:=3) (n:=18) (t:=156) (e:=9) (by kernel_rfl) (by kernel_rfl) (by kernel_rfl) (by kernel_rfl) (by kernel_rfl) (by kernel_rfl)
 | 4=>exact SO (L:=opsL) (name:= "splicery/syntax.operators") h (aoh (i:=8) rfl) (g:=4) (t:=163) (k:=9) (e:=165) (f0:=⟨ "op",3,0,false,"","splicery/syntax",0⟩) (f1:=⟨ "level",3,1,false,"","splicery/syntax",8⟩) (by kernel_rfl) (by kernel_rfl) (by kernel_rfl) (by kernel_rfl) (by kernel_rfl) (by kernel_rfl) (by kernel_rfl) (by kernel_rfl) (by kernel_rfl) (by kernel_rfl) (by rfl) (by rfl) (by intro q hq;simp only[opsL,aoH,apN,aqJ] at hq;rcases hq with h|h|h|h|h|h|h|h|h|h<;>exact⟨_,_,_,h⟩)
 | 5=>exact SP (k:=.u64) (zs:=Lib.pow10Tab) (name:= "internal/strconv.uint64pow10") (fun h=>by cases h) h (aoh (i:=2) rfl) (g:=5) (n:=20) (t:=169) (e:=158) (by kernel_rfl) (by kernel_rfl) (by kernel_rfl) (by kernel_rfl) (by kernel_rfl) (by kernel_rfl)
 | 6=>exact absurd rfl hg
 | 7=>exact absurd rfl hg
 | 8=>exact absurd rfl hg
 | 9=>exact Gc h (name:= "strconv.ErrSyntax") (d:=.agg [.lit (.string [105,110,118,97,108,105,100,32,115,121,110,116,97,120])]) (aoh (i:=4) rfl) (by kernel_rfl) (by kernel_rfl)
 | 10=>exact Gc h (name:= "strconv.ErrRange") (d:=.agg [.lit (.string [118,97,108,117,101,32,111,117,116,32,111,102,32,114,97,110,103,101])]) (aoh (i:=3) rfl) (by kernel_rfl) (by kernel_rfl)
 | k+11=>exact absurd rfl hg
theorem ajj{W:World}(h:laidMetH Tryz.prog oq W):bc A.aZ W.heap.size [] (iP W) W:=NU (XU h)
end Go.Proofs.YtbdhkgiakaegdaaGreatDoor
