/-
  A part of the proof of ScopeNames: AbsClose, AbsSeatV.
-/
import Derived.ProofKit
import Derived.LaidMore
import Derived.Carry
import Derived.ChangeMaps5
import Derived.OpenShut
import Derived.Lib.LaidTab
import Derived.Deep.Strs
import Derived.Test.YthbncinhhdogpaaGreatDoorCards
import Derived.Test.YthbncinhhdogpaaGreatDoorTie
import Derived.Test.YthbncinhhdogpaaGreatDoorP14
set_option linter.unusedSimpArgs false
set_option linter.unusedVariables false
set_option linter.defProp false
set_option maxRecDepth 100000
namespace Go.Abs
open Go Go.RowKit Go.ChangeShapes Go.WideShapes Go.ChangeMaps Go.MapKept
section
theorem ahh{n:Int}(h:(Lit.int .i64 n).wf=true):pr n:=by
 have h1:IntKind.i64.min=-9223372036854775808:=rfl
 have h2:IntKind.i64.max=9223372036854775807:=rfl
 simp only[Lit.wf,Bool.and_eq_true,apc,h1,h2] at h
 exact h
def gq(W:World):Gh:={ S:=fun b o=>(∃ v,W.cell? ⟨b,o,none⟩=some v/\v.oneCell'=true/\∀ n,v≠.int .u8 n)\/(∃ E ck,W.heap[b]?=some (.map E ck)),κ:=fun _=>.none,ρ:=fun _=>0 }
theorem TL{W:World}{b o:Nat}{v:Value}(h:W.cell? ⟨b,o,none⟩=some v):b<W.heap.size:=by
 rcases ap7 b W.heap.size with h'|h'
 ·exact h'
 ·simp[World.cell?,aqf h'] at h
theorem ahj{G:Nat->List AV}{W:World}(hg:∀ (g j:Nat) (x:AV),(G g)[j]?=some x->∃ v,W.cell? ⟨g,j,none⟩=some v/\PR (gq W).S W v x/\∀ n,v≠.int .u8 n)
  (ht:∀ g,G g≠[]->∃ ty,pq W g ty (G g).length):aK G W.heap.size [] (gq W) W where
 size:=aoU _
 mX:=fun b o h=>by
  rcases h with ⟨v,h,_⟩|⟨E,ck,h⟩
  ·exact TL h
  ·exact (aoY.1 h).1
 ow:=fun b h=>absurd rfl h
 aN:=fun g j x h=>by
  obtain⟨v,h1,h2,h3⟩:=hg g j x h
  exact⟨v,h1,h2,.inl ⟨v,h1,h2.dX,h3⟩⟩
 boxes:=fun loc ty cs h=>by simp at h
 refs:=fun loc ty cs h=>by simp at h
 wL:=ht
 bytes:=fun b o n h hc=>by
  rcases h with ⟨v,h,_,h3⟩|⟨E,ck,h⟩
  ·rw[h] at hc
   injection hc with hc
   exact absurd hc (h3 n)
  ·simp only[World.cell?,h] at hc
   cases hc
 more:=fun loc o h=>by simp at h
 types:=fun loc ty cs h=>by simp at h
theorem TC{gh:Gh}{n:Nat}{w:World}{p:ba}{v:Value}{b:Bool}(h:CR gh n w p v (.bool b)):v=.bool b:=by
 rcases h with h|⟨e,h,_⟩
 ·cases h with
  | plain v x h=>cases h;rfl
 ·cases h
theorem Wv{P:Program}{A:AP}(hA:mZ P A){f:FuncId}{xs:List AV}(h:aE A f xs []=some (.bool true,none)){W:World}(hW:aK A.aN W.heap.size [] (gq W) W)
  {vs:Array Value} (hs:vs.size=xs.length) (hv:∀ (j:Nat) (v:Value) (x:AV),vs[j]?=some v->xs[j]?=some x->PR (gq W).S W v x) :
  Calls P f vs W fun e W'=>e=.returned (.bool true)/\Below W.heap.size W W':=by
 obtain⟨n,hn⟩:=lJ.1 h
 obtain⟨_,_,hc⟩:=vb hA n f xs [] _ _ hn
 refine (hc W.heap.size (gq W) W vs hW (fun b=>.inl rfl) hs (fun j v x h1 h2=>.inl (.plain _ _ (hv j v x h1 h2)))).mono fun e W' ⟨v,aH,he,r⟩=>?_
 refine⟨by rw[he,TC r.val],r.st.os,r.st.tape,r.st.output,r.st.size,fun k hk=>?_⟩
 obtain⟨h1,_,_⟩:=r.st.zi k hk (by
  intro ht
  simp only[gJ,gq] at ht
  rcases ht with ⟨l,ht⟩|⟨l,j,ht⟩|⟨j,ht⟩<;>cases ht)
 rcases h1 with h1|⟨C,ty,lo,hi,lo',jT,k1,_,⟨o,m,⟨v',h2,_,h3⟩|⟨E,ck,h2⟩,hm⟩,_⟩
 ·exact h1
 rotate_left
 ·rw[k1] at h2;cases h2
 ·exfalso
  have:W.cell? ⟨k,o,none⟩=some (.int .u8 m):=by
   simp only[World.cell?,k1];exact hm
  rw[this] at h2
  injection h2 with h2
  exact h3 m h2.symm
theorem sN{H:Type}{enc:TypeId × Value->H}{P:Program}(hl:laidOutB P=true){W W' : World}(hb:Below W.heap.size W W'){sp:Nat->Bool} :
  ∀ {ts:List TypeId} {vs:List Value} {ds:List (DataW H)} {ps:List MemPlace},(ts.all fun t=>P.readableRec t&&decide (t<P.types.size))=true->DataW.TrodAll enc P W 0 (fun _=>true) true ts vs ds ps ->
   (∀ x∈ps,x.block<W.heap.size)->(∀ p∈ps,sp p.block=true)->DataW.TrodAll enc P W' 0 sp true ts vs ds ps
 | [],[],[],_,_,h,_,_=>h
 | t :: ts,v :: vs,d :: ds,ps,ht,⟨p,q,h1,h2,e⟩,aU,hs=>by
  simp only[List.all_cons,Bool.and_eq_true] at ht
  exact⟨p,q,WideElems.Trod_stays hl ht.1.1 (of_decide_eq_true ht.1.2) h1 (fun x hx=>hb.same (aU x (by rw[e];exact aqn _ hx))) (fun x hx=>hs x (by rw[e];exact aqn _ hx)),
   sN hl hb ht.2 h2 (fun x hx=>aU x (by rw[e];exact aqR _ hx)) (fun x hx=>hs x (by rw[e];exact aqR _ hx)),e⟩
theorem R8{H:Type}{enc:TypeId × Value->H}{P:Program}(hl:laidOutB P=true){f:Func}{s:ChangeSpec}{W W' : World}{args:Array Value}{ds gs:List (DataW H)}{before:List MemPlace}{tb:TypeId}
  (hW:DataW.Whole enc P f.params.toList s.vars false W args.toList ds gs before) (hb:Below W.heap.size W W') (hv:s.vars=[])
  (hts:(f.params.toList.all fun t=>P.readableRec t&&decide (t<P.types.size))=true) (hr:f.resultTypes=#[tb]) (ht:P.underlying tb=some .bool)
  (qX:(s.fn H (ds++gs)).results=[.lit (.bool true)]) (dy:(s.fn H (ds++gs)).args=ds) (af5:(s.fn H (ds++gs)).vars=[]) :
  s.post enc P f false true false false W args (.bool true) W':=by
 have kR:=hW
 obtain⟨p,q,hA,hV,he,hfz,nP⟩:=hW
 rw[hv] at hV
 obtain⟨rfl,rfl⟩:=trodVars_none hV
 have aU:∀ x∈before,x.block<W.heap.size:=fun x hx=>by simpa using kR.lt x hx
 subst he
 refine⟨ds,[],p++[],[],p,[],kR,?_,?_,?_,World.keptBut_mono (fun x hx=>hx.elim) (hb.frame fun _=>False),fun h=>by cases h⟩
 ·rw[qX,hr]
  exact trodAll_mk1 (shut_bool ht true)
 ·rw[dy]
  exact sN hl hb hts hA (fun x hx=>aU x (aqn _ hx)) (fun x hx=>by simpa using aU x (aqn _ hx))
 ·rw[af5,hv];rfl
section
variable {H:Type}{enc:TypeId × Value->H}{P:Program}{W:World}{sp:Nat->Bool}{hd:Bool}{b0:Nat}{t e:TypeId}{v:Value}{d:DataW H}{p:List MemPlace}
theorem TJ(ht:P.underlying t=some (.int .i64))(gE:Value.okWide P W .any b0 t v)(h:DataW.Trod enc P W 0 sp hd t v d p) :
  ∃ n:Int,d=.lit (.int .i64 n)/\pr n/\PR (gq W).S W v (.int .i64 n):=by
 obtain⟨n,rfl,rfl,rfl,hw⟩:=open_int ht gE h
 exact⟨n,rfl,ahh hw,.int _ _⟩
theorem yY(ht:P.underlying t=some (.slice e))(gE:Value.okWide P W .any b0 t v):v=.slice none 0 0\/∃ b o len cap,v=.slice (some ⟨b,o,none⟩) len cap/\len<=cap:=by
 simp only[Value.okWide,ht,Cell.okWide,Cell.ok] at gE
 split at gE
 case h_7=>exact .inl rfl
 case h_9 e' a len cap hh =>
  obtain⟨h1,_,_,h3,_⟩:=gE
  obtain⟨b,o,s⟩:=a
  simp only at h3
  subst h3
  exact .inr ⟨b,o,len,cap,rfl,h1⟩
 all_goals first|(simp_all;done)|exact gE.elim
theorem DC(ht:P.underlying t=some (.slice e))(he:P.underlying e=some (.int .i64))(hc:P.cellsOf e=1)(gE:Value.okWide P W .any b0 t v)(h:DataW.Trod enc P W 0 sp hd t v d p) :
  ∃ (l:List Int) (rest:List (DataW H)),((d=.nil/\l=[])\/d=.slice (lits .i64 l) rest)/\(∀ n∈l,pr n)/\PR (gq W).S W v (.slice (ints l) false):=by
 obtain⟨fuel,hf⟩:=h
 rcases open_ints ht he hc hf with ⟨fi,hx⟩|⟨a,len,cap,zs,fi,_,hlc,_,UY,hx,cL,hwf⟩
 ·injection hx with IH hp
  rcases yY ht gE with rfl|⟨b,o,len,cap,rfl,_⟩
  ·exact⟨[],[],.inl ⟨IH,rfl⟩,fun _ h=>(apY h).elim,.cT⟩
  ·simp[Value.cells] at fi
 ·injection hx with IH hp
  rcases yY ht gE with rfl|⟨b,o,MK,tL,rfl,_⟩
  ·simp[Value.cells] at fi
  ·simp only[Value.cells,aqd,Value.slice.injEq,aoQ,aqe] at fi
   obtain⟨rfl,rfl,rfl⟩:=fi
   have alm:MK<=zs.length:=by rw[UY];split<;>omega
   have hI:∀ n∈zs,pr n:=fun n hn=>ahh (hwf n hn)
   have fE:∀ (i:Nat) (r:List AV),(ints (zs.take MK))[i]?=some r->i<MK/\r=[.int .i64 (zs.getD i 0)]:=by
    intro i r hr
    rw[PT,apa] at hr
    split at hr
    ·rename_i hi
     have hi2:i<zs.length:=by omega
     rw[aoT hi2] at hr
     simp only[Option.map_some,aoQ] at hr
     exact⟨hi,by rw[<- hr,apg,aoT hi2];rfl⟩
    ·simp at hr
   refine⟨zs.take MK,lits .i64 (zs.drop MK),.inr IH,fun n hn=>hI n (aqZ hn),.slice b o MK tL 1 _ (fun i j=>.int .i64 (zs.getD i 0)) ?_ hlc ?_ ?_ ?_⟩
   ·rw[lP,aqW];omega
   ·intro i r hr
    rw[(fE i r hr).2];rfl
   ·intro i j r x hr hx
    obtain⟨hi,rfl⟩:=fE i r hr
    have hj:j=0:=by
     cases j with
     | zero=>rfl
     | succ j=>simp at hx
    subst hj
    have tD:=cL i (by omega)
    have aae:(Addr.mk b o none).add i=⟨b,o+i*1+0,none⟩:=by
     unfold Addr.add
     split
     ·rename_i h0;subst h0;simp
     ·simp
    have IG:W.cell? ⟨b,o+i*1+0,none⟩=some (.int .i64 (zs.getD i 0)):=by rw[<- aae];exact tD
    exact⟨.inl ⟨_,IG,rfl,fun n hn=>by cases hn⟩,IG,rfl⟩
   ·intro i j r x hr hx
    obtain⟨hi,rfl⟩:=fE i r hr
    cases j with
    | zero =>
     simp only[ao4,aoQ] at hx
     subst hx
     exact .int _ _
    | succ j=>simp at hx
end
def w7(W:World)(g:Nat)(xs:List AV):Prop :=
 (∃ ty,pq W g ty xs.length)/\∀ (j:Nat) (x:AV),xs[j]?=some x->∃ v,W.cell? ⟨g,j,none⟩=some v/\PR (gq W).S W v x/\∀ n,v≠.int .u8 n
theorem Nv{G:Nat->List AV}{W:World}(h:∀ g,G g≠[]->w7 W g (G g)):aK G W.heap.size [] (gq W) W:=by
 refine ahj (fun g j x hx=>?_) (fun g hg=>(h g hg).1)
 exact (h g (fun h=>by rw[h] at hx;simp at hx)).2 j x hx
theorem Dj{P:Program}{W:World}{name:String}{g:Nat}{cs:Array Value}{xs:List AV}(hg:P.globalNamed name=some g)(hv:W.var? P name=some cs)(hl:cs.size=xs.length)
  (h:∀ (j:Nat) (v:Value) (x:AV),cs[j]?=some v->xs[j]?=some x->PR (gq W).S W v x/\∀ n,v≠.int .u8 n):w7 W g xs:=by
 have hv0:=hv
 simp only[World.var?,hg,aoW] at hv
 refine⟨?_,fun j x hx=>?_⟩
 ·split at hv
  ·rename_i C ty fr hC
   injection hv with hv
   exact⟨ty,C,fr,hC,by rw[hv,hl]⟩
  ·cases hv
 ·have aU:j<cs.size:=by rw[hl];exact (aoR.1 hx).1
  exact⟨cs[j],by rw[World.var?_cell hg hv0 j,ao2 aU],h j _ x (ao2 aU) hx⟩
theorem uw{P:Program}{W:World}{n:String}{d:DataW Unit} : ∀ {l:List (String × DataW Unit)} {ps:List MemPlace},DataW.LaidVars P W l ps->(n,d)∈l ->
  ∃ g t cs fuel p,P.globalNamed n=some g/\(P.globals[g]?).map (·.type)=some t/\W.var? P n=some cs/\DataW.trod (fun _=>()) P W 0 (fun _=>true) false fuel t cs.toList=some (d,p)/\∀ x∈MemPlace.row ⟨g,0,none⟩ cs.size,x∈ps
 | [],_,_,hm=>(apY hm).elim
 | (n',d') :: r,ps,⟨g,t,cs,fuel,p,q,h1,h2,h3,h4,hr,he⟩,hm=>by
  rcases ao8.1 hm with hm|hm
  ·injection hm with e1 e2
   subst e1 e2
   exact⟨g,t,cs,fuel,p,h1,h2,h3,h4,fun x hx=>by rw[he];exact aqn _ (aqn _ hx)⟩
  ·obtain⟨g',t',NC,ae2,p',k1,k2,k3,k4,k5⟩:=uw hr hm
   exact⟨g',t',NC,ae2,p',k1,k2,k3,k4,fun x hx=>by rw[he];exact aqR _ (k5 x hx)⟩
theorem MG{P:Program}{W:World}{n:String}{d:DataW Unit}{l:List (String × DataW Unit)}(h:laidMetH P l W)(hm:(n,d)∈l)(hd:d.handleName?.isNone=true) :
  ∃ g t cs fuel p,P.globalNamed n=some g/\(P.globals[g]?).map (·.type)=some t/\W.var? P n=some cs/\DataW.trod (fun _=>()) P W 0 (fun _=>true) false fuel t cs.toList=some (d,p) /\
   ∀ j u v,j<cs.size->W.cell? ⟨g,j,none⟩=some (.iface u v)->Value.okWide P W .any 0 u v:=by
 have key:∀ l',laidMet P l' W->(n,d)∈l'->∃ g t cs fuel p,P.globalNamed n=some g/\(P.globals[g]?).map (·.type)=some t/\W.var? P n=some cs/\DataW.trod (fun _=>()) P W 0 (fun _=>true) false fuel t cs.toList=some (d,p) /\
   ∀ j u v,j<cs.size->W.cell? ⟨g,j,none⟩=some (.iface u v)->Value.okWide P W .any 0 u v:=by
  rintro l' ⟨ps,hv,_,oD⟩ YS
  obtain⟨g,t,cs,fuel,p,h1,h2,h3,h4,h5⟩:=uw hv YS
  exact⟨g,t,cs,fuel,p,h1,h2,h3,h4,fun j u v hj hc=>(oD g j (h5 _ (by simp only[MemPlace.row];simpa using hj))).2 u v hc⟩
 unfold laidMetH at h
 split at h
 ·exact key _ h hm
 ·exact key _ h.1 (apK.2 ⟨hm,hd⟩)
theorem yo{P:Program}{W:World}{n:String}{d:DataW Unit}{l:List (String × DataW Unit)}(h:laidMetH P l W)(hm:(n,d)∈l)(hd:d.handleName?.isNone=true) :
  ∃ g t cs fuel p,P.globalNamed n=some g/\(P.globals[g]?).map (·.type)=some t/\W.var? P n=some cs/\DataW.trod (fun _=>()) P W 0 (fun _=>true) false fuel t cs.toList=some (d,p):=by
 obtain⟨g,t,cs,fuel,p,h1,h2,h3,h4,_⟩:=MG h hm hd
 exact⟨g,t,cs,fuel,p,h1,h2,h3,h4⟩
theorem Gs{cs:List Value}{i:Nat}{v:Value}(h:(cs.drop (i*1)).take 1=[v]):cs[i]?=some v:=by
 have:((cs.drop (i*1)).take 1)[0]?=some v:=by rw[h];rfl
 simpa [apa,apq] using this
theorem G8{P:Program}{W:World}{name:String}{l:List (String × DataW Unit)}{ss:List (List UInt8)}{g n:Nat}{t e:TypeId}(h:laidMetH P l W)(hm:(name,.agg (ss.map fun s=>.lit (.string s)))∈l)
  (hg:P.globalNamed name=some g) (PL:(P.globals[g]?).map (·.type)=some t) (ht:P.underlying t=some (.array n e)) (he:P.underlying e=some .string) (hce:P.cellsOf e=1) (hct:P.cellsOf t=n):w7 W g (ss.map .str):=by
 obtain⟨g',t',cs,fuel,p,h1,h2,h3,h4⟩:=yo h hm rfl
 obtain rfl:=apA (hg.symm.trans h1)
 obtain rfl:=apA (PL.symm.trans h2)
 obtain⟨xs,m,rfl,hx,hlen,hn,Hj⟩:=DataW.trod_array ht h4
 injection hx with hx hp
 injection hx with hx
 have pn:ss.length=n:=by
  have:=ari List.length hx
  simpa [hn] using this
 refine Dj hg h3 (by rw[ao',pn,<- hct,<- hlen];exact (ary).symm) fun j v x hv nM=>?_
 have hj:j<n:=by
  have:=(aoR.1 nM).1
  simpa [pn] using this
 have iL:=Hj j hj
 rw[hce] at iL
 rw[aoT (show j<xs.length by omega)] at iL
 obtain⟨s,h5,h6,_⟩:=DataW.trod_string he iL
 have tE:cs.toList[j]?=some v:=by rw[aps];exact hv
 rw[Gs h5] at tE
 injection tE with tE
 have h7:(ss.map fun s=>(DataW.lit (.string s):DataW Unit))[j]?=some (.lit (.string s.data.toList)):=by
  rw[hx,ao1,aoT (show j<xs.length by omega),h6];rfl
 rw[ao1] at h7 nM
 cases hs:ss[j]? with
 | none=>rw[hs] at nM;cases nM
 | some b =>
  rw[hs] at h7 nM
  simp only[Option.map_some,aoQ,DataW.lit.injEq,Lit.string.injEq] at h7 nM
  subst nM tE
  exact⟨.str _ _ h7.symm,fun n hn=>by cases hn⟩
theorem JQ{P:Program}{W:World}{name:String}{l:List (String × DataW Unit)}{ss:List (List UInt8)}{g:Nat}{t e:TypeId}(h:laidMetH P l W)(hm:(name,.slice (ss.map fun s=>.lit (.string s)) [])∈l)
  (hg:P.globalNamed name=some g) (PL:(P.globals[g]?).map (·.type)=some t) (ht:P.underlying t=some (.slice e)) (he:P.underlying e=some .string) (hce:P.cellsOf e=1) (bB:0<ss.length):w7 W g [.slice (strs ss) false]:=by
 obtain⟨g',t',cs,fuel,p,h1,h2,h3,h4⟩:=yo h hm rfl
 obtain rfl:=apA (hg.symm.trans h1)
 obtain rfl:=apA (PL.symm.trans h2)
 obtain⟨a,cap,fi,hlc,Hj⟩:=open_row ht hce h4
 rw[ao'] at fi hlc
 have aam:cs=#[.slice (some a) ss.length cap]:=by cases cs;simp_all
 subst aam
 refine Dj hg h3 rfl fun j v x hv hx=>?_
 cases j with
 | succ j=>simp at hx
 | zero =>
  simp only[ape,ao4,aoQ] at hv hx
  subst hv hx
  have uT:∀ i,∀ s,ss[i]?=some s->∃ b:ByteArray,b.data.toList=s/\W.cell? (a.add i)=some (.string b):=by
   intro i s hs
   obtain⟨v,n,q,k1,k2⟩:=Hj i (.lit (.string s)) (by rw[ao1,hs];rfl)
   obtain⟨b,k3,k4,_⟩:=DataW.trod_string he k2
   simp only[aoS,DataW.lit.injEq,Lit.string.injEq,aqd,aqe] at k3 k4
   subst k3
   exact⟨b,k4.1.symm,k1⟩
  obtain⟨b,o,sb⟩:=a
  have hsb:sb=none:=by
   obtain⟨s0,_,k2⟩:=uT 0 ss[0] (aoT bB)
   have e0:(Addr.mk b o sb).add 0=⟨b,o,sb⟩:=by simp[Addr.add]
   rw[e0] at k2
   cases sb with
   | none=>rfl
   | some z =>
    unfold World.cell? at k2
    split at k2
    ·simp at k2
    ·cases k2
  subst hsb
  have fE:∀ (i:Nat) (r:List AV),(strs ss)[i]?=some r->∃ s,ss[i]?=some s/\r=[.str s]:=by
   intro i r hr
   rw[strs,ao1] at hr
   cases hk:ss[i]? with
   | none=>rw[hk] at hr;cases hr
   | some s=>rw[hk] at hr;injection hr with hr;exact⟨s,rfl,hr.symm⟩
  have ig:∀ i s,ss[i]?=some s->∃ B:ByteArray,W.cell? ⟨b,o+i*1+0,none⟩=some (.string B)/\B.data.toList=s:=by
   intro i s hs
   obtain⟨B,k1,k2⟩:=uT i s hs
   have aae:(Addr.mk b o none).add i=⟨b,o+i*1+0,none⟩:=by
    unfold Addr.add
    split
    ·rename_i h0;subst h0;simp
    ·simp
   rw[aae] at k2
   exact⟨B,k2,k1⟩
  refine⟨.slice b o _ cap 1 _ (fun i j=>(W.cell? ⟨b,o+i*1+0,none⟩).getD .nilIface) (by rw[strs,ao']) hlc ?_ ?_ ?_,fun n hn=>by cases hn⟩
  ·intro i r hr
   obtain⟨s,_,rfl⟩:=fE i r hr
   rfl
  ·intro i j r x hr hx
   obtain⟨s,hs,rfl⟩:=fE i r hr
   cases j with
   | succ j=>simp at hx
   | zero =>
    obtain⟨B,k1,_⟩:=ig i s hs
    rw[k1]
    exact⟨.inl ⟨_,k1,rfl,fun n hn=>by cases hn⟩,rfl,rfl⟩
  ·intro i j r x hr hx
   obtain⟨s,hs,rfl⟩:=fE i r hr
   cases j with
   | succ j=>simp at hx
   | zero =>
    obtain⟨B,k1,k2⟩:=ig i s hs
    rw[k1]
    simp only[ao4,aoQ] at hx
    subst hx
    exact .str _ _ k2
def rowOf(q:Lit × DataW Unit):List AV :=
 match q with
 | (.string k,.agg [.lit (.int .i64 a),.lit (.int .i64 b)])=>[.str k,.int .i64 a,.int .i64 b]
 | _=>[]
theorem Te{P:Program}{W:World}{name:String}{l:List (String × DataW Unit)}{L:List (Lit × DataW Unit)}{g:Nat}{t k e:TypeId}{f0 f1:Field}(h:laidMetH P l W)(hm:(name,.map L)∈l)
  (hg:P.globalNamed name=some g) (PL:(P.globals[g]?).map (·.type)=some t) (ht:P.underlying t=some (.map k e)) (hk:P.underlying k=some .string) (he:P.underlying e=some (.struct #[f0,f1]))
  (hce:P.cellsOf e=2) (hf0:P.underlying f0.type=some (.int .i64)) (hf1:P.underlying f1.type=some (.int .i64)) (hc0:P.cellsOf f0.type=1) (hc1:P.cellsOf f1.type=1) (zf:f0.offset=0) (pP:f1.offset=1)
  (hL:∀ q∈L,∃ k a b,q=(.string k,.agg [.lit (.int .i64 a),.lit (.int .i64 b)])):w7 W g [.mF 1 false true (L.map rowOf)]:=by
 obtain⟨g',t',cs,fuel,p,h1,h2,h3,h4⟩:=yo h hm rfl
 obtain rfl:=apA (hg.symm.trans h1)
 obtain rfl:=apA (PL.symm.trans h2)
 rcases WideElems.open_map ht h4 with ⟨_,hx⟩|⟨b,es,ck,n,rfl,fi,hb,_,F,hx⟩
 ·simp at hx
 have aam:cs=#[.map (some b)]:=by cases cs;simp_all
 subst aam
 injection hx with hx hp
 injection hx with hx
 have AK:(es.toList.map (WideElems.rg P k (WideElems.elemAt (fun _=>()) P W 0 (fun _=>true) false n e))).Perm L:=by rw[hx];exact (WideShapes.sorted_perm _).symm
 have each:∀ x∈es.toList,∃ (s:ByteArray) (a c:Int),x.key=.string s/\x.val=.agg #[.int .i64 a,.int .i64 c]/\rowOf (WideElems.rg P k (WideElems.elemAt (fun _=>()) P W 0 (fun _=>true) false n e) x)=[.str s.data.toList,.int .i64 a,.int .i64 c]:=by
  intro x hxm
  obtain⟨k0,a,c,hq⟩:=hL _ (AK.mem_iff.1 (List.mem_map_of_mem hxm))
  obtain⟨y,hy⟩:=F.reads x hxm
  rw[WideElems.rg_of hy] at hq ⊢
  subst hq
  have YN:=WideElems.rd_key hy
  obtain⟨z,hz,hz2⟩:=WideElems.rd_val hy
  unfold WideElems.elemAt at hz
  split at hz
  ·rename_i Kk
   obtain⟨y0,y1,m,rfl,hl,g0,g1⟩:=ChangeShapes.trod_struct2 he hz
   rw[hc0,zf] at g0
   rw[hc1,pP] at g1
   have gE:∃ c0 c1,x.val=.agg #[c0,c1]:=by
    unfold Value.formed at Kk
    rw[he] at Kk
    cases hv:x.val<;>rw[hv] at Kk hl<;>simp_all
    rename_i cs
    obtain⟨cl⟩:=cs
    match cl,Kk with
    | [c0,c1],_=>exact⟨c0,c1,rfl⟩
   obtain⟨c0,c1,gE⟩:=gE
   rw[gE] at g0 g1
   simp only[Value.cells,apN,ap9,aqz,aqw] at g0 g1
   obtain⟨a',e1,e2,_⟩:=DataW.trod_int hf0 g0
   obtain⟨c',e3,e4,_⟩:=DataW.trod_int hf1 g1
   simp only[aqd,aqe] at e1 e3
   subst e1 e3 e2 e4
   simp only[DataW.agg.injEq,aqd,aqe,DataW.lit.injEq,Lit.int.injEq,aq8] at hz2
   obtain⟨rfl,rfl⟩:=hz2
   have ajf:∃ s:ByteArray,x.key=.string s/\s.data.toList=k0:=by
    cases Tt:x.key<;>simp[keyOf,hk,mapKey,Tt] at YN
    exact⟨_,rfl,YN.2⟩
   obtain⟨s,k1,rfl⟩:=ajf
   exact⟨s,_,_,k1,gE,rfl⟩
  ·cases hz
 refine Dj hg h3 rfl fun j v x hv nM=>?_
 cases j with
 | succ j=>simp at nM
 | zero =>
  simp only[ape,ao4,aoQ] at hv nM
  subst hv nM
  refine⟨.mF b 1 false true _ ((es.toList.map (WideElems.rg P k (WideElems.elemAt (fun _=>()) P W 0 (fun _=>true) false n e))).map rowOf) es ck
   (fun i j=>match es[i]? with|some x=>(match j with|0=>x.key|j+1=>(x.val.cells[j]?).getD .nilIface)|none=>.nilIface) (.inr ⟨_,_,hb⟩) hb ⟨by simp,?_,?_,?_⟩ (AK.map rowOf) ?_,fun n hn=>by cases hn⟩
  ·intro i x qZ
   exact ((stamped_iff es ck).1 F.stamped).1 x (by have:=aqN qZ;simpa using this)
  ·intro i j x y qZ hy1 Ku
   have nP:=((stamped_iff es ck).1 F.stamped).2.1
   have hi:i<(es.toList.map (·.born)).length:=by
    have:=(aoY.1 qZ).1
    simpa using this
   refine (List.getElem?_inj hi nP).1 ?_
   rw[ao1,ao1,aps,aps,qZ,hy1]
   simp only[Option.map_some,Ku]
  ·intro i x r qZ hr
   have hxm:x∈es.toList:=by
    have:=aqN qZ
    simpa using this
   obtain⟨s,a,c,k1,k2,k3⟩:=each x hxm
   rw[aqQ,ao1,aps,qZ] at hr
   simp only[Option.map_some,Function.comp_apply,aoQ] at hr
   rw[k3] at hr
   subst hr
   refine⟨by simp,fun _=>rfl,fun h=>(by cases h),?_,?_⟩
   ·simp[qp,qZ]
   ·simp[qp,qZ,k2,Value.cells,List.range_succ]
  ·intro i j r x hr qZ
   rw[aqQ,ao1,aps] at hr
   cases Y4:es[i]? with
   | none=>rw[Y4] at hr;cases hr
   | some y =>
    rw[Y4] at hr
    have hxm:y∈es.toList:=by
     have:=aqN Y4
     simpa using this
    obtain⟨s,a,c,k1,k2,k3⟩:=each y hxm
    simp only[Option.map_some,Function.comp_apply,aoQ] at hr
    rw[k3] at hr
    subst hr
    match j with
    | 0=>simp only[ao4,aoQ] at qZ;subst qZ;simp only[k1];exact .str _ _ rfl
    | 1=>simp only[ao4,apf,aoQ] at qZ;subst qZ;simp only[k2,Value.cells];exact .int _ _
    | 2=>simp only[ao4,apf,aoQ] at qZ;subst qZ;simp only[k2,Value.cells];exact .int _ _
    | j+3=>simp at qZ
end
end Go.Abs
namespace Go.Proofs.YthbncinhhdogpaaGreatDoor
open Go Go.Abs Go.Proofs Go.RowKit
def rU:List (String × DataW Unit):=Rows.scopeFindsUptoRow.laid
theorem MF{W:World}(h:laidMetH Tryz.prog rU W):w7 W 3 (K1 3):=by
 obtain⟨g,t,cs,fuel,p,hg,ht,hv,hd⟩:=h.funcs (n:= "splicery/lex.kinds") (d:=.agg [.agg [.iface "func" (.lit (.string [115,112,108,105,99,101,114,121,47,108,101,120,46,108,101,116,116,101,114])),.iface "func" (.lit (.string [115,112,108,105,99,101,114,121,47,108,101,120,46,101,105,116,104,101,114]))],.agg [.iface "func" (.lit (.string [115,112,108,105,99,101,114,121,47,108,101,120,46,100,105,103,105,116])),.iface "func" (.lit (.string [115,112,108,105,99,101,114,121,47,108,101,120,46,100,105,103,105,116]))]]) (by simp[rU,Rows.scopeFindsUptoRow,Rows.laid_splicery_lex_kinds])
 have IL:Tryz.prog.globalNamed "splicery/lex.kinds"=some 3:=by kernel_rfl
 have ht0:(Tryz.prog.globals[3]?).map (·.type)=some 201:=by kernel_rfl
 obtain rfl:=apA (IL.symm.trans hg)
 obtain rfl:=apA (ht0.symm.trans ht)
 have u97:Tryz.prog.underlying 201=some (.array 2 200):=by kernel_rfl
 have u96:Tryz.prog.underlying 200=some (.array 2 193):=by kernel_rfl
 have c96:Tryz.prog.cellsOf 200=2:=by kernel_rfl
 have c97:Tryz.prog.cellsOf 201=4:=by kernel_rfl
 have c91:Tryz.prog.cellsOf 193=1:=by kernel_rfl
 obtain⟨xs,m,rfl,hx,hlen,hn,Hj⟩:=DataW.trod_array u97 hd
 injection hx with hx hp
 rw[c97] at hlen
 obtain⟨l⟩:=cs
 simp only at hlen Hj hv
 match l,hlen with
 | [v0,v1,v2,v3],_ =>
 match xs,hn with
 | [x0,x1],_ =>
 have e0:=Hj 0 (by omega)
 have e1:=Hj 1 (by omega)
 simp only[c96,aqI,apN,ap9,aqz,ao4,apf,aqE,aqw] at e0 e1
 simp only[DataW.funcsOut,DataW.funcsOutAll,apm,apz,DataW.agg.injEq,aqd,aqe,arq,ap4] at hx
 obtain⟨qY,qZ⟩:=hx
 obtain⟨ys,k,rfl,hy,_,PN,af8⟩:=DataW.trod_array u96 e0
 obtain⟨zs,k',iV,hz,_,hzn,af'⟩:=DataW.trod_array u96 e1
 rw[hy] at qY
 rw[hz] at qZ
 match ys,PN with
 | [y0,y1],_ =>
 match zs,hzn with
 | [z0,z1],_ =>
 have f0:=af8 0 (by omega)
 have f1:=af8 1 (by omega)
 have g0:=af' 0 (by omega)
 have g1:=af' 1 (by omega)
 simp only[c91,aqI,apN,ap9,aqz,ao4,apf,aqE,aqw] at f0 f1 g0 g1
 simp only[apm,apz,DataW.agg.injEq,aqd,aqe] at qY qZ
 obtain⟨a0,q0⟩:=y0
 obtain⟨a1,q1⟩:=y1
 obtain⟨b0,r0⟩:=z0
 obtain⟨b1,r1⟩:=z1
 simp only at qY qZ
 obtain⟨rfl,rfl⟩:=qY
 obtain⟨rfl,rfl⟩:=qZ
 obtain rfl:=func_of_trod (f0:=125) (show Tryz.prog.underlying 193=some (.func #[5] #[4] false) by kernel_rfl) (by kernel_rfl) f0
 obtain rfl:=func_of_trod (f0:=169) (show Tryz.prog.underlying 193=some (.func #[5] #[4] false) by kernel_rfl) (by kernel_rfl) f1
 obtain rfl:=func_of_trod (f0:=170) (show Tryz.prog.underlying 193=some (.func #[5] #[4] false) by kernel_rfl) (by kernel_rfl) g0
 obtain rfl:=func_of_trod (f0:=170) (show Tryz.prog.underlying 193=some (.func #[5] #[4] false) by kernel_rfl) (by kernel_rfl) g1
 refine Dj IL hv rfl fun j v x hj hx=>?_
 match j with
 | 0=>simp only[ape,ao4,aoQ,K1] at hj hx;subst hj hx;exact⟨.func _,fun n h=>by cases h⟩
 | 1=>simp only[ape,ao4,apf,aoQ,K1] at hj hx;subst hj hx;exact⟨.func _,fun n h=>by cases h⟩
 | 2=>simp only[ape,ao4,apf,aoQ,K1] at hj hx;subst hj hx;exact⟨.func _,fun n h=>by cases h⟩
 | 3=>simp only[ape,ao4,apf,aoQ,K1] at hj hx;subst hj hx;exact⟨.func _,fun n h=>by cases h⟩
 | k+4=>simp at hj
def opsL:List (Lit × DataW Unit):=[(.string [37],.agg [.lit (.int .i64 4),.lit (.int .i64 6)]),(.string [42],.agg [.lit (.int .i64 2),.lit (.int .i64 6)]),(.string [43],.agg [.lit (.int .i64 0),.lit (.int .i64 5)]),(.string [45],.agg [.lit (.int .i64 1),.lit (.int .i64 5)]),(.string [47],.agg [.lit (.int .i64 3),.lit (.int .i64 6)]),(.string [60],.agg [.lit (.int .i64 5),.lit (.int .i64 3)]),(.string [61,61],.agg [.lit (.int .i64 6),.lit (.int .i64 3)]),(.string [97,110,100],.agg [.lit (.int .i64 7),.lit (.int .i64 2)]),(.string [106,111,105,110],.agg [.lit (.int .i64 10),.lit (.int .i64 4)]),(.string [111,114],.agg [.lit (.int .i64 8),.lit (.int .i64 1)])]
theorem Yi{W:World}(h:laidMetH Tryz.prog rU W):∀ g,A.aN g≠[]->w7 W g (A.aN g):=by
 intro g hg
 match g with
 | 0=>exact JQ (ss:=R6) (name:= "splicery/syntax.kinds") h (ao0 (i:=7) rfl) (g:=0) (t:=29) (e:=9) (by kernel_rfl) (by kernel_rfl) (by kernel_rfl) (by kernel_rfl) (by kernel_rfl) (by decide)
 | 1=>exact absurd rfl hg
 | 2=>exact G8 (ss:=AR) (name:= "splicery/lex.keywords") h (ao0 (i:=5) rfl) (g:=2) (n:=27) (t:=195) (e:=9) (by kernel_rfl) (by kernel_rfl) (by kernel_rfl) (by kernel_rfl) (by kernel_rfl) (by kernel_rfl)
 | 3=>exact MF h
 | 4=>exact G8 (ss:=S2) (name:= "splicery/lex.signs") h (ao0 (i:=3) rfl) (g:=4) (n:=18) (t:=202) (e:=9) (by kernel_rfl) (by kernel_rfl) (by kernel_rfl) (by kernel_rfl) (by kernel_rfl) (by kernel_rfl)
 | 5=>exact Te (L:=opsL) (name:= "splicery/syntax.operators") h (ao0 (i:=6) rfl) (g:=5) (t:=212) (k:=9) (e:=214) (f0:=⟨ "op",3,0,false,"","splicery/syntax",0⟩) (f1:=⟨ "level",3,1,false,"","splicery/syntax",8⟩) (by kernel_rfl) (by kernel_rfl) (by kernel_rfl) (by kernel_rfl) (by kernel_rfl) (by kernel_rfl) (by kernel_rfl) (by kernel_rfl) (by kernel_rfl) (by kernel_rfl) (by rfl) (by rfl) (by intro q hq;simp only[opsL,ao8,apY,aqM] at hq;rcases hq with h|h|h|h|h|h|h|h|h|h<;>exact⟨_,_,_,h⟩)
 | k+6=>exact absurd rfl hg
theorem akk{W:World}(h:laidMetH Tryz.prog rU W):aK A.aN W.heap.size [] (gq W) W:=Nv (Yi h)
end Go.Proofs.YthbncinhhdogpaaGreatDoor
