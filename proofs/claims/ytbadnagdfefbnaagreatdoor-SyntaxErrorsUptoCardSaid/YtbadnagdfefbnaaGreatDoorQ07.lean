/-
  A part of the proof of SyntaxErrors: AbsNon, AbsStab, AbsVar, AbsEqS, AbsIrUa, AbsIrU, AbsProgU, AbsEvU, AbsEvY, AbsEvM, AbsEvZ, AbsAny, AbsSgnU, AbsCw, U1, U2.
-/
import Derived.Test.YtbadnagdfefbnaaGreatDoorProg
import Derived.KernelRfl
import Derived.Lib.AtoiAll
import Derived.Lib.ItoaNum
import Derived.Test.YtbadnagdfefbnaaGreatDoorQ06
set_option linter.unusedSimpArgs false
set_option linter.unusedVariables false
set_option linter.defProp false
set_option maxHeartbeats 4000000
set_option maxRecDepth 100000
noncomputable section
namespace Go.Abs
variable {s1:AS}{z:AV}{agg b pc:Bool}{q:Bool × Nat × Nat × aE}{fn:Func}{f:FuncId}{dI locals muts ord:List Nat}{ops:List aV}{es:List rB}{sz:Nat}{d:Option Nat}{α:Type}{w0:World}{o:aV}{H0:ae}{Q Q':bH->AS->Prop}{e:rB}
section
section
variable (G:Nat->List AV)(cf:gz)
def qh:List aV->AS->(AS->Prop)->Prop
 | [],s,Q=>Q s
 | o :: r,s,Q=>match xF o with
  | some t=>∃ g kz ka va cur todo,s.T t=.iter g kz ka va cur todo/\(todo=[]->qh r (s.ca o.dst (.tuple [.bool false])) Q) /\
    ∀ q rest,todo.Perm (q :: rest)->qh r ((s.cx t (.iter g kz ka va q rest)).ca o.dst (.tuple [.bool true,qY ka (q.take kz),qY va (q.drop kz)])) Q
  | none=>∃ s',aS G cf s o=some s'/\qh r s' Q
def jZ(pre:List (List Nat))(L:Array Bool):List Nat:=(List.range pre.length).filter fun i=>!L.getD i true&&(pre.getD i []).all fun j=>L.getD j false
def wU(ops:List aV)(pre:List (List Nat)):Nat->Array Bool->AS->(AS->Prop)->Prop
 | 0,L,s,Q=>jZ pre L=[]/\Q s
 | n+1,L,s,Q=>(jZ pre L=[]->Q s)/\∀ i∈jZ pre L,∃ o s',ops[i]?=some o/\aS G cf s o=some s'/\wU ops pre n (L.setIfInBounds i true) s' Q
def yV(F:AS->(bH->AS->Prop)->Prop):Nat->AS->(bH->AS->Prop)->Prop
 | 0,_,_=>False
 | n+1,s,Q=>F s (andThen (fun s'=>yV F n s' Q) Q)
def WN:aK->AS->(bH->AS->Prop)->Prop
 | .skip,s,Q=>Q .normal s
 | .region ops,s,Q=>qh G cf ops s (Q .normal)
 | .seq a b,s,Q=>WN a s (andThen (fun s'=>WN b s' Q) Q)
 | .cond c a b,s,Q=>∃ t,c.eval G s.T=.bool t/\(t=true->WN a s Q)/\(t=false->WN b s Q)
 | .block id a,s,Q=>WN a s (leave id Q)
 | .loop a,s,Q=>∃ n,yV (WN a) n s Q
 | .exit id,s,Q=>Q (.exit id) s
 | .ret,s,Q=>Q .ret s
 | .rD ops pre,s,Q=>wU G cf ops pre ops.length (Array.replicate ops.length false) s (Q .normal)
end
section
variable {G:Nat->List AV}{cf:gz}
theorem Dl{t:Nat}(h:xF o=some t):o.op=.next (.tmp t)/\o.guard=none:=by
 unfold xF at h
 grind
def tM:∀ (l:List aV) (s:AS) {Q Q' : AS->Prop},qh G cf l s Q->(∀ s,Q s->Q' s)->qh G cf l s Q'
 | [],_,_,_,h,hq=>hq _ h
 | o :: r,s,Q,Q',h,hq=>by
  unfold qh at h ⊢;cases hn:xF o with
  | none =>
   rw[hn] at h;obtain⟨s',h1,h2⟩:=h;exact⟨s',h1,tM r s' h2 hq⟩
  | some t =>
   rw[hn] at h;obtain⟨g,kz,ka,va,cur,todo,h1,h2,h3⟩:=h;exact⟨g,kz,ka,va,cur,todo,h1,fun e=>tM r _ (h2 e) hq,fun q rest hp=>tM r _ (h3 q rest hp) hq⟩
def FL{pre:List (List Nat)} : ∀ (n:Nat) (L:Array Bool) (s:AS) {Q Q' : AS->Prop},wU G cf ops pre n L s Q->(∀ s,Q s->Q' s)->wU G cf ops pre n L s Q'
 | 0,_,_,_,_,h,hq=>⟨h.1,hq _ h.2⟩
 | n+1,L,s,Q,Q',h,hq=>by
  refine⟨fun e=>hq _ (h.1 e),fun i hi=>?_⟩
  obtain⟨o,s',h1,h2,h3⟩:=h.2 i hi;exact⟨o,s',h1,h2,FL n _ _ h3 hq⟩
def lJ{P P':AS->Prop}(hp:∀ s,P s->P' s)(hq:∀ e s,Q e s->Q' e s):∀ e s,andThen P Q e s->andThen P' Q' e s
 | .normal,s,h=>hp s h
 | .ret,s,h=>hq _ s h
 | .exit i,s,h=>hq _ s h
theorem MA{i:Nat}(hq:∀ e s,Q e s->Q' e s):∀ e s,leave i Q e s->leave i Q' e s:=by
 intro e s h;cases e with
 | exit j =>
  unfold leave at h ⊢
  grind
 | _=>exact hq _ _ h
def C8{F:AS->(bH->AS->Prop)->Prop}(hF:∀ s Q Q',F s Q->(∀ e s,Q e s->Q' e s)->F s Q'):∀ (n:Nat) (s:AS) {Q Q' : bH->AS->Prop},yV F n s Q->(∀ e s,Q e s->Q' e s)->yV F n s Q'
 | 0,_,_,_,h,_=>h.elim
 | n+1,s,Q,Q',h,hq=>hF _ _ _ h (lJ (fun s h=>C8 hF n s h hq) hq)
def jR:∀ (c:aK) (s:AS) {Q Q' : bH->AS->Prop},WN G cf c s Q->(∀ e s,Q e s->Q' e s)->WN G cf c s Q'
 | .skip,_,_,_,h,hq=>hq _ _ h
 | .region ops,s,_,_,h,hq=>tM ops s h (hq .normal)
 | .seq a b,s,_,_,h,hq=>jR a s h (lJ (fun s h=>jR b s h hq) hq)
 | .cond c a b,s,_,_,h,hq=>by obtain⟨t,h1,h2,h3⟩:=h;exact⟨t,h1,fun e=>jR a s (h2 e) hq,fun e=>jR b s (h3 e) hq⟩
 | .block id a,s,_,_,h,hq=>jR a s h (MA hq)
 | .loop a,s,_,_,h,hq=>by obtain⟨n,h⟩:=h;exact⟨n,C8 (fun s Q Q' h hq=>jR a s h hq) n s h hq⟩
 | .exit id,_,_,_,h,hq=>hq _ _ h
 | .ret,_,_,_,h,hq=>hq _ _ h
 | .rD ops pre,s,_,_,h,hq=>FL _ _ _ h (hq .normal)
def vk:∀ (l:List aV) (s s' : AS) {Q:AS->Prop},gO G cf l s=some s'->Q s'->qh G cf l s Q
 | [],s,s',Q,he,hq=>by simp only[gO,au4] at he;rwa [<- he] at hq
 | o :: l,s,s',Q,he,hq=>by
  simp only[gO,au3] at he;obtain⟨s1,h1,h2⟩:=he;unfold qh;cases hn:xF o with
  | none=>exact⟨s1,h1,vk l s1 s' h2 hq⟩
  | some t =>
   obtain⟨ho,hg⟩:=Dl hn;unfold aS at h1;rw[hg,ho] at h1;simp[aR] at h1
def Bi(n:Nat):∀ (c:aK) (s:AS) {e:bH} {s' : AS} {Q:bH->AS->Prop},kN G cf n c s=some (e,s')->Q e s'->WN G cf c s Q
 | .skip,s,e,s',Q,he,hq=>by simp only[kN,au4,au8] at he;rw[<- he.1,<- he.2] at hq;exact hq
 | .exit i,s,e,s',Q,he,hq=>by simp only[kN,au4,au8] at he;rw[<- he.1,<- he.2] at hq;exact hq
 | .ret,s,e,s',Q,he,hq=>by simp only[kN,au4,au8] at he;rw[<- he.1,<- he.2] at hq;exact hq
 | .region ops,s,e,s',Q,he,hq=>by
  simp only[kN,au2,au8] at he;obtain⟨s1,h1,rfl,rfl⟩:=he;exact vk ops s _ h1 hq
 | .rD ..,s,e,s',Q,he,hq=>by simp[kN] at he
 | .seq a b,s,e,s',Q,he,hq=>by
  simp only[kN,au3] at he;obtain⟨⟨e1,s1⟩,h1,h2⟩:=he;refine Bi n a s h1 ?_;cases e1 with
  | normal=>exact Bi n b s1 h2 hq
  | _=>simp only[au4,au8] at h2;rw[<- h2.1,<- h2.2] at hq;exact hq
 | .cond c a b,s,e,s',Q,he,hq=>by
  simp only[kN] at he;split at he
  ·rename_i t ht
   refine⟨t,ht,fun h=>?_,fun h=>?_⟩<;>subst h
   ·exact Bi n a s he hq
   ·exact Bi n b s he hq
  ·cases he
 | .block i a,s,e,s',Q,he,hq=>by
  simp only[kN,au2] at he;obtain⟨⟨e1,s1⟩,h1,h2⟩:=he;refine Bi n a s h1 ?_;cases e1<;>simp only[au8] at h2<;>rw[<- h2.1,<- h2.2] at hq<;>exact hq
 | .loop a,s,e,s',Q,he,hq=>by
  simp only[kN] at he;have go:∀ (m:Nat) (s:AS),iter (kN G cf n a) m s=some (e,s')->yV (WN G cf a) m s Q:=by
   intro m
   induction m with
   | zero=>intro s h;cases h
   | succ m ih =>
    intro s h;simp only[iter,au3] at h;obtain⟨⟨e1,s1⟩,h1,h2⟩:=h;refine Bi n a s h1 ?_;cases e1 with
    | normal=>exact ih s1 h2
    | _=>simp only[au4,au8] at h2;rw[<- h2.1,<- h2.2] at hq;exact hq
  exact⟨n,go n s he⟩
def B7{A:AP}{c:aK}{s:AS}(h:W A c s Q):WN A.aY (aj A) c s Q:=by
 obtain⟨n,e,s',h1,h2⟩:=h;exact Bi n c s h1 h2
end
section
variable {P:Program}{G:Nat->List AV}{base nt:Nat}{gh:Gh}{w w' : World}{a:Act}{s:AS}{H:ae}{L:List Nat}
theorem qX{ops:Array Oper} : ∀ {l:List Oper} {is:List aV},lN P dI locals muts nt ops l=some is->l.length=is.length /\
  ∀ (i:Nat) (o:Oper),l[i]?=some o->∃ io,is[i]?=some io/\uE P dI locals muts nt ops o=some io
 | [],is,h=>by simp[lN] at h;subst h;exact⟨rfl,fun i o h=>by simp at h⟩
 | o :: l,is,h=>by
  simp only[lN,au3,au2] at h;obtain⟨io,hio,is',Oj,rfl⟩:=h;obtain⟨h1,h2⟩:=qX Oj
  grind
def NN(x:Option ow):Prop:=∀ it,x≠some (.next it)
def NN.none:NN none:=fun _ h=>by cases h
def NN.bind{x:Option α}{f:α->Option ow}(h:∀ a,NN (f a)):NN (x.bind f):=by
 cases x with
 | none=>exact NN.none
 | some a=>exact h a
def NN.map{x:Option α}{f:α->ow}(h:∀ a,NN (some (f a))):NN (x.map f):=by
 cases x with
 | none=>exact NN.none
 | some a=>exact h a
def NN.cond{x y:Option ow}(h1:NN x)(h2:NN y):NN (bif b then x else y):=by cases b<;>assumption
def NN.aaQ{x y:ow}(h1:NN (some x))(h2:NN (some y)):NN (some (bif b then x else y)):=by cases b<;>assumption
def Fh{c:Call} : NN (yn P locals muts nt d c):=by
 unfold yn
 repeat' first
  | exact fun _ h=>by cases h
  | exact NN.none
  | exact fun _ h=>by cases h
  | refine NN.bind fun _=>?_
  | refine NN.map fun _=>?_
  | refine NN.cond ?_ ?_
  | refine NN.aaQ ?_ ?_
  | split
theorem Jf{o:Op}{x:aE}(h:dB P dI locals muts nt d o=some (.next x)):∃ y,o=.next y false/\av nt y=some x:=by
 have key:(∀ y b,o≠.next y b)->NN (dB P dI locals muts nt d o):=by
  intro hn;cases o
  case makeMap t r =>
   cases r with
   | none=>simp only[dB];exact NN.map fun _ _ h=>by cases h
   | some r=>simp only[dB];exact NN.none
  all_goals simp only[dB]
  all_goals first
   | exact absurd rfl (hn _ _)
   | exact Fh
   | (repeat' first
     | exact NN.none
     | exact fun _ h=>by cases h
     | refine NN.bind fun _=>?_
     | refine NN.map fun _=>?_
     | refine NN.cond ?_ ?_
     | refine NN.aaQ ?_ ?_
     | split)
 by_cases hn:∀ y b,o≠.next y b
 ·exact absurd h (key hn x)
 ·have:∃ y b,o=.next y b:=by
   grind
  obtain⟨y,b,rfl⟩:=this;cases b with
  | true=>simp[dB] at h
  | false =>
   simp only[dB,au2,ow.next.injEq] at h
   grind
theorem oY{cf:gz}(ua:jm P G cf){mo:Gh}{ops:Array Oper}(JO:∀ x,x∈locals->x∈L)(Lg:∀ x,x∈muts->x∈L)(Q:Exit->Act->World->Prop)(R:AS->Prop)
  (hR:∀ s' a' br w',R s'->Inv G base nt L H0 mo w0 s' br w' a'->Q .normal a' w') :
  ∀ (l:List Oper) (is:List aV) (s:AS) (gh:Gh) (w:World) (a:Act),Inv G base nt L H0 mo w0 s gh w a->lN P dI locals muts nt ops l=some is->qh G cf is s R->wpList P ops Q l a w
 | [],is,s,gh,w,a,hI,hc,he=>by
  simp only[lN,au4] at hc;subst hc;exact hR s a gh w he hI
 | o :: l,is,s,gh,w,a,hI,hc,he=>by
  simp only[lN,au3,au2] at hc;obtain⟨io,hio,is',Oj,rfl⟩:=hc;unfold qh at he;unfold wpList;have hinv:=sV hio;cases hn:xF io with
  | none =>
   rw[hn] at he;obtain⟨s1,h1,h2⟩:=he;rw[w9,au2] at h1;obtain⟨⟨z,s2⟩,hz,rfl⟩:=h1;refine GI ua hI hio JO Lg hz _ Q (fun a' br w' Bn=>?_)
   rw[hinv.2.2.1] at h2;exact oY ua JO Lg Q R hR l is' _ br w' a' Bn Oj h2
  | some t =>
   rw[hn] at he;obtain⟨g,kz,ka,va,cur,todo,hT,h0,h1⟩:=he;obtain⟨dN,HK⟩:=Dl hn;rw[dN] at hinv;obtain⟨y,hoy,D5⟩:=Jf hinv.1;have hog:o.guard=none:=by
    have hg:=hinv.2.1;rw[HK] at hg;cases hgo:o.guard with
    | none=>rfl
    | some jw =>
     obtain⟨j,want⟩:=jw;rw[hgo] at hg;simp only[rM,au3] at hg
     grind
   have hw:Region.wanted o (yielded ops a.tmps)=true:=by simp[Region.wanted,hog]
   rw[if_pos hw];have htL:t∈L:=hI.F.obj t (by rw[hT];rfl)
   refine .inl (XI hI.W hI.F hoy D5 hT htL hinv.2.2.2 _ Q (fun Qp v' br w' hO=>?_) (fun q rest hp v' br w' hO=>?_))
   ·have:=h0 Qp
    rw[hinv.2.2.1] at this;exact oY ua JO Lg Q R hR l is' _ br w' _ (hI.out hO hI.lo) Oj this
   ·have:=h1 q rest hp
    rw[hinv.2.2.1] at this;exact oY ua JO Lg Q R hR l is' _ br w' _ (hI.out hO (hI.lo.qR rfl rfl)) Oj this
def DA{ops:Array Oper}{L:Array Bool} : jZ (ops.toList.map pG) L=Region.ready .any ops L:=by
 unfold jZ Region.ready;rw[show (ops.toList.map pG).length=ops.size by simp]
 refine List.filter_congr fun i hi=>?_
 have aZ:i<ops.size:=cY hi;have e1:(ops.toList.map pG).getD i []=pG ops[i]:=by simp[List.getD_eq_getElem?_getD,aZ]
 rw[e1,avh aZ];simp only[ave,av0,pG]
 simp_all
theorem Ck{cf:gz}(ua:jm P G cf){mo:Gh}{ops:Array Oper}(JO:∀ x,x∈locals->x∈L)(Lg:∀ x,x∈muts->x∈L)(Q:Exit->Act->World->Prop)(R:AS->Prop)
  (hR:∀ s' a' br w',R s'->Inv G base nt L H0 mo w0 s' br w' a'->Q .normal a' w') {is:List aV} (hc:lN P dI locals muts nt ops ops.toList=some is) :
  ∀ (n:Nat) (B:Array Bool) (s:AS) (gh:Gh) (w:World) (a:Act),Inv G base nt L H0 mo w0 s gh w a->wU G cf is (ops.toList.map pG) n B s R->wpAny P .any ops Q n B a w
 | 0,B,s,gh,w,a,hI,h=>⟨by rw[<- DA];exact h.1,hR s a gh w h.2 hI⟩
 | n+1,B,s,gh,w,a,hI,h=>by
  refine⟨fun e=>hR s a gh w (h.1 (by rw[DA];exact e)) hI,fun i hi=>?_⟩
  obtain⟨io,s1,hio,h1,h2⟩:=h.2 i (by rw[DA];exact hi)
  obtain⟨hlen,ah3⟩:=qX hc;unfold wpOp;split
  ·grind
  ·rename_i o ho
   obtain⟨io',amQ,cc⟩:=ah3 i o (cY ho);obtain rfl:io'=io:=avS (amQ.symm.trans hio);have hinv:=sV cc;rw[w9,au2] at h1;obtain⟨⟨z,s2⟩,hz,rfl⟩:=h1;refine GI ua hI cc JO Lg hz _ Q (fun a' br w' Bn=>?_)
   rw[hinv.2.2.1] at h2;exact Ck ua JO Lg Q R hR hc n _ _ br w' a' Bn h2
def ou{cf:gz}(ua:jm P G cf)(hm:P.follows .mixedOrders=true){mo:Gh} :
  ∀ (c:Code) (ic:aK),jB P dI locals muts nt c=some ic->∀ (s:AS) (gh:Gh) (w:World) (a:Act) (Q:Exit->Act->World->Prop) (R:bH->AS->Prop),Inv G base nt (locals++muts) H0 mo w0 s gh w a->WN G cf ic s R ->
   (∀ e s' a' br w',R e s'->Inv G base nt (locals++muts) H0 mo w0 s' br w' a'->Q e.ahs a' w')->c.wp P Q a w
 | .skip,ic,hc,s,gh,w,a,Q,R,hI,he,hQ=>by
  simp only[jB,au4] at hc;subst hc;exact wp_skip (hQ .normal s a gh w he hI)
 | .region id ops draw,ic,hc,s,gh,w,a,Q,R,hI,he,hQ=>by
  simp only[jB,au2] at hc;obtain⟨is,Oj,rfl⟩:=hc;have JO:∀ x,x∈locals->x∈locals++muts:=fun x hx=>au'.2 (.inl hx)
  have Lg:∀ x,x∈muts->x∈locals++muts:=fun x hx=>au'.2 (.inr hx)
  cases draw with
  | false=>exact wp_region_list (oY ua JO Lg Q (R .normal) (fun s' a' br w' hr Bn=>hQ .normal s' a' br w' hr Bn) ops.toList is s gh w a hI Oj he)
  | true =>
   have hl:ops.size=is.length:=by simpa using (qX Oj).1
   simp only[cond_true,WN,<- hl] at he;exact wp_region_any hm (Ck ua JO Lg Q (R .normal) (fun s' a' br w' hr Bn=>hQ .normal s' a' br w' hr Bn) Oj _ _ _ gh _ a hI.drew he)
 | .seq x y,ic,hc,s,gh,w,a,Q,R,hI,he,hQ=>by
  simp only[jB,au3,au2] at hc;obtain⟨ix,hx,iy,hy,rfl⟩:=hc;refine wp_seq (ou ua hm x ix hx s gh w a _ _ hI he (fun e s' a' br w' hr Bn=>?_))
  cases e with
  | normal=>exact ou ua hm y iy hy s' br w' a' Q R Bn hr hQ
  | exit id=>exact hQ (.exit id) s' a' br w' hr Bn
  | ret=>exact hQ .ret s' a' br w' hr Bn
 | .cond c x y,ic,hc,s,gh,w,a,Q,R,hI,he,hQ=>by
  simp only[jB,au3,au2] at hc;obtain⟨iq,hq,ix,hx,iy,hy,rfl⟩:=hc;obtain⟨t,ht,h1,h2⟩:=he;have hv:=(cU hI.W hI.F hq ht rfl).mb;cases t with
  | true=>exact wp_cond_true hv (ou ua hm x ix hx s gh w a Q R hI (h1 rfl) hQ)
  | false=>exact wp_cond_false hv (ou ua hm y iy hy s gh w a Q R hI (h2 rfl) hQ)
 | .block id c,ic,hc,s,gh,w,a,Q,R,hI,he,hQ=>by
  simp only[jB,au2] at hc;obtain⟨ix,hx,rfl⟩:=hc;refine wp_block (ou ua hm c ix hx s gh w a _ _ hI he (fun e s' a' br w' hr Bn=>?_))
  cases e with
  | normal=>exact hQ .normal s' a' br w' hr Bn
  | exit i =>
   show if i=id then Q .normal a' w' else Q (.exit i) a' w'
   simp only[leave,iI] at hr
   by_cases hi:i=id
   ·rw[if_pos hi];exact hQ .normal s' a' br w' (by simpa [hi] using hr) Bn
   ·rw[if_neg hi];exact hQ (.exit i) s' a' br w' (by simpa [hi] using hr) Bn
  | ret=>exact hQ .ret s' a' br w' hr Bn
 | .loop c,ic,hc,s,gh,w,a,Q,R,hI,he,hQ=>by
  simp only[jB,au2] at hc;obtain⟨ix,hx,rfl⟩:=hc;obtain⟨n,he⟩:=he;have rounds:∀ (m:Nat) (s:AS) (gh:Gh) (w:World) (a:Act),Inv G base nt (locals++muts) H0 mo w0 s gh w a->yV (WN G cf ix) m s R->Code.rounds P c Q m a w:=by
   intro m
   induction m with
   | zero=>intro s gh w a _ h;exact h.elim
   | succ m ih =>
    intro s gh w a hI h;rw[rounds_succ];refine ou ua hm c ix hx s gh w a _ _ hI h (fun e s' a' br w' hr Bn=>?_)
    cases e with
    | normal=>exact ih s' br w' a' Bn hr
    | exit id=>exact hQ (.exit id) s' a' br w' hr Bn
    | ret=>exact hQ .ret s' a' br w' hr Bn
  exact wp_loop_rounds n (rounds n s gh w a hI he)
 | .exit id,ic,hc,s,gh,w,a,Q,R,hI,he,hQ=>by
  simp only[jB,au4] at hc;subst hc;exact wp_exit (hQ (.exit id) s a gh w he hI)
 | .ret,ic,hc,s,gh,w,a,Q,R,hI,he,hQ=>by
  simp only[jB,au4] at hc;subst hc;exact wp_ret (hQ .ret s a gh w he hI)
 | .label l,ic,hc,s,gh,w,a,Q,R,hI,he,hQ=>by
  simp only[jB,au4] at hc;subst hc;exact wp_label (hQ .normal s a gh w he hI)
 | .scope c,ic,hc,s,gh,w,a,Q,R,hI,he,hQ=>by
  simp only[jB] at hc;refine wp_scope_straight (ou ua hm c ic hc s gh w a _ R hI he (fun e s' a' br w' hr Bn=>?_))
  have:=hQ e s' a' br w' hr Bn
  cases e<;>exact this
 | .rangeFunc _ _ _ _,_,hc,_,_,_,_,_,_,_,_,_=>by simp[jB] at hc
 | .goto _,_,hc,_,_,_,_,_,_,_,_,_=>by simp[jB] at hc
 | .refuse _,_,hc,_,_,_,_,_,_,_,_,_=>by simp[jB] at hc
end
end
section
mutual
def Ht:∀ (a b:AV),qF a b=true->a=b
 | .bool a,b,h=>by cases b<;>simp_all [qF]
 | .int k a,b,h=>by cases b<;>simp_all [qF]
 | .str a,b,h=>by cases b<;>simp_all [qF]
 | .any,b,h=>by cases b<;>simp_all [qF]
 | .nf,b,h=>by cases b<;>simp_all [qF]
 | .kA,b,h=>by cases b<;>simp_all [qF]
 | .kJ,b,h=>by cases b<;>simp_all [qF]
 | .df,b,h=>by cases b<;>simp_all [qF]
 | .ar,b,h=>by cases b<;>simp_all [qF]
 | .slice e o,b,h=>by
  cases b<;>simp[qF] at h
  rename_i f q;rw[vq e f h.1,h.2]
 | .ref l o,b,h=>by cases b<;>simp_all [qF]
 | .sref l o n z,b,h=>by cases b<;>simp_all [qF]
 | .mref l,b,h=>by cases b<;>simp_all [qF]
 | .agg a,b,h=>by
  cases b<;>simp[qF] at h
  rename_i f;rw[s9 a f h]
 | .tuple a,b,h=>by
  cases b<;>simp[qF] at h
  rename_i f;rw[s9 a f h]
 | .iface t a,b,h=>by
  cases b<;>simp[qF] at h
  rename_i t' f;rw[Ht a f h.2,h.1]
 | .eptr a,b,h=>by
  cases b<;>simp[qF] at h
  rename_i f;rw[s9 a f h]
 | .lbox g a,b,h=>by
  cases b<;>simp[qF] at h
  rename_i g' f;rw[h.1,s9 a f h.2]
 | .lref s g o,b,h=>by cases b<;>simp_all [qF]
 | .lsl g e,b,h=>by
  cases b<;>simp[qF] at h
  rename_i g' f;rw[h.1,vq e f h.2]
 | .lsr s g,b,h=>by cases b<;>simp_all [qF]
 | .eref s g i z o,b,h=>by cases b<;>simp_all [qF]
 | .je kz ka va e,b,h=>by
  cases b<;>simp[qF] at h
  rename_i qo qm qp f;rw[h.1.1.1,h.1.1.2,h.1.2,vq e f h.2]
 | .mz kz ka va e,b,h=>by
  cases b<;>simp[qF] at h
  rename_i qo qm qp f;rw[h.1.1.1,h.1.1.2,h.1.2,vq e f h.2]
 | .iter g kz ka va c e,b,h=>by
  cases b<;>simp[qF] at h
  rename_i g' qo qm qp c' f;rw[h.1.1.1.1.1,h.1.1.1.1.2,h.1.1.1.2,h.1.1.2,s9 c c' h.1.2,vq e f h.2]
 | .func f a c,b,h=>by
  cases b<;>simp[qF] at h
  rename_i f' b d;rw[h.1.1,s9 a b h.1.2,s9 c d h.2]
def s9:∀ (a b:List AV),L2 a b=true->a=b
 | [],b,h=>by cases b<;>simp_all [L2]
 | x :: l,b,h=>by
  cases b with
  | nil=>simp[L2] at h
  | cons y m =>
   simp[L2] at h;rw[Ht x y h.1,s9 l m h.2]
def vq:∀ (a b:List (List AV)),Bj a b=true->a=b
 | [],b,h=>by cases b<;>simp_all [Bj]
 | x :: l,b,h=>by
  cases b with
  | nil=>simp[Bj] at h
  | cons y m =>
   simp[Bj] at h;rw[s9 x y h.1,vq l m h.2]
end
mutual
def CC:∀ a:AV,qF a a=true
 | .bool _|.int _ _|.str _|.any|.nf|.kA|.kJ|.df|.ar|.ref _ _|.sref _ _ _ _|.mref _|.lref _ _ _|.lsr _ _|.eref _ _ _ _ _=>by simp[qF]
 | .slice e o=>by simp[qF,pa e]
 | .agg a=>by simp[qF,mV a]
 | .tuple a=>by simp[qF,mV a]
 | .iface t a=>by simp[qF,CC a]
 | .eptr a=>by simp[qF,mV a]
 | .lbox g a=>by simp[qF,mV a]
 | .lsl g e=>by simp[qF,pa e]
 | .je kz ka va e=>by simp[qF,pa e]
 | .mz kz ka va e=>by simp[qF,pa e]
 | .iter g kz ka va c e=>by simp[qF,mV c,pa e]
 | .func f a c=>by simp[qF,mV a,mV c]
def mV:∀ l:List AV,L2 l l=true
 | []=>rfl
 | a :: l=>by simp[L2,CC a,mV l]
def pa:∀ l:List (List AV),Bj l l=true
 | []=>rfl
 | a :: l=>by simp[Bj,mV a,pa l]
end
theorem Am:∀ (n:Nat) (l:List Nat),l.Nodup->(∀ i,i∈l->i<n)->l.length<=n
 | 0,l,_,h=>by
  cases l with
  | nil=>exact Nat.le_refl _
  | cons i l=>exact absurd (h i List.mem_cons_self) (axF _)
 | n+1,l,Qn,h=>by
  have ih:=Am n (l.erase n) (Qn.erase n) (fun i hi=>by
   have:=(Qn.mem_erase_iff).1 hi
   have:=h i this.2
   omega)
  grind
section
variable {G:Nat->List AV}{cf:gz}
def F8:∀ (a b:List aV) (s:AS),gO G cf (a++b) s=(gO G cf a s).bind (gO G cf b)
 | [],b,s=>by simp[gO]
 | o :: a,b,s=>by
  simp only[avK,gO];cases aS G cf s o with
  | none=>rfl
  | some s1=>simp only[au9];exact F8 a b s1
def AB(G:Nat->List AV)(s:AS)(q:Bool × Nat × Nat × aE):Prop:=cS s false q.1 q.2.1 (q.2.2.2.addr G s.T)=some (s.T q.2.2.1,none)
def XL{d:Nat}{x:aE}{s s':AS}(h:aS G cf s ⟨none,none,.same agg sz d x⟩=some s'):s'=s/\AB G s (agg,sz,d,x):=by
 simp only[aS,aR,au3] at h;obtain⟨⟨z,so⟩,h1,h2⟩:=h;split at h1
 ·rename_i v hv
  obtain⟨h3,h1⟩:=al h1;simp only[au4,au8] at h1;obtain⟨rfl,rfl⟩:=h1;simp[AS.ca] at h2;refine⟨h2.symm,?_⟩;unfold AB;rw[hv,Ht _ _ h3]
 ·cases h1
def vP{L:List Nat}{cl:List (List Nat)}{k:Nat} : ∀ (done:List Nat) (s s' : AS),
  gO G cf (done.filterMap fun j=>cond ((cl.getD k []).contains j) none ((ops[j]?).bind fun o=>(lF L ops o).map fun q=>⟨none,none,.same q.1 q.2.1 q.2.2.1 q.2.2.2⟩)) s=some s' ->
  s'=s/\∀ j,j∈done->(cl.getD k []).contains j=false->∀ q,(ops[j]?).bind (lF L ops)=some q->AB G s q
 | [],s,s',h=>by simp[gO] at h;exact⟨h.symm,fun j hj=>by simp at hj⟩
 | j :: done,s,s',h=>by
  rw[List.filterMap_cons] at h;cases hc:(cl.getD k []).contains j with
  | true =>
   rw[hc] at h;simp only[cond_true] at h;obtain⟨h1,h2⟩:=vP done s s' h;exact⟨h1,fun i hi kP q hq=>by
    rcases avs.1 hi with rfl|hi
    ·rw[hc] at kP;cases kP
    ·exact h2 i hi kP q hq⟩
  | false =>
   rw[hc] at h;simp only[cond_false] at h;cases ho:(ops[j]?).bind (lF L ops) with
   | none =>
    have:((ops[j]?).bind fun o=>(lF L ops o).map fun q=>(⟨none,none,.same q.1 q.2.1 q.2.2.1 q.2.2.2⟩:aV))=none:=by
     cases hj:ops[j]? with
     | none=>rfl
     | some o=>rw[hj] at ho;simp only[au9] at ho ⊢;rw[ho];rfl
    rw[this] at h;obtain⟨h1,h2⟩:=vP done s s' h;exact⟨h1,fun i hi kP q hq=>by
     rcases avs.1 hi with rfl|hi
     ·rw[ho] at hq;cases hq
     ·exact h2 i hi kP q hq⟩
   | some q =>
    have:((ops[j]?).bind fun o=>(lF L ops o).map fun q=>(⟨none,none,.same q.1 q.2.1 q.2.2.1 q.2.2.2⟩:aV))=some ⟨none,none,.same q.1 q.2.1 q.2.2.1 q.2.2.2⟩:=by
     cases hj:ops[j]? with
     | none=>rw[hj] at ho;cases ho
     | some o=>rw[hj] at ho;simp only[au9] at ho ⊢;rw[ho];rfl
    rw[this] at h;simp only[gO,au3] at h;obtain⟨s1,h3,h⟩:=h;obtain⟨rfl,h4⟩:=XL h3;obtain⟨h1,h2⟩:=vP done _ s' h;exact⟨h1,fun i hi kP q' hq=>by
     rcases avs.1 hi with rfl|hi
     ·rw[ho] at hq;cases hq;exact h4
     ·exact h2 i hi kP q' hq⟩
def Bf{L:List Nat}{cl:List (List Nat)} : ∀ (todo done:List Nat) (s s' : AS),(∀ k,k∈todo->k<ops.length) ->
  gO G cf (G3 pc L ops cl es done todo) s=some s' ->
  ∃ S:Nat->AS,S 0=s/\S todo.length=s'/\∀ (p k:Nat),todo[p]?=some k->∃ o,ops[k]?=some o /\
   (∀ c y,wu ops L o.op=some (c,y)->(∀ g w,o.guard=some (g,w)->(S p).T g=.bool w)->gr c (y.addr G (S p).T)=true) /\
   aS G cf (S p) (nq pc o)=some (S (p+1)) /\
   ((es.getD k default).wh=true->∀ j,j∈done++todo.take p->(cl.getD k []).contains j=false->∀ q,(ops[j]?).bind (lF L ops)=some q->AB G (S (p+1)) q)
 | [],done,s,s',aZ,h=>by
  simp only[G3,gO,au4] at h;exact⟨fun _=>s,rfl,h,fun p k hp=>by simp at hp⟩
 | k :: r,done,s,s',aZ,h=>by
  obtain⟨o,ho⟩:∃ o,ops[k]?=some o:=⟨_,au5 (aZ k (by simp))⟩
  simp only[G3,ho,F8,au3] at h;obtain⟨s1,h1,s2,h2,h3⟩:=h;obtain⟨b1,b2⟩:=QB h1;have hr:s2=s1/\((es.getD k default).wh=true->∀ j,j∈done->(cl.getD k []).contains j=false->∀ q,(ops[j]?).bind (lF L ops)=some q->AB G s1 q):=by
   unfold ab4 at h2;cases hw:(es.getD k default).wh with
   | false=>rw[hw] at h2;simp only[cond_false,gO,au4] at h2;exact⟨h2.symm,fun h=>by cases h⟩
   | true =>
    rw[hw] at h2;obtain⟨c1,c2⟩:=vP done s1 s2 h2;exact⟨c1,fun _=>c2⟩
  obtain⟨rfl,hre⟩:=hr;obtain⟨S,d0,d1,d2⟩:=Bf r (done++[k]) s2 s' (fun j hj=>aZ j (awc _ hj)) h3
  refine⟨fun p=>match p with|0=>s|p+1=>S p,rfl,d1,fun p k' hp=>?_⟩
  cases p with
  | zero =>
   simp only[avk,au4] at hp;subst hp;refine⟨o,ho,b1,by rw[b2,<- d0],fun hw j hj=>?_⟩
   simp only[avY,List.append_nil] at hj
   show _->∀ q,_->AB G (S 0) q
   rw[d0];exact hre hw j hj
  | succ p =>
   obtain⟨o',e1,e2,e3,e4⟩:=d2 p k' (by simpa using hp)
   refine⟨o',e1,e2,e3,fun hw j hj=>e4 hw j ?_⟩
   simpa using hj
def DR{L:List Nat}(h:lF L ops o=some q):o=⟨some q.2.2.1,none,.load false q.1 q.2.1 q.2.2.2⟩/\Je ops L q.2.2.2=.heap/\q.2.2.1∉q.2.2.2.tmps:=by
 unfold lF at h;split at h
 ·rename_i d agg sz x
  obtain⟨h1,h⟩:=al h;injection h with h
  subst h;simp only[au6,avo,axM,avp] at h1;refine⟨rfl,?_,h1.2⟩;have h1:=h1.1;generalize Je ops L x=c at h1;cases c with
  | heap=>rfl
  | _=>cases h1
 ·cases h
def vB{s x:AS}{v:AV}{r:Option AS}(hc:gr .heap v=true)(hH:x.H=s.H)(h:cS s false agg sz v=some (z,r)):cS x false agg sz v=some (z,none)/\r=none:=by
 unfold cS at h ⊢;cases v<;>simp only at h ⊢<;>try (cases h;done)
 case eptr cs =>
  simp only[au2,au8] at h ⊢;obtain⟨w,h1,rfl,rfl⟩:=h;exact⟨⟨w,h1,rfl,trivial⟩,rfl⟩
 case ref loc off =>
  rw[hH];generalize s.H[loc]?=X at h ⊢;cases X with
  | none=>cases h
  | some ob =>
   cases ob<;>simp only[avt,cond_false] at h ⊢<;>try (cases h;done)
   all_goals
    simp only[au2,au8] at h ⊢;obtain⟨w,h1,rfl,rfl⟩:=h;exact⟨⟨w,h1,rfl,trivial⟩,rfl⟩
 case lref=>cases hc
 case eref=>cases hc
def okP{L:List Nat}{pre cl:List (List Nat)}(h:okS L ops pre cl es ord=true) :
  pre.length=ops.length/\ord.length=ops.length/\ord.Nodup/\(∀ k,k∈ord->k<ops.length)/\(∀ k,k<ops.length->∀ e,e∈pre.getD k []->e<k) /\
  (∀ k,k<ops.length->∀ j,j∈cl.getD k []->∃ e,e∈pre.getD k []/\(j=e\/j∈cl.getD e [])) /\
  (∀ q,q<ops.length->∀ p,p<q->Dq L ops cl es ord p q=true):=by
 simp only[okS,au6,ava,awL,List.any_eq_true,awx,avn,iI,avf] at h;obtain⟨⟨⟨⟨⟨⟨h1,h2⟩,h3⟩,h4⟩,h5⟩,h6⟩,h8⟩:=h;refine⟨h1,h2,?_,h4,h5,fun k hk j hj=>?_,h8⟩
 ·clear h1 h2 h4 h5 h6 h8
  induction ord with
  | nil=>exact List.nodup_nil
  | cons x l ih =>
   simp only[MU,au6,avo,axM,avp] at h3;exact axE.2 ⟨h3.1,ih h3.2⟩
 ·obtain⟨e,he,h⟩:=h6 k hk j hj
  exact⟨e,he,by simpa using h⟩
def F0{pre cl:List (List Nat)}{n:Nat}{X:Nat->Prop}(yG:∀ k,k<n->∀ e,e∈pre.getD k []->e<k)
  (mA:∀ k,k<n->∀ j,j∈cl.getD k []->∃ e,e∈pre.getD k []/\(j=e\/j∈cl.getD e []))
  (hX:∀ k,k<n->X k->∀ e,e∈pre.getD k []->X e):∀ k,k<n->X k->∀ j,j∈cl.getD k []->X j:=by
 intro k
 induction k using Nat.strongRecOn with
 | _ k ih =>
  intro hk hx j hj;obtain⟨e,h1,h2⟩:=mA k hk j hj;have aZ:=yG k hk e h1;have hxe:=hX k hk hx e h1
  rcases h2 with rfl|h2
  ·exact hxe
  ·exact ih e aZ (by omega) hxe j h2
variable {n k:Nat}{S:Nat->AS}{E:Nat->rB}{X:Nat->Prop}{x x1:AS}
def F6{L:List Nat} : ∀ {l:List aV} {es:List rB},F5 pc L ops l=some es->es.length=l.length/\∀ (i:Nat) (o:aV),l[i]?=some o->LY pc L ops o=some (es.getD i default)
 | [],es,h=>by simp[F5] at h;subst h;exact⟨rfl,fun i o hi=>by simp at hi⟩
 | o :: l,es,h=>by
  simp only[F5,au3,au2] at h;obtain⟨e,he,uI,h',rfl⟩:=h;obtain⟨h1,h2⟩:=F6 h';refine⟨by simp[h1],fun i o' hi=>?_⟩
  cases i with
  | zero=>simp only[avk,au4] at hi;subst hi;simpa using he
  | succ i=>simpa using h2 i o' (by simpa using hi)
def Jo{L:List Nat}(h:LY pc L ops o=some e):∃ e0,Jm pc ops L o=some e0/\e.rs=e0.rs/\e.ws=e0.ws/\e.wh=e0.wh/\e.wg=e0.wg/\(lF L ops o=none->e=e0):=by
 simp only[LY,au2] at h;obtain⟨e0,h1,h2⟩:=h;refine⟨e0,h1,?_⟩;split at h2
 ·rename_i q hq
  subst h2;exact⟨rfl,rfl,rfl,rfl,fun h=>by rw[hq] at h;cases h⟩
 ·subst h2
  exact⟨rfl,rfl,rfl,rfl,fun _=>rfl⟩
def fU.congr{e0:rB}{x x1:AS}(h1:e.ws=e0.ws)(h2:e.wh=e0.wh)(h3:e.wg=e0.wg)(h:fU e0 s1 x x1):fU e s1 x x1 :=
 ⟨fun t ht=>h.T t (by rw[<- h1];exact ht),fun t ht=>h.T' t (by rw[<- h1];exact ht),fun a=>h.H (by rw[<- h2];exact a),fun a=>h.H' (by rw[<- h2];exact a),fun a=>h.G (by rw[<- h3];exact a),fun a=>h.G' (by rw[<- h3];exact a)⟩
def af0{L:List Nat}(hq:lF L ops o=some q)(he:LY pc L ops o=some e) :
  e.ws=[q.2.2.1]/\e.wh=false/\e.wg=false/\(∀ t,t∈q.2.2.2.tmps->t∈e.rs)/\e.rh=false:=by
 obtain⟨rfl,hc,_⟩:=DR hq;unfold LY at he;rw[hq] at he;simp only[Jm,wu,hc,F4,ave,au4,Ae,iB] at he;subst he;simp
def Z7{s:AS}(ho:o=⟨some q.2.2.1,none,.load false q.1 q.2.1 q.2.2.2⟩)(hc:gr .heap (q.2.2.2.addr G s.T)=true)(h:aS G cf s o=some s1) :
  ∃ z,cS s false q.1 q.2.1 (q.2.2.2.addr G s.T)=some (z,none)/\s1=s.ca (some q.2.2.1) z:=by
 subst ho;simp only[aS,aR,au3] at h;obtain⟨⟨z,so⟩,h1,h2⟩:=h;obtain⟨h3,rfl⟩:=vB hc rfl h1;refine⟨z,h3,?_⟩
 simpa using h2.symm
def af1{x:AS}(ho:o=⟨some q.2.2.1,none,.load false q.1 q.2.1 q.2.2.2⟩)(h:cS x false q.1 q.2.1 (q.2.2.2.addr G x.T)=some (z,none)) :
  aS G cf x o=some (x.ca (some q.2.2.1) z):=by
 subst ho;simp[aS,aR,h]
def Wp{L:List Nat}{pre cl:List (List Nat)}(IM:F5 pc L ops ops=some es)(ri:okS L ops pre cl es ord=true)
  {s s' : AS} (he:gO G cf (G3 pc L ops cl es [] ord) s=some s') {Q:AS->Prop} (hQ:Q s'):wU G cf ops pre ops.length (Array.replicate ops.length false) s Q:=by
 obtain⟨gW,hol,Qn,aZ,yG,mA,TZ⟩:=okP ri;obtain⟨S,h0,hn,hS⟩:=Bf ord [] s s' aZ he;rw[hol] at hn;obtain⟨apl,amx⟩:=F6 IM
 let π:Nat->Nat:=fun p=>ord.getD p 0
 let E:Nat->rB:=fun p=>es.getD (π p) default
 have hπ:∀ p,p<ops.length->ord[p]?=some (π p):=fun p hp=>by
  have:p<ord.length:=by omega
  simp[π,this]
 have hπl:∀ p,p<ops.length->π p<ops.length:=fun p hp=>aZ _ (avb (hπ p hp))
 have hπi:∀ p q,p<ops.length->q<ops.length->π p=π q->p=q:=fun p q hp hq h=>by
  have a:=hπ p hp;have b:=hπ q hq;obtain⟨a1,a2⟩:=au7.1 a;obtain⟨b1,b2⟩:=au7.1 b;exact (List.getElem_inj Qn).1 (by rw[a2,b2,h])
 have Ab:∀ i,i<ops.length->∃ p,p<ops.length/\π p=i:=fun i hi=>by
  have hm:i∈ord:=by
   cases hc:ord.contains i with
   | true=>simpa using hc
   | false =>
    have hni:i∉ord:=by simpa using hc
    have:=Am ops.length (i :: ord) (axE.2 ⟨hni,Qn⟩) (fun j hj=>by
     rcases avs.1 hj with rfl|hj
     ·exact hi
     ·exact aZ j hj)
    simp at this;omega
  obtain⟨p,hp,e⟩:=List.mem_iff_getElem.1 hm;refine⟨p,by omega,?_⟩
  simp[π,hp,e]
 have hSp:∀ p,p<ops.length->∃ o,ops[π p]?=some o/\LY pc L ops o=some (E p) /\
   (∀ c y,wu ops L o.op=some (c,y)->(∀ g w,o.guard=some (g,w)->(S p).T g=.bool w)->gr c (y.addr G (S p).T)=true) /\
   aS G cf (S p) (nq pc o)=some (S (p+1)) /\
   ((E p).wh=true->∀ j,j∈ord.take p->(cl.getD (π p) []).contains j=false->∀ q,(ops[j]?).bind (lF L ops)=some q->AB G (S (p+1)) q):=fun p hp=>by
  obtain⟨o,a,b,c,d⟩:=hS p (π p) (hπ p hp);exact⟨o,a,amx _ o a,b,c,fun hw j hj=>d hw j (by simpa using hj)⟩
 have R1:∀ (e:rB) (q:AS),WR e q q:=fun e q=>⟨fun _ _=>rfl,fun _=>⟨rfl,rfl⟩,fun _=>rfl⟩
 have hK:RO S E ops.length:=by
  have mv:∀ j,j<ops.length->fU (E j) (S (j+1)) (S j) (S (j+1)):=by
   intro j hj;obtain⟨o,ho,hx,hc,ct,_⟩:=hSp j hj;obtain⟨e0,he0,_,e2,e3,e4,_⟩:=Jo hx;obtain⟨x1,h1,h2,_⟩:=Dg he0 hc ct (R1 _ (S j));rw[zh ct] at h1;injection h1 with h1
   rw[<- h1] at h2;exact h2.congr e2 e3 e4
  refine⟨fun t j hj hw=>(mv j hj).T' t hw,fun j hj hw=>?_,fun j hj hw=>(mv j hj).G' (by simpa using hw)⟩
  have:=(mv j hj).H' (by simpa using hw)
  simp only[this]
 have aa7:∀ p q,p<q->q<ops.length->conflict (E q) (E p)=true->π p∈cl.getD (π q) []:=by
  intro p q hpq hq hc;have:=TZ q hq p hpq
  simp only[Dq,au6] at this;have h1:=this.1.1;simp only[E,π] at hc;rw[hc] at h1
  simpa [π] using h1
 have main:∀ (n:Nat) (B:Array Bool) (x:AS),B.size=ops.length->(∀ l:List Nat,l.Nodup->(∀ i,i∈l->i<ops.length/\B.getD i true=false)->l.length<=n) ->
   (∀ k,k<ops.length->B.getD k false=true->∀ e,e∈pre.getD k []->B.getD e false=true) ->
   wP S E (fun p=>p<ops.length/\B.getD (π p) false=true) x->wU G cf ops pre n B x Q:=by
  intro n;have fin:∀ (B:Array Bool) (x:AS),(∀ i,i<ops.length->B.getD i false=true)->wP S E (fun p=>p<ops.length/\B.getD (π p) false=true) x->Q x:=by
   intro B x ft hB;rw[LD hK hB (fun j=>⟨fun h=>h.1,fun h=>⟨h,ft _ (hπl j h)⟩⟩),hn]
   exact hQ
  have mem_ready:∀ (B:Array Bool) (i:Nat),i∈jZ pre B↔i<ops.length/\B.getD i true=false/\∀ e,e∈pre.getD i []->B.getD e false=true:=by
   intro B i;unfold jZ;rw[axn,awL,gW];simp only[au6,avo,ava]
  induction n with
  | zero =>
   intro B x Qm adz BU hB;have ft:∀ i,i<ops.length->B.getD i false=true:=by
    intro i hi;cases hb:B.getD i true with
    | true =>
     have:i<B.size:=by omega
     simpa [this] using hb
    | false =>
     have:=adz [i] (by simp) (fun j hj=>by simp at hj;subst hj;exact⟨hi,hb⟩)
     simp at this
   refine⟨?_,fin B x ft hB⟩;cases hr:jZ pre B with
   | nil=>rfl
   | cons i r =>
    obtain⟨h1,h2,_⟩:=(mem_ready B i).1 (by rw[hr];exact List.mem_cons_self)
    have:=ft i h1
    have uP:i<B.size:=by omega
    simp[uP] at this h2;rw[this] at h2;cases h2
  | succ n ih =>
   intro B x Qm adz BU hB;refine⟨fun ad4=>fin B x ?_ hB,fun i hi=>?_⟩
   ·intro i
    induction i using Nat.strongRecOn with
    | _ i Ow =>
     intro Mi;have uP:i<B.size:=by omega
     cases hb:B.getD i true with
     | true=>simpa [uP] using hb
     | false =>
      exfalso;have:i∈jZ pre B:=(mem_ready B i).2 ⟨Mi,hb,fun e he=>Ow e (yG i Mi e he) (by have:=yG i Mi e he;omega)⟩
      rw[ad4] at this;cases this
   ·obtain⟨Mi,ad8,Tu⟩:=(mem_ready B i).1 hi
    have uP:i<B.size:=by omega
    obtain⟨p,hp,rfl⟩:=Ab i Mi;obtain⟨o,ho,hx,hc,ct,Lh⟩:=hSp p hp;have aiP:¬ (B.getD (π p) false=true):=by
     simp[uP] at ad8 ⊢;exact ad8
    have ready:∀ j,j∈cl.getD (π p) []->B.getD j false=true:=by
     intro j hj;obtain⟨e,h1,h2⟩:=mA (π p) Mi j hj;have:=Tu e h1
     rcases h2 with rfl|h2
     ·exact this
     ·exact F0 (X:=fun i=>B.getD i false=true) yG mA BU e (by have:=yG _ Mi e h1;omega) this j h2
    have closed:∀ r,r<ops.length->B.getD (π r) false=true->π p∉cl.getD (π r) []:=fun r hr hb hm =>
     aiP (F0 (X:=fun i=>B.getD i false=true) yG mA BU (π r) (hπl r hr) hb (π p) hm)
    have later:∀ j,p<j->conflict (E j) (E p)=true->¬ (j<ops.length/\B.getD (π j) false=true):=fun j hpj hcj hj=>closed j hj.1 hj.2 (aa7 p j hpj hj.1 hcj)
    have NW:∀ j,j<p->conflict (E p) (E j)=true->(j<ops.length/\B.getD (π j) false=true):=fun j hj hcj=>⟨by omega,ready _ (aa7 j p hj hp hcj)⟩
    have hX:¬ (p<ops.length/\B.getD (π p) false=true):=fun h=>aiP h.2
    have step:∃ x1,aS G cf x o=some x1/\fU (E p) (S (p+1)) x x1:=by
     cases iz:lF L ops o with
     | none =>
      obtain⟨e0,he0,_,_,_,_,e5⟩:=Jo hx;have hA:WR (E p) (S p) x:=Cp hK hp hB hX NW later;have e5' : E p=e0:=e5 iz;rw[e5'] at hA;obtain⟨x1,h1,h2,_⟩:=Dg he0 hc ct hA;rw[<- e5'] at h2;exact⟨x1,h1,h2⟩
     | some q =>
      obtain⟨hoq,amq,am8⟩:=DR iz;obtain⟨f1,f2,f3,f4,f5⟩:=af0 iz hx;have hTr:=(Cp hK hp hB hX NW later).T;have hck:gr .heap (q.2.2.2.addr G (S p).T)=true:=by
       refine hc .heap q.2.2.2 ?_ (fun g w h=>by rw[hoq] at h;cases h)
       rw[hoq];simp only[wu,amq]
      obtain⟨z,hz1,hz2⟩:=Z7 hoq hck (zh ct);have hzd:(S (p+1)).T q.2.2.1=z:=by rw[hz2];simp[AS.ca,fI]
      have had:q.2.2.2.addr G x.T=q.2.2.2.addr G (S p).T:=Ci (s:=S p) (x:=x) (e:=E p) hTr f4;have TN:cS x false q.1 q.2.1 (q.2.2.2.addr G x.T)=some (z,none):=by
       rw[had];have JX:∀ a b,a<=b->b<=ops.length->(∀ j,a<=j->j<b->¬ ((E j).wh=true))->(S b).H=(S a).H:=fun a b h1 h2 h3=>by
        have:=sW (f:=fun s:AS=>(s.H,s.lo)) (w:=fun j=>(E j).wh=true) (fun j=>hK.H j) b h1 h2 h3
        simp only[au8] at this;exact this.1
       have wl:∀ j,j<p->(E j).wh=true->(j<ops.length/\B.getD (π j) false=true):=by
        intro j hj hw;refine⟨by omega,ready _ ?_⟩
        have:=TZ p hp j hj
        simp only[Dq,au6] at this;have h1:=this.1.2;have h2:QE L ops (ord.getD p 0)=true:=by simp only[QE];rw[show ops[ord.getD p 0]?=some o from ho];simp[iz]
        have h3:(es.getD (ord.getD j 0) default).wh=true:=hw;rw[h2,h3] at h1
        simpa [π] using h1
       rcases hB.H with ⟨i,hXi,Yp,TQ,hHe⟩|⟨mJ,hHe⟩
       ·simp only[au8] at hHe
        rcases axf i p with hip|hip|hip
        ·have:(S p).H=(S (i+1)).H:=JX (i+1) p (by omega) (by omega) (fun j h1 h2 hw=>by
          have:=TQ j (wl j h2 hw) hw
          omega)
         exact (vB hck (by rw[hHe.1,this]) hz1).1
        ·subst hip
         have:(E i).wh=false:=f2
         rw[this] at Yp;cases Yp
        ·
         have hpi:=TZ i hXi.1 p hip;simp only[Dq,au6] at hpi;have h1:=hpi.2;have h2:QE L ops (ord.getD p 0)=true:=by simp only[QE];rw[show ops[ord.getD p 0]?=some o from ho];simp[iz]
         have h3:(es.getD (ord.getD i 0) default).wh=true:=Yp;have h4:(cl.getD (ord.getD i 0) []).contains (ord.getD p 0)=false:=by
          have:=closed i hXi.1 hXi.2
          simpa [π] using this
         rw[h2,h3,h4] at h1;simp only[Bool.and_self,av8,av3,ava,awL,awx,avv,avo] at h1;have anx:stT L ops (ord.getD p 0)=q.2.2.1 :: q.2.2.2.tmps:=by
          simp only[stT];rw[show ops[ord.getD p 0]?=some o from ho];simp[iz]
         have J1:∀ t,t∈q.2.2.1 :: q.2.2.2.tmps->(S (i+1)).T t=(S (p+1)).T t:=by
          intro t ht;refine sW (f:=fun s:AS=>s.T t) (w:=fun j=>t∈(E j).ws) (fun j=>hK.T t j) (i+1) (by omega) (by omega) (fun j j1 j2 hw=>?_)
          rcases h1 j j2 with h|h
          ·omega
          ·rw[anx] at h
           have:=vC (x:=(E j).ws) hw ht
           rw[show meets (E j).ws (q.2.2.1 :: q.2.2.2.tmps)=false from h] at this
           cases this
         obtain⟨_,_,_,_,_,amj⟩:=hSp i hXi.1;have adO:π p∈ord.take i:=by
          refine avb (i:=p) ?_;rw[avw,if_pos hip];exact hπ p hp
         have hA:=amj Yp (π p) adO h4 q (by rw[ho];exact iz)
         unfold AB at hA;have hpT:∀ t,t∈q.2.2.2.tmps->(S (p+1)).T t=(S p).T t:=fun t ht=>by
          rw[hz2];simp only[AS.ca,fI];rw[if_neg (fun h=>am8 (by rw[<- h];exact ht))]
         have ami:q.2.2.2.addr G (S (i+1)).T=q.2.2.2.addr G (S p).T :=
          Ci (s:=S p) (x:=S (i+1)) (e:=⟨q.2.2.2.tmps,[],false,false,false⟩) (fun t ht=>(J1 t (awc _ ht)).trans (hpT t ht)) (fun t ht=>ht)
         rw[ami,J1 _ List.mem_cons_self,hzd] at hA;exact (vB hck hHe.1 hA).1
       ·simp only[au8] at hHe
        have:(S p).H=(S 0).H:=JX 0 p (by omega) (by omega) (fun j _ h2 hw=>mJ j (wl j h2 hw) hw)
        exact (vB hck (by rw[hHe.1,this]) hz1).1
      have hM:fU (E p) (S (p+1)) x (x.ca (some q.2.2.1) z):=by
       refine⟨fun t ht=>?_,fun t ht=>?_,fun h=>?_,fun _=>⟨rfl,rfl⟩,fun h=>?_,fun _=>rfl⟩
       ·rw[f1] at ht
        rw[avi.1 ht,hzd];simp[AS.ca,fI]
       ·rw[f1] at ht
        have:t≠q.2.2.1:=by simpa using ht
        simp[AS.ca,fI,this]
       ·rw[show (E p).wh=false from f2] at h;cases h
       ·rw[show (E p).wg=false from f3] at h;cases h
      exact⟨_,af1 hoq TN,hM⟩
    obtain⟨x1,nY,hM⟩:=step;refine⟨o,x1,ho,nY,?_⟩;have qu:∀ j,(B.setIfInBounds (π p) true).getD j false=true↔(B.getD j false=true\/j=π p):=by
     intro j
     by_cases hji:π p=j
     ·subst hji
      simp[uP]
     ·rw[getD_set_ne false hji]
      simp[awr hji]
    have hB':=I' hB hX later hM;have adE:∀ j,((j<ops.length/\B.getD (π j) false=true)\/j=p)↔(j<ops.length/\(B.setIfInBounds (π p) true).getD (π j) false=true):=by
     intro j;rw[qu];constructor
     ·rintro (⟨h1,h2⟩|rfl)
      ·exact⟨h1,.inl h2⟩
      ·exact⟨hp,.inr rfl⟩
     ·rintro ⟨h1,h2|h2⟩
      ·exact .inl ⟨h1,h2⟩
      ·exact .inr (hπi j p h1 hp h2)
    refine ih (B.setIfInBounds (π p) true) _ (by simpa using Qm) (fun l Qn hl=>?_) (fun j hj hjb e he=>?_) ⟨fun t=>wX adE (hB'.T t),wX adE hB'.H,wX adE hB'.G⟩
    ·have aic:π p∉l:=by
      intro hm;have:=(hl _ hm).2
      simp[uP] at this
     have:=adz (π p :: l) (axE.2 ⟨aic,Qn⟩) (fun j hj=>by
      rcases avs.1 hj with rfl|hj
      ·exact⟨Mi,ad8⟩
      ·have h1:=hl j hj
       have hji:π p≠j:=by rintro rfl;exact aic hj
       rw[getD_set_ne true hji] at h1;exact h1)
     simp at this;omega
    ·rcases (qu j).1 hjb with h|rfl
     ·exact (qu _).2 (.inl (BU j hj h e he))
     ·exact (qu _).2 (.inl (Tu e he))
 have mJ:∀ i,¬ ((Array.replicate ops.length false).getD i false=true):=by
  intro i h;have:(Array.replicate ops.length false).getD i false=false:=by
   by_cases h:i<ops.length<;>simp[h]
  rw[this] at h;cases h
 refine main ops.length _ _ (by simp) (fun l Qn hl=>Am ops.length l Qn (fun i hi=>(hl i hi).1)) (fun j _ h=>absurd h (mJ j)) ?_
 rw[<- h0];exact I9 fun j h=>mJ _ h.2
end
end
section
section
variable {G:Nat->List AV}{cf:gz}
def Az:∀ (l:List aV) (s:AS) {Q:AS->Prop},QR l=true->qh G cf l s Q->∃ s1,gO G cf l s=some s1/\Q s1
 | [],s,Q,_,h=>⟨s,rfl,h⟩
 | o :: l,s,Q,hn,h=>by
  simp only[QR,List.all_cons,au6] at hn;unfold qh at h;rw[awP.1 hn.1] at h;obtain⟨s',h1,h2⟩:=h;obtain⟨s1,h3,h4⟩:=Az l s' hn.2 h2;exact⟨s1,by simp only[gO,h1,au9,h3],h4⟩
def Ic{L:List Nat}{pre:List (List Nat)}{c:aK}{s:AS}(hc:WN G cf c s Q->WN G cf (.rD ops pre) s Q)(h:WN G cf (orR L ops pre c pc) s Q):WN G cf (.rD ops pre) s Q:=by
 unfold orR at h;split at h
 ·rename_i l hl
  cases hb:QR l with
  | false=>rw[hb] at h;exact hc h
  | true =>
   rw[hb] at h;obtain⟨s1,h1,hq⟩:=Az l s hb h;simp only[Wo,au3] at hl;obtain⟨es,IM,hl⟩:=hl;obtain⟨ri,hl⟩:=al hl;injection hl with hl
   subst hl;exact Wp IM ri h1 hq
 ·exact hc h
def qg{L:List Nat} : ∀ (c:aK) (s:AS) {Q:bH->AS->Prop},WN G cf (zw L c) s Q->WN G cf c s Q
 | .skip,s,Q,h|.exit _,s,Q,h|.ret,s,Q,h|.region _,s,Q,h=>h
 | .rD ops pre,s,Q,h=>Ic (Ic id) h
 | .seq a b,s,Q,h=>jR a s (qg a s h) (lJ (fun s h=>qg b s h) fun _ _ h=>h)
 | .cond c a b,s,Q,⟨t,h1,h2,h3⟩=>⟨t,h1,fun e=>qg a s (h2 e),fun e=>qg b s (h3 e)⟩
 | .block i a,s,Q,h=>qg a s h
 | .loop a,s,Q,⟨n,h⟩=>⟨n,by
  have go:∀ (n:Nat) (s:AS),yV (WN G cf (zw L a)) n s Q->yV (WN G cf a) n s Q:=by
   intro n
   induction n with
   | zero=>exact fun _ h=>h
   | succ n ih=>exact fun s h=>jR a s (qg a s h) (lJ ih fun _ _ h=>h)
  exact go n s h⟩
end
section
variable {P:Program}{G:Nat->List AV}{H:ae}
def GX{cf:gz}(ua:jm P G cf)(hm:P.follows .mixedOrders=true)(IN:P.funcs[f]?=some fn){v:aB}(hc:bp P dI locals muts fn=some v)
  {args:List AV} {r:AV} {c:Option fP} (Rz:args.length=v.np) (xS:jN H c) (he:WN G cf v.body { T:=fi args,H,lo:=H.length,gen:=0 } fun e s=>match e with|.exit _=>False|_=>finish H.length v s=some (r,c)) :
  (∃ fn,P.funcs[f]?=some fn/\fn.body.isSome=true/\fn.name≠ "runtime.NumGoroutine")/\jN H c /\
  ∀ (base:Nat) (gh:Gh) (w:World) (vs:Array Value),a8 G base H gh w->clean gh->vs.size=args.length->(∀ (j:Nat) (v:Value) (x:AV),vs[j]?=some v->args[j]?=some x->CR gh H.length w (.par j) v x) ->
   Calls P f vs w fun e w'=>∃ v br,e=.returned v/\pA G base H gh w r c v br w':=by
 simp only[bp,Sw,au2,au3] at hc;obtain⟨qw,⟨code,JQ,b,hb,rs,Oq,hc⟩,rfl⟩:=hc;obtain⟨h0,hc⟩:=al hc;injection hc with hc
 subst hc;simp only[au6,avv,bne_iff_ne,ne_eq] at h0;refine⟨⟨fn,IN,by rw[JQ];rfl,h0.2⟩,xS,fun base gh w vs hW mA Fz dr=>?_⟩
 refine calls_of_wp IN JQ ?_;have Rz:args.length=fn.params.size+fn.nfree:=Rz;refine ou ua hm code b hb _ gh.taken w _ _ _ (Ud (locals:=locals) (muts:=muts) hW Fz (by omega) dr) (qg _ _ he) (fun e s' a' br w' hr Bn=>?_)
 cases e with
 | exit i=>exact hr.elim
 | _ =>
  obtain⟨_,v,gh2,hv,hR⟩:=Re (P:=P) hW mA Bn Oq hr;exact⟨Bn.F.defers,v,hv,v,gh2,rfl,hR⟩
structure lV (P:Program) (A:AP):Prop where
 mixed:P.follows .mixedOrders=true
 fns:∀ f v,A.fns f=some v->∃ fn dI locals muts,P.funcs[f]?=some fn/\bp P dI locals muts fn=some v
 ov:∀ f g,A.ov f=some g->gQ P A.aY f g
def zW{A:AP}(h:lV P A):∀ n,jm P A.aY (D4 A n)
 | 0=>fun f args H r c he=>by cases he
 | n+1=>fun f args H r c he=>by
  simp only[D4] at he;split at he
  ·rename_i g hg
   obtain⟨h0,he⟩:=al he;obtain⟨k1,k2,k3⟩:=h.ov f g hg args H r c he;refine⟨k1,k2,fun base gh w vs hW mA Fz dr=>k3 base gh w vs hW mA Fz (fun j v x hv hx=>?_)⟩
   rcases dr j v x hv hx with h|⟨e,rfl,_⟩
   ·exact h
   ·have:=ava.1 h0 _ (avb hx)
    simp[vG] at this
  ·split at he
   ·cases he
   ·rename_i v hf
    obtain⟨fn,dI,locals,muts,IN,hc⟩:=h.fns f v hf;have ua:=zW h n;simp only[zj] at he;obtain⟨h1,he⟩:=al he;simp only[au3] at he;obtain⟨⟨ex,s'⟩,ct,he⟩:=he;have xT:=w6 (H:=H) (fun f args H r c h=>(ua f args H r c h).2.1) n v.body _ s' ex ct ⟨Nat.le_refl _,Nat.le_refl _,fun _ _=>rfl⟩
    refine GX ua h.mixed IN hc (av5 h1) ?_ (Bi n _ _ ct ?_)
    ·cases ex with
     | exit i=>cases he
     | _=>exact CO xT he
    ·cases ex with
     | exit i=>cases he
     | _=>exact he
def Su{A:AP}(hA:lV P A):jm P A.aY (aj A):=by
 intro f args H r c h;obtain⟨n,hn⟩:=pC.1 h;exact zW hA n f args H r c hn
def oa{A:AP}(hA:lV P A) : gQ P A.aY f (aj A f):=fun args H r c he=>by
 obtain⟨k1,k2,k3⟩:=Su hA f args H r c he;exact⟨k1,k2,fun base gh w vs hW mA Fz dr=>k3 base gh w vs hW mA Fz fun j v x hv hx=>.inl (dr j v x hv hx)⟩
def ach{A:AP}(hA:lV P A)(IN:P.funcs[f]?=some fn){qw:aB}(hc:bp P dI locals muts fn=some qw){g:List AV->ae->Option (AV × Option fP)}
  (Mf:∀ args H r c,g args H=some (r,c)->jN H c)
  (hg:∀ args H x,g args H=some x->args.length=qw.np/\WN A.aY (aj A) qw.body { T:=fi args,H,lo:=H.length,gen:=0 } (fun e s=>match e with|.exit _=>False|_=>finish H.length qw s=some x)):gQ P A.aY f g:=by
 intro args H r c he;obtain⟨Rz,hwn⟩:=hg args H (r,c) he;obtain⟨k1,k2,k3⟩:=GX (Su hA) hA.mixed IN hc Rz (Mf args H r c he) hwn;exact⟨k1,k2,fun base gh w vs hW mA Fz dr=>k3 base gh w vs hW mA Fz fun j v x hv hx=>.inl (dr j v x hv hx)⟩
end
end
section
section
variable {A:AP}{T:aD}{H:ae}{lo gen:Nat}{K:AS->Prop}{os:List aV}{t:Nat}
def afP{agg:Bool}{sz b:Nat}{x:aE} : WO A (⟨none,none,.same agg sz b x⟩ :: os) ⟨T,H,lo,gen⟩ K=(y3 T H agg sz (x.addr A.aY T)=some (T b)/\WO A os ⟨T,H,lo,gen⟩ K):=by
 have hl:cS ⟨T,H,lo,gen⟩ false agg sz (x.addr A.aY T)=(y3 T H agg sz (x.addr A.aY T)).map (·,none):=by
  simp only[cS,y3,avt,cond_false];cases x.addr A.aY T with
  | ref loc off=>cases hl:H[loc]? with
   | none=>simp only[hl,bU];rfl
   | some o=>cases o<;>simp only[hl,bU]<;>rfl
  | eref b g i z off =>
   simp only[y7];cases T b<;>try rfl
   rename_i g' e;cases hb:Nat.beq g g'<;>simp only[hb,cond_true,cond_false,awf]
   cases he:e[i]?<;>simp only[au9,Option.bind_none,DC,awf]
   rename_i r;cases hr:Nat.beq r.length z<;>simp only[cond_true,cond_false,awf]
  | lref b g off =>
   simp only[pj];cases T b<;>try rfl
   rename_i g' cs;cases hb:Nat.beq g g'<;>simp only[hb,cond_true,cond_false,awf]
  | _=>rfl
 rw[fZ];simp only[aS,aR,hl];refine propext ?_;cases y3 T H agg sz (x.addr A.aY T) with
 | none=>simp[cd]
 | some v =>
  simp only[ave];cases hq:qF v (T b) with
  | false =>
   have:v≠T b:=fun e=>by rw[e,CC] at hq;cases hq
   simp[cd,this]
  | true=>simp[cd,fz,AS.ca,Ht _ _ hq]
def ZB{cs:List AV}{agg:Bool}{sz off:Nat} : bU (some (.bZ cs)) agg sz off=ab false agg sz off cs:=rfl
end
end
end Go.Abs
namespace Go.Proofs.YtbadnagdfefbnaaGreatDoor
open Go Go.Abs Go.Proofs
section
section
variable {P:Program}{t l m:List Nat}{n:Nat}{a b:Code}{x y:aK}
def cF(P:Program)(t l m:List Nat)(n:Nat)(a:Code):Option aK:=(jB P t l m n a).map (zw l)
def iU(h:cF P t l m n a=some x)(k:cF P t l m n b=some y):cF P t l m n (.seq a b)=some (.seq x y):=by
 simp only[cF,au2] at *;obtain⟨_,h,rfl⟩:=h;obtain⟨_,k,rfl⟩:=k;simp[jB,h,k,zw]
def gf{c:Operand}{z:aE}(i:av n c=some z)(h:cF P t l m n a=some x)(k:cF P t l m n b=some y):cF P t l m n (.cond c a b)=some (.cond z x y):=by
 simp only[cF,au2] at *;obtain⟨_,h,rfl⟩:=h;obtain⟨_,k,rfl⟩:=k;simp[jB,h,k,i,zw]
def fa{i:Nat}(h:cF P t l m n a=some x):cF P t l m n (.block i a)=some (.block i x):=by
 simp only[cF,au2] at *;obtain⟨_,h,rfl⟩:=h;simp[jB,h,zw]
def gk(h:cF P t l m n a=some x):cF P t l m n (.loop a)=some (.loop x):=by
 simp only[cF,au2] at *;obtain⟨_,h,rfl⟩:=h;simp[jB,h,zw]
def fe(h:cF P t l m n a=some x):cF P t l m n (.scope a)=some x:=h
def xP(f:Func){r:List iu}{k:Nat}(h:f.body=some a)(hn:f.ntmps=n)(i:cF P t l m n a=some x)(j:kC P n f.results.toList=some r)(c:(Nat.ble (f.params.size+f.nfree) n&&f.name != "runtime.NumGoroutine")=true)(e:f.params.size+f.nfree=k):bp P t l m f=some ⟨t,l,m,n,k,r,x⟩:=by
 subst hn e;simp only[cF,au2] at i;obtain⟨_,i,rfl⟩:=i;simp[bp,Sw,h,i,j,c]
end
def pT:Program:=⟨Tryz.progTables,#[]⟩
def HV(f:Func)(i:aB):Option aB:=bp Tryz.prog i.dI i.locals i.muts f
def yl(t l m:List Nat)(f:Func):aB:=(bp Tryz.prog t l m f).getD ⟨[],[],[],0,0,[],.skip⟩
def ir9:aB:=by refine(fun(_:bp pT [2,3,4] [1] [] Tryz.f9=some ?x)=>?x) ?_;rotate_left;conv=>lhs;cbv
noncomputable def ud:aB:=by
 apply (fun{x:aB}(_:bp pT [3,5,6,7,8,10,11,29,78,86,115] [2,4,9,12] [777777] Tryz.f10=some x)=>x);apply xP Tryz.f10 rfl rfl ?_ ?_ rfl rfl
 repeat' first|apply iU|apply gf|apply fa|apply gk|apply fe
 all_goals try(conv=>lhs;cbv)
 all_goals rfl
noncomputable def ir8:aB:=by
 apply (fun{x:aB}(_:bp pT [8,9,10,11,12,13,14,15,16,17,18,19,27] [] [] Tryz.f8=some x)=>x);apply xP Tryz.f8 rfl rfl ?_ ?_ rfl rfl
 repeat' first|apply iU|apply gf|apply fa|apply gk|apply fe
 all_goals try(conv=>lhs;cbv)
 all_goals rfl
def anT:aB:=by refine(fun(_:bp pT [4] [] [] Tryz.f24=some ?x)=>?x) ?_;rotate_left;conv=>lhs;cbv
def anQ:aB:=yl [3,4,5,6,7,9,10,13,15,16,17,18,19,20,21,22,45,50,56,68,78,84,109,113,120,129,147,158,181,186,193,199,30,33,95,138,700002,700008,700012,700014] [2,8,12,14,82,999999] [19,158,165,186,189] Tryz.f11
noncomputable def Yu:aB:=by
 apply (fun{x:aB}(_:bp pT [1,4,5,6] [] [1,11] Tryz.f30=some x)=>x);apply xP Tryz.f30 rfl rfl ?_ ?_ rfl rfl
 repeat' first|apply iU|apply gf|apply fa|apply gk|apply fe
 all_goals try(conv=>lhs;cbv)
 all_goals rfl
noncomputable def aej:aB:=by
 apply (fun{x:aB}(_:bp pT [2,3,4,9,25] [1] [] Tryz.f31=some x)=>x);apply xP Tryz.f31 rfl rfl ?_ ?_ rfl rfl
 repeat' first|apply iU|apply gf|apply fa|apply gk|apply fe
 all_goals try(conv=>lhs;cbv)
 all_goals rfl
noncomputable def aek:aB:=by
 apply (fun{x:aB}(_:bp pT [2,3,4,25,28,36,48,58,64,70,74,77] [1] [] Tryz.f32=some x)=>x);apply xP Tryz.f32 rfl rfl ?_ ?_ rfl rfl
 repeat' first|apply iU|apply gf|apply fa|apply gk|apply fe
 all_goals try(conv=>lhs;cbv)
 all_goals rfl
def ael:aB:=by refine(fun(_:bp pT [2] [] [777777] Tryz.f33=some ?x)=>?x) ?_;rotate_left;conv=>lhs;cbv
def aem:aB:=by refine(fun(_:bp pT [4] [] [777777] Tryz.f34=some ?x)=>?x) ?_;rotate_left;conv=>lhs;cbv
noncomputable def aen:aB:=by
 apply (fun{x:aB}(_:bp pT [6,7,8,16,22] [] [777777] Tryz.f35=some x)=>x);apply xP Tryz.f35 rfl rfl ?_ ?_ rfl rfl
 repeat' first|apply iU|apply gf|apply fa|apply gk|apply fe
 all_goals try(conv=>lhs;cbv)
 all_goals rfl
noncomputable def aeg:aB:=by
 apply (fun{x:aB}(_:bp pT [4,5,6,7,29] [] [] Tryz.f15=some x)=>x);apply xP Tryz.f15 rfl rfl ?_ ?_ rfl rfl
 repeat' first|apply iU|apply gf|apply fa|apply gk|apply fe
 all_goals try(conv=>lhs;cbv)
 all_goals rfl
noncomputable def xr:aB:=by
 apply (fun{x:aB}(_:bp pT [5,18,10,15,27,28,700004] [4] [777777] Tryz.f36=some x)=>x);apply xP Tryz.f36 rfl rfl ?_ ?_ rfl rfl
 repeat' first|apply iU|apply gf|apply fa|apply gk|apply fe
 all_goals try(conv=>lhs;cbv)
 all_goals rfl
noncomputable def fA:aB:=by
 apply (fun{x:aB}(_:bp pT [5,6,7,8,9,10,11,12,20,26,34,39,48,64,79,100,112,122,134,146,156,168,180,189,25,33,38,47,63,78,99,121,133,145,179,188,201,219,222,700004] [4] [777777] Tryz.f37=some x)=>x);apply xP Tryz.f37 rfl rfl ?_ ?_ rfl rfl
 repeat' first|apply iU|apply gf|apply fa|apply gk|apply fe
 all_goals try(conv=>lhs;cbv)
 all_goals rfl
def ai8:aB:=by refine(fun(_:bp pT [2,3,4,5,6,7,8,9,32,38] [] [] Tryz.f29=some ?x)=>?x) ?_;rotate_left;conv=>lhs;cbv
def aei:aB:=by refine(fun(_:bp pT [0,4] [] [] Tryz.f22=some ?x)=>?x) ?_;rotate_left;conv=>lhs;cbv
def aef:aB:=by refine(fun(_:bp pT [2,3,4,5,12,23] [] [] Tryz.f14=some ?x)=>?x) ?_;rotate_left;conv=>lhs;cbv
noncomputable def ai2:aB:=by
 apply (fun{x:aB}(_:bp pT [2,3,4,5,6,7,8,9,38,46] [999999] [] Tryz.f13=some x)=>x);apply xP Tryz.f13 rfl rfl ?_ ?_ rfl rfl
 repeat' first|apply iU|apply gf|apply fa|apply gk|apply fe
 all_goals try(conv=>lhs;cbv)
 all_goals rfl
noncomputable def UG:aB:=by
 apply (fun{x:aB}(_:bp pT [] [999999] [] Tryz.f38=some x)=>x);apply xP Tryz.f38 rfl rfl ?_ ?_ rfl rfl
 repeat' first|apply iU|apply gf|apply fa|apply gk|apply fe
 all_goals try(conv=>lhs;cbv)
 all_goals rfl
def aeo:aB:=by refine(fun(_:bp pT [2,3] [999999] [] Tryz.f39=some ?x)=>?x) ?_;rotate_left;conv=>lhs;cbv
def UH:aB:=by refine(fun(_:bp pT [] [999999] [] Tryz.f40=some ?x)=>?x) ?_;rotate_left;conv=>lhs;cbv
noncomputable def we:aB:=by
 apply (fun{x:aB}(_:bp pT [34,8,700002,700003] [2,999999,999998] [777777] Tryz.f41=some x)=>x);apply xP Tryz.f41 rfl rfl ?_ ?_ rfl rfl
 repeat' first|apply iU|apply gf|apply fa|apply gk|apply fe
 all_goals try(conv=>lhs;cbv)
 all_goals rfl
def Yv:HV Tryz.f41 we=some we:=by kernel_rfl
def aep:aB:=by refine(fun(_:bp pT [6,7,19,700009] [9,999999] [] Tryz.f42=some ?x)=>?x) ?_;rotate_left;conv=>lhs;cbv
noncomputable def HT:aB:=by
 apply (fun{x:aB}(_:bp pT [2,3,5,18,36,6] [999999] [] Tryz.f19=some x)=>x);apply xP Tryz.f19 rfl rfl ?_ ?_ rfl rfl
 repeat' first|apply iU|apply gf|apply fa|apply gk|apply fe
 all_goals try(conv=>lhs;cbv)
 all_goals rfl
def C5:aB:=by refine(fun(_:bp pT [2,3,4,9,34,59,83,93,100,106,111,136,14,700005] [5,999999] [] Tryz.f20=some ?x)=>?x) ?_;rotate_left;conv=>lhs;cbv
def aeq:aB:=by refine(fun(_:bp pT [2,3,4,17] [999999] [] Tryz.f43=some ?x)=>?x) ?_;rotate_left;conv=>lhs;cbv
def ajb:aB:=by refine(fun(_:bp pT [5] [] [] Tryz.f71=some ?x)=>?x) ?_;rotate_left;conv=>lhs;cbv
def aeu:aB:=by refine(fun(_:bp pT [2,3,4,6,23,27,31,40,47,54,61,65] [7,64] [888888] Tryz.f75=some ?x)=>?x) ?_;rotate_left;conv=>lhs;cbv
noncomputable def aev:aB:=by
 apply (fun{x:aB}(_:bp pT [2,3,4,8] [] [] Tryz.f76=some x)=>x);apply xP Tryz.f76 rfl rfl ?_ ?_ rfl rfl
 repeat' first|apply iU|apply gf|apply fa|apply gk|apply fe
 all_goals try(conv=>lhs;cbv)
 all_goals rfl
noncomputable def ajd:aB:=by
 apply (fun{x:aB}(_:bp pT [3] [] [] Tryz.f77=some x)=>x);apply xP Tryz.f77 rfl rfl ?_ ?_ rfl rfl
 repeat' first|apply iU|apply gf|apply fa|apply gk|apply fe
 all_goals try(conv=>lhs;cbv)
 all_goals rfl
def aew:aB:=by refine(fun(_:bp pT [2,3,8,13,35,41,46,51,55,64,73,80,89,700004] [1,4] [] Tryz.f78=some ?x)=>?x) ?_;rotate_left;conv=>lhs;cbv
def aex:aB:=by refine(fun(_:bp pT [2,6,12,18] [1] [] Tryz.f79=some ?x)=>?x) ?_;rotate_left;conv=>lhs;cbv
noncomputable def aje:aB:=by
 apply (fun{x:aB}(_:bp pT [0,2,3] [] [] Tryz.f80=some x)=>x);apply xP Tryz.f80 rfl rfl ?_ ?_ rfl rfl
 repeat' first|apply iU|apply gf|apply fa|apply gk|apply fe
 all_goals try(conv=>lhs;cbv)
 all_goals rfl
noncomputable def xt:aB:=by
 apply (fun{x:aB}(_:bp pT [2,3,4,5,6,7,8,9,10,11,12,13,16,30,38,43,52,54,63,78,81,90,92,99,101,108,110,117,123,130,132,139,150,153,160,173,177,188,192,203,214,217,233,241,255,266,276,283,285,292,294] [1] [] Tryz.f81=some x)=>x);apply xP Tryz.f81 rfl rfl ?_ ?_ rfl rfl
 repeat' first|apply iU|apply gf|apply fa|apply gk|apply fe
 all_goals try(conv=>lhs;cbv)
 all_goals rfl
def aeh:aB:=by refine(fun(_:bp pT [6,9] [] [] Tryz.f16=some ?x)=>?x) ?_;rotate_left;conv=>lhs;cbv
noncomputable def UJ:aB:=by
 apply (fun{x:aB}(_:bp pT [2] [] [777777] Tryz.f82=some x)=>x);apply xP Tryz.f82 rfl rfl ?_ ?_ rfl rfl
 repeat' first|apply iU|apply gf|apply fa|apply gk|apply fe
 all_goals try(conv=>lhs;cbv)
 all_goals rfl
def aey:aB:=by refine(fun(_:bp pT [6,7,8,9,19] [] [777777] Tryz.f83=some ?x)=>?x) ?_;rotate_left;conv=>lhs;cbv
def ajc:aB:=by refine(fun(_:bp pT [1,4,6,20] [] [] Tryz.f73=some ?x)=>?x) ?_;rotate_left;conv=>lhs;cbv
end
def aet:aB:=by refine(fun(_:bp pT [4,5,6,19,25,31,49] [] [] Tryz.f74=some ?x)=>?x) ?_;rotate_left;conv=>lhs;cbv
def ai9:aB:=by refine(fun(_:bp pT [2,3,4,13,18] [999999] [] Tryz.f48=some ?x)=>?x) ?_;rotate_left;conv=>lhs;cbv
noncomputable def ai':aB:=by
 apply (fun{x:aB}(_:bp pT [2,5,7,9,22,37,700004] [4,999999] [] Tryz.f49=some x)=>x);apply xP Tryz.f49 rfl rfl ?_ ?_ rfl rfl
 repeat' first|apply iU|apply gf|apply fa|apply gk|apply fe
 all_goals try(conv=>lhs;cbv)
 all_goals rfl
def aez:aB:=by refine(fun(_:bp pT [2,7] [999999] [] Tryz.f84=some ?x)=>?x) ?_;rotate_left;conv=>lhs;cbv
def ajf:aB:=by refine(fun(_:bp pT [2,5,10,17] [999999] [] Tryz.f85=some ?x)=>?x) ?_;rotate_left;conv=>lhs;cbv
noncomputable def aeA:aB:=by
 apply (fun{x:aB}(_:bp pT [4,5,8] [999999] [] Tryz.f86=some x)=>x);apply xP Tryz.f86 rfl rfl ?_ ?_ rfl rfl
 repeat' first|apply iU|apply gf|apply fa|apply gk|apply fe
 all_goals try(conv=>lhs;cbv)
 all_goals rfl
def FB:aB:=by refine(fun(_:bp pT [16] [999999] [888887] Tryz.f87=some ?x)=>?x) ?_;rotate_left;conv=>lhs;cbv
noncomputable def C6:aB:=by
 apply (fun{x:aB}(_:bp pT [15,7,700002] [2,999999,999998] [] Tryz.f88=some x)=>x);apply xP Tryz.f88 rfl rfl ?_ ?_ rfl rfl
 repeat' first|apply iU|apply gf|apply fa|apply gk|apply fe
 all_goals try(conv=>lhs;cbv)
 all_goals rfl
def Yx:HV Tryz.f88 C6=some C6:=by kernel_rfl
def HU:aB:=by refine(fun(_:bp pT [3,7,11,6,10,17,20,700002] [2,999999] [777777] Tryz.f89=some ?x)=>?x) ?_;rotate_left;conv=>lhs;cbv
def aeB:aB:=by refine(fun(_:bp pT [4,5] [999999] [] Tryz.f90=some ?x)=>?x) ?_;rotate_left;conv=>lhs;cbv
def mN:aB:=by refine(fun(_:bp pT [4,8,25,37,700002,700003] [2,18,999999,18,30,42,57,999998] [500002,500003,777777] Tryz.f91=some ?x)=>?x) ?_;rotate_left;conv=>lhs;cbv
def Yy:HV Tryz.f91 mN=some mN:=by kernel_rfl
def Yw:aB:=by refine(fun(_:bp pT [8] [999999] [] Tryz.f58=some ?x)=>?x) ?_;rotate_left;conv=>lhs;cbv
noncomputable def aja:aB:=by
 apply (fun{x:aB}(_:bp pT [] [999999] [] Tryz.f59=some x)=>x);apply xP Tryz.f59 rfl rfl ?_ ?_ rfl rfl
 repeat' first|apply iU|apply gf|apply fa|apply gk|apply fe
 all_goals try(conv=>lhs;cbv)
 all_goals rfl
def UI:aB:=by refine(fun(_:bp pT [16,30] [999999] [] Tryz.f60=some ?x)=>?x) ?_;rotate_left;conv=>lhs;cbv
def aes:aB:=by refine(fun(_:bp pT [9] [999999] [] Tryz.f61=some ?x)=>?x) ?_;rotate_left;conv=>lhs;cbv
def oB:aB:=by refine(fun(_:bp pT [2,4,13,18,21,27,30,36,39,44,53,56,63,66,700003] [999999] [] Tryz.f63=some ?x)=>?x) ?_;rotate_left;conv=>lhs;cbv
def ue:aB:=by refine(fun(_:bp pT [18,24,43,49,62,68,85,90,100,119,158,179] [999999,999996] [] Tryz.f64=some ?x)=>?x) ?_;rotate_left;conv=>lhs;cbv
def anS:aB:=yl [2,3,4,29] [999999] [3,8,888888] Tryz.f21
def an2:aB:=yl [4,12] [999999] [] Tryz.f66
def Ui:aB:=by refine(fun(_:bp pT [5,9,12,19] [] [] Tryz.f119=some ?x)=>?x) ?_;rotate_left;conv=>lhs;cbv
def Uk:aB:=by refine(fun(_:bp pT [0] [] [] Tryz.f121=some ?x)=>?x) ?_;rotate_left;conv=>lhs;cbv
def Ul:aB:=by refine(fun(_:bp pT [2,10,21,25,30] [1] [] Tryz.f122=some ?x)=>?x) ?_;rotate_left;conv=>lhs;cbv
def aer:aB:=by refine(fun(_:bp pT [5,11,18,25,32,40,48] [2,3] [] Tryz.f47=some ?x)=>?x) ?_;rotate_left;conv=>lhs;cbv
def pR:aB:=by refine(fun(_:bp pT [3,4,5,6,7,8,15,18,26,33,42,47,52,57,63,69,73,80,83,88,97,103,109,112,121,127,131,136,148,152,158,162,167,176,181,186] [1] [] Tryz.f123=some ?x)=>?x) ?_;rotate_left;conv=>lhs;cbv
def abD:aB:=by refine(fun(_:bp pT [2,3,4,5,6] [] [] Tryz.f124=some ?x)=>?x) ?_;rotate_left;conv=>lhs;cbv
def abE:aB:=by refine(fun(_:bp pT [8,9,10,12,16,18] [] [] Tryz.f125=some ?x)=>?x) ?_;rotate_left;conv=>lhs;cbv
def abF:aB:=by refine(fun(_:bp pT [2,3,4,13,16] [] [] Tryz.f126=some ?x)=>?x) ?_;rotate_left;conv=>lhs;cbv
def Um:aB:=by refine(fun(_:bp pT [2,3,4,5,8] [] [] Tryz.f127=some ?x)=>?x) ?_;rotate_left;conv=>lhs;cbv
noncomputable def abG:aB:=by
 apply (fun{x:aB}(_:bp pT [4,9,12] [2] [] Tryz.f128=some x)=>x);apply xP Tryz.f128 rfl rfl ?_ ?_ rfl rfl
 repeat' first|apply iU|apply gf|apply fa|apply gk|apply fe
 all_goals try(conv=>lhs;cbv)
 all_goals rfl
def Uj:aB:=by refine(fun(_:bp pT [4,7] [] [] Tryz.f120=some ?x)=>?x) ?_;rotate_left;conv=>lhs;cbv
noncomputable def aeD:aB:=by
 apply (fun{x:aB}(_:bp pT [4] [999999] [] Tryz.f95=some x)=>x);apply xP Tryz.f95 rfl rfl ?_ ?_ rfl rfl
 repeat' first|apply iU|apply gf|apply fa|apply gk|apply fe
 all_goals try(conv=>lhs;cbv)
 all_goals rfl
def Un:aB:=by refine(fun(_:bp pT [2,5,9,12] [999999] [] Tryz.f129=some ?x)=>?x) ?_;rotate_left;conv=>lhs;cbv
noncomputable def Uo:aB:=by
 apply (fun{x:aB}(_:bp pT [4] [999999] [] Tryz.f130=some x)=>x);apply xP Tryz.f130 rfl rfl ?_ ?_ rfl rfl
 repeat' first|apply iU|apply gf|apply fa|apply gk|apply fe
 all_goals try(conv=>lhs;cbv)
 all_goals rfl
noncomputable def Up:aB:=by
 apply (fun{x:aB}(_:bp pT [700002,700003] [2,3,999999] [777777] Tryz.f131=some x)=>x);apply xP Tryz.f131 rfl rfl ?_ ?_ rfl rfl
 repeat' first|apply iU|apply gf|apply fa|apply gk|apply fe
 all_goals try(conv=>lhs;cbv)
 all_goals rfl
def Uq:aB:=by refine(fun(_:bp pT [2,3,11] [999999] [] Tryz.f132=some ?x)=>?x) ?_;rotate_left;conv=>lhs;cbv
def Ur:aB:=by refine(fun(_:bp pT [2,3,4,5,12,16,22] [999999] [] Tryz.f133=some ?x)=>?x) ?_;rotate_left;conv=>lhs;cbv
def qL:aB:=by refine(fun(_:bp pT [] [999999,18] [888887] Tryz.f134=some ?x)=>?x) ?_;rotate_left;conv=>lhs;cbv
def Ut:HV Tryz.f134 qL=some qL:=by kernel_rfl
def jG:aB:=by refine(fun(_:bp pT [5,6,9,39,48,700004,700007,700008] [4,7,8,999999] [14,777777] Tryz.f135=some ?x)=>?x) ?_;rotate_left;conv=>lhs;cbv
def Uu:HV Tryz.f135 jG=some jG:=by kernel_rfl
def Oy:aB:=by refine(fun(_:bp pT [] [999999] [] Tryz.f100=some ?x)=>?x) ?_;rotate_left;conv=>lhs;cbv
def Uf:aB:=by refine(fun(_:bp pT [4,5,6,7] [999999] [] Tryz.f101=some ?x)=>?x) ?_;rotate_left;conv=>lhs;cbv
def abx:aB:=by refine(fun(_:bp pT [3] [999999] [] Tryz.f103=some ?x)=>?x) ?_;rotate_left;conv=>lhs;cbv
def aby:aB:=by refine(fun(_:bp pT [4] [999999] [] Tryz.f104=some ?x)=>?x) ?_;rotate_left;conv=>lhs;cbv
def abz:aB:=⟨[],[999999],[],2,1,[],.skip⟩
def abA:aB:=by refine(fun(_:bp pT [4] [999999] [] Tryz.f106=some ?x)=>?x) ?_;rotate_left;conv=>lhs;cbv
def abB:aB:=by refine(fun(_:bp pT [2] [999999] [] Tryz.f107=some ?x)=>?x) ?_;rotate_left;conv=>lhs;cbv
def Ug:aB:=by refine(fun(_:bp pT [6,10,700007] [7,999999] [] Tryz.f108=some ?x)=>?x) ?_;rotate_left;conv=>lhs;cbv
noncomputable def Oz:aB:=by
 apply (fun{x:aB}(_:bp pT [4,5,6,7] [999999] [] Tryz.f109=some x)=>x);apply xP Tryz.f109 rfl rfl ?_ ?_ rfl rfl
 repeat' first|apply iU|apply gf|apply fa|apply gk|apply fe
 all_goals try(conv=>lhs;cbv)
 all_goals rfl
def Uh:aB:=by refine(fun(_:bp pT [8,15] [999999] [] Tryz.f110=some ?x)=>?x) ?_;rotate_left;conv=>lhs;cbv
def abC:aB:=by refine(fun(_:bp pT [6,10,700007] [7,999999] [] Tryz.f111=some ?x)=>?x) ?_;rotate_left;conv=>lhs;cbv
def Gu:aB:=by refine(fun(_:bp pT [4] [999999,999996] [] Tryz.f112=some ?x)=>?x) ?_;rotate_left;conv=>lhs;cbv
def anZ:aB:=yl [4,6,13,17] [999999] [] Tryz.f65
def abN:aB:=by refine(fun(_:bp pT [2,3,4,5,6,14,17] [] [] Tryz.f153=some ?x)=>?x) ?_;rotate_left;conv=>lhs;cbv
def aeC:aB:=by refine(fun(_:bp pT [5,11] [2,3] [] Tryz.f94=some ?x)=>?x) ?_;rotate_left;conv=>lhs;cbv
def Uy:aB:=by refine(fun(_:bp pT [3,4,5,6,12,14,16,18,20,22,32,34,36,39,41,43,50,52] [1] [] Tryz.f154=some ?x)=>?x) ?_;rotate_left;conv=>lhs;cbv
def abO:aB:=by refine(fun(_:bp pT [2,3,5] [] [] Tryz.f155=some ?x)=>?x) ?_;rotate_left;conv=>lhs;cbv
def Uz:aB:=by refine(fun(_:bp pT [2,3,4,8,13,21] [1] [] Tryz.f156=some ?x)=>?x) ?_;rotate_left;conv=>lhs;cbv
def Uv:aB:=by refine(fun(_:bp pT [4,10] [999999] [] Tryz.f138=some ?x)=>?x) ?_;rotate_left;conv=>lhs;cbv
def oh:aB:=by refine(fun(_:bp pT [4,8,16,23,27,31,39,52,6,15,22,26,30,700002,700003] [2,999999] [500002,500003,777777] Tryz.f158=some ?x)=>?x) ?_;rotate_left;conv=>lhs;cbv
noncomputable def abH:aB:=by
 apply (fun{x:aB}(_:bp pT [4,5,6] [999999] [] Tryz.f139=some x)=>x);apply xP Tryz.f139 rfl rfl ?_ ?_ rfl rfl
 repeat' first|apply iU|apply gf|apply fa|apply gk|apply fe
 all_goals try(conv=>lhs;cbv)
 all_goals rfl
def abI:aB:=by refine(fun(_:bp pT [4] [999999] [] Tryz.f141=some ?x)=>?x) ?_;rotate_left;conv=>lhs;cbv
def abJ:aB:=by refine(fun(_:bp pT [4] [999999] [] Tryz.f142=some ?x)=>?x) ?_;rotate_left;conv=>lhs;cbv
def abK:aB:=by refine(fun(_:bp pT [] [999999] [] Tryz.f143=some ?x)=>?x) ?_;rotate_left;conv=>lhs;cbv
noncomputable def C4:aB:=by
 apply (fun{x:aB}(_:bp pT [2,3,4,700005] [5,999999] [7] Tryz.f144=some x)=>x);apply xP Tryz.f144 rfl rfl ?_ ?_ rfl rfl
 repeat' first|apply iU|apply gf|apply fa|apply gk|apply fe
 all_goals try(conv=>lhs;cbv)
 all_goals rfl
def Uw:HV Tryz.f144 C4=some C4:=by kernel_rfl
def Ux:aB:=by refine(fun(_:bp pT [] [999999] [] Tryz.f145=some ?x)=>?x) ?_;rotate_left;conv=>lhs;cbv
def abL:aB:=by refine(fun(_:bp pT [] [999999,999996] [] Tryz.f146=some ?x)=>?x) ?_;rotate_left;conv=>lhs;cbv
def abM:aB:=by refine(fun(_:bp pT [] [999999,999996] [] Tryz.f147=some ?x)=>?x) ?_;rotate_left;conv=>lhs;cbv
def pU:aB:=by refine(fun(_:bp pT [700002] [2,999999,999998,1,14,29] [888887] Tryz.f173=some ?x)=>?x) ?_;rotate_left;conv=>lhs;cbv
def UB:HV Tryz.f173 pU=some pU:=by kernel_rfl
def UC:aB:=by refine(fun(_:bp pT [18,29,39,6,700002,700003] [2,3,999999] [500002,500003,777777] Tryz.f174=some ?x)=>?x) ?_;rotate_left;conv=>lhs;cbv
def oL:aB:=by refine(fun(_:bp pT [13,20,27,44,8,10,700002,700003,700004] [2,999999] [500002,500003,777777] Tryz.f175=some ?x)=>?x) ?_;rotate_left;conv=>lhs;cbv
def abP:aB:=by refine(fun(_:bp pT [4,5,7] [999999] [] Tryz.f160=some ?x)=>?x) ?_;rotate_left;conv=>lhs;cbv
def abQ:aB:=by refine(fun(_:bp pT [4,5,6,7,8,9,10,11,12,13,16,19,24,31,36,40,84,102,121,128] [999999] [] Tryz.f165=some ?x)=>?x) ?_;rotate_left;conv=>lhs;cbv
def UA:aB:=by refine(fun(_:bp pT [2,3,4,7,11,13] [999999] [] Tryz.f166=some ?x)=>?x) ?_;rotate_left;conv=>lhs;cbv
def tW:aB:=by refine(fun(_:bp pT [] [999999,8,999998] [888887] Tryz.f191=some ?x)=>?x) ?_;rotate_left;conv=>lhs;cbv
def UD:HV Tryz.f191 tW=some tW:=by kernel_rfl
def ai4:aB:=yl [2] [999999] [] Tryz.f182
def ai5:aB:=yl [4,5,6,7,8,9,10,11,33,68] [999999] [] Tryz.f183
def ai6:aB:=yl [2,3,4,5,6,7,8] [999999] [] Tryz.f194
def UE:aB:=by refine(fun(_:bp pT [2,5] [999999] [] Tryz.f220=some ?x)=>?x) ?_;rotate_left;conv=>lhs;cbv
def UF:aB:=by refine(fun(_:bp pT [2,5] [999999] [] Tryz.f221=some ?x)=>?x) ?_;rotate_left;conv=>lhs;cbv
def ai7:aB:=yl [0,1,2,5,6,7,8,9,12,14,16,18,20,22,24,26,28,30] [999999] [] Tryz.f236
noncomputable def ir3:aB:=by
 apply (fun{x:aB}(_:bp pT [10,11,13,14,15,16,17,18,19,20,21,22,24,32,39,46,57,64,89,101,115,125,700012,700023] [12,23] [] Tryz.f3=some x)=>x);apply xP Tryz.f3 rfl rfl ?_ ?_ rfl rfl
 repeat' first|apply iU|apply gf|apply fa|apply gk|apply fe
 all_goals try(conv=>lhs;cbv)
 all_goals rfl
def anR:aB:=yl [0,6,8,10,12,14,16,18,20,31,35,39,43,47,51,55,59,65,69,73,77,81,85,89,134,139,144,149,154,30,118,120,122,130,700001,700002,700003,700004,700005,700007,700009,700011,700013,700015,700017,700019,700021,700022,700023,700024,700025,700026] [1,2,3,4,5,7,9,11,13,15,17,19,21,22,23,24,25,26,999999] [] Tryz.f12
def anW:aB:=yl [4,700002] [2] [] Tryz.f44
def anX:aB:=yl [5,6,14,20,700002,700004] [2,4] [] Tryz.f45
def anY:aB:=yl [7,700004] [4] [] Tryz.f46
def an5:aB:=yl [4,27,18,700002,700003] [2,3] [] Tryz.f93
def ai3:aB:=yl [4,16,7,700002,700003] [2,3] [] Tryz.f137
def dp(c:Int):Nat->List UInt8->Int
 | _,[]=>-1
 | k,b :: r=>cond (decide ((b.toNat:Int)=c)) k (dp c (k+1) r)
def Ds(args:List AV)(_:ae):Option (AV × Option fP) :=
 match args with
 | [.str l]=>cond (Nat.ble l.length 281474976710656) (match Lib.atoiAll l with
  | .ok v=>some (.tuple [.int .i64 v,.df],none)
  | .range=>some (.tuple [.int .i64 (Lib.atoiSat l),.iface 229 .any],none)
  | _=>some (.tuple [.int .i64 0,.iface 229 .any],none)) none
 | _=>none
def iG(args:List AV)(_:ae):Option (AV × Option fP) :=
 match args with
 | [.str l,.int .u8 c]=>cond (decide (0<=c)&&decide (c<256)) (some (.int .i64 (dp c 0 l),none)) none
 | _=>none
def Ps(e:List (List AV)):Bool:=e.all fun r=>match r with|[.int .u8 n]=>decide (0<=n)&&decide (n<256)|_=>false
def zc(args:List AV)(H:ae):Option (AV × Option fP) :=
 match args with
 | [.ref l 0]=>match H[l]? with
  | some (.box 134 [_,.slice e true])=>cond (Nat.ble e.length 4611686018427387904&&Ps e&&!e.isEmpty) ((bytesOf e).map fun b=>(.str b,none)) none
  | _=>none
 | _=>none
def qQ(args:List AV)(H:ae):Option (AV × Option fP) :=
 match args with
 | [.ref l 0]=>match H[l]? with
  | some (.box 134 [.nf,x])=>some (.undef,some ⟨H.set l (.box 134 [.ref l 0,x]),l⟩)
  | some (.box 134 [.ref l' 0,_])=>cond (Nat.beq l l') (some (.undef,none)) none
  | _=>none
 | _=>none
def fS:Nat->Nat->List UInt8->List UInt8
 | 0,_,acc=>acc
 | f+1,n,acc=>cond (Nat.blt n 10) (UInt8.ofNat (48+n) :: acc) (fS f (n / 10) (UInt8.ofNat (48+n % 10) :: acc))
def qM(n:Int):List UInt8 :=
 match n with
 | .ofNat k=>fS (k+1) k []
 | .negSucc k=>45 :: fS (k+2) (k+1) []
def Dt(args:List AV)(_:ae):Option (AV × Option fP) :=
 match args with
 | [.int .i64 n]=>cond (decide (-9223372036854775808<=n)&&decide (n<=9223372036854775807)) (some (.str (qM n),none)) none
 | _=>none
def afW:List (List UInt8):=[[43],[45],[42],[47],[37],[60],[61,61],[97,110,100],[111,114],[110,111,116],[106,111,105,110],[108,101,110]]
def BX:List Int:=[5,5,6,6,6,3,3,2,1,7,4,7]
def cQ(n:Int):List UInt8 × Int:=if n<0\/11<n then ([],0) else (afW.getD n.toNat [],BX.getD n.toNat 0)
def ot(n:Int):List UInt8 × Int:=if n<0\/11<n then ([],7) else cQ n
def vI(args:List AV)(_:ae):Option (AV × Option fP) :=
 match args with
 | [.int .i64 n]=>some (.tuple [.str (ot n).1,.int .i64 (ot n).2],none)
 | _=>none
def ov0:FuncId->Option (List AV->ae->Option (AV × Option fP))
 | 62=>some Dt
 | 92=>some iG
 | 136=>some iG
 | 157=>some Ds
 | 68=>some zc
 | 113=>some qQ
 | _=>none
def ov:FuncId->Option (List AV->ae->Option (AV × Option fP))
 | 144=>some vI
 | 62=>some Dt
 | 92=>some iG
 | 136=>some iG
 | 157=>some Ds
 | 68=>some zc
 | 113=>some qQ
 | _=>none
def fns:FuncId->Option aB
 | 9=>some ir9
 | 10=>some ud
 | 8=>some ir8
 | 24=>some anT
 | 11=>some anQ
 | 12=>some anR
 | 30=>some Yu
 | 31=>some aej
 | 32=>some aek
 | 33=>some ael
 | 34=>some aem
 | 35=>some aen
 | 15=>some aeg
 | 36=>some xr
 | 37=>some fA
 | 29=>some ai8
 | 22=>some aei
 | 14=>some aef
 | 13=>some ai2
 | 38=>some UG
 | 39=>some aeo
 | 40=>some UH
 | 41=>some we
 | 42=>some aep
 | 19=>some HT
 | 20=>some C5
 | 43=>some aeq
 | 71=>some ajb
 | 75=>some aeu
 | 76=>some aev
 | 77=>some ajd
 | 78=>some aew
 | 79=>some aex
 | 80=>some aje
 | 81=>some xt
 | 16=>some aeh
 | 82=>some UJ
 | 83=>some aey
 | 73=>some ajc
 | 74=>some aet
 | 48=>some ai9
 | 49=>some ai'
 | 84=>some aez
 | 85=>some ajf
 | 86=>some aeA
 | 87=>some FB
 | 88=>some C6
 | 89=>some HU
 | 90=>some aeB
 | 91=>some mN
 | 58=>some Yw
 | 59=>some aja
 | 60=>some UI
 | 61=>some aes
 | 63=>some oB
 | 64=>some ue
 | 21=>some anS
 | 66=>some an2
 | 119=>some Ui
 | 121=>some Uk
 | 122=>some Ul
 | 47=>some aer
 | 123=>some pR
 | 124=>some abD
 | 125=>some abE
 | 126=>some abF
 | 127=>some Um
 | 128=>some abG
 | 120=>some Uj
 | 95=>some aeD
 | 129=>some Un
 | 130=>some Uo
 | 131=>some Up
 | 132=>some Uq
 | 133=>some Ur
 | 134=>some qL
 | 135=>some jG
 | 100=>some Oy
 | 101=>some Uf
 | 103=>some abx
 | 104=>some aby
 | 105=>some abz
 | 106=>some abA
 | 107=>some abB
 | 108=>some Ug
 | 109=>some Oz
 | 110=>some Uh
 | 111=>some abC
 | 112=>some Gu
 | 65=>some anZ
 | 153=>some abN
 | 94=>some aeC
 | 154=>some Uy
 | 155=>some abO
 | 156=>some Uz
 | 138=>some Uv
 | 158=>some oh
 | 139=>some abH
 | 141=>some abI
 | 142=>some abJ
 | 143=>some abK
 | 144=>some C4
 | 145=>some Ux
 | 146=>some abL
 | 147=>some abM
 | 173=>some pU
 | 174=>some UC
 | 175=>some oL
 | 160=>some abP
 | 165=>some abQ
 | 166=>some UA
 | 191=>some tW
 | 182=>some ai4
 | 183=>some ai5
 | 194=>some ai6
 | 220=>some UE
 | 221=>some UF
 | 236=>some ai7
 | 3=>some ir3
 | 44=>some anW
 | 45=>some anX
 | 46=>some anY
 | 93=>some an5
 | 137=>some ai3
 | _=>none
def G4:TypeId:=244
def fF:List (List UInt8):=[[109,111,100,117,108,101],[117,115,101],[114,101,99],[99,97,115,101],[102,117,110],[111,110],[116,101,115,116],[99,111,110,118],[116,114,117,101],[102,97,108,115,101],[110,111,116],[97,110,100],[111,114],[105,102],[116,104,101,110],[101,108,115,101],[108,101,116],[105,110],[109,97,116,99,104],[102,111,108,100],[111,118,101,114],[100,111],[108,101,110],[106,111,105,110],[76,105,115,116],[73,110,116],[66,111,111,108]]
def mD:List (List UInt8):=[[61,61],[45,62],[40],[41],[123],[125],[91],[93],[44],[58],[46],[61],[43],[45],[42],[47],[37],[60]]
def dJ:List (List UInt8):=[[114,101,99],[99,97,115,101],[102,117,110],[111,110],[116,101,115,116],[99,111,110,118]]
def mO:List (List AV):=[[.str [37],.int .i64 4,.int .i64 6],[.str [42],.int .i64 2,.int .i64 6],[.str [43],.int .i64 0,.int .i64 5],[.str [45],.int .i64 1,.int .i64 5],[.str [47],.int .i64 3,.int .i64 6],[.str [60],.int .i64 5,.int .i64 3],[.str [61,61],.int .i64 6,.int .i64 3],[.str [97,110,100],.int .i64 7,.int .i64 2],[.str [106,111,105,110],.int .i64 10,.int .i64 4],[.str [111,114],.int .i64 8,.int .i64 1]]
def Bg:Nat->List AV
 | 0=>[.slice (dJ.map fun s=>[.str s]) false]
 | 1=>[.func (.func 129) [] [],.func (.func 220) [] [],.func (.func 221) [] [],.func (.func 221) [] []]
 | 2=>mD.map .str
 | 3=>fF.map .str
 | 4=>[.mz 1 false true mO]
 | 6=>Lib.pow10Tab.map (.int .u64)
 | 7=>[.iface G4 .any]
 | 8=>[.iface G4 .any]
 | _=>[]
def A0:AP:={ fns,ov:=ov0,aY:=Bg }
def A:AP:={ fns,ov,aY:=Bg }
def oy:=And.intro (And.intro (And.intro (And.intro (And.intro (And.intro (And.intro (And.intro (And.intro (@WJ) (@IG)) (@agy)) (And.intro (And.intro (@Lb) (@agE)) (@akP))) (And.intro (And.intro (And.intro (@agA) (@ack)) (@agD)) (And.intro (@akN) (@La)))) (And.intro (And.intro (And.intro (And.intro (@agx) (@aau)) (@Rt)) (And.intro (@agC) (@WI))) (And.intro (And.intro (And.intro (@akO) (@agB)) (@WH)) (And.intro (@aaw) (@agz))))) (And.intro (And.intro (And.intro (And.intro (And.intro (@aav) (@Nx)) (@Rs)) (And.intro (And.intro (@aW) (@LP)) (@Jg))) (And.intro (And.intro (And.intro (@Zc) (@Mv)) (@Mu)) (And.intro (@Option.bind_some.{0,0}) (@Option.map_some.{0,0})))) (And.intro (And.intro (And.intro (And.intro (@Si) (@beq_self_eq_true.{0})) (@Bool.and_false)) (And.intro (@Bool.false_and) (@Bool.true_and))) (And.intro (And.intro (And.intro (@Bool.and_true) (@Bool.or_true)) (@Bool.true_or)) (And.intro (@Bool.or_false) (@Bool.false_or)))))) (And.intro (And.intro (And.intro (And.intro (And.intro (And.intro (@Bool.not_true) (@Bool.not_false)) (@decide_true)) (And.intro (And.intro (@decide_false) (@List.map_cons.{0,0})) (@List.map_nil.{0,0}))) (And.intro (And.intro (And.intro (@List.all_cons.{0}) (@List.all_nil.{0})) (@List.length_cons.{0})) (And.intro (@List.length_nil.{0}) (@List.getElem?_cons_zero.{0})))) (And.intro (And.intro (And.intro (And.intro (@List.getElem?_cons_succ.{0}) (@List.nil_append.{0})) (@List.append_nil.{0})) (And.intro (@List.cons_append.{0}) (@wrap64))) (And.intro (And.intro (And.intro (@zO) (@Pn)) (@Pm)) (And.intro (@Option.some.injEq.{0}) (@Prod.mk.injEq.{0,0}))))) (And.intro (And.intro (And.intro (And.intro (And.intro (@Nat.zero_add) (@List.drop_zero.{0})) (@NR)) (And.intro (@Xr) (@dle))) (And.intro (And.intro (And.intro (@dlt) (@List.take_succ_cons.{0})) (@List.take_zero.{0})) (And.intro (@List.drop_succ_cons.{0}) (@Int.natCast_add)))) (And.intro (And.intro (And.intro (And.intro (@Int.cast_ofNat_Int) (@List.set_cons_zero.{0})) (@List.set_cons_succ.{0})) (And.intro (@R6) (@ga))) (And.intro (And.intro (And.intro (@R8) (@Z8)) (@ae0)) (And.intro (@qC) (@Rm))))))) (And.intro (And.intro (And.intro (And.intro (And.intro (And.intro (And.intro (@List.length_map.{0,0}) (@ge_iff_le.{0})) (@gt_iff_lt.{0})) (And.intro (And.intro (@AV.int.injEq) (@AV.str.injEq)) (@AV.bool.injEq))) (And.intro (And.intro (And.intro (@AV.slice.injEq) (@true_and)) (@and_true)) (And.intro (@and_self) (@PC)))) (And.intro (And.intro (And.intro (And.intro (@SJ) (@SL)) (@LW)) (And.intro (@SK) (@PD))) (And.intro (And.intro (And.intro (@SI) (@Hr)) (@Jj)) (And.intro (@Jl) (@zT))))) (And.intro (And.intro (And.intro (And.intro (And.intro (@Fk) (@Jk)) (@Hs)) (And.intro (And.intro (@Fj) (@AN)) (@XN))) (And.intro (And.intro (And.intro (@ac2) (@ac4)) (@JB)) (And.intro (@Tc) (@ac3)))) (And.intro (And.intro (And.intro (And.intro (@XO) (@ac1)) (@LK)) (And.intro (@Pv) (@Px))) (And.intro (And.intro (And.intro (@Jc) (@Pw)) (@LN)) (And.intro (@FY) (@M5)))))) (And.intro (And.intro (And.intro (And.intro (And.intro (And.intro (@QX) (@QZ)) (@Dw)) (And.intro (And.intro (@KB) (@Hn)) (@Ja))) (And.intro (And.intro (And.intro (@Jb) (@zQ)) (@Fg)) (And.intro (@Ie) (@Kx)))) (And.intro (And.intro (And.intro (And.intro (@Ky) (@An)) (@FH)) (And.intro (@Kw) (@Kd))) (And.intro (And.intro (And.intro (@MC) (@MD)) (@H5)) (And.intro (@MB) (@H6))))) (And.intro (And.intro (And.intro (And.intro (And.intro (@Lp) (@Pf)) (@Pj)) (And.intro (@I2) (@Lr))) (And.intro (And.intro (And.intro (@Ph) (@Lu)) (@Lv)) (And.intro (@Pg) (@Ls)))) (And.intro (And.intro (And.intro (And.intro (@Lt) (@Pe)) (@I3)) (And.intro (@YT) (@aeO))) (And.intro (And.intro (And.intro (@aeT) (@Km)) (@aeP)) (And.intro (@YU) (@U5)))))))) (And.intro (And.intro (And.intro (And.intro (And.intro (And.intro (And.intro (And.intro (@U7) (@ZP)) (@afS)) (And.intro (And.intro (@afT) (@V3)) (@afj))) (And.intro (And.intro (And.intro (@aeR) (@aeS)) (@aeQ)) (And.intro (@YV) (@YW)))) (And.intro (And.intro (And.intro (And.intro (@aj') (@VK)) (@afC)) (And.intro (@Zq) (@aj4))) (And.intro (And.intro (And.intro (@aj1) (@aj3)) (@aj2)) (And.intro (@aj5) (@afE))))) (And.intro (And.intro (And.intro (And.intro (And.intro (@ZE) (@ZD)) (@VD)) (And.intro (And.intro (@VC) (@Zg)) (@GQ))) (And.intro (And.intro (And.intro (@aop) (@Zu)) (@Zv)) (And.intro (@Zx) (@afo)))) (And.intro (And.intro (And.intro (And.intro (@Zw) (@Zt)) (@VH)) (And.intro (@VG) (@ajP))) (And.intro (And.intro (And.intro (@aor) (@afu)) (@ZH)) (And.intro (@ajO) (@ajT)))))) (And.intro (And.intro (And.intro (And.intro (And.intro (And.intro (@KJ) (@ajX)) (@ajZ)) (And.intro (And.intro (@ajY) (@Nd)) (@Zs))) (And.intro (And.intro (And.intro (@afx) (@aj8)) (@aj6)) (And.intro (@afO) (@Zr)))) (And.intro (And.intro (And.intro (And.intro (@VI) (@Nc)) (@Zh)) (And.intro (@VF) (@Q2))) (And.intro (And.intro (And.intro (@Zp) (@aj9)) (@afA)) (And.intro (@afy) (@afr))))) (And.intro (And.intro (And.intro (And.intro (And.intro (@Zk) (@Zi)) (@akc)) (And.intro (@afN) (@VE))) (And.intro (And.intro (And.intro (@afk) (@ZI)) (@Zy)) (And.intro (@afp) (@Nf)))) (And.intro (And.intro (And.intro (And.intro (@VJ) (@Ze)) (@Zf)) (And.intro (@akf) (@akd))) (And.intro (And.intro (And.intro (@ake) (@Zm)) (@Zn)) (And.intro (@Zo) (@ajS))))))) (And.intro (And.intro (And.intro (And.intro (And.intro (And.intro (And.intro (@ajQ) (@ajR)) (@VN)) (And.intro (And.intro (@aoq) (@aka)) (@akb))) (And.intro (And.intro (And.intro (@VL) (@VM)) (@ab1)) (And.intro (@ab3) (@ab2)))) (And.intro (And.intro (And.intro (And.intro (@aj0) (@afw)) (@afG)) (And.intro (@ZF) (@afF))) (And.intro (And.intro (And.intro (@afH) (@afJ)) (@afK)) (And.intro (@Zl) (@afL))))) (And.intro (And.intro (And.intro (And.intro (And.intro (@afI) (@ZG)) (@PE)) (And.intro (@XP) (@LO))) (And.intro (And.intro (And.intro (@Lx) (@YY)) (@aj7)) (And.intro (@afz) (@Lw)))) (And.intro (And.intro (And.intro (And.intro (@YX) (@afn)) (@Zz)) (And.intro (@afB) (@afD))) (And.intro (And.intro (And.intro (@adW) (@adX)) (@TX)) (And.intro (@Ye) (@TY)))))) (And.intro (And.intro (And.intro (And.intro (And.intro (And.intro (@Yf) (@Yg)) (@aix)) (And.intro (And.intro (@adY) (@acH)) (@adp))) (And.intro (And.intro (And.intro (@X0) (@adq)) (@TA)) (And.intro (@ajV) (@aft)))) (And.intro (And.intro (And.intro (And.intro (@ajW) (@ajU)) (@afs)) (And.intro (@afq) (@acG))) (And.intro (And.intro (And.intro (@Zj) (@afM)) (@ZA)) (And.intro (@ahi) (@ahl))))) (And.intro (And.intro (And.intro (And.intro (And.intro (@ahk) (@ahm)) (@ahj)) (And.intro (@ahn) (@LV))) (And.intro (And.intro (And.intro (@KA) (@Tb)) (@afm)) (And.intro (@afl) (@acw)))) (And.intro (And.intro (And.intro (And.intro (@acv) (@U6)) (@I1)) (And.intro (@MG) (@Ff))) (And.intro (And.intro (And.intro (@Tz) (@ZC)) (@xK)) (And.intro (@afP) (@ZB))))))))
def jq:=And.intro oy (And.intro (And.intro (And.intro (And.intro (And.intro (And.intro (@da.eq_1) (@da.eq_2)) (@cj.eq_1)) (And.intro (And.intro (@cj.eq_2) (@cE.eq_1)) (@cE.eq_2))) (And.intro (And.intro (And.intro (@cr.eq_1) (@cr.eq_2)) (@gK.eq_1)) (And.intro (@gK.eq_2) (@aE.eval.eq_1)))) (And.intro (And.intro (And.intro (And.intro (@aE.eval.eq_2) (@aE.eval.eq_3)) (@AS.ca.eq_1)) (And.intro (And.intro (@AS.ca.eq_2) (@cz.eq_1)) (@cz.eq_2))) (And.intro (And.intro (And.intro (@cz.eq_3) (@gF.eq_1)) (@gF.eq_2)) (And.intro (@cn.eq_1) (@cn.eq_3))))) (And.intro (And.intro (And.intro (And.intro (And.intro (@bL.eq_1) (@bL.eq_2)) (@bL.eq_4)) (And.intro (And.intro (@bound.eq_1) (@bound.eq_2)) (@dj.eq_1))) (And.intro (And.intro (And.intro (@dj.eq_2) (@AS.bG.eq_1)) (@aP.eq_1)) (And.intro (@putAt.eq_1) (@aS.eq_1)))) (And.intro (And.intro (And.intro (And.intro (@aR.eq_11) (@aR.eq_12)) (@aR.eq_13)) (And.intro (@aR.eq_34) (@Option.isSome.eq_1.{0}))) (And.intro (And.intro (And.intro (@Option.isSome.eq_2.{0}) (@Option.isNone.eq_1.{0})) (@Option.isNone.eq_2.{0})) (And.intro (@cond_true.{1}) (@cond_false.{1}))))))
def dm:=And.intro jq (And.intro (And.intro (And.intro (@dX) (@dW)) (And.intro (@dV) (@dU))) (And.intro (And.intro (@dS) (@dR)) (And.intro (@dZ) (@dY))))
def aO:=And.intro dm (And.intro (And.intro (@ax.eq_1) (@bA)) (And.intro (@Int.toNat_natCast) (@Nat.add_zero)))
section
section
variable {P Q A B C D E F G H:Prop}
def tv:True:=trivial
def j2(a:A)(b:B):A/\B:=⟨a,b⟩
def j3(a:A)(b:B)(c:C):A/\B/\C:=⟨a,b,c⟩
def j4(a:A)(b:B)(c:C)(d:D):A/\B/\C/\D:=⟨a,b,c,d⟩
def j5(a:A)(b:B)(c:C)(d:D)(e:E):A/\B/\C/\D/\E:=⟨a,b,c,d,e⟩
def nK0  (q:Q)(z:P=Q:=by simp(disch:=omega)only[aO,aa,simprocAttr]<;>rfl):P:=z.mpr q
def nK1(a:A)(q:Q)(z:A->(P=Q):=by intro a;simp(disch:=omega)only[aO,aa,simprocAttr,a]<;>rfl):P:=(z a).mpr q
def nK2(a:A)(b:B)(q:Q)(z:A->B->(P=Q):=by intro a b;simp(disch:=omega)only[aO,aa,simprocAttr,a,b]<;>rfl):P:=(z a b).mpr q
def nK3(a:A)(b:B)(c:C)(q:Q)(z:A->B->C->(P=Q):=by intro a b c;simp(disch:=omega)only[aO,aa,simprocAttr,a,b,c]<;>rfl):P:=(z a b c).mpr q
def nK4(a:A)(b:B)(c:C)(d:D)(q:Q)(z:A->B->C->D->(P=Q):=by intro a b c d;simp(disch:=omega)only[aO,aa,simprocAttr,a,b,c,d]<;>rfl):P:=(z a b c d).mpr q
def nK5(a:A)(b:B)(c:C)(d:D)(e:E)(q:Q)(z:A->B->C->D->E->(P=Q):=by intro a b c d e;simp(disch:=omega)only[aO,aa,simprocAttr,a,b,c,d,e]<;>rfl):P:=(z a b c d e).mpr q
def nK6(a:A)(b:B)(c:C)(d:D)(e:E)(f:F)(q:Q)(z:A->B->C->D->E->F->(P=Q):=by intro a b c d e f;simp(disch:=omega)only[aO,aa,simprocAttr,a,b,c,d,e,f]<;>rfl):P:=(z a b c d e f).mpr q
def nL0  (q:Q)(z:P=Q:=by simp(disch:=omega)only[aO,aa,simprocAttr,ab]<;>rfl):P:=z.mpr q
def nL1(a:A)(q:Q)(z:A->(P=Q):=by intro a;simp(disch:=omega)only[aO,aa,simprocAttr,ab,a]<;>rfl):P:=(z a).mpr q
def nL2(a:A)(b:B)(q:Q)(z:A->B->(P=Q):=by intro a b;simp(disch:=omega)only[aO,aa,simprocAttr,ab,a,b]<;>rfl):P:=(z a b).mpr q
def nL3(a:A)(b:B)(c:C)(q:Q)(z:A->B->C->(P=Q):=by intro a b c;simp(disch:=omega)only[aO,aa,simprocAttr,ab,a,b,c]<;>rfl):P:=(z a b c).mpr q
def nL4(a:A)(b:B)(c:C)(d:D)(q:Q)(z:A->B->C->D->(P=Q):=by intro a b c d;simp(disch:=omega)only[aO,aa,simprocAttr,ab,a,b,c,d]<;>rfl):P:=(z a b c d).mpr q
def nL5(a:A)(b:B)(c:C)(d:D)(e:E)(q:Q)(z:A->B->C->D->E->(P=Q):=by intro a b c d e;simp(disch:=omega)only[aO,aa,simprocAttr,ab,a,b,c,d,e]<;>rfl):P:=(z a b c d e).mpr q
def nL6(a:A)(b:B)(c:C)(d:D)(e:E)(f:F)(q:Q)(z:A->B->C->D->E->F->(P=Q):=by intro a b c d e f;simp(disch:=omega)only[aO,aa,simprocAttr,ab,a,b,c,d,e,f]<;>rfl):P:=(z a b c d e f).mpr q
def nO0  (q:Q)(z:P=Q:=by simp(disch:=omega)only[dm,aa,simprocAttr]<;>rfl):P:=z.mpr q
def nO1(a:A)(q:Q)(z:A->(P=Q):=by intro a;simp(disch:=omega)only[dm,aa,simprocAttr,a]<;>rfl):P:=(z a).mpr q
def nO2(a:A)(b:B)(q:Q)(z:A->B->(P=Q):=by intro a b;simp(disch:=omega)only[dm,aa,simprocAttr,a,b]<;>rfl):P:=(z a b).mpr q
def nO3(a:A)(b:B)(c:C)(q:Q)(z:A->B->C->(P=Q):=by intro a b c;simp(disch:=omega)only[dm,aa,simprocAttr,a,b,c]<;>rfl):P:=(z a b c).mpr q
def nO4(a:A)(b:B)(c:C)(d:D)(q:Q)(z:A->B->C->D->(P=Q):=by intro a b c d;simp(disch:=omega)only[dm,aa,simprocAttr,a,b,c,d]<;>rfl):P:=(z a b c d).mpr q
def nO5(a:A)(b:B)(c:C)(d:D)(e:E)(q:Q)(z:A->B->C->D->E->(P=Q):=by intro a b c d e;simp(disch:=omega)only[dm,aa,simprocAttr,a,b,c,d,e]<;>rfl):P:=(z a b c d e).mpr q
def nE0  (q:Q)(z:P=Q:=by simp(disch:=omega)only[jq,aa,simprocAttr]<;>rfl):P:=z.mpr q
def nE1(a:A)(q:Q)(z:A->(P=Q):=by intro a;simp(disch:=omega)only[jq,aa,simprocAttr,a]<;>rfl):P:=(z a).mpr q
def nE2(a:A)(b:B)(q:Q)(z:A->B->(P=Q):=by intro a b;simp(disch:=omega)only[jq,aa,simprocAttr,a,b]<;>rfl):P:=(z a b).mpr q
def nE3(a:A)(b:B)(c:C)(q:Q)(z:A->B->C->(P=Q):=by intro a b c;simp(disch:=omega)only[jq,aa,simprocAttr,a,b,c]<;>rfl):P:=(z a b c).mpr q
def nE4(a:A)(b:B)(c:C)(d:D)(q:Q)(z:A->B->C->D->(P=Q):=by intro a b c d;simp(disch:=omega)only[jq,aa,simprocAttr,a,b,c,d]<;>rfl):P:=(z a b c d).mpr q
def nS0  (q:Q)(z:P=Q:=by simp(disch:=omega)only[j7,aa,simprocAttr]<;>rfl):P:=z.mpr q
def nS1(a:A)(q:Q)(z:A->(P=Q):=by intro a;simp(disch:=omega)only[j7,aa,simprocAttr,a]<;>rfl):P:=(z a).mpr q
def nS2(a:A)(b:B)(q:Q)(z:A->B->(P=Q):=by intro a b;simp(disch:=omega)only[j7,aa,simprocAttr,a,b]<;>rfl):P:=(z a b).mpr q
end
end
def nM{P Q A:Prop}(a:A)(q:Q)(z:A->(P=Q):=by intro a;simp(disch:=omega)only[oy,da,cj,cE,cr,gK,aS,aR,bt,aE.eval,AS.ca,↓reduceIte,Nat.reduceEqDiff,Option.isSome,Option.isNone,cond_true,cond_false,Nat.reduceBEq,Nat.reduceAdd,Nat.reduceMul,aa,cz,eq_self,reduceCtorEq,gF,de,cn,bL,bound,dj,AS.bG,aP,bN,bz,Nat.reduceLeDiff,cA,putAt,Int.reduceEq,Int.reduceLT,Int.reduceLE,Int.reduceBEq,Int.reduceBNe,Int.reduceAdd,Int.reduceNeg,Int.reduceSub,Int.reduceMul,dX,dW,dV,dU,dS,dR,dZ,dY,ax,bA,avH,avG,ab,a]<;>rfl):P:=(z a).mpr q
section
section
variable {P A B C D E F G H:Prop}
def vE0(z:P:=by simp(disch:=omega)only[jq,aa,simprocAttr]):P:=z
def vE1(a:A)(z:A->P:=by intro a;simp(disch:=omega)only[jq,aa,simprocAttr,a]):P:=z a
def vE2(a:A)(b:B)(z:A->B->P:=by intro a b;simp(disch:=omega)only[jq,aa,simprocAttr,a,b]):P:=z a b
def vE3(a:A)(b:B)(c:C)(z:A->B->C->P:=by intro a b c;simp(disch:=omega)only[jq,aa,simprocAttr,a,b,c]):P:=z a b c
def vE4(a:A)(b:B)(c:C)(d:D)(z:A->B->C->D->P:=by intro a b c d;simp(disch:=omega)only[jq,aa,simprocAttr,a,b,c,d]):P:=z a b c d
def vE5(a:A)(b:B)(c:C)(d:D)(e:E)(z:A->B->C->D->E->P:=by intro a b c d e;simp(disch:=omega)only[jq,aa,simprocAttr,a,b,c,d,e]):P:=z a b c d e
def iJ(z:P:=by simp(disch:=omega)only[dm,aa,simprocAttr]):P:=z
def fj(a:A)(z:A->P:=by intro a;simp(disch:=omega)only[dm,aa,simprocAttr,a]):P:=z a
def WB(a:A)(b:B)(z:A->B->P:=by intro a b;simp(disch:=omega)only[dm,aa,simprocAttr,a,b]):P:=z a b
def vO3(a:A)(b:B)(c:C)(z:A->B->C->P:=by intro a b c;simp(disch:=omega)only[dm,aa,simprocAttr,a,b,c]):P:=z a b c
def vO4(a:A)(b:B)(c:C)(d:D)(z:A->B->C->D->P:=by intro a b c d;simp(disch:=omega)only[dm,aa,simprocAttr,a,b,c,d]):P:=z a b c d
def vO5(a:A)(b:B)(c:C)(d:D)(e:E)(z:A->B->C->D->E->P:=by intro a b c d e;simp(disch:=omega)only[dm,aa,simprocAttr,a,b,c,d,e]):P:=z a b c d e
def vO6(a:A)(b:B)(c:C)(d:D)(e:E)(f:F)(z:A->B->C->D->E->F->P:=by intro a b c d e f;simp(disch:=omega)only[dm,aa,simprocAttr,a,b,c,d,e,f]):P:=z a b c d e f
def vO7(a:A)(b:B)(c:C)(d:D)(e:E)(f:F)(g:G)(z:A->B->C->D->E->F->G->P:=by intro a b c d e f g;simp(disch:=omega)only[dm,aa,simprocAttr,a,b,c,d,e,f,g]):P:=z a b c d e f g
def uj(z:P:=by simp(disch:=omega)only[aO,aa,simprocAttr]):P:=z
def nD(a:A)(z:A->P:=by intro a;simp(disch:=omega)only[aO,aa,simprocAttr,a]):P:=z a
def Lm(a:A)(b:B)(z:A->B->P:=by intro a b;simp(disch:=omega)only[aO,aa,simprocAttr,a,b]):P:=z a b
def vK3(a:A)(b:B)(c:C)(z:A->B->C->P:=by intro a b c;simp(disch:=omega)only[aO,aa,simprocAttr,a,b,c]):P:=z a b c
def vK4(a:A)(b:B)(c:C)(d:D)(z:A->B->C->D->P:=by intro a b c d;simp(disch:=omega)only[aO,aa,simprocAttr,a,b,c,d]):P:=z a b c d
def vK5(a:A)(b:B)(c:C)(d:D)(e:E)(z:A->B->C->D->E->P:=by intro a b c d e;simp(disch:=omega)only[aO,aa,simprocAttr,a,b,c,d,e]):P:=z a b c d e
def vK6(a:A)(b:B)(c:C)(d:D)(e:E)(f:F)(z:A->B->C->D->E->F->P:=by intro a b c d e f;simp(disch:=omega)only[aO,aa,simprocAttr,a,b,c,d,e,f]):P:=z a b c d e f
def vK8(a:A)(b:B)(c:C)(d:D)(e:E)(f:F)(g:G)(h:H)(z:A->B->C->D->E->F->G->H->P:=by intro a b c d e f g h;simp(disch:=omega)only[aO,aa,simprocAttr,a,b,c,d,e,f,g,h]):P:=z a b c d e f g h
def wO(z:P:=by simp(disch:=omega)only[j7,aa,simprocAttr]):P:=z
def cy(a:A)(z:A->P:=by intro a;simp(disch:=omega)only[j7,aa,simprocAttr,a]):P:=z a
def vS2(a:A)(b:B)(z:A->B->P:=by intro a b;simp(disch:=omega)only[j7,aa,simprocAttr,a,b]):P:=z a b
end
end
end Go.Proofs.YtbadnagdfefbnaaGreatDoor
namespace Go.Abs
variable {s:AS}{f:FuncId}{ls:List (List aV)}{i:Nat}{a b:aK}
section
def ae1{a b:Nat}(h:a≠b):Nat.beq a b=false:=by
 cases hb:Nat.beq a b with
 | false=>rfl
 | true=>exact absurd (av5 hb) h
section
variable {A:AP}
def D(A:AP)(c:aK)(s:AS)(Q:bH->AS->Prop):Prop:=WN A.aY (aj A) c s Q
def sZ{s:AS}{Q:bH->AS->Prop} : D A .skip s Q=Q .normal s:=rfl
def aaT{s:AS}{Q:bH->AS->Prop} : D A .ret s Q=Q .ret s:=rfl
def acK{i:Nat}{s:AS}{Q:bH->AS->Prop} : D A (.exit i) s Q=Q (.exit i) s:=rfl
def fh{Q:bH->AS->Prop} : D A (.seq a b) s Q=D A a s (andThen (fun s'=>D A b s' Q) Q):=rfl
def Hq{Q:bH->AS->Prop} : D A (.block i a) s Q=D A a s (leave i Q):=rfl
def iY{c:aE}{a b:aK}{s:AS}{Q:bH->AS->Prop} : D A (.cond c a b) s Q=Cu (c.eval A.aY s.T) (fun s=>D A a s Q) (fun s=>D A b s Q) s:=rfl
def cq{os:List aV}{Q:bH->AS->Prop}(h:QR os=true):D A (.region os) s Q=WO A os s (Q .normal) :=
 propext ⟨Az os s h,fun ⟨s',h1,h2⟩=>vk os s s' h1 h2⟩
def PB{c:aK}{Q:bH->AS->Prop}(h:W A c s Q):D A c s Q:=B7 h
end
def noI:aV:=⟨none,none,.next (.xQ .undef)⟩
def exts(ops:List aV)(pre:List (List Nat)):Nat->Array Bool->List (List aV)
 | 0,B=>match jZ pre B with
  | []=>[[]]
  | _=>[[noI]]
 | n+1,B=>match jZ pre B with
  | []=>[[]]
  | r=>r.flatMap fun i=>match ops[i]? with
   | some o=>(exts ops pre n (B.setIfInBounds i true)).map (o :: ·)
   | none=>[[noI]]
section
variable {A:AP}{ops:List aV}{pre:List (List Nat)}{Q:AS->Prop}
def ajx(h:WO A [noI] s Q):False:=by
 obtain⟨s',h,_⟩:=h;simp[gO,aS,noI,aR] at h
def I4:∀ (n:Nat) (B:Array Bool) (s:AS),wU A.aY (aj A) ops pre n B s Q->wU A.aY (aj A) ops pre (n+1) B s Q
 | 0,B,s,h=>⟨fun _=>h.2,fun i hi=>by rw[h.1] at hi;cases hi⟩
 | n+1,B,s,h=>⟨h.1,fun i hi=>by
  obtain⟨o,s',h1,h2,h3⟩:=h.2 i hi;exact⟨o,s',h1,h2,I4 n _ _ h3⟩⟩
def N3:∀ (n:Nat) (B:Array Bool),∃ l,l∈exts ops pre n B
 | 0,B=>by unfold exts;split<;>exact⟨_,List.mem_cons_self⟩
 | n+1,B=>by
  unfold exts;split
  ·exact⟨_,List.mem_cons_self⟩
  ·rename_i h
   obtain⟨i,r,hr⟩:=axs h;cases ho:ops[i]? with
   | none=>exact⟨[noI],awC.2 ⟨i,by rw[hr];exact List.mem_cons_self,by rw[ho];exact List.mem_cons_self⟩⟩
   | some o =>
    obtain⟨l,hl⟩:=N3 n (B.setIfInBounds i true);exact⟨o :: l,awC.2 ⟨i,by rw[hr];exact List.mem_cons_self,by rw[ho];exact List.mem_map.2 ⟨l,hl,rfl⟩⟩⟩
def Cl:∀ (n:Nat) (B:Array Bool) (s:AS),(∀ l∈exts ops pre n B,WO A l s Q)->wU A.aY (aj A) ops pre n B s Q
 | 0,B,s,h=>by
  unfold exts at h;split at h
  ·rename_i e
   have:=h [] List.mem_cons_self
   rw[Hc] at this;exact⟨e,this⟩
  ·exact (ajx (h _ List.mem_cons_self)).elim
 | n+1,B,s,h=>by
  unfold exts at h;refine⟨fun e=>?_,fun i hi=>?_⟩
  ·rw[e] at h
   have:=h [] List.mem_cons_self
   rwa [Hc] at this
  ·split at h
   ·rename_i e;rw[e] at hi;cases hi
   ·have h:=fun l hl=>h l (awC.2 ⟨i,hi,hl⟩)
    cases ho:ops[i]? with
    | none=>rw[ho] at h;exact (ajx (h _ List.mem_cons_self)).elim
    | some o =>
     rw[ho] at h;have h:=fun l hl=>h (o :: l) (List.mem_map.2 ⟨l,hl,rfl⟩)
     obtain⟨l,hl⟩:=N3 (ops:=ops) (pre:=pre) n (B.setIfInBounds i true);have h0:=h l hl;rw[fZ] at h0;obtain⟨s1,h1,_⟩:=h0;refine⟨o,s1,rfl,h1,Cl n _ _ fun l hl=>?_⟩
     have:=h l hl
     rw[fZ,h1,aW] at this;exact this
def Fa(A:AP)(Q:AS->Prop)(s:AS):List (List aV)->Prop
 | []=>True
 | l :: r=>WO A l s Q/\Fa A Q s r
def R2 : ∀ {ls:List (List aV)},Fa A Q s ls->∀ l∈ls,WO A l s Q
 | [],_,l,hl=>by cases hl
 | a :: r,h,l,hl=>by
  rcases avs.1 hl with rfl|hl
  ·exact h.1
  ·exact R2 h.2 l hl
def SD{Q:bH->AS->Prop}(hl:exts ops pre ops.length (Array.replicate ops.length false)=ls)(h:Fa A (Q .normal) s ls):D A (.rD ops pre) s Q :=
 Cl _ _ _ (by rw[hl];exact R2 h)
def OM(k n:Nat)(pre:List (List Nat)):Bool:=Nat.beq pre.length n&&Nat.ble k n&&(List.range n).all fun i=>cond (Nat.blt i k) ((pre.getD i []).all fun e=>Nat.blt e i) ((List.range k).all (pre.getD i []).contains)
def mem_ready{B:Array Bool} : i∈jZ pre B↔i<pre.length/\B.getD i true=false/\∀ e,e∈pre.getD i []->B.getD e false=true:=by
 unfold jZ;rw[axn,awL];simp only[au6,avo,ava]
def BS{B:Array Bool}{x:Bool}(h:B.getD i true=false\/i<B.size):B.getD i x=B.getD i true:=by
 by_cases hi:i<B.size
 ·simp[hi]
 ·rcases h with h|h
  ·simp[hi] at h
  ·exact absurd h hi
def NF{n:Nat}{B:Array Bool}(h:wU A.aY (aj A) ops pre n B s Q):∀ m,wU A.aY (aj A) ops pre (m+n) B s Q
 | 0=>by rwa [avA]
 | m+1=>by rw[Nat.add_right_comm];exact I4 _ _ _ (NF h m)
def Xh{k:Nat}(hk:OM k ops.length pre=true){R:AS->Prop}(hR:∀ s,R s->∀ B:Array Bool,B.size=ops.length->(∀ i,i<k->B.getD i true=true)->(∀ i,k<=i->i<ops.length->B.getD i true=false)->wU A.aY (aj A) ops pre (ops.length-k) B s Q) :
  ∀ (m:Nat) (B C:Array Bool) (s:AS),B.size=ops.length->C.size=k->(∀ i,i<k->B.getD i true=C.getD i true)->(∀ i,k<=i->i<ops.length->B.getD i true=false) ->
   wU A.aY (aj A) (ops.take k) (pre.take k) m C s R->wU A.aY (aj A) ops pre (m+(ops.length-k)) B s Q:=by
 simp only[OM,au6,axe,avv,ava,awL] at hk;obtain⟨⟨hl,Qk⟩,hp⟩:=hk;have pt:∀ i,i<k->(pre.take k).getD i []=pre.getD i []:=fun i hi=>by simp[List.getD_eq_getElem?_getD,avw,hi]
 have back:∀ i,i<k->∀ e,e∈pre.getD i []->e<i:=fun i hi e he=>by
  have:=hp i (by omega)
  rw[show Nat.blt i k=true by simp[avn,hi],cond_true,ava] at this
  simpa [avn] using this e he
 have all:∀ i,k<=i->i<ops.length->∀ j,j<k->j∈pre.getD i []:=fun i hi X6 j hj=>by
  have:=hp i X6
  rw[show Nat.blt i k=false by cases hb:Nat.blt i k with|false=>rfl|true=>rw[avn] at hb;omega,cond_false,ava] at this
  simpa using this j (awL.2 hj)
 have full:∀ C:Array Bool,C.size=k->jZ (pre.take k) C=[]->∀ i,i<k->C.getD i true=true:=fun C hC hr i=>by
  induction i using Nat.strongRecOn with
  | _ i ih =>
   intro hi;cases hb:C.getD i true with
   | true=>rfl
   | false =>
    have:i∈jZ (pre.take k) C:=mem_ready.2 ⟨by simp;omega,hb,fun e he=>by
     rw[pt i hi] at he;have:=back i hi e he
     rw[BS (.inr (by omega))];exact ih e this (by omega)⟩
    rw[hr] at this;cases this
 intro m
 induction m with
 | zero =>
  intro B C s hB hC hBC hBk h;rw[avA];exact hR s h.2 B hB (fun i hi=>(hBC i hi).trans (full C hC h.1 i hi)) hBk
 | succ m ih =>
  intro B C s hB hC hBC hBk h
  by_cases e:jZ (pre.take k) C=[]
  ·exact NF (hR s (h.1 e) B hB (fun i hi=>(hBC i hi).trans (full C hC e i hi)) hBk) _
  ·obtain⟨j,r,hj⟩:=axs e
   obtain⟨j1,j2,j3⟩:=mem_ready.1 (show j∈jZ (pre.take k) C by rw[hj];exact List.mem_cons_self)
   have j1:j<k:=by simp at j1;omega
   have same:∀ i,i<k->(i∈jZ pre B↔i∈jZ (pre.take k) C):=fun i hi=>by
    rw[mem_ready,mem_ready,hBC i hi,pt i hi];refine and_congr ⟨fun _=>by simp;omega,fun _=>by omega⟩ (and_congr Iff.rfl (forall_congr' fun e=>forall_congr' fun he=>?_))
    have:=back i hi e he
    rw[BS (.inr (by omega)),BS (B:=C) (.inr (by omega)),hBC e (by omega)]
   rw[Nat.add_right_comm];refine⟨fun hr=>?_,fun i hi=>?_⟩
   ·have:=(same j j1).2 (by rw[hj];exact List.mem_cons_self)
    rw[hr] at this;cases this
   ·have Gj:i<k:=by
     rcases awQ i k with h|h
     ·exact h
     ·obtain⟨h1,_,h3⟩:=mem_ready.1 hi
      have:=h3 j (all i h (by omega) j j1)
      rw[BS (.inr (by omega)),hBC j j1,j2] at this
      cases this
    obtain⟨o,s',h1,h2,h3⟩:=h.2 i ((same i Gj).1 hi);rw[avw,if_pos Gj] at h1;refine⟨o,s',h1,h2,ih _ _ s' (by simpa using hB) (by simpa using hC) (fun q hq=>?_) (fun q hq hqn=>?_) h3⟩
    ·by_cases e:i=q
     ·subst e;simp[show i<B.size by omega,show i<C.size by omega]
     ·rw[getD_set_ne true e,getD_set_ne true e];exact hBC q hq
    ·rw[getD_set_ne true (by omega)];exact hBk q hq hqn
def onB(k n:Nat):Array Bool:=((List.range n).map fun i=>Nat.blt i k).toArray
def aaS(k:Nat)(L:List Nat){l:List aV}{Q:bH->AS->Prop}(hk:OM k ops.length pre=true)(hl:Wo false L (ops.take k) (pre.take k)=some l)(hx:QR l=true)(hr:exts ops pre (ops.length-k) (onB k ops.length)=ls)
  (h:WO A l s fun s1=>Fa A (Q .normal) s1 ls):D A (.rD ops pre) s Q:=by
 have Qk:k<=ops.length:=by
  simp only[OM,au6,avv] at hk;exact hk.1.2
 have h1:WN A.aY (aj A) (.rD (ops.take k) (pre.take k)) s (fun _ s1=>Fa A (Q .normal) s1 ls):=by
  refine Ic (L:=L) (c:=.rD (ops.take k) (pre.take k)) (pc:=false) id ?_;unfold orR;rw[hl];simp only[hx,cond_true];rw[show WN A.aY (aj A) (.region l) s _=_ from cq hx]
  exact h
 have:=Xh (A:=A) (Q:=Q .normal) hk (R:=fun s1=>Fa A (Q .normal) s1 ls) (fun s1 hs B hB hB1 hB2=>by
  have:B=onB k ops.length:=by
   refine Array.ext (by simp[onB,hB]) fun i hi _=>?_
   have e:B.getD i true=B[i]:=by simp[hi]
   rw[<- e]
   by_cases Gj:i<k
   ·simp[onB,hB1 i Gj,avn,Gj]
   ·rw[hB2 i (by omega) (by omega)]
    have:Nat.blt i k=false:=by cases hb:Nat.blt i k with|false=>rfl|true=>rw[avn] at hb;omega
    simp[onB,this]
  rw[this];exact Cl _ _ _ (by rw[hr];exact R2 hs)) (ops.take k).length (Array.replicate ops.length false) (Array.replicate (ops.take k).length false) s (by simp) (by simp[Qk]) (fun i hi=>by simp[Qk,show i<ops.length by omega,hi]) (fun i _ hi=>by simp[hi]) h1
 rw[avU,axo Qk,Nat.add_sub_cancel' Qk] at this;exact this
end
end
section
section
variable {G:Nat->List AV}{cf:gz}
theorem O8{Q:bH->AS->Prop}(I:Nat->AS->Prop)(hI:∀ k s,I k s->WN G cf a s (andThen (fun s'=>∃ k',k=k' + 1/\I k' s') Q)):∀ k s,I k s->yV (WN G cf a) (k+1) s Q:=by
 intro k
 induction k with
 | zero =>
  intro s h;refine jR a s (hI 0 s h) (lJ (fun s' h=>?_) (fun _ _ h=>h))
  grind
 | succ k ih =>
  intro s h;refine jR a s (hI (k+1) s h) (lJ (fun s' h=>?_) (fun _ _ h=>h))
  grind
end
section
variable {A:AP}
def agv{P:Program}(hA:lV P A){fn:Func}(IN:P.funcs[f]?=some fn){dI locals muts:List Nat}{qw:aB}(hc:bp P dI locals muts fn=some qw){g:List AV->ae->Option (AV × Option fP)}
  (hm:qw.muts.elem 777777=false) (Mf:∀ args H r c,g args H=some (r,c)->jN H c)
  (hg:∀ args H x,g args H=some x->args.length=qw.np/\WN A.aY (aj A) qw.body { T:=fi args,H,lo:=H.length,gen:=0 } (done H.length qw.results x)):gQ P A.aY f g:=by
 refine ach hA IN hc Mf fun args H x hx=>?_
 obtain⟨h1,h2⟩:=hg args H x hx;refine⟨h1,jR _ _ h2 fun e s h=>?_⟩
 have key:∀ s,fin H.length qw.results s=some x->finish H.length qw s=some x:=fun s h=>by
  have:=pI (fn:=qw) h
  rwa [uX hm] at this
 cases e with
 | exit i=>exact h.elim
 | normal=>exact key _ h
 | ret=>exact key _ h
end
end
def cW{A:AP}{fn:aB}{tk l m:List Nat}{nt np:Nat}{rs:List iu}(e:fn=⟨tk,l,m,nt,np,rs,b⟩){args:List AV}{H:ae}{r:AV × Option fP}
  (h:W A b { T:=fi args,H,lo:=H.length,gen:=0 } (done H.length rs r)) (ho:A.ov f=none:=by exact rfl) (hf:A.fns f=some fn:=by exact rfl) (hn:Nat.beq args.length np=true:=by exact rfl) (hm:m.elem 777777=false:=by exact rfl):aj A f args H=some r:=by
 subst e;exact cJ ho hf hn h hm
end Go.Abs
namespace Go.Proofs.YtbadnagdfefbnaaGreatDoor
open Go Go.Abs Go.Proofs
abbrev ay:=List UInt8
def mr(n k:Int):Int:=(if n<0 then -(n+1) else n).tmod k
def atZ(l:List Int)(i k:Int):Int:=if i<0\/(l.length:Int)<=i then 0 else mr (l.getD i.toNat 0) k
def lg(c:UInt8):Bool:=decide ((97:Int)<=c.toNat)&&decide ((c.toNat:Int)<=122) || decide ((65:Int)<=c.toNat)&&decide ((c.toNat:Int)<=90)
def isDigit(c:UInt8):Bool:=decide ((48:Int)<=c.toNat)&&decide ((c.toNat:Int)<=57)
def kindOf(c:UInt8):Int:=if lg c then 1 else if isDigit c then 2 else 0
def kM{α:Type}[BEq α](x:α):List α->Nat->Int
 | [],_=>-1
 | a :: l,i=>if a==x then i else kM x l (i+1)
def wB{α:Type}[BEq α][LawfulBEq α](x:α):∀ (l:List α) (i:Nat),decide (0<=kM x l i)=l.contains x
 | [],i=>by simp[kM]
 | a :: l,i=>by
  unfold kM
  by_cases h:a=x
  ·subst h;simp
  ·have h' : (a==x)=false:=cY h
   have h2:(x==a)=false:=by simpa using fun e=>h e.symm
   rw[h',awN,h2,av3];exact wB x l (i+1)
theorem rF(n k:Int)(H:ae)(hn:BD n)(hk:0<k):aj A 22 [.int .i64 n,.int .i64 k] H=some (.int .i64 (mr n k),none):=by
 obtain⟨h1,h2⟩:=hn;have tV:k≠0:=ah;refine cJ (fn:=aei) rfl rfl rfl ?_;unfold aei;refine nE0 ?_;refine jC ?_ ?_<;>intro h
 ·simp(disch:=omega)only[jq,aa,simprocAttr,tV,mr,if_pos h]
  grind
 ·simp(disch:=omega)only[jq,aa,simprocAttr,tV,mr,if_neg h]
def alR(l:List Int)(i k:Int)(H:ae)(hl:∀ n∈l,BD n)(hk:0<k):aj A 16 [.slice (ints l) false,.int .i64 i,.int .i64 k] H=some (.int .i64 (atZ l i k),none):=by
 refine cJ (fn:=aeh) rfl rfl rfl ?_;unfold aeh
 by_cases h0:i<0
 ·exact nE3 h0 true_or @atZ.eq_1 tv
 by_cases h1:(l.length:Int)<=i
 ·exact nE4 h0 h1 @ma (j2 or_true @atZ.eq_1) tv
 ·have hi:i.toNat<l.length:=ah
  have hg:l[i.toNat]?=some (l.getD i.toNat 0):=by rw[List.getD_eq_getElem?_getD,au5 hi];rfl
  have hr:BD (l.getD i.toNat 0):=hl _ (by rw[List.getD_eq_getElem?_getD,au5 hi];exact avx hi)
  simp(disch:=omega)only[jq,aa,simprocAttr,h0,h1,ma,atZ,false_or,bA (show 0<=i by omega),ints_at hg,rF _ _ H hr hk]
def Ox(l:List ay)(w:ay)(H:ae)(hl:l.length<=9223372036854775806):aj A 86 [.slice (strs l) false,.str w] H=some (.int .i64 (kM w l 0),none):=by
 refine cJ (fn:=aeA) rfl rfl rfl ?_;unfold aeA;refine nE0 ?_;refine vl l.length (fun i=>Hd (fun T=>T 0=.slice (strs l) false/\T 1=.str w/\T 7=.int .i64 l.length/\T 8=.int .i64 i/\kM w l 0=kM w (l.drop i) i) H H.length 0) ?_ 0 _ (avB _) ?_
 ·rintro i s hi hs
  obtain⟨T,rfl,h0,h1,h7,h8,hc⟩:=hs.out;refine nE2 h7 h8 ?_;refine jC ?_ ?_<;>intro h
  ·have kP:i<l.length:=ah
   refine nE4 h0 h1 h8 (iD (au5 kP)) ?_;refine jO ?_ ?_<;>intro hb
   ·simp(disch:=omega)only[jq,aa,simprocAttr,hc,avr kP,kM,show (l[i]==w)=true by rw[avM] at hb ⊢;exact hb.symm]
   ·refine nE4 h0 h1 h7 h8 ?_
    exact⟨kP,by rw[hc,avr kP,kM,show (l[i]==w)=false by rw[axU] at hb ⊢;exact hb.symm];rfl⟩
  ·have:i=l.length:=ah
   subst this;simp(disch:=omega)only[jq,aa,simprocAttr,hc,awB,kM]
 ·exact nE1 @bV tv
def LR(l:List ay)(w:ay)(H:ae)(hl:l.length<=9223372036854775806):aj A 130 [.slice (strs l) false,.str w] H=some (.bool (l.contains w),none):=by
 refine cJ (fn:=Uo) rfl rfl rfl ?_;unfold Uo;exact nE2 (Ox l w H hl) @wB tv
def rV(c:UInt8)(H:ae):aj A 129 [.int .u8 c.toNat] H=some (.bool (lg c),none):=by
 refine cJ (fn:=Un) rfl rfl rfl ?_;unfold Un lg
 by_cases h1:(97:Int)<=c.toNat<;>by_cases h2:(c.toNat:Int)<=122<;>by_cases h3:(65:Int)<=c.toNat<;>by_cases h4:(c.toNat:Int)<=90 <;>
  exact vE4 h1 h2 h3 h4
def yq(c:UInt8)(H:ae):aj A 221 [.int .u8 c.toNat] H=some (.bool (isDigit c),none):=by
 refine cJ (fn:=UF) rfl rfl rfl ?_;unfold UF isDigit
 by_cases h1:(48:Int)<=c.toNat<;>by_cases h2:(c.toNat:Int)<=57 <;>
  exact vE2 h1 h2
def Jp(c:UInt8)(H:ae):aj A 220 [.int .u8 c.toNat] H=some (.bool (lg c || isDigit c),none):=by
 refine cJ (fn:=UE) rfl rfl rfl ?_;unfold UE;cases h:lg c<;>exact vE3 rV yq h
def xx(c:UInt8)(H:ae):aj A 119 [.int .u8 c.toNat] H=some (.int .i64 (kindOf c),none):=by
 refine cJ (fn:=Ui) rfl rfl rfl ?_;unfold Ui kindOf lg isDigit
 by_cases h1:(97:Int)<=c.toNat<;>by_cases h2:(c.toNat:Int)<=122<;>by_cases h3:(65:Int)<=c.toNat<;>by_cases h4:(c.toNat:Int)<=90<;>by_cases h5:(48:Int)<=c.toNat<;>by_cases h6:(c.toNat:Int)<=57 <;>
  exact nE4 h1 h2 h3 (j4 h4 h5 h6 @Bool.false_eq_true) tv
theorem wC:∀ (p s:ay),p.isPrefixOf s=(decide (p.length<=s.length)&&(s.take p.length==p))
 | [],s=>ag
 | a :: p,[]=>ag
 | a :: p,b :: s=>by
  have:=wC p s
  grind
def yE(s p:ay)(H:ae):aj A 138 [.str s,.str p] H=some (.bool (p.isPrefixOf s),none):=by
 refine cJ (fn:=Uv) rfl rfl rfl ?_;unfold Uv;rw[wC]
 by_cases h:(p.length:Int)<=s.length
 ·have hh:p.length<=s.length:=ah
  exact vE2 h hh
 ·exact vE2 h (show ¬ p.length<=s.length by omega)
def AU(s p:ay)(H:ae):aj A 95 [.str s,.str p] H=some (.bool (p.isPrefixOf s),none):=by
 refine cJ (fn:=aeD) rfl rfl rfl ?_;unfold aeD;exact vE1 yE
def bI:Bool->ay->Nat
 | _,[]=>0
 | c,b :: r=>if b.toNat=10 then 1+bI false r else if b.toNat=35 then 1+bI true r else if b.toNat≠32/\c=false then 0 else 1+bI c r
def nw:∀ (c:Bool) (s:ay),bI c s<=s.length
 | _,[]=>Nat.le_refl _
 | c,b :: r=>by
  have h1:=nw false r;have h2:=nw true r;have h3:=nw c r;simp only[bI,List.length_cons];split
  ·omega
  ·split
   ·omega
   ·split<;>omega
def nR:ay:=[40,41,123,125,91,93,44,58,46,61,43,45,42,47,37,60]
def lj(s:ay):Bool:=s==[61,61] || s==[45,62] || (decide (s.length=1)&&nR.contains (s.getD 0 0))
def agp(a b:UInt8):(((a.toNat:Int))==(b.toNat:Int))=(a==b):=by
 by_cases h:a=b
 ·subst h;simp
 ·have h' : a.toNat≠b.toNat:=fun e=>h (UInt8.toNat_inj.1 e)
  have h2:(a==b)=false:=cY h;rw[h2];simp;omega
def Nl(s:ay)(H:ae):aj A 120 [.str s] H=some (.bool (lj s),none):=by
 refine cJ (fn:=Uj) rfl rfl rfl ?_;unfold Uj lj;cases e1:(s==[61,61]) with
 | true=>exact nE1 e1 tv
 | false =>
 cases e2:(s==[45,62]) with
 | true=>exact nE2 e1 e2 tv
 | false =>
 refine nE2 e1 e2 ?_;refine jO ?_ ?_<;>intro hl
 ·have Fv:s.length≠1:=fun e=>by rw[e] at hl;simp at hl
  exact nE1 Fv tv
 have Fv:s.length=1:=by
  have:(s.length:Int)=1:=cY hl
  omega
 match s,Fv with
 | [b],_ =>
 refine nE0 ?_;refine vl 16 (fun i=>Hd (fun T=>T 0=.str [b]/\T 3=.str nR/\T 4=.int .i64 i/\nR.contains b=(nR.drop i).contains b) H H.length 0) ?_ 0 _ (avB _) ?_
 ·rintro i st hi iz
  obtain⟨T,rfl,h0,h3,h4,hc⟩:=iz.out;refine nE3 h3 h4 (show nR.length=16 from rfl) ?_
  refine jC ?_ ?_<;>intro h
  ·have kP:i<nR.length:=by simp only[show nR.length=16 from rfl];omega
   refine nE4 h0 h3 h4 (j2 (au5 kP) @agp) ?_;refine jO ?_ ?_<;>intro hb
   ·have iR:nR[i]=b:=cY hb
    simp(disch:=omega)only[jq,aa,simprocAttr,hc,avr kP,awN,iR,axR]
   ·have iR:(b==nR[i])=false:=by
     have:nR[i]≠b:=cY hb
     simpa using fun e=>this e.symm
    refine nE3 h0 h3 h4 ?_;exact⟨ah,by rw[hc,avr kP,awN,iR,av3]⟩
  ·have:i=16:=ah
   subst this;rw[show (nR.drop 16).contains b=false from rfl] at hc
   simp(disch:=omega)only[jq,aa,simprocAttr,axR,hc]
 ·refine nE0 ?_
  exact rfl
end Go.Proofs.YtbadnagdfefbnaaGreatDoor
end
