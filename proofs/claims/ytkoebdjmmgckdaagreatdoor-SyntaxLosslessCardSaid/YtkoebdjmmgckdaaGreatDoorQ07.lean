/-
  A part of the proof of SyntaxLossless: AbsNon, AbsStab, AbsVar, AbsEqS, AbsIrUa, AbsIrU, AbsProgU, AbsEvU, AbsEvY, AbsEvM, AbsEvZ, AbsAny, AbsSgnU, AbsCw, U1, U2.
-/
import Derived.Test.YtkoebdjmmgckdaaGreatDoorProg
import Derived.KernelRfl
import Derived.Lib.AtoiAll
import Derived.Lib.ItoaNum
import Derived.Test.YtkoebdjmmgckdaaGreatDoorQ06
set_option linter.unusedSimpArgs false
set_option linter.unusedVariables false
set_option linter.defProp false
set_option maxHeartbeats 4000000
set_option maxRecDepth 100000
noncomputable section
namespace Go.Abs
variable {s1:AS}{z:AV}{agg b pc:Bool}{q:Bool × Nat × Nat × aI}{fn:Func}{f:FuncId}{dB locals muts ord:List Nat}{ops:List aQ}{es:List rB}{sz:Nat}{d:Option Nat}{α:Type}{w0:World}{o:aQ}{H0:aa}{Q Q':bB->AS->Prop}{e:rB}
section
section
variable (G:Nat->List AV)(cf:fX)
def qq:List aQ->AS->(AS->Prop)->Prop
 | [],s,Q=>Q s
 | o :: r,s,Q=>match x5 o with
  | some t=>∃ g kz ka va cur todo,s.T t=.iter g kz ka va cur todo/\(todo=[]->qq r (s.cR o.dst (.tuple [.bool false])) Q) /\
    ∀ q rest,todo.Perm (q :: rest)->qq r ((s.cc t (.iter g kz ka va q rest)).cR o.dst (.tuple [.bool true,qY ka (q.take kz),qY va (q.drop kz)])) Q
  | none=>∃ s',bS G cf s o=some s'/\qq r s' Q
def jT(pre:List (List Nat))(L:Array Bool):List Nat:=(List.range pre.length).filter fun i=>!L.getD i true&&(pre.getD i []).all fun j=>L.getD j false
def xu(ops:List aQ)(pre:List (List Nat)):Nat->Array Bool->AS->(AS->Prop)->Prop
 | 0,L,s,Q=>jT pre L=[]/\Q s
 | n+1,L,s,Q=>(jT pre L=[]->Q s)/\∀ i∈jT pre L,∃ o s',ops[i]?=some o/\bS G cf s o=some s'/\xu ops pre n (L.setIfInBounds i true) s' Q
def zo(F:AS->(bB->AS->Prop)->Prop):Nat->AS->(bB->AS->Prop)->Prop
 | 0,_,_=>False
 | n+1,s,Q=>F s (andThen (fun s'=>zo F n s' Q) Q)
def WN:aG->AS->(bB->AS->Prop)->Prop
 | .skip,s,Q=>Q .normal s
 | .region ops,s,Q=>qq G cf ops s (Q .normal)
 | .seq a b,s,Q=>WN a s (andThen (fun s'=>WN b s' Q) Q)
 | .cond c a b,s,Q=>∃ t,c.eval G s.T=.bool t/\(t=true->WN a s Q)/\(t=false->WN b s Q)
 | .block id a,s,Q=>WN a s (leave id Q)
 | .loop a,s,Q=>∃ n,zo (WN a) n s Q
 | .exit id,s,Q=>Q (.exit id) s
 | .ret,s,Q=>Q .ret s
 | .rD ops pre,s,Q=>xu G cf ops pre ops.length (Array.replicate ops.length false) s (Q .normal)
end
section
variable {G:Nat->List AV}{cf:fX}
theorem D4{t:Nat}(h:x5 o=some t):o.op=.next (.tmp t)/\o.guard=none:=by
 unfold x5 at h
 grind
def tW:∀ (l:List aQ) (s:AS) {Q Q' : AS->Prop},qq G cf l s Q->(∀ s,Q s->Q' s)->qq G cf l s Q'
 | [],_,_,_,h,hq=>hq _ h
 | o :: r,s,Q,Q',h,hq=>by
  unfold qq at h ⊢;cases hn:x5 o with
  | none =>
   rw[hn] at h;obtain⟨s',h1,h2⟩:=h;exact⟨s',h1,tW r s' h2 hq⟩
  | some t =>
   rw[hn] at h;obtain⟨g,kz,ka,va,cur,todo,h1,h2,h3⟩:=h;exact⟨g,kz,ka,va,cur,todo,h1,fun e=>tW r _ (h2 e) hq,fun q rest hp=>tW r _ (h3 q rest hp) hq⟩
def Gy{pre:List (List Nat)} : ∀ (n:Nat) (L:Array Bool) (s:AS) {Q Q' : AS->Prop},xu G cf ops pre n L s Q->(∀ s,Q s->Q' s)->xu G cf ops pre n L s Q'
 | 0,_,_,_,_,h,hq=>⟨h.1,hq _ h.2⟩
 | n+1,L,s,Q,Q',h,hq=>by
  refine⟨fun e=>hq _ (h.1 e),fun i hi=>?_⟩
  obtain⟨o,s',h1,h2,h3⟩:=h.2 i hi;exact⟨o,s',h1,h2,Gy n _ _ h3 hq⟩
def lr{P P':AS->Prop}(hp:∀ s,P s->P' s)(hq:∀ e s,Q e s->Q' e s):∀ e s,andThen P Q e s->andThen P' Q' e s
 | .normal,s,h=>hp s h
 | .ret,s,h=>hq _ s h
 | .exit i,s,h=>hq _ s h
theorem NU{i:Nat}(hq:∀ e s,Q e s->Q' e s):∀ e s,leave i Q e s->leave i Q' e s:=by
 intro e s h;cases e with
 | exit j =>
  unfold leave at h ⊢
  grind
 | _=>exact hq _ _ h
def DQ{F:AS->(bB->AS->Prop)->Prop}(hF:∀ s Q Q',F s Q->(∀ e s,Q e s->Q' e s)->F s Q'):∀ (n:Nat) (s:AS) {Q Q' : bB->AS->Prop},zo F n s Q->(∀ e s,Q e s->Q' e s)->zo F n s Q'
 | 0,_,_,_,h,_=>h.elim
 | n+1,s,Q,Q',h,hq=>hF _ _ _ h (lr (fun s h=>DQ hF n s h hq) hq)
def jM:∀ (c:aG) (s:AS) {Q Q' : bB->AS->Prop},WN G cf c s Q->(∀ e s,Q e s->Q' e s)->WN G cf c s Q'
 | .skip,_,_,_,h,hq=>hq _ _ h
 | .region ops,s,_,_,h,hq=>tW ops s h (hq .normal)
 | .seq a b,s,_,_,h,hq=>jM a s h (lr (fun s h=>jM b s h hq) hq)
 | .cond c a b,s,_,_,h,hq=>by obtain⟨t,h1,h2,h3⟩:=h;exact⟨t,h1,fun e=>jM a s (h2 e) hq,fun e=>jM b s (h3 e) hq⟩
 | .block id a,s,_,_,h,hq=>jM a s h (NU hq)
 | .loop a,s,_,_,h,hq=>by obtain⟨n,h⟩:=h;exact⟨n,DQ (fun s Q Q' h hq=>jM a s h hq) n s h hq⟩
 | .exit id,_,_,_,h,hq=>hq _ _ h
 | .ret,_,_,_,h,hq=>hq _ _ h
 | .rD ops pre,s,_,_,h,hq=>Gy _ _ _ h (hq .normal)
def vB:∀ (l:List aQ) (s s' : AS) {Q:AS->Prop},gr G cf l s=some s'->Q s'->qq G cf l s Q
 | [],s,s',Q,he,hq=>by simp only[gr,aw2] at he;rwa [<- he] at hq
 | o :: l,s,s',Q,he,hq=>by
  simp only[gr,aw1] at he;obtain⟨s1,h1,h2⟩:=he;unfold qq;cases hn:x5 o with
  | none=>exact⟨s1,h1,vB l s1 s' h2 hq⟩
  | some t =>
   obtain⟨ho,hg⟩:=D4 hn;unfold bS at h1;rw[hg,ho] at h1;simp[br] at h1
def BV(n:Nat):∀ (c:aG) (s:AS) {e:bB} {s' : AS} {Q:bB->AS->Prop},kF G cf n c s=some (e,s')->Q e s'->WN G cf c s Q
 | .skip,s,e,s',Q,he,hq=>by simp only[kF,aw2,aw6] at he;rw[<- he.1,<- he.2] at hq;exact hq
 | .exit i,s,e,s',Q,he,hq=>by simp only[kF,aw2,aw6] at he;rw[<- he.1,<- he.2] at hq;exact hq
 | .ret,s,e,s',Q,he,hq=>by simp only[kF,aw2,aw6] at he;rw[<- he.1,<- he.2] at hq;exact hq
 | .region ops,s,e,s',Q,he,hq=>by
  simp only[kF,aw0,aw6] at he;obtain⟨s1,h1,rfl,rfl⟩:=he;exact vB ops s _ h1 hq
 | .rD ..,s,e,s',Q,he,hq=>by simp[kF] at he
 | .seq a b,s,e,s',Q,he,hq=>by
  simp only[kF,aw1] at he;obtain⟨⟨e1,s1⟩,h1,h2⟩:=he;refine BV n a s h1 ?_;cases e1 with
  | normal=>exact BV n b s1 h2 hq
  | _=>simp only[aw2,aw6] at h2;rw[<- h2.1,<- h2.2] at hq;exact hq
 | .cond c a b,s,e,s',Q,he,hq=>by
  simp only[kF] at he;split at he
  ·rename_i t ht
   refine⟨t,ht,fun h=>?_,fun h=>?_⟩<;>subst h
   ·exact BV n a s he hq
   ·exact BV n b s he hq
  ·cases he
 | .block i a,s,e,s',Q,he,hq=>by
  simp only[kF,aw0] at he;obtain⟨⟨e1,s1⟩,h1,h2⟩:=he;refine BV n a s h1 ?_;cases e1<;>simp only[aw6] at h2<;>rw[<- h2.1,<- h2.2] at hq<;>exact hq
 | .loop a,s,e,s',Q,he,hq=>by
  simp only[kF] at he;have go:∀ (m:Nat) (s:AS),iter (kF G cf n a) m s=some (e,s')->zo (WN G cf a) m s Q:=by
   intro m
   induction m with
   | zero=>intro s h;cases h
   | succ m ih =>
    intro s h;simp only[iter,aw1] at h;obtain⟨⟨e1,s1⟩,h1,h2⟩:=h;refine BV n a s h1 ?_;cases e1 with
    | normal=>exact ih s1 h2
    | _=>simp only[aw2,aw6] at h2;rw[<- h2.1,<- h2.2] at hq;exact hq
  exact⟨n,go n s he⟩
def CP{A:AP}{c:aG}{s:AS}(h:W A c s Q):WN A.aX (ai A) c s Q:=by
 obtain⟨n,e,s',h1,h2⟩:=h;exact BV n c s h1 h2
end
section
variable {P:Program}{G:Nat->List AV}{base nt:Nat}{gh:Gh}{w w' : World}{a:Act}{s:AS}{H:aa}{L:List Nat}
theorem qX{ops:Array Oper} : ∀ {l:List Oper} {is:List aQ},lG P dB locals muts nt ops l=some is->l.length=is.length /\
  ∀ (i:Nat) (o:Oper),l[i]?=some o->∃ io,is[i]?=some io/\uO P dB locals muts nt ops o=some io
 | [],is,h=>by simp[lG] at h;subst h;exact⟨rfl,fun i o h=>by simp at h⟩
 | o :: l,is,h=>by
  simp only[lG,aw1,aw0] at h;obtain⟨io,hio,is',PC,rfl⟩:=h;obtain⟨h1,h2⟩:=qX PC
  grind
def NN(x:Option oH):Prop:=∀ it,x≠some (.next it)
def NN.none:NN none:=fun _ h=>by cases h
def NN.bind{x:Option α}{f:α->Option oH}(h:∀ a,NN (f a)):NN (x.bind f):=by
 cases x with
 | none=>exact NN.none
 | some a=>exact h a
def NN.map{x:Option α}{f:α->oH}(h:∀ a,NN (some (f a))):NN (x.map f):=by
 cases x with
 | none=>exact NN.none
 | some a=>exact h a
def NN.cond{x y:Option oH}(h1:NN x)(h2:NN y):NN (bif b then x else y):=by cases b<;>assumption
def NN.acx{x y:oH}(h1:NN (some x))(h2:NN (some y)):NN (some (bif b then x else y)):=by cases b<;>assumption
def F7{c:Call} : NN (yI P locals muts nt d c):=by
 unfold yI
 repeat' first
  | exact fun _ h=>by cases h
  | exact NN.none
  | exact fun _ h=>by cases h
  | refine NN.bind fun _=>?_
  | refine NN.map fun _=>?_
  | refine NN.cond ?_ ?_
  | refine NN.acx ?_ ?_
  | split
theorem Ke{o:Op}{x:aI}(h:dm P dB locals muts nt d o=some (.next x)):∃ y,o=.next y false/\au nt y=some x:=by
 have key:(∀ y b,o≠.next y b)->NN (dm P dB locals muts nt d o):=by
  intro hn;cases o
  case makeMap t r =>
   cases r with
   | none=>simp only[dm];exact NN.map fun _ _ h=>by cases h
   | some r=>simp only[dm];exact NN.none
  all_goals simp only[dm]
  all_goals first
   | exact absurd rfl (hn _ _)
   | exact F7
   | (repeat' first
     | exact NN.none
     | exact fun _ h=>by cases h
     | refine NN.bind fun _=>?_
     | refine NN.map fun _=>?_
     | refine NN.cond ?_ ?_
     | refine NN.acx ?_ ?_
     | split)
 by_cases hn:∀ y b,o≠.next y b
 ·exact absurd h (key hn x)
 ·have:∃ y b,o=.next y b:=by
   grind
  obtain⟨y,b,rfl⟩:=this;cases b with
  | true=>simp[dm] at h
  | false =>
   simp only[dm,aw0,oH.next.injEq] at h
   grind
theorem pj{cf:fX}(uq:jc P G cf){mn:Gh}{ops:Array Oper}(Ms:∀ x,x∈locals->x∈L)(Mt:∀ x,x∈muts->x∈L)(Q:Exit->Act->World->Prop)(R:AS->Prop)
  (hR:∀ s' a' a8 w',R s'->Inv G base nt L H0 mn w0 s' a8 w' a'->Q .normal a' w') :
  ∀ (l:List Oper) (is:List aQ) (s:AS) (gh:Gh) (w:World) (a:Act),Inv G base nt L H0 mn w0 s gh w a->lG P dB locals muts nt ops l=some is->qq G cf is s R->wpList P ops Q l a w
 | [],is,s,gh,w,a,hI,hc,he=>by
  simp only[lG,aw2] at hc;subst hc;exact hR s a gh w he hI
 | o :: l,is,s,gh,w,a,hI,hc,he=>by
  simp only[lG,aw1,aw0] at hc;obtain⟨io,hio,is',PC,rfl⟩:=hc;unfold qq at he;unfold wpList;have hinv:=s8 hio;cases hn:x5 io with
  | none =>
   rw[hn] at he;obtain⟨s1,h1,h2⟩:=he;rw[xG,aw0] at h1;obtain⟨⟨z,s2⟩,hz,rfl⟩:=h1;refine Ht uq hI hio Ms Mt hz _ Q (fun a' a8 w' BZ=>?_)
   rw[hinv.2.2.1] at h2;exact pj uq Ms Mt Q R hR l is' _ a8 w' a' BZ PC h2
  | some t =>
   rw[hn] at he;obtain⟨g,kz,ka,va,cur,todo,hT,h0,h1⟩:=he;obtain⟨dH,IF⟩:=D4 hn;rw[dH] at hinv;obtain⟨y,hoy,FX⟩:=Ke hinv.1;have hog:o.guard=none:=by
    have hg:=hinv.2.1;rw[IF] at hg;cases hgo:o.guard with
    | none=>rfl
    | some jw =>
     obtain⟨j,want⟩:=jw;rw[hgo] at hg;simp only[rN,aw1] at hg
     grind
   have hw:Region.wanted o (yielded ops a.tmps)=true:=by simp[Region.wanted,hog]
   rw[if_pos hw];have htL:t∈L:=hI.F.obj t (by rw[hT];rfl)
   refine .inl (Za hI.W hI.F hoy FX hT htL hinv.2.2.2 _ Q (fun RQ v' a8 w' hO=>?_) (fun q rest hp v' a8 w' hO=>?_))
   ·have:=h0 RQ
    rw[hinv.2.2.1] at this;exact pj uq Ms Mt Q R hR l is' _ a8 w' _ (hI.out hO hI.lo) PC this
   ·have:=h1 q rest hp
    rw[hinv.2.2.1] at this;exact pj uq Ms Mt Q R hR l is' _ a8 w' _ (hI.out hO (hI.lo.qT rfl rfl)) PC this
def Fl{ops:Array Oper}{L:Array Bool} : jT (ops.toList.map pQ) L=Region.ready .any ops L:=by
 unfold jT Region.ready;rw[show (ops.toList.map pQ).length=ops.size by simp]
 refine List.filter_congr fun i hi=>?_
 have aP:i<ops.size:=cJ hi;have e1:(ops.toList.map pQ).getD i []=pQ ops[i]:=by simp[List.getD_eq_getElem?_getD,aP]
 rw[e1,axj aP];simp only[axa,ax0,pQ]
 simp_all
theorem C1{cf:fX}(uq:jc P G cf){mn:Gh}{ops:Array Oper}(Ms:∀ x,x∈locals->x∈L)(Mt:∀ x,x∈muts->x∈L)(Q:Exit->Act->World->Prop)(R:AS->Prop)
  (hR:∀ s' a' a8 w',R s'->Inv G base nt L H0 mn w0 s' a8 w' a'->Q .normal a' w') {is:List aQ} (hc:lG P dB locals muts nt ops ops.toList=some is) :
  ∀ (n:Nat) (B:Array Bool) (s:AS) (gh:Gh) (w:World) (a:Act),Inv G base nt L H0 mn w0 s gh w a->xu G cf is (ops.toList.map pQ) n B s R->wpAny P .any ops Q n B a w
 | 0,B,s,gh,w,a,hI,h=>⟨by rw[<- Fl];exact h.1,hR s a gh w h.2 hI⟩
 | n+1,B,s,gh,w,a,hI,h=>by
  refine⟨fun e=>hR s a gh w (h.1 (by rw[Fl];exact e)) hI,fun i hi=>?_⟩
  obtain⟨io,s1,hio,h1,h2⟩:=h.2 i (by rw[Fl];exact hi)
  obtain⟨hlen,akq⟩:=qX hc;unfold wpOp;split
  ·grind
  ·rename_i o ho
   obtain⟨io',apz,bV⟩:=akq i o (cJ ho);obtain rfl:io'=io:=axS (apz.symm.trans hio);have hinv:=s8 bV;rw[xG,aw0] at h1;obtain⟨⟨z,s2⟩,hz,rfl⟩:=h1;refine Ht uq hI bV Ms Mt hz _ Q (fun a' a8 w' BZ=>?_)
   rw[hinv.2.2.1] at h2;exact C1 uq Ms Mt Q R hR hc n _ _ a8 w' a' BZ h2
def oF{cf:fX}(uq:jc P G cf)(hm:P.follows .mixedOrders=true){mn:Gh} :
  ∀ (c:Code) (ic:aG),jt P dB locals muts nt c=some ic->∀ (s:AS) (gh:Gh) (w:World) (a:Act) (Q:Exit->Act->World->Prop) (R:bB->AS->Prop),Inv G base nt (locals++muts) H0 mn w0 s gh w a->WN G cf ic s R ->
   (∀ e s' a' a8 w',R e s'->Inv G base nt (locals++muts) H0 mn w0 s' a8 w' a'->Q e.ajO a' w')->c.wp P Q a w
 | .skip,ic,hc,s,gh,w,a,Q,R,hI,he,hQ=>by
  simp only[jt,aw2] at hc;subst hc;exact wp_skip (hQ .normal s a gh w he hI)
 | .region id ops draw,ic,hc,s,gh,w,a,Q,R,hI,he,hQ=>by
  simp only[jt,aw0] at hc;obtain⟨is,PC,rfl⟩:=hc;have Ms:∀ x,x∈locals->x∈locals++muts:=fun x hx=>aw9.2 (.inl hx)
  have Mt:∀ x,x∈muts->x∈locals++muts:=fun x hx=>aw9.2 (.inr hx)
  cases draw with
  | false=>exact wp_region_list (pj uq Ms Mt Q (R .normal) (fun s' a' a8 w' hr BZ=>hQ .normal s' a' a8 w' hr BZ) ops.toList is s gh w a hI PC he)
  | true =>
   have hl:ops.size=is.length:=by simpa using (qX PC).1
   simp only[cond_true,WN,<- hl] at he;exact wp_region_any hm (C1 uq Ms Mt Q (R .normal) (fun s' a' a8 w' hr BZ=>hQ .normal s' a' a8 w' hr BZ) PC _ _ _ gh _ a hI.drew he)
 | .seq x y,ic,hc,s,gh,w,a,Q,R,hI,he,hQ=>by
  simp only[jt,aw1,aw0] at hc;obtain⟨ix,hx,iy,hy,rfl⟩:=hc;refine wp_seq (oF uq hm x ix hx s gh w a _ _ hI he (fun e s' a' a8 w' hr BZ=>?_))
  cases e with
  | normal=>exact oF uq hm y iy hy s' a8 w' a' Q R BZ hr hQ
  | exit id=>exact hQ (.exit id) s' a' a8 w' hr BZ
  | ret=>exact hQ .ret s' a' a8 w' hr BZ
 | .cond c x y,ic,hc,s,gh,w,a,Q,R,hI,he,hQ=>by
  simp only[jt,aw1,aw0] at hc;obtain⟨iq,hq,ix,hx,iy,hy,rfl⟩:=hc;obtain⟨t,ht,h1,h2⟩:=he;have hv:=(cO hI.W hI.F hq ht rfl).lZ;cases t with
  | true=>exact wp_cond_true hv (oF uq hm x ix hx s gh w a Q R hI (h1 rfl) hQ)
  | false=>exact wp_cond_false hv (oF uq hm y iy hy s gh w a Q R hI (h2 rfl) hQ)
 | .block id c,ic,hc,s,gh,w,a,Q,R,hI,he,hQ=>by
  simp only[jt,aw0] at hc;obtain⟨ix,hx,rfl⟩:=hc;refine wp_block (oF uq hm c ix hx s gh w a _ _ hI he (fun e s' a' a8 w' hr BZ=>?_))
  cases e with
  | normal=>exact hQ .normal s' a' a8 w' hr BZ
  | exit i =>
   show if i=id then Q .normal a' w' else Q (.exit i) a' w'
   simp only[leave,im] at hr
   by_cases hi:i=id
   ·rw[if_pos hi];exact hQ .normal s' a' a8 w' (by simpa [hi] using hr) BZ
   ·rw[if_neg hi];exact hQ (.exit i) s' a' a8 w' (by simpa [hi] using hr) BZ
  | ret=>exact hQ .ret s' a' a8 w' hr BZ
 | .loop c,ic,hc,s,gh,w,a,Q,R,hI,he,hQ=>by
  simp only[jt,aw0] at hc;obtain⟨ix,hx,rfl⟩:=hc;obtain⟨n,he⟩:=he;have rounds:∀ (m:Nat) (s:AS) (gh:Gh) (w:World) (a:Act),Inv G base nt (locals++muts) H0 mn w0 s gh w a->zo (WN G cf ix) m s R->Code.rounds P c Q m a w:=by
   intro m
   induction m with
   | zero=>intro s gh w a _ h;exact h.elim
   | succ m ih =>
    intro s gh w a hI h;rw[rounds_succ];refine oF uq hm c ix hx s gh w a _ _ hI h (fun e s' a' a8 w' hr BZ=>?_)
    cases e with
    | normal=>exact ih s' a8 w' a' BZ hr
    | exit id=>exact hQ (.exit id) s' a' a8 w' hr BZ
    | ret=>exact hQ .ret s' a' a8 w' hr BZ
  exact wp_loop_rounds n (rounds n s gh w a hI he)
 | .exit id,ic,hc,s,gh,w,a,Q,R,hI,he,hQ=>by
  simp only[jt,aw2] at hc;subst hc;exact wp_exit (hQ (.exit id) s a gh w he hI)
 | .ret,ic,hc,s,gh,w,a,Q,R,hI,he,hQ=>by
  simp only[jt,aw2] at hc;subst hc;exact wp_ret (hQ .ret s a gh w he hI)
 | .label l,ic,hc,s,gh,w,a,Q,R,hI,he,hQ=>by
  simp only[jt,aw2] at hc;subst hc;exact wp_label (hQ .normal s a gh w he hI)
 | .scope c,ic,hc,s,gh,w,a,Q,R,hI,he,hQ=>by
  simp only[jt] at hc;refine wp_scope_straight (oF uq hm c ic hc s gh w a _ R hI he (fun e s' a' a8 w' hr BZ=>?_))
  have:=hQ e s' a' a8 w' hr BZ
  cases e<;>exact this
 | .rangeFunc _ _ _ _,_,hc,_,_,_,_,_,_,_,_,_=>by simp[jt] at hc
 | .goto _,_,hc,_,_,_,_,_,_,_,_,_=>by simp[jt] at hc
 | .refuse _,_,hc,_,_,_,_,_,_,_,_,_=>by simp[jt] at hc
end
end
section
mutual
def Ip:∀ (a b:AV),qK a b=true->a=b
 | .bool a,b,h=>by cases b<;>simp_all [qK]
 | .int k a,b,h=>by cases b<;>simp_all [qK]
 | .str a,b,h=>by cases b<;>simp_all [qK]
 | .any,b,h=>by cases b<;>simp_all [qK]
 | .kX,b,h=>by cases b<;>simp_all [qK]
 | .ke,b,h=>by cases b<;>simp_all [qK]
 | .kC,b,h=>by cases b<;>simp_all [qK]
 | .cM,b,h=>by cases b<;>simp_all [qK]
 | .al,b,h=>by cases b<;>simp_all [qK]
 | .slice e o,b,h=>by
  cases b<;>simp[qK] at h
  rename_i f q;rw[vI e f h.1,h.2]
 | .ref l o,b,h=>by cases b<;>simp_all [qK]
 | .sref l o n z,b,h=>by cases b<;>simp_all [qK]
 | .mref l,b,h=>by cases b<;>simp_all [qK]
 | .agg a,b,h=>by
  cases b<;>simp[qK] at h
  rename_i f;rw[tj a f h]
 | .tuple a,b,h=>by
  cases b<;>simp[qK] at h
  rename_i f;rw[tj a f h]
 | .iface t a,b,h=>by
  cases b<;>simp[qK] at h
  rename_i t' f;rw[Ip a f h.2,h.1]
 | .eptr a,b,h=>by
  cases b<;>simp[qK] at h
  rename_i f;rw[tj a f h]
 | .lbox g a,b,h=>by
  cases b<;>simp[qK] at h
  rename_i g' f;rw[h.1,tj a f h.2]
 | .lref s g o,b,h=>by cases b<;>simp_all [qK]
 | .lsl g e,b,h=>by
  cases b<;>simp[qK] at h
  rename_i g' f;rw[h.1,vI e f h.2]
 | .lsr s g,b,h=>by cases b<;>simp_all [qK]
 | .eref s g i z o,b,h=>by cases b<;>simp_all [qK]
 | .iW kz ka va e,b,h=>by
  cases b<;>simp[qK] at h
  rename_i qw qv qy f;rw[h.1.1.1,h.1.1.2,h.1.2,vI e f h.2]
 | .mA kz ka va e,b,h=>by
  cases b<;>simp[qK] at h
  rename_i qw qv qy f;rw[h.1.1.1,h.1.1.2,h.1.2,vI e f h.2]
 | .iter g kz ka va c e,b,h=>by
  cases b<;>simp[qK] at h
  rename_i g' qw qv qy c' f;rw[h.1.1.1.1.1,h.1.1.1.1.2,h.1.1.1.2,h.1.1.2,tj c c' h.1.2,vI e f h.2]
 | .func f a c,b,h=>by
  cases b<;>simp[qK] at h
  rename_i f' b d;rw[h.1.1,tj a b h.1.2,tj c d h.2]
def tj:∀ (a b:List AV),M' a b=true->a=b
 | [],b,h=>by cases b<;>simp_all [M']
 | x :: l,b,h=>by
  cases b with
  | nil=>simp[M'] at h
  | cons y m =>
   simp[M'] at h;rw[Ip x y h.1,tj l m h.2]
def vI:∀ (a b:List (List AV)),BW a b=true->a=b
 | [],b,h=>by cases b<;>simp_all [BW]
 | x :: l,b,h=>by
  cases b with
  | nil=>simp[BW] at h
  | cons y m =>
   simp[BW] at h;rw[tj x y h.1,vI l m h.2]
end
mutual
def Dk:∀ a:AV,qK a a=true
 | .bool _|.int _ _|.str _|.any|.kX|.ke|.kC|.cM|.al|.ref _ _|.sref _ _ _ _|.mref _|.lref _ _ _|.lsr _ _|.eref _ _ _ _ _=>by simp[qK]
 | .slice e o=>by simp[qK,pC e]
 | .agg a=>by simp[qK,nr a]
 | .tuple a=>by simp[qK,nr a]
 | .iface t a=>by simp[qK,Dk a]
 | .eptr a=>by simp[qK,nr a]
 | .lbox g a=>by simp[qK,nr a]
 | .lsl g e=>by simp[qK,pC e]
 | .iW kz ka va e=>by simp[qK,pC e]
 | .mA kz ka va e=>by simp[qK,pC e]
 | .iter g kz ka va c e=>by simp[qK,nr c,pC e]
 | .func f a c=>by simp[qK,nr a,nr c]
def nr:∀ l:List AV,M' l l=true
 | []=>rfl
 | a :: l=>by simp[M',Dk a,nr l]
def pC:∀ l:List (List AV),BW l l=true
 | []=>rfl
 | a :: l=>by simp[BW,nr a,pC l]
end
theorem AT:∀ (n:Nat) (l:List Nat),l.Nodup->(∀ i,i∈l->i<n)->l.length<=n
 | 0,l,_,h=>by
  cases l with
  | nil=>exact Nat.le_refl _
  | cons i l=>exact absurd (h i List.mem_cons_self) (Nat.not_lt_zero _)
 | n+1,l,RO,h=>by
  have ih:=AT n (l.erase n) (RO.erase n) (fun i hi=>by
   have:=(RO.mem_erase_iff).1 hi
   have:=h i this.2
   omega)
  grind
section
variable {G:Nat->List AV}{cf:fX}
def GU:∀ (a b:List aQ) (s:AS),gr G cf (a++b) s=(gr G cf a s).bind (gr G cf b)
 | [],b,s=>by simp[gr]
 | o :: a,b,s=>by
  simp only[axN,gr];cases bS G cf s o with
  | none=>rfl
  | some s1=>simp only[aw7];exact GU a b s1
def Bg(G:Nat->List AV)(s:AS)(q:Bool × Nat × Nat × aI):Prop:=cH s false q.1 q.2.1 (q.2.2.2.addr G s.T)=some (s.T q.2.2.1,none)
def Zd{d:Nat}{x:aI}{s s':AS}(h:bS G cf s ⟨none,none,.same agg sz d x⟩=some s'):s'=s/\Bg G s (agg,sz,d,x):=by
 simp only[bS,br,aw1] at h;obtain⟨⟨z,so⟩,h1,h2⟩:=h;split at h1
 ·rename_i v hv
  simp only[oX] at h1;obtain⟨h3,rfl,rfl⟩:=h1;simp[AS.cR] at h2;refine⟨h2.symm,?_⟩;unfold Bg;rw[hv,Ip _ _ h3]
 ·cases h1
def wo{L:List Nat}{cl:List (List Nat)}{k:Nat} : ∀ (done:List Nat) (s s' : AS),
  gr G cf (done.filterMap fun j=>cond ((cl.getD k []).contains j) none ((ops[j]?).bind fun o=>(lj L ops o).map fun q=>⟨none,none,.same q.1 q.2.1 q.2.2.1 q.2.2.2⟩)) s=some s' ->
  s'=s/\∀ j,j∈done->(cl.getD k []).contains j=false->∀ q,(ops[j]?).bind (lj L ops)=some q->Bg G s q
 | [],s,s',h=>by simp[gr] at h;exact⟨h.symm,fun j hj=>by simp at hj⟩
 | j :: done,s,s',h=>by
  rw[List.filterMap_cons] at h;cases hc:(cl.getD k []).contains j with
  | true =>
   rw[hc] at h;simp only[cond_true] at h;obtain⟨h1,h2⟩:=wo done s s' h;exact⟨h1,fun i hi j6 q hq=>by
    rcases axs.1 hi with rfl|hi
    ·rw[hc] at j6;cases j6
    ·exact h2 i hi j6 q hq⟩
  | false =>
   rw[hc] at h;simp only[cond_false] at h;cases ho:(ops[j]?).bind (lj L ops) with
   | none =>
    have:((ops[j]?).bind fun o=>(lj L ops o).map fun q=>(⟨none,none,.same q.1 q.2.1 q.2.2.1 q.2.2.2⟩:aQ))=none:=by
     cases hj:ops[j]? with
     | none=>rfl
     | some o=>rw[hj] at ho;simp only[aw7] at ho ⊢;rw[ho];rfl
    rw[this] at h;obtain⟨h1,h2⟩:=wo done s s' h;exact⟨h1,fun i hi j6 q hq=>by
     rcases axs.1 hi with rfl|hi
     ·rw[ho] at hq;cases hq
     ·exact h2 i hi j6 q hq⟩
   | some q =>
    have:((ops[j]?).bind fun o=>(lj L ops o).map fun q=>(⟨none,none,.same q.1 q.2.1 q.2.2.1 q.2.2.2⟩:aQ))=some ⟨none,none,.same q.1 q.2.1 q.2.2.1 q.2.2.2⟩:=by
     cases hj:ops[j]? with
     | none=>rw[hj] at ho;cases ho
     | some o=>rw[hj] at ho;simp only[aw7] at ho ⊢;rw[ho];rfl
    rw[this] at h;simp only[gr,aw1] at h;obtain⟨s1,h3,h⟩:=h;obtain⟨rfl,h4⟩:=Zd h3;obtain⟨h1,h2⟩:=wo done _ s' h;exact⟨h1,fun i hi j6 q' hq=>by
     rcases axs.1 hi with rfl|hi
     ·rw[ho] at hq;cases hq;exact h4
     ·exact h2 i hi j6 q' hq⟩
def BR{L:List Nat}{cl:List (List Nat)} : ∀ (todo done:List Nat) (s s' : AS),(∀ k,k∈todo->k<ops.length) ->
  gr G cf (HQ pc L ops cl es done todo) s=some s' ->
  ∃ S:Nat->AS,S 0=s/\S todo.length=s'/\∀ (p k:Nat),todo[p]?=some k->∃ o,ops[k]?=some o /\
   (∀ c y,wR ops L o.op=some (c,y)->(∀ g w,o.guard=some (g,w)->(S p).T g=.bool w)->fY c (y.addr G (S p).T)=true) /\
   bS G cf (S p) (nF pc o)=some (S (p+1)) /\
   ((es.getD k default).wh=true->∀ j,j∈done++todo.take p->(cl.getD k []).contains j=false->∀ q,(ops[j]?).bind (lj L ops)=some q->Bg G (S (p+1)) q)
 | [],done,s,s',aP,h=>by
  simp only[HQ,gr,aw2] at h;exact⟨fun _=>s,rfl,h,fun p k hp=>by simp at hp⟩
 | k :: r,done,s,s',aP,h=>by
  obtain⟨o,ho⟩:∃ o,ops[k]?=some o:=⟨_,aw3 (aP k (by simp))⟩
  simp only[HQ,ho,GU,aw1] at h;obtain⟨s1,h1,s2,h2,h3⟩:=h;obtain⟨b1,b2⟩:=R5 h1;have hr:s2=s1/\((es.getD k default).wh=true->∀ j,j∈done->(cl.getD k []).contains j=false->∀ q,(ops[j]?).bind (lj L ops)=some q->Bg G s1 q):=by
   unfold adV at h2;cases hw:(es.getD k default).wh with
   | false=>rw[hw] at h2;simp only[cond_false,gr,aw2] at h2;exact⟨h2.symm,fun h=>by cases h⟩
   | true =>
    rw[hw] at h2;obtain⟨c1,c2⟩:=wo done s1 s2 h2;exact⟨c1,fun _=>c2⟩
  obtain⟨rfl,hre⟩:=hr;obtain⟨S,d0,d1,d2⟩:=BR r (done++[k]) s2 s' (fun j hj=>aP j (ax8 _ hj)) h3
  refine⟨fun p=>match p with|0=>s|p+1=>S p,rfl,d1,fun p k' hp=>?_⟩
  cases p with
  | zero =>
   simp only[axl,aw2] at hp;subst hp;refine⟨o,ho,b1,by rw[b2,<- d0],fun hw j hj=>?_⟩
   simp only[axQ,List.append_nil] at hj
   show _->∀ q,_->Bg G (S 0) q
   rw[d0];exact hre hw j hj
  | succ p =>
   obtain⟨o',e1,e2,e3,e4⟩:=d2 p k' (by simpa using hp)
   refine⟨o',e1,e2,e3,fun hw j hj=>e4 hw j ?_⟩
   simpa using hj
def FG{L:List Nat}(h:lj L ops o=some q):o=⟨some q.2.2.1,none,.load false q.1 q.2.1 q.2.2.2⟩/\Kd ops L q.2.2.2=.heap/\q.2.2.1∉q.2.2.2.tmps:=by
 unfold lj at h;split at h
 ·rename_i d agg sz x
  obtain⟨h1,h⟩:=ay h;injection h with h
  subst h;simp only[aw4,axq,azJ,axo] at h1;refine⟨rfl,?_,h1.2⟩;have h1:=h1.1;generalize Kd ops L x=c at h1;cases c with
  | heap=>rfl
  | _=>cases h1
 ·cases h
def vQ{s x:AS}{v:AV}{r:Option AS}(hc:fY .heap v=true)(hH:x.H=s.H)(h:cH s false agg sz v=some (z,r)):cH x false agg sz v=some (z,none)/\r=none:=by
 unfold cH at h ⊢;cases v<;>simp only at h ⊢<;>try (cases h;done)
 case eptr cs =>
  simp only[aw0,aw6] at h ⊢;obtain⟨w,h1,rfl,rfl⟩:=h;exact⟨⟨w,h1,rfl,trivial⟩,rfl⟩
 case ref loc off =>
  rw[hH];generalize s.H[loc]?=X at h ⊢;cases X with
  | none=>cases h
  | some ob =>
   cases ob<;>simp only[axt,cond_false] at h ⊢<;>try (cases h;done)
   all_goals
    simp only[aw0,aw6] at h ⊢;obtain⟨w,h1,rfl,rfl⟩:=h;exact⟨⟨w,h1,rfl,trivial⟩,rfl⟩
 case lref=>cases hc
 case eref=>cases hc
def okP{L:List Nat}{pre cl:List (List Nat)}(h:okS L ops pre cl es ord=true) :
  pre.length=ops.length/\ord.length=ops.length/\ord.Nodup/\(∀ k,k∈ord->k<ops.length)/\(∀ k,k<ops.length->∀ e,e∈pre.getD k []->e<k) /\
  (∀ k,k<ops.length->∀ j,j∈cl.getD k []->∃ e,e∈pre.getD k []/\(j=e\/j∈cl.getD e [])) /\
  (∀ q,q<ops.length->∀ p,p<q->D8 L ops cl es ord p q=true):=by
 simp only[okS,aw4,aw8,ayB,List.any_eq_true,ayt,axp,im,aw'] at h;obtain⟨⟨⟨⟨⟨⟨h1,h2⟩,h3⟩,h4⟩,h5⟩,h6⟩,h8⟩:=h;refine⟨h1,h2,?_,h4,h5,fun k hk j hj=>?_,h8⟩
 ·clear h1 h2 h4 h5 h6 h8
  induction ord with
  | nil=>exact List.nodup_nil
  | cons x l ih =>
   simp only[Oc,aw4,axq,azJ,axo] at h3;exact azA.2 ⟨h3.1,ih h3.2⟩
 ·obtain⟨e,he,h⟩:=h6 k hk j hj
  exact⟨e,he,by simpa using h⟩
def GM{pre cl:List (List Nat)}{n:Nat}{X:Nat->Prop}(yY:∀ k,k<n->∀ e,e∈pre.getD k []->e<k)
  (mB:∀ k,k<n->∀ j,j∈cl.getD k []->∃ e,e∈pre.getD k []/\(j=e\/j∈cl.getD e []))
  (hX:∀ k,k<n->X k->∀ e,e∈pre.getD k []->X e):∀ k,k<n->X k->∀ j,j∈cl.getD k []->X j:=by
 intro k
 induction k using Nat.strongRecOn with
 | _ k ih =>
  intro hk hx j hj;obtain⟨e,h1,h2⟩:=mB k hk j hj;have aP:=yY k hk e h1;have hxe:=hX k hk hx e h1
  rcases h2 with rfl|h2
  ·exact hxe
  ·exact ih e aP (by omega) hxe j h2
variable {n k:Nat}{S:Nat->AS}{E:Nat->rB}{X:Nat->Prop}{x x1:AS}
def GS{L:List Nat} : ∀ {l:List aQ} {es:List rB},GR pc L ops l=some es->es.length=l.length/\∀ (i:Nat) (o:aQ),l[i]?=some o->M6 pc L ops o=some (es.getD i default)
 | [],es,h=>by simp[GR] at h;subst h;exact⟨rfl,fun i o hi=>by simp at hi⟩
 | o :: l,es,h=>by
  simp only[GR,aw1,aw0] at h;obtain⟨e,he,uS,h',rfl⟩:=h;obtain⟨h1,h2⟩:=GS h';refine⟨by simp[h1],fun i o' hi=>?_⟩
  cases i with
  | zero=>simp only[axl,aw2] at hi;subst hi;simpa using he
  | succ i=>simpa using h2 i o' (by simpa using hi)
def Ko{L:List Nat}(h:M6 pc L ops o=some e):∃ e0,Km pc ops L o=some e0/\e.rs=e0.rs/\e.ws=e0.ws/\e.wh=e0.wh/\e.wg=e0.wg/\(lj L ops o=none->e=e0):=by
 simp only[M6,aw0] at h;obtain⟨e0,h1,h2⟩:=h;refine⟨e0,h1,?_⟩;split at h2
 ·rename_i q hq
  subst h2;exact⟨rfl,rfl,rfl,rfl,fun h=>by rw[hq] at h;cases h⟩
 ·subst h2
  exact⟨rfl,rfl,rfl,rfl,fun _=>rfl⟩
def fB.congr{e0:rB}{x x1:AS}(h1:e.ws=e0.ws)(h2:e.wh=e0.wh)(h3:e.wg=e0.wg)(h:fB e0 s1 x x1):fB e s1 x x1 :=
 ⟨fun t ht=>h.T t (by rw[<- h1];exact ht),fun t ht=>h.T' t (by rw[<- h1];exact ht),fun a=>h.H (by rw[<- h2];exact a),fun a=>h.H' (by rw[<- h2];exact a),fun a=>h.G (by rw[<- h3];exact a),fun a=>h.G' (by rw[<- h3];exact a)⟩
def ah2{L:List Nat}(hq:lj L ops o=some q)(he:M6 pc L ops o=some e) :
  e.ws=[q.2.2.1]/\e.wh=false/\e.wg=false/\(∀ t,t∈q.2.2.2.tmps->t∈e.rs)/\e.rh=false:=by
 obtain⟨rfl,hc,_⟩:=FG hq;unfold M6 at he;rw[hq] at he;simp only[Km,wR,hc,GQ,axa,aw2,AJ,gU] at he;subst he;simp
def abM{s:AS}(ho:o=⟨some q.2.2.1,none,.load false q.1 q.2.1 q.2.2.2⟩)(hc:fY .heap (q.2.2.2.addr G s.T)=true)(h:bS G cf s o=some s1) :
  ∃ z,cH s false q.1 q.2.1 (q.2.2.2.addr G s.T)=some (z,none)/\s1=s.cR (some q.2.2.1) z:=by
 subst ho;simp only[bS,br,aw1] at h;obtain⟨⟨z,so⟩,h1,h2⟩:=h;obtain⟨h3,rfl⟩:=vQ hc rfl h1;refine⟨z,h3,?_⟩
 simpa using h2.symm
def ah3{x:AS}(ho:o=⟨some q.2.2.1,none,.load false q.1 q.2.1 q.2.2.2⟩)(h:cH x false q.1 q.2.1 (q.2.2.2.addr G x.T)=some (z,none)) :
  bS G cf x o=some (x.cR (some q.2.2.1) z):=by
 subst ho;simp[bS,br,h]
def XJ{L:List Nat}{pre cl:List (List Nat)}(JI:GR pc L ops ops=some es)(ri:okS L ops pre cl es ord=true)
  {s s' : AS} (he:gr G cf (HQ pc L ops cl es [] ord) s=some s') {Q:AS->Prop} (hQ:Q s'):xu G cf ops pre ops.length (Array.replicate ops.length false) s Q:=by
 obtain⟨gI,hol,RO,aP,yY,mB,Vp⟩:=okP ri;obtain⟨S,h0,hn,hS⟩:=BR ord [] s s' aP he;rw[hol] at hn;obtain⟨arZ,apf⟩:=GS JI
 let π:Nat->Nat:=fun p=>ord.getD p 0
 let E:Nat->rB:=fun p=>es.getD (π p) default
 have hπ:∀ p,p<ops.length->ord[p]?=some (π p):=fun p hp=>by
  have:p<ord.length:=by omega
  simp[π,this]
 have hπl:∀ p,p<ops.length->π p<ops.length:=fun p hp=>aP _ (axc (hπ p hp))
 have hπi:∀ p q,p<ops.length->q<ops.length->π p=π q->p=q:=fun p q hp hq h=>by
  have a:=hπ p hp;have b:=hπ q hq;obtain⟨a1,a2⟩:=aw5.1 a;obtain⟨b1,b2⟩:=aw5.1 b;exact (List.getElem_inj RO).1 (by rw[a2,b2,h])
 have DF:∀ i,i<ops.length->∃ p,p<ops.length/\π p=i:=fun i hi=>by
  have hm:i∈ord:=by
   cases hc:ord.contains i with
   | true=>simpa using hc
   | false =>
    have hni:i∉ord:=by simpa using hc
    have:=AT ops.length (i :: ord) (azA.2 ⟨hni,RO⟩) (fun j hj=>by
     rcases axs.1 hj with rfl|hj
     ·exact hi
     ·exact aP j hj)
    simp at this;omega
  obtain⟨p,hp,e⟩:=List.mem_iff_getElem.1 hm;refine⟨p,by omega,?_⟩
  simp[π,hp,e]
 have hSp:∀ p,p<ops.length->∃ o,ops[π p]?=some o/\M6 pc L ops o=some (E p) /\
   (∀ c y,wR ops L o.op=some (c,y)->(∀ g w,o.guard=some (g,w)->(S p).T g=.bool w)->fY c (y.addr G (S p).T)=true) /\
   bS G cf (S p) (nF pc o)=some (S (p+1)) /\
   ((E p).wh=true->∀ j,j∈ord.take p->(cl.getD (π p) []).contains j=false->∀ q,(ops[j]?).bind (lj L ops)=some q->Bg G (S (p+1)) q):=fun p hp=>by
  obtain⟨o,a,b,c,d⟩:=hS p (π p) (hπ p hp);exact⟨o,a,apf _ o a,b,c,fun hw j hj=>d hw j (by simpa using hj)⟩
 have Tw:∀ (e:rB) (q:AS),Te e q q:=fun e q=>⟨fun _ _=>rfl,fun _=>⟨rfl,rfl⟩,fun _=>rfl⟩
 have hK:Ti S E ops.length:=by
  have mv:∀ j,j<ops.length->fB (E j) (S (j+1)) (S j) (S (j+1)):=by
   intro j hj;obtain⟨o,ho,hx,hc,cE,_⟩:=hSp j hj;obtain⟨e0,he0,_,e2,e3,e4,_⟩:=Ko hx;obtain⟨x1,h1,h2,_⟩:=DY he0 hc cE (Tw _ (S j));rw[zI cE] at h1;injection h1 with h1
   rw[<- h1] at h2;exact h2.congr e2 e3 e4
  refine⟨fun t j hj hw=>(mv j hj).T' t hw,fun j hj hw=>?_,fun j hj hw=>(mv j hj).G' (by simpa using hw)⟩
  have:=(mv j hj).H' (by simpa using hw)
  simp only[this]
 have acO:∀ p q,p<q->q<ops.length->conflict (E q) (E p)=true->π p∈cl.getD (π q) []:=by
  intro p q hpq hq hc;have:=Vp q hq p hpq
  simp only[D8,aw4] at this;have h1:=this.1.1;simp only[E,π] at hc;rw[hc] at h1
  simpa [π] using h1
 have main:∀ (n:Nat) (B:Array Bool) (x:AS),B.size=ops.length->(∀ l:List Nat,l.Nodup->(∀ i,i∈l->i<ops.length/\B.getD i true=false)->l.length<=n) ->
   (∀ k,k<ops.length->B.getD k false=true->∀ e,e∈pre.getD k []->B.getD e false=true) ->
   xp S E (fun p=>p<ops.length/\B.getD (π p) false=true) x->xu G cf ops pre n B x Q:=by
  intro n;have fin:∀ (B:Array Bool) (x:AS),(∀ i,i<ops.length->B.getD i false=true)->xp S E (fun p=>p<ops.length/\B.getD (π p) false=true) x->Q x:=by
   intro B x dQ hB;rw[MO hK hB (fun j=>⟨fun h=>h.1,fun h=>⟨h,dQ _ (hπl j h)⟩⟩),hn]
   exact hQ
  have mem_ready:∀ (B:Array Bool) (i:Nat),i∈jT pre B↔i<ops.length/\B.getD i true=false/\∀ e,e∈pre.getD i []->B.getD e false=true:=by
   intro B i;unfold jT;rw[azi,ayB,gI];simp only[aw4,axq,aw8]
  induction n with
  | zero =>
   intro B x RN afl Cy hB;have dQ:∀ i,i<ops.length->B.getD i false=true:=by
    intro i hi;cases hb:B.getD i true with
    | true =>
     have:i<B.size:=by omega
     simpa [this] using hb
    | false =>
     have:=afl [i] (by simp) (fun j hj=>by simp at hj;subst hj;exact⟨hi,hb⟩)
     simp at this
   refine⟨?_,fin B x dQ hB⟩;cases hr:jT pre B with
   | nil=>rfl
   | cons i r =>
    obtain⟨h1,h2,_⟩:=(mem_ready B i).1 (by rw[hr];exact List.mem_cons_self)
    have:=dQ i h1
    have u7:i<B.size:=by omega
    simp[u7] at this h2;rw[this] at h2;cases h2
  | succ n ih =>
   intro B x RN afl Cy hB;refine⟨fun afO=>fin B x ?_ hB,fun i hi=>?_⟩
   ·intro i
    induction i using Nat.strongRecOn with
    | _ i PO =>
     intro RJ;have u7:i<B.size:=by omega
     cases hb:B.getD i true with
     | true=>simpa [u7] using hb
     | false =>
      exfalso;have:i∈jT pre B:=(mem_ready B i).2 ⟨RJ,hb,fun e he=>PO e (yY i RJ e he) (by have:=yY i RJ e he;omega)⟩
      rw[afO] at this;cases this
   ·obtain⟨RJ,afU,UY⟩:=(mem_ready B i).1 hi
    have u7:i<B.size:=by omega
    obtain⟨p,hp,rfl⟩:=DF i RJ;obtain⟨o,ho,hx,hc,cE,Mu⟩:=hSp p hp;have ak7:¬ (B.getD (π p) false=true):=by
     simp[u7] at afU ⊢;exact afU
    have ready:∀ j,j∈cl.getD (π p) []->B.getD j false=true:=by
     intro j hj;obtain⟨e,h1,h2⟩:=mB (π p) RJ j hj;have:=UY e h1
     rcases h2 with rfl|h2
     ·exact this
     ·exact GM (X:=fun i=>B.getD i false=true) yY mB Cy e (by have:=yY _ RJ e h1;omega) this j h2
    have closed:∀ r,r<ops.length->B.getD (π r) false=true->π p∉cl.getD (π r) []:=fun r hr hb hm =>
     ak7 (GM (X:=fun i=>B.getD i false=true) yY mB Cy (π r) (hπl r hr) hb (π p) hm)
    have later:∀ j,p<j->conflict (E j) (E p)=true->¬ (j<ops.length/\B.getD (π j) false=true):=fun j hpj hcj hj=>closed j hj.1 hj.2 (acO p j hpj hj.1 hcj)
    have Pc:∀ j,j<p->conflict (E p) (E j)=true->(j<ops.length/\B.getD (π j) false=true):=fun j hj hcj=>⟨by omega,ready _ (acO j p hj hp hcj)⟩
    have hX:¬ (p<ops.length/\B.getD (π p) false=true):=fun h=>ak7 h.2
    have step:∃ x1,bS G cf x o=some x1/\fB (E p) (S (p+1)) x x1:=by
     cases gP:lj L ops o with
     | none =>
      obtain⟨e0,he0,_,_,_,_,e5⟩:=Ko hx;have hA:Te (E p) (S p) x:=C5 hK hp hB hX Pc later;have e5' : E p=e0:=e5 gP;rw[e5'] at hA;obtain⟨x1,h1,h2,_⟩:=DY he0 hc cE hA;rw[<- e5'] at h2;exact⟨x1,h1,h2⟩
     | some q =>
      obtain⟨hoq,ao9,apT⟩:=FG gP;obtain⟨f1,f2,f3,f4,f5⟩:=ah2 gP hx;have hTr:=(C5 hK hp hB hX Pc later).T;have hck:fY .heap (q.2.2.2.addr G (S p).T)=true:=by
       refine hc .heap q.2.2.2 ?_ (fun g w h=>by rw[hoq] at h;cases h)
       rw[hoq];simp only[wR,ao9]
      obtain⟨z,hz1,hz2⟩:=abM hoq hck (zI cE);have hzd:(S (p+1)).T q.2.2.1=z:=by rw[hz2];simp[AS.cR,fi]
      have had:q.2.2.2.addr G x.T=q.2.2.2.addr G (S p).T:=CY (s:=S p) (x:=x) (e:=E p) hTr f4;have Ve:cH x false q.1 q.2.1 (q.2.2.2.addr G x.T)=some (z,none):=by
       rw[had];have KY:∀ a b,a<=b->b<=ops.length->(∀ j,a<=j->j<b->¬ ((E j).wh=true))->(S b).H=(S a).H:=fun a b h1 h2 h3=>by
        have:=s9 (f:=fun s:AS=>(s.H,s.lo)) (w:=fun j=>(E j).wh=true) (fun j=>hK.H j) b h1 h2 h3
        simp only[aw6] at this;exact this.1
       have wl:∀ j,j<p->(E j).wh=true->(j<ops.length/\B.getD (π j) false=true):=by
        intro j hj hw;refine⟨by omega,ready _ ?_⟩
        have:=Vp p hp j hj
        simp only[D8,aw4] at this;have h1:=this.1.2;have h2:R8 L ops (ord.getD p 0)=true:=by simp only[R8];rw[show ops[ord.getD p 0]?=some o from ho];simp[gP]
        have h3:(es.getD (ord.getD j 0) default).wh=true:=hw;rw[h2,h3] at h1
        simpa [π] using h1
       rcases hB.H with ⟨i,hXi,RV,Vh,hHe⟩|⟨mS,hHe⟩
       ·simp only[aw6] at hHe
        rcases azb i p with hip|hip|hip
        ·have:(S p).H=(S (i+1)).H:=KY (i+1) p (by omega) (by omega) (fun j h1 h2 hw=>by
          have:=Vh j (wl j h2 hw) hw
          omega)
         exact (vQ hck (by rw[hHe.1,this]) hz1).1
        ·subst hip
         have:(E i).wh=false:=f2
         rw[this] at RV;cases RV
        ·
         have hpi:=Vp i hXi.1 p hip;simp only[D8,aw4] at hpi;have h1:=hpi.2;have h2:R8 L ops (ord.getD p 0)=true:=by simp only[R8];rw[show ops[ord.getD p 0]?=some o from ho];simp[gP]
         have h3:(es.getD (ord.getD i 0) default).wh=true:=RV;have h4:(cl.getD (ord.getD i 0) []).contains (ord.getD p 0)=false:=by
          have:=closed i hXi.1 hXi.2
          simpa [π] using this
         rw[h2,h3,h4] at h1;simp only[Bool.and_self,ax7,ax2,aw8,ayB,ayt,axv,axq] at h1;have aql:stT L ops (ord.getD p 0)=q.2.2.1 :: q.2.2.2.tmps:=by
          simp only[stT];rw[show ops[ord.getD p 0]?=some o from ho];simp[gP]
         have K5:∀ t,t∈q.2.2.1 :: q.2.2.2.tmps->(S (i+1)).T t=(S (p+1)).T t:=by
          intro t ht;refine s9 (f:=fun s:AS=>s.T t) (w:=fun j=>t∈(E j).ws) (fun j=>hK.T t j) (i+1) (by omega) (by omega) (fun j j1 j2 hw=>?_)
          rcases h1 j j2 with h|h
          ·omega
          ·rw[aql] at h
           have:=vS (x:=(E j).ws) hw ht
           rw[show meets (E j).ws (q.2.2.1 :: q.2.2.2.tmps)=false from h] at this
           cases this
         obtain⟨_,_,_,_,_,ao2⟩:=hSp i hXi.1;have Nz:π p∈ord.take i:=by
          refine axc (i:=p) ?_;rw[List.getElem?_take,if_pos hip];exact hπ p hp
         have hA:=ao2 RV (π p) Nz h4 q (by rw[ho];exact gP)
         unfold Bg at hA;have hpT:∀ t,t∈q.2.2.2.tmps->(S (p+1)).T t=(S p).T t:=fun t ht=>by
          rw[hz2];simp only[AS.cR,fi];rw[if_neg (fun h=>apT (by rw[<- h];exact ht))]
         have ao1:q.2.2.2.addr G (S (i+1)).T=q.2.2.2.addr G (S p).T :=
          CY (s:=S p) (x:=S (i+1)) (e:=⟨q.2.2.2.tmps,[],false,false,false⟩) (fun t ht=>(K5 t (ax8 _ ht)).trans (hpT t ht)) (fun t ht=>ht)
         rw[ao1,K5 _ List.mem_cons_self,hzd] at hA;exact (vQ hck hHe.1 hA).1
       ·simp only[aw6] at hHe
        have:(S p).H=(S 0).H:=KY 0 p (by omega) (by omega) (fun j _ h2 hw=>mS j (wl j h2 hw) hw)
        exact (vQ hck (by rw[hHe.1,this]) hz1).1
      have hM:fB (E p) (S (p+1)) x (x.cR (some q.2.2.1) z):=by
       refine⟨fun t ht=>?_,fun t ht=>?_,fun h=>?_,fun _=>⟨rfl,rfl⟩,fun h=>?_,fun _=>rfl⟩
       ·rw[f1] at ht
        rw[axi.1 ht,hzd];simp[AS.cR,fi]
       ·rw[f1] at ht
        have:t≠q.2.2.1:=by simpa using ht
        simp[AS.cR,fi,this]
       ·rw[show (E p).wh=false from f2] at h;cases h
       ·rw[show (E p).wg=false from f3] at h;cases h
      exact⟨_,ah3 hoq Ve,hM⟩
    obtain⟨x1,od,hM⟩:=step;refine⟨o,x1,ho,od,?_⟩;have qz:∀ j,(B.setIfInBounds (π p) true).getD j false=true↔(B.getD j false=true\/j=π p):=by
     intro j
     by_cases hji:π p=j
     ·subst hji
      simp[u7]
     ·rw[getD_set_ne false hji]
      simp[ayk hji]
    have hB':=J8 hB hX later hM;have afq:∀ j,((j<ops.length/\B.getD (π j) false=true)\/j=p)↔(j<ops.length/\(B.setIfInBounds (π p) true).getD (π j) false=true):=by
     intro j;rw[qz];constructor
     ·rintro (⟨h1,h2⟩|rfl)
      ·exact⟨h1,.inl h2⟩
      ·exact⟨hp,.inr rfl⟩
     ·rintro ⟨h1,h2|h2⟩
      ·exact .inl ⟨h1,h2⟩
      ·exact .inr (hπi j p h1 hp h2)
    refine ih (B.setIfInBounds (π p) true) _ (by simpa using RN) (fun l RO hl=>?_) (fun j hj hjb e he=>?_) ⟨fun t=>xy afq (hB'.T t),xy afq hB'.H,xy afq hB'.G⟩
    ·have akC:π p∉l:=by
      intro hm;have:=(hl _ hm).2
      simp[u7] at this
     have:=afl (π p :: l) (azA.2 ⟨akC,RO⟩) (fun j hj=>by
      rcases axs.1 hj with rfl|hj
      ·exact⟨RJ,afU⟩
      ·have h1:=hl j hj
       have hji:π p≠j:=by rintro rfl;exact akC hj
       rw[getD_set_ne true hji] at h1;exact h1)
     simp at this;omega
    ·rcases (qz j).1 hjb with h|rfl
     ·exact (qz _).2 (.inl (Cy j hj h e he))
     ·exact (qz _).2 (.inl (UY e he))
 have mS:∀ i,¬ ((Array.replicate ops.length false).getD i false=true):=by
  intro i h;have:(Array.replicate ops.length false).getD i false=false:=by
   by_cases h:i<ops.length<;>simp[h]
  rw[this] at h;cases h
 refine main ops.length _ _ (by simp) (fun l RO hl=>AT ops.length l RO (fun i hi=>(hl i hi).1)) (fun j _ h=>absurd h (mS j)) ?_
 rw[<- h0];exact J7 fun j h=>mS _ h.2
end
end
section
section
variable {G:Nat->List AV}{cf:fX}
def Be:∀ (l:List aQ) (s:AS) {Q:AS->Prop},Sl l=true->qq G cf l s Q->∃ s1,gr G cf l s=some s1/\Q s1
 | [],s,Q,_,h=>⟨s,rfl,h⟩
 | o :: l,s,Q,hn,h=>by
  simp only[Sl,List.all_cons,aw4] at hn;unfold qq at h;rw[ayN.1 hn.1] at h;obtain⟨s',h1,h2⟩:=h;obtain⟨s1,h3,h4⟩:=Be l s' hn.2 h2;exact⟨s1,by simp only[gr,h1,aw7,h3],h4⟩
def Ja{L:List Nat}{pre:List (List Nat)}{c:aG}{s:AS}(hc:WN G cf c s Q->WN G cf (.rD ops pre) s Q)(h:WN G cf (orR L ops pre c pc) s Q):WN G cf (.rD ops pre) s Q:=by
 unfold orR at h;split at h
 ·rename_i l hl
  cases hb:Sl l with
  | false=>rw[hb] at h;exact hc h
  | true =>
   rw[hb] at h;obtain⟨s1,h1,hq⟩:=Be l s hb h;simp only[XI,aw1] at hl;obtain⟨es,JI,hl⟩:=hl;obtain⟨ri,hl⟩:=ay hl;injection hl with hl
   subst hl;exact XJ JI ri h1 hq
 ·exact hc h
def qp{L:List Nat} : ∀ (c:aG) (s:AS) {Q:bB->AS->Prop},WN G cf (zV L c) s Q->WN G cf c s Q
 | .skip,s,Q,h|.exit _,s,Q,h|.ret,s,Q,h|.region _,s,Q,h=>h
 | .rD ops pre,s,Q,h=>Ja (Ja id) h
 | .seq a b,s,Q,h=>jM a s (qp a s h) (lr (fun s h=>qp b s h) fun _ _ h=>h)
 | .cond c a b,s,Q,⟨t,h1,h2,h3⟩=>⟨t,h1,fun e=>qp a s (h2 e),fun e=>qp b s (h3 e)⟩
 | .block i a,s,Q,h=>qp a s h
 | .loop a,s,Q,⟨n,h⟩=>⟨n,by
  have go:∀ (n:Nat) (s:AS),zo (WN G cf (zV L a)) n s Q->zo (WN G cf a) n s Q:=by
   intro n
   induction n with
   | zero=>exact fun _ h=>h
   | succ n ih=>exact fun s h=>jM a s (qp a s h) (lr ih fun _ _ h=>h)
  exact go n s h⟩
end
section
variable {P:Program}{G:Nat->List AV}{H:aa}
def HK{cf:fX}(uq:jc P G cf)(hm:P.follows .mixedOrders=true)(JJ:P.funcs[f]?=some fn){v:aD}(hc:aR P dB locals muts fn=some v)
  {args:List AV} {r:AV} {c:Option fw} (S3:args.length=v.np) (yo:jH H c) (he:WN G cf v.body { T:=dO args,H,lo:=H.length,gen:=0 } fun e s=>match e with|.exit _=>False|_=>finish H.length v s=some (r,c)) :
  (∃ fn,P.funcs[f]?=some fn/\fn.body.isSome=true/\fn.name≠ "runtime.NumGoroutine")/\jH H c /\
  ∀ (base:Nat) (gh:Gh) (w:World) (vs:Array Value),aY G base H gh w->clean gh->vs.size=args.length->(∀ (j:Nat) (v:Value) (x:AV),vs[j]?=some v->args[j]?=some x->CR gh H.length w (.par j) v x) ->
   Calls P f vs w fun e w'=>∃ v a8,e=.returned v/\pM G base H gh w r c v a8 w':=by
 simp only[aR,T5,aw0,aw1] at hc;obtain⟨qA,⟨code,KR,b,hb,rs,PH,hc⟩,rfl⟩:=hc;obtain⟨h0,hc⟩:=ay hc;injection hc with hc
 subst hc;simp only[aw4,axv,bne_iff_ne,ne_eq] at h0;refine⟨⟨fn,JJ,by rw[KR];rfl,h0.2⟩,yo,fun base gh w vs hW mB Gk dh=>?_⟩
 refine calls_of_wp JJ KR ?_;have S3:args.length=fn.params.size+fn.nfree:=S3;refine oF uq hm code b hb _ gh.taken w _ _ _ (VD (locals:=locals) (muts:=muts) hW Gk (by omega) dh) (qp _ _ he) (fun e s' a' a8 w' hr BZ=>?_)
 cases e with
 | exit i=>exact hr.elim
 | _ =>
  obtain⟨_,v,gh2,hv,hR⟩:=SI (P:=P) hW mB BZ PH hr;exact⟨BZ.F.defers,v,hv,v,gh2,rfl,hR⟩
structure lP (P:Program) (A:AP):Prop where
 mixed:P.follows .mixedOrders=true
 fns:∀ f v,A.fns f=some v->∃ fn dB locals muts,P.funcs[f]?=some fn/\aR P dB locals muts fn=some v
 ov:∀ f g,A.ov f=some g->gx P A.aX f g
def Ay{A:AP}(h:lP P A):∀ n,jc P A.aX (FV A n)
 | 0=>fun f args H r c he=>by cases he
 | n+1=>fun f args H r c he=>by
  simp only[FV] at he;split at he
  ·rename_i g hg
   obtain⟨h0,he⟩:=ay he;obtain⟨k1,k2,k3⟩:=h.ov f g hg args H r c he;refine⟨k1,k2,fun base gh w vs hW mB Gk dh=>k3 base gh w vs hW mB Gk (fun j v x hv hx=>?_)⟩
   rcases dh j v x hv hx with h|⟨e,rfl,_⟩
   ·exact h
   ·have:=aw8.1 h0 _ (axc hx)
    simp[vX] at this
  ·split at he
   ·cases he
   ·rename_i v hf
    obtain⟨fn,dB,locals,muts,JJ,hc⟩:=h.fns f v hf;have uq:=Ay h n;simp only[zL,oX] at he;obtain⟨h1,⟨ex,s'⟩,cE,he⟩:=he;have yp:=xE (H:=H) (fun f args H r c h=>(uq f args H r c h).2.1) n v.body _ s' ex cE ⟨Nat.le_refl _,Nat.le_refl _,fun _ _=>rfl⟩
    refine HK uq h.mixed JJ hc (ax4 h1) ?_ (BV n _ _ cE ?_)
    ·cases ex with
     | exit i=>cases he
     | _=>exact Dv yp he
    ·cases ex with
     | exit i=>cases he
     | _=>exact he
def T3{A:AP}(hA:lP P A):jc P A.aX (ai A):=by
 intro f args H r c h;obtain⟨n,hn⟩:=pN.1 h;exact Ay hA n f args H r c hn
def ot{A:AP}(hA:lP P A) : gx P A.aX f (ai A f):=fun args H r c he=>by
 obtain⟨k1,k2,k3⟩:=T3 hA f args H r c he;exact⟨k1,k2,fun base gh w vs hW mB Gk dh=>k3 base gh w vs hW mB Gk fun j v x hv hx=>.inl (dh j v x hv hx)⟩
def ad6{A:AP}(hA:lP P A)(JJ:P.funcs[f]?=some fn){qA:aD}(hc:aR P dB locals muts fn=some qA){g:List AV->aa->Option (AV × Option fw)}
  (Nq:∀ args H r c,g args H=some (r,c)->jH H c)
  (hg:∀ args H x,g args H=some x->args.length=qA.np/\WN A.aX (ai A) qA.body { T:=dO args,H,lo:=H.length,gen:=0 } (fun e s=>match e with|.exit _=>False|_=>finish H.length qA s=some x)):gx P A.aX f g:=by
 intro args H r c he;obtain⟨S3,hwn⟩:=hg args H (r,c) he;obtain⟨k1,k2,k3⟩:=HK (T3 hA) hA.mixed JJ hc S3 (Nq args H r c he) hwn;exact⟨k1,k2,fun base gh w vs hW mB Gk dh=>k3 base gh w vs hW mB Gk fun j v x hv hx=>.inl (dh j v x hv hx)⟩
end
end
section
section
variable {A:AP}{T:az}{H:aa}{lo gen:Nat}{K:AS->Prop}{os:List aQ}{t:Nat}
def ahT{agg:Bool}{sz b:Nat}{x:aI} : WO A (⟨none,none,.same agg sz b x⟩ :: os) ⟨T,H,lo,gen⟩ K=(zx T H agg sz (x.addr A.aX T)=some (T b)/\WO A os ⟨T,H,lo,gen⟩ K):=by
 have hl:cH ⟨T,H,lo,gen⟩ false agg sz (x.addr A.aX T)=(zx T H agg sz (x.addr A.aX T)).map (·,none):=by
  simp only[cH,zx,axt,cond_false];cases x.addr A.aX T with
  | ref loc off=>cases hl:H[loc]? with
   | none=>simp only[hl,bN];rfl
   | some o=>cases o<;>simp only[hl,bN]<;>rfl
  | eref b g i z off =>
   simp only[zA];cases T b<;>try rfl
   rename_i g' e;cases hb:Nat.beq g g'<;>simp only[hb,cond_true,cond_false,ayd]
   cases he:e[i]?<;>simp only[aw7,Option.bind_none,Fp,ayd]
   rename_i r;cases hr:Nat.beq r.length z<;>simp only[cond_true,cond_false,ayd]
  | lref b g off =>
   simp only[pI];cases T b<;>try rfl
   rename_i g' cs;cases hb:Nat.beq g g'<;>simp only[hb,cond_true,cond_false,ayd]
  | _=>rfl
 rw[fG];simp only[bS,br,hl];refine propext ?_;cases zx T H agg sz (x.addr A.aX T) with
 | none=>simp[bX]
 | some v =>
  simp only[axa];cases hq:qK v (T b) with
  | false =>
   have:v≠T b:=fun e=>by rw[e,Dk] at hq;cases hq
   simp[bX,this]
  | true=>simp[bX,dY,AS.cR,Ip _ _ hq]
def abe{cs:List AV}{agg:Bool}{sz off:Nat} : bN (some (.bR cs)) agg sz off=ah false agg sz off cs:=rfl
end
end
end Go.Abs
namespace Go.Proofs.YtkoebdjmmgckdaaGreatDoor
open Go Go.Abs Go.Proofs
section
section
variable {P:Program}{t l m:List Nat}{n:Nat}{a b:Code}{x y:aG}
def cF(P:Program)(t l m:List Nat)(n:Nat)(a:Code):Option aG:=(jt P t l m n a).map (zV l)
def ajp(h:cF P t l m n a=some x)(k:cF P t l m n b=some y):cF P t l m n (.seq a b)=some (.seq x y):=by
 simp only[cF,aw0] at *;obtain⟨_,h,rfl⟩:=h;obtain⟨_,k,rfl⟩:=k;simp[jt,h,k,zV]
def aet{c:Operand}{z:aI}(i:au n c=some z)(h:cF P t l m n a=some x)(k:cF P t l m n b=some y):cF P t l m n (.cond c a b)=some (.cond z x y):=by
 simp only[cF,aw0] at *;obtain⟨_,h,rfl⟩:=h;obtain⟨_,k,rfl⟩:=k;simp[jt,h,k,i,zV]
def YO{i:Nat}(h:cF P t l m n a=some x):cF P t l m n (.block i a)=some (.block i x):=by
 simp only[cF,aw0] at *;obtain⟨_,h,rfl⟩:=h;simp[jt,h,zV]
def aeu(h:cF P t l m n a=some x):cF P t l m n (.loop a)=some (.loop x):=by
 simp only[cF,aw0] at *;obtain⟨_,h,rfl⟩:=h;simp[jt,h,zV]
def YP(h:cF P t l m n a=some x):cF P t l m n (.scope a)=some x:=h
def c_F(f:Func){r:List gN}{k:Nat}(h:f.body=some a)(hn:f.ntmps=n)(i:cF P t l m n a=some x)(j:ki P n f.results.toList=some r)(c:(Nat.ble (f.params.size+f.nfree) n&&f.name != "runtime.NumGoroutine")=true)(e:f.params.size+f.nfree=k):aR P t l m f=some ⟨t,l,m,n,k,r,x⟩:=by
 subst hn e;simp only[cF,aw0] at i;obtain⟨_,i,rfl⟩:=i;simp[aR,T5,h,i,j,c]
end
def cb{P:Prop}(h:P:=by conv=>lhs;cbv):P:=h
def cp{P:Prop}(h:P:=by
 apply c_F _ rfl rfl ?_ ?_ rfl rfl
 repeat' first|apply ajp|apply aet|apply YO|apply aeu|apply YP
 all_goals try(conv=>lhs;cbv)
 all_goals rfl):P:=h
def pT:Program:=⟨Tryz.progTables,#[]⟩
def IT(f:Func)(i:aD):Option aD:=aR Tryz.prog i.dB i.locals i.muts f
def As(t l m:List Nat)(f:Func):aD:=(aR Tryz.prog t l m f).getD ⟨[],[],[],0,0,[],.skip⟩
def ir5:aD:=(fun x(_:aR pT [2,3,4] [1] [] Tryz.f5=some x)=>x) _ cp
def JU:aD:=(fun x(_:aR pT [3,5,6,7,8,10,11,29,78,86,115] [2,4,9,12] [777777] Tryz.f6=some x)=>x) _ cp
def ir4:aD:=(fun x(_:aR pT [8,9,10,11,12,13,14,15,16,17,18,19,27] [] [] Tryz.f4=some x)=>x) _ cp
def ir7:aD:=As [3,4,5,6,7,9,10,13,15,16,17,18,19,20,21,22,45,50,56,68,78,84,109,113,120,129,147,158,181,186,193,199,30,33,95,138,700002,700008,700012,700014] [2,8,12,14,82,999999] [19,158,165,186,189] Tryz.f7
def Z1:aD:=(fun x(_:aR pT [1,4,5,6] [] [1,11] Tryz.f14=some x)=>x) _ cb
def af4:aD:=(fun x(_:aR pT [2,3,4,9,25] [1] [] Tryz.f15=some x)=>x) _ cp
def af5:aD:=(fun x(_:aR pT [2,3,4,25,28,36,48,58,64,70,74,77] [1] [] Tryz.f16=some x)=>x) _ cb
def af6:aD:=(fun x(_:aR pT [2] [] [777777] Tryz.f17=some x)=>x) _ cb
def af7:aD:=(fun x(_:aR pT [4] [] [777777] Tryz.f18=some x)=>x) _ cb
def af8:aD:=(fun x(_:aR pT [6,7,8,16,22] [] [777777] Tryz.f19=some x)=>x) _ cp
def af9:aD:=(fun x(_:aR pT [4,5,6,7,29] [] [] Tryz.f20=some x)=>x) _ cb
def xQ:aD:=(fun x(_:aR pT [5,18,10,15,27,28,700004] [4] [777777] Tryz.f21=some x)=>x) _ cb
def dZ:aD:=(fun x(_:aR pT [5,6,7,8,9,10,11,12,20,26,34,39,48,64,79,100,112,122,134,146,156,168,180,189,25,33,38,47,63,78,99,121,133,145,179,188,201,219,222,700004] [4] [777777] Tryz.f22=some x)=>x) _ cb
def alj:aD:=(fun x(_:aR pT [2,3,4,5,6,7,8,9,32,38] [] [] Tryz.f11=some x)=>x) _ cb
def af2:aD:=(fun x(_:aR pT [0,4] [] [] Tryz.f12=some x)=>x) _ cb
def af3:aD:=(fun x(_:aR pT [2,3,4,5,12,23] [] [] Tryz.f13=some x)=>x) _ cp
def alr:aD:=(fun x(_:aR pT [2,3,4,5,6,7,8,9,38,46] [999999] [] Tryz.f23=some x)=>x) _ cb
def VV:aD:=(fun x(_:aR pT [] [999999] [] Tryz.f24=some x)=>x) _ cb
def af':aD:=(fun x(_:aR pT [2,3] [999999] [] Tryz.f25=some x)=>x) _ cb
def VW:aD:=(fun x(_:aR pT [] [999999] [] Tryz.f26=some x)=>x) _ cb
def wG:aD:=(fun x(_:aR pT [34,8,700002,700003] [2,999999,999998] [777777] Tryz.f27=some x)=>x) _ cp
def Z2:IT Tryz.f27 wG=some wG:=by kernel_rfl
def aga:aD:=(fun x(_:aR pT [6,7,19,700009] [9,999999] [] Tryz.f28=some x)=>x) _ cb
def IQ:aD:=(fun x(_:aR pT [2,3,5,18,36,6] [999999] [] Tryz.f29=some x)=>x) _ cb
def DM:aD:=(fun x(_:aR pT [2,3,4,9,34,59,83,93,100,106,111,136,14,700005] [5,999999] [] Tryz.f30=some x)=>x) _ cp
def agb:aD:=(fun x(_:aR pT [2,3,4,17] [999999] [] Tryz.f31=some x)=>x) _ cp
def alF:aD:=(fun x(_:aR pT [5] [] [] Tryz.f74=some x)=>x) _ cb
def age:aD:=(fun x(_:aR pT [2,3,4,6,23,27,31,40,47,54,61,65] [7,64] [888888] Tryz.f44=some x)=>x) _ cp
def agf:aD:=(fun x(_:aR pT [2,3,4,8] [] [] Tryz.f45=some x)=>x) _ cb
def alz:aD:=(fun x(_:aR pT [3] [] [] Tryz.f46=some x)=>x) _ cb
def agh:aD:=(fun x(_:aR pT [2,3,8,13,35,41,46,51,55,64,73,80,89,700004] [1,4] [] Tryz.f47=some x)=>x) _ cb
def agi:aD:=(fun x(_:aR pT [2,6,12,18] [1] [] Tryz.f48=some x)=>x) _ cb
def alA:aD:=(fun x(_:aR pT [0,2,3] [] [] Tryz.f49=some x)=>x) _ cp
def xR:aD:=(fun x(_:aR pT [2,3,4,5,6,7,8,9,10,11,12,13,16,30,38,43,52,54,63,78,81,90,92,99,101,108,110,117,123,130,132,139,150,153,160,173,177,188,192,203,214,217,233,241,255,266,276,283,285,292,294] [1] [] Tryz.f50=some x)=>x) _ cp
def agj:aD:=(fun x(_:aR pT [6,9] [] [] Tryz.f51=some x)=>x) _ cp
def VX:aD:=(fun x(_:aR pT [2] [] [777777] Tryz.f52=some x)=>x) _ cp
def agk:aD:=(fun x(_:aR pT [6,7,8,9,19] [] [777777] Tryz.f53=some x)=>x) _ cp
def aly:aD:=(fun x(_:aR pT [1,4,6,20] [] [] Tryz.f42=some x)=>x) _ cb
end
def agd:aD:=(fun x(_:aR pT [4,5,6,19,25,31,49] [] [] Tryz.f43=some x)=>x) _ cb
def alB:aD:=(fun x(_:aR pT [2,3,4,13,18] [999999] [] Tryz.f54=some x)=>x) _ cb
def alC:aD:=(fun x(_:aR pT [2,5,7,9,22,37,700004] [4,999999] [] Tryz.f55=some x)=>x) _ cb
def agl:aD:=(fun x(_:aR pT [2,7] [999999] [] Tryz.f56=some x)=>x) _ cp
def alD:aD:=(fun x(_:aR pT [2,5,10,17] [999999] [] Tryz.f57=some x)=>x) _ cb
def agm:aD:=(fun x(_:aR pT [4,5,8] [999999] [] Tryz.f58=some x)=>x) _ cb
def Gm:aD:=(fun x(_:aR pT [16] [999999] [888887] Tryz.f59=some x)=>x) _ cp
def DO:aD:=(fun x(_:aR pT [15,7,700002] [2,999999,999998] [] Tryz.f60=some x)=>x) _ cb
def Z3:IT Tryz.f60 DO=some DO:=by kernel_rfl
def IS:aD:=(fun x(_:aR pT [3,7,11,6,10,17,20,700002] [2,999999] [777777] Tryz.f61=some x)=>x) _ cb
def agn:aD:=(fun x(_:aR pT [4,5] [999999] [] Tryz.f62=some x)=>x) _ cb
def mX:aD:=(fun x(_:aR pT [4,8,25,37,700002,700003] [2,18,999999,18,30,42,57,999998] [500002,500003,777777] Tryz.f63=some x)=>x) _ cb
def Z4:IT Tryz.f63 mX=some mX:=by kernel_rfl
def Z5:aD:=(fun x(_:aR pT [8] [999999] [] Tryz.f64=some x)=>x) _ cb
def alE:aD:=(fun x(_:aR pT [] [999999] [] Tryz.f65=some x)=>x) _ cp
def VY:aD:=(fun x(_:aR pT [16,30] [999999] [] Tryz.f66=some x)=>x) _ cp
def ago:aD:=(fun x(_:aR pT [9] [999999] [] Tryz.f67=some x)=>x) _ cb
def oM:aD:=(fun x(_:aR pT [2,4,13,18,21,27,30,36,39,44,53,56,63,66,700003] [999999] [] Tryz.f69=some x)=>x) _ cb
def uw:aD:=(fun x(_:aR pT [18,24,43,49,62,68,85,90,100,119,158,179] [999999,999996] [] Tryz.f70=some x)=>x) _ cb
def aqK:aD:=As [2,3,4,29] [999999] [3,8,888888] Tryz.f76
def als:aD:=(fun x(_:aR pT [4,12] [999999] [] Tryz.f36=some x)=>x) _ cp
def agq:aD:=(fun x(_:aR pT [5,9,12,19] [] [] Tryz.f83=some x)=>x) _ cb
def ags:aD:=(fun x(_:aR pT [0] [] [] Tryz.f85=some x)=>x) _ cb
def agt:aD:=(fun x(_:aR pT [2,10,21,25,30] [1] [] Tryz.f86=some x)=>x) _ cp
def agc:aD:=(fun x(_:aR pT [5,11,18,25,32,40,48] [2,3] [] Tryz.f35=some x)=>x) _ cp
def xS:aD:=(fun x(_:aR pT [3,4,5,6,7,8,15,18,26,33,42,47,52,57,63,69,73,80,83,88,97,103,109,112,121,127,131,136,148,152,158,162,167,176,181,186] [1] [] Tryz.f87=some x)=>x) _ cb
def alM:aD:=(fun x(_:aR pT [2,3,4,5,6] [] [] Tryz.f88=some x)=>x) _ cp
def alN:aD:=(fun x(_:aR pT [8,9,10,12,16,18] [] [] Tryz.f89=some x)=>x) _ cb
def alO:aD:=(fun x(_:aR pT [2,3,4,13,16] [] [] Tryz.f90=some x)=>x) _ cb
def agu:aD:=(fun x(_:aR pT [2,3,4,5,8] [] [] Tryz.f91=some x)=>x) _ cb
def alP:aD:=(fun x(_:aR pT [4,9,12] [2] [] Tryz.f92=some x)=>x) _ cb
def agr:aD:=(fun x(_:aR pT [4,7] [] [] Tryz.f84=some x)=>x) _ cb
def agv:aD:=(fun x(_:aR pT [4] [999999] [] Tryz.f93=some x)=>x) _ cb
def agw:aD:=(fun x(_:aR pT [2,5,9,12] [999999] [] Tryz.f94=some x)=>x) _ cb
def agx:aD:=(fun x(_:aR pT [4] [999999] [] Tryz.f95=some x)=>x) _ cp
def agy:aD:=(fun x(_:aR pT [700002,700003] [2,3,999999] [777777] Tryz.f96=some x)=>x) _ cp
def agz:aD:=(fun x(_:aR pT [2,3,11] [999999] [] Tryz.f97=some x)=>x) _ cb
def agA:aD:=(fun x(_:aR pT [2,3,4,5,12,16,22] [999999] [] Tryz.f98=some x)=>x) _ cb
def zj:aD:=(fun x(_:aR pT [] [999999,18] [888887] Tryz.f99=some x)=>x) _ cb
def Z6:IT Tryz.f99 zj=some zj:=by kernel_rfl
def jy:aD:=(fun x(_:aR pT [5,6,9,39,48,700004,700007,700008] [4,7,8,999999] [14,777777] Tryz.f100=some x)=>x) _ cb
def VF:IT Tryz.f100 jy=some jy:=by kernel_rfl
def PV:aD:=(fun x(_:aR pT [] [999999] [] Tryz.f101=some x)=>x) _ cb
def VG:aD:=(fun x(_:aR pT [4,5,6,7] [999999] [] Tryz.f102=some x)=>x) _ cb
def adh:aD:=(fun x(_:aR pT [3] [999999] [] Tryz.f104=some x)=>x) _ cb
def adi:aD:=(fun x(_:aR pT [4] [999999] [] Tryz.f105=some x)=>x) _ cb
def adj:aD:=⟨[],[999999],[],2,1,[],.skip⟩
def adk:aD:=(fun x(_:aR pT [4] [999999] [] Tryz.f107=some x)=>x) _ cb
def adl:aD:=(fun x(_:aR pT [2] [999999] [] Tryz.f108=some x)=>x) _ cb
def VH:aD:=(fun x(_:aR pT [6,10,700007] [7,999999] [] Tryz.f109=some x)=>x) _ cp
def PX:aD:=(fun x(_:aR pT [4,5,6,7] [999999] [] Tryz.f110=some x)=>x) _ cb
def VI:aD:=(fun x(_:aR pT [8,15] [999999] [] Tryz.f111=some x)=>x) _ cb
def adm:aD:=(fun x(_:aR pT [6,10,700007] [7,999999] [] Tryz.f112=some x)=>x) _ cb
def G9:aD:=(fun x(_:aR pT [4] [999999,999996] [] Tryz.f113=some x)=>x) _ cb
def alm:aD:=As [4,6,13,17] [999999] [] Tryz.f117
def adp:aD:=(fun x(_:aR pT [2,3,4,5,6,14,17] [] [] Tryz.f120=some x)=>x) _ cb
def agp:aD:=(fun x(_:aR pT [5,11] [2,3] [] Tryz.f73=some x)=>x) _ cb
def VJ:aD:=(fun x(_:aR pT [3,4,5,6,12,14,16,18,20,22,32,34,36,39,41,43,50,52] [1] [] Tryz.f121=some x)=>x) _ cb
def adq:aD:=(fun x(_:aR pT [2,3,5] [] [] Tryz.f122=some x)=>x) _ cb
def VK:aD:=(fun x(_:aR pT [2,3,4,8,13,21] [1] [] Tryz.f123=some x)=>x) _ cb
def VL:aD:=(fun x(_:aR pT [4,10] [999999] [] Tryz.f124=some x)=>x) _ cb
def oz:aD:=(fun x(_:aR pT [4,8,16,23,27,31,39,52,6,15,22,26,30,700002,700003] [2,999999] [500002,500003,777777] Tryz.f126=some x)=>x) _ cb
def ads:aD:=(fun x(_:aR pT [4,5,6] [999999] [] Tryz.f127=some x)=>x) _ cb
def adt:aD:=(fun x(_:aR pT [4] [999999] [] Tryz.f129=some x)=>x) _ cb
def adu:aD:=(fun x(_:aR pT [4] [999999] [] Tryz.f130=some x)=>x) _ cp
def adv:aD:=(fun x(_:aR pT [] [999999] [] Tryz.f131=some x)=>x) _ cp
def DL:aD:=(fun x(_:aR pT [2,3,4,700005] [5,999999] [7] Tryz.f132=some x)=>x) _ cb
def VM:IT Tryz.f132 DL=some DL:=by kernel_rfl
def VN:aD:=(fun x(_:aR pT [] [999999] [] Tryz.f133=some x)=>x) _ cb
def adw:aD:=(fun x(_:aR pT [] [999999,999996] [] Tryz.f134=some x)=>x) _ cb
def adx:aD:=(fun x(_:aR pT [] [999999,999996] [] Tryz.f135=some x)=>x) _ cb
def p9:aD:=(fun x(_:aR pT [700002] [2,999999,999998,1,14,29] [888887] Tryz.f139=some x)=>x) _ cp
def VO:IT Tryz.f139 p9=some p9:=by kernel_rfl
def VP:aD:=(fun x(_:aR pT [18,29,39,6,700002,700003] [2,3,999999] [500002,500003,777777] Tryz.f140=some x)=>x) _ cb
def oV:aD:=(fun x(_:aR pT [13,20,27,44,8,10,700002,700003,700004] [2,999999] [500002,500003,777777] Tryz.f141=some x)=>x) _ cb
def ady:aD:=(fun x(_:aR pT [4,5,7] [999999] [] Tryz.f142=some x)=>x) _ cb
def adz:aD:=(fun x(_:aR pT [4,5,6,7,8,9,10,11,12,13,16,19,24,31,36,40,84,102,121,128] [999999] [] Tryz.f147=some x)=>x) _ cb
def VQ:aD:=(fun x(_:aR pT [2,3,4,7,11,13] [999999] [] Tryz.f148=some x)=>x) _ cb
def uj:aD:=(fun x(_:aR pT [] [999999,8,999998] [888887] Tryz.f154=some x)=>x) _ cb
def VS:IT Tryz.f154 uj=some uj:=by kernel_rfl
def aln:aD:=As [2] [999999] [] Tryz.f161
def alo:aD:=As [4,5,6,7,8,9,10,11,33,68] [999999] [] Tryz.f162
def alp:aD:=As [2,3,4,5,6,7,8] [999999] [] Tryz.f168
def VT:aD:=(fun x(_:aR pT [2,5] [999999] [] Tryz.f191=some x)=>x) _ cb
def VU:aD:=(fun x(_:aR pT [2,5] [999999] [] Tryz.f192=some x)=>x) _ cb
def alq:aD:=As [0,1,2,5,6,7,8,9,12,14,16,18,20,22,24,26,28,30] [999999] [] Tryz.f207
def ir8:aD:=As [0,6,8,10,12,14,16,18,20,31,35,39,43,47,51,55,59,65,69,73,77,81,85,89,134,139,144,149,154,30,118,120,122,130,700001,700002,700003,700004,700005,700007,700009,700011,700013,700015,700017,700019,700021,700022,700023,700024,700025,700026] [1,2,3,4,5,7,9,11,13,15,17,19,21,22,23,24,25,26,999999] [] Tryz.f8
def aqE:aD:=As [4,700002] [2] [] Tryz.f32
def aqF:aD:=As [5,6,14,20,700002,700004] [2,4] [] Tryz.f33
def aqG:aD:=As [7,700004] [4] [] Tryz.f34
def aqJ:aD:=As [4,27,18,700002,700003] [2,3] [] Tryz.f72
def alk:aD:=As [4,16,7,700002,700003] [2,3] [] Tryz.f115
def ir3:aD:=(fun x(_:aR pT [8,9,11,20,29,35,41,58,62,67,72,700010,700012] [10,12] [] Tryz.f3=some x)=>x) _ cp
def ir9:aD:=(fun x(_:aR pT [2,3,4,5,6,7,8] [] [] Tryz.f9=some x)=>x) _ cb
def ali:aD:=(fun x(_:aR pT [7,9,20,34,41,47,54,66,700003,700005,700006,700010] [5,6,10,999999] [] Tryz.f10=some x)=>x) _ cp
def alu:aD:=(fun x(_:aR pT [1,4,6,7,19,700005] [999999] [1,12] Tryz.f37=some x)=>x) _ cp
def alx:aD:=(fun x(_:aR pT [4,10,17] [999999] [] Tryz.f41=some x)=>x) _ cp
def alw:aD:=(fun x(_:aR pT [5,13] [999999] [] Tryz.f40=some x)=>x) _ cb
def alG:aD:=(fun x(_:aR pT [7,17,700008,700009] [8,9,999999] [] Tryz.f77=some x)=>x) _ cp
def alH:aD:=(fun x(_:aR pT [4,5,16,23,26,33] [999999] [] Tryz.f78=some x)=>x) _ cb
def alI:aD:=(fun x(_:aR pT [7,17,700008,700009] [8,9,999999] [] Tryz.f79=some x)=>x) _ cb
def alJ:aD:=(fun x(_:aR pT [4,10,17] [999999] [] Tryz.f80=some x)=>x) _ cp
def alK:aD:=(fun x(_:aR pT [4,10] [999999] [] Tryz.f81=some x)=>x) _ cp
def alL:aD:=(fun x(_:aR pT [4,10,17,24,31,38,45] [999999] [] Tryz.f82=some x)=>x) _ cp
def alv:aD:=(fun x(_:aR pT [4,8] [999999] [] Tryz.f39=some x)=>x) _ cb
def adn:aD:=(fun x(_:aR pT [7,17,700008,700009] [8,9,999999] [] Tryz.f118=some x)=>x) _ cp
def ado:aD:=(fun x(_:aR pT [7,17,700008,700009] [8,9,999999] [] Tryz.f119=some x)=>x) _ cb
def cw(c:Int):Nat->List UInt8->Int
 | _,[]=>-1
 | k,b :: r=>cond (decide ((b.toNat:Int)=c)) k (cw c (k+1) r)
def Fa(args:List AV)(_:aa):Option (AV × Option fw) :=
 match args with
 | [.str l]=>cond (Nat.ble l.length 281474976710656) (match Lib.atoiAll l with
  | .ok v=>some (.tuple [.int .i64 v,.cM],none)
  | .range=>some (.tuple [.int .i64 (Lib.atoiSat l),.iface 199 .any],none)
  | _=>some (.tuple [.int .i64 0,.iface 199 .any],none)) none
 | _=>none
def ik(args:List AV)(_:aa):Option (AV × Option fw) :=
 match args with
 | [.str l,.int .u8 c]=>cond (decide (0<=c)&&decide (c<256)) (some (.int .i64 (cw c 0 l),none)) none
 | _=>none
def vE(e:List (List AV)):Bool:=e.all fun r=>match r with|[.int .u8 n]=>decide (0<=n)&&decide (n<256)|_=>false
def si(args:List AV)(H:aa):Option (AV × Option fw) :=
 match args with
 | [.ref l 0]=>match H[l]? with
  | some (.box 101 [_,.slice e true])=>cond (Nat.ble e.length 4611686018427387904&&vE e&&!e.isEmpty) ((bytesOf e).map fun b=>(.str b,none)) none
  | _=>none
 | _=>none
def jK(args:List AV)(H:aa):Option (AV × Option fw) :=
 match args with
 | [.ref l 0]=>match H[l]? with
  | some (.box 101 [.kX,x])=>some (.undef,some ⟨H.set l (.box 101 [.ref l 0,x]),l⟩)
  | some (.box 101 [.ref l' 0,_])=>cond (Nat.beq l l') (some (.undef,none)) none
  | _=>none
 | _=>none
def gy:Nat->Nat->List UInt8->List UInt8
 | 0,_,acc=>acc
 | f+1,n,acc=>cond (Nat.blt n 10) (UInt8.ofNat (48+n) :: acc) (gy f (n / 10) (UInt8.ofNat (48+n % 10) :: acc))
def rU(n:Int):List UInt8 :=
 match n with
 | .ofNat k=>gy (k+1) k []
 | .negSucc k=>45 :: gy (k+2) (k+1) []
def Fb(args:List AV)(_:aa):Option (AV × Option fw) :=
 match args with
 | [.int .i64 n]=>cond (decide (-9223372036854775808<=n)&&decide (n<=9223372036854775807)) (some (.str (rU n),none)) none
 | _=>none
def ahZ:List (List UInt8):=[[43],[45],[42],[47],[37],[60],[61,61],[97,110,100],[111,114],[110,111,116],[106,111,105,110],[108,101,110]]
def aao:List Int:=[5,5,6,6,6,3,3,2,1,7,4,7]
def cD(n:Int):List UInt8 × Int:=if n<0\/11<n then ([],0) else (ahZ.getD n.toNat [],aao.getD n.toNat 0)
def oE(n:Int):List UInt8 × Int:=if n<0\/11<n then ([],7) else cD n
def vZ(args:List AV)(_:aa):Option (AV × Option fw) :=
 match args with
 | [.int .i64 n]=>some (.tuple [.str (oE n).1,.int .i64 (oE n).2],none)
 | _=>none
def ov0:FuncId->Option (List AV->aa->Option (AV × Option fw))
 | 68=>some Fb
 | 71=>some ik
 | 114=>some ik
 | 125=>some Fa
 | 38=>some si
 | 75=>some jK
 | _=>none
def ov:FuncId->Option (List AV->aa->Option (AV × Option fw))
 | 132=>some vZ
 | 68=>some Fb
 | 71=>some ik
 | 114=>some ik
 | 125=>some Fa
 | 38=>some si
 | 75=>some jK
 | _=>none
def fns:FuncId->Option aD
 | 5=>some ir5
 | 6=>some JU
 | 4=>some ir4
 | 7=>some ir7
 | 8=>some ir8
 | 14=>some Z1
 | 15=>some af4
 | 16=>some af5
 | 17=>some af6
 | 18=>some af7
 | 19=>some af8
 | 20=>some af9
 | 21=>some xQ
 | 22=>some dZ
 | 11=>some alj
 | 12=>some af2
 | 13=>some af3
 | 23=>some alr
 | 24=>some VV
 | 25=>some af'
 | 26=>some VW
 | 27=>some wG
 | 28=>some aga
 | 29=>some IQ
 | 30=>some DM
 | 31=>some agb
 | 74=>some alF
 | 44=>some age
 | 45=>some agf
 | 46=>some alz
 | 47=>some agh
 | 48=>some agi
 | 49=>some alA
 | 50=>some xR
 | 51=>some agj
 | 52=>some VX
 | 53=>some agk
 | 42=>some aly
 | 43=>some agd
 | 54=>some alB
 | 55=>some alC
 | 56=>some agl
 | 57=>some alD
 | 58=>some agm
 | 59=>some Gm
 | 60=>some DO
 | 61=>some IS
 | 62=>some agn
 | 63=>some mX
 | 64=>some Z5
 | 65=>some alE
 | 66=>some VY
 | 67=>some ago
 | 69=>some oM
 | 70=>some uw
 | 76=>some aqK
 | 36=>some als
 | 9=>some ir9
 | 37=>some alu
 | 41=>some alx
 | 40=>some alw
 | 77=>some alG
 | 78=>some alH
 | 79=>some alI
 | 80=>some alJ
 | 81=>some alK
 | 82=>some alL
 | 39=>some alv
 | 118=>some adn
 | 119=>some ado
 | 83=>some agq
 | 85=>some ags
 | 86=>some agt
 | 35=>some agc
 | 87=>some xS
 | 88=>some alM
 | 89=>some alN
 | 90=>some alO
 | 91=>some agu
 | 92=>some alP
 | 84=>some agr
 | 93=>some agv
 | 94=>some agw
 | 95=>some agx
 | 96=>some agy
 | 97=>some agz
 | 98=>some agA
 | 99=>some zj
 | 100=>some jy
 | 101=>some PV
 | 102=>some VG
 | 104=>some adh
 | 105=>some adi
 | 106=>some adj
 | 107=>some adk
 | 108=>some adl
 | 109=>some VH
 | 110=>some PX
 | 111=>some VI
 | 112=>some adm
 | 113=>some G9
 | 117=>some alm
 | 120=>some adp
 | 73=>some agp
 | 121=>some VJ
 | 122=>some adq
 | 123=>some VK
 | 124=>some VL
 | 126=>some oz
 | 127=>some ads
 | 129=>some adt
 | 130=>some adu
 | 131=>some adv
 | 132=>some DL
 | 133=>some VN
 | 134=>some adw
 | 135=>some adx
 | 139=>some p9
 | 140=>some VP
 | 141=>some oV
 | 142=>some ady
 | 147=>some adz
 | 148=>some VQ
 | 154=>some uj
 | 161=>some aln
 | 162=>some alo
 | 168=>some alp
 | 191=>some VT
 | 192=>some VU
 | 207=>some alq
 | 32=>some aqE
 | 33=>some aqF
 | 34=>some aqG
 | 72=>some aqJ
 | 115=>some alk
 | _=>none
def HS:TypeId:=219
def fg:List (List UInt8):=[[109,111,100,117,108,101],[117,115,101],[114,101,99],[99,97,115,101],[102,117,110],[111,110],[116,101,115,116],[99,111,110,118],[116,114,117,101],[102,97,108,115,101],[110,111,116],[97,110,100],[111,114],[105,102],[116,104,101,110],[101,108,115,101],[108,101,116],[105,110],[109,97,116,99,104],[102,111,108,100],[111,118,101,114],[100,111],[108,101,110],[106,111,105,110],[76,105,115,116],[73,110,116],[66,111,111,108]]
def mL:List (List UInt8):=[[61,61],[45,62],[40],[41],[123],[125],[91],[93],[44],[58],[46],[61],[43],[45],[42],[47],[37],[60]]
def cG:List (List UInt8):=[[114,101,99],[99,97,115,101],[102,117,110],[111,110],[116,101,115,116],[99,111,110,118]]
def mZ:List (List AV):=[[.str [37],.int .i64 4,.int .i64 6],[.str [42],.int .i64 2,.int .i64 6],[.str [43],.int .i64 0,.int .i64 5],[.str [45],.int .i64 1,.int .i64 5],[.str [47],.int .i64 3,.int .i64 6],[.str [60],.int .i64 5,.int .i64 3],[.str [61,61],.int .i64 6,.int .i64 3],[.str [97,110,100],.int .i64 7,.int .i64 2],[.str [106,111,105,110],.int .i64 10,.int .i64 4],[.str [111,114],.int .i64 8,.int .i64 1]]
def BS:Nat->List AV
 | 0=>[.slice (cG.map fun s=>[.str s]) false]
 | 1=>[.func (.func 94) [] [],.func (.func 191) [] [],.func (.func 192) [] [],.func (.func 192) [] []]
 | 2=>mL.map .str
 | 3=>fg.map .str
 | 4=>[.mA 1 false true mZ]
 | 6=>Lib.pow10Tab.map (.int .u64)
 | 7=>[.iface HS .any]
 | 8=>[.iface HS .any]
 | _=>[]
def A0:AP:={ fns,ov:=ov0,aX:=BS }
def A:AP:={ fns,ov,aX:=BS }
def Y2:=And.intro (And.intro (And.intro (And.intro (And.intro (And.intro (And.intro (And.intro (And.intro (@X3) (@JC)) (@aiF)) (And.intro (And.intro (@Mm) (@aiL)) (@ano))) (And.intro (And.intro (And.intro (@aiH) (@ad8)) (@aiK)) (And.intro (@anm) (@Ml)))) (And.intro (And.intro (And.intro (And.intro (@aiE) (@ab')) (@SX)) (And.intro (@aiJ) (@X2))) (And.intro (And.intro (And.intro (@ann) (@aiI)) (@X1)) (And.intro (@acb) (@aiG))))) (And.intro (And.intro (And.intro (And.intro (And.intro (@aca) (@OR)) (@SW)) (And.intro (And.intro (@aS) (@MX)) (@Kf))) (And.intro (And.intro (And.intro (@aaQ) (@NO)) (@NM)) (And.intro (@Option.bind_some.{0,0}) (@Option.map_some.{0,0})))) (And.intro (And.intro (And.intro (And.intro (@J9) (@beq_self_eq_true.{0})) (@Bool.and_false)) (And.intro (@Bool.false_and) (@Bool.true_and))) (And.intro (And.intro (And.intro (@Bool.and_true) (@Bool.or_true)) (@Bool.true_or)) (And.intro (@Bool.or_false) (@Bool.false_or)))))) (And.intro (And.intro (And.intro (And.intro (And.intro (And.intro (@Bool.not_true) (@Bool.not_false)) (@decide_true)) (And.intro (And.intro (@decide_false) (@List.map_cons.{0,0})) (@List.map_nil.{0,0}))) (And.intro (And.intro (And.intro (@List.all_cons.{0}) (@List.all_nil.{0})) (@List.length_cons.{0})) (And.intro (@List.length_nil.{0}) (@List.getElem?_cons_zero.{0})))) (And.intro (And.intro (And.intro (And.intro (@List.getElem?_cons_succ.{0}) (@List.nil_append.{0})) (@List.append_nil.{0})) (And.intro (@List.cons_append.{0}) (@wrap64))) (And.intro (And.intro (And.intro (@Ap) (@QW)) (@QV)) (And.intro (@Option.some.injEq.{0}) (@Prod.mk.injEq.{0,0}))))) (And.intro (And.intro (And.intro (And.intro (And.intro (@Nat.zero_add) (@List.drop_zero.{0})) (@O9)) (And.intro (@YN) (@dle))) (And.intro (And.intro (And.intro (@dlt) (@List.take_succ_cons.{0})) (@List.take_zero.{0})) (And.intro (@List.drop_succ_cons.{0}) (@Int.natCast_add)))) (And.intro (And.intro (And.intro (And.intro (@Int.cast_ofNat_Int) (@List.set_cons_zero.{0})) (@List.set_cons_succ.{0})) (And.intro (@TC) (@fM))) (And.intro (And.intro (And.intro (@TE) (@abN)) (@ag5)) (And.intro (@qH) (@SP))))))) (And.intro (And.intro (And.intro (And.intro (And.intro (And.intro (And.intro (@List.length_map.{0,0}) (@ge_iff_le.{0})) (@gt_iff_lt.{0})) (And.intro (And.intro (@AV.int.injEq) (@AV.str.injEq)) (@AV.bool.injEq))) (And.intro (And.intro (And.intro (@AV.slice.injEq) (@true_and)) (@and_true)) (And.intro (@and_self) (@Q9)))) (And.intro (And.intro (And.intro (And.intro (@Ug) (@Ui)) (@M4)) (And.intro (@Uh) (@Ra))) (And.intro (And.intro (And.intro (@Uf) (@Im)) (@Kj)) (And.intro (@Kl) (@Aw))))) (And.intro (And.intro (And.intro (And.intro (And.intro (@Ga) (@Kk)) (@Io)) (And.intro (And.intro (@F9) (@Bv)) (@Zh))) (And.intro (And.intro (And.intro (@aeO) (@aeQ)) (@KB)) (And.intro (@UI) (@aeP)))) (And.intro (And.intro (And.intro (And.intro (@Zi) (@aeN)) (@MT)) (And.intro (@Q3) (@Q5))) (And.intro (And.intro (And.intro (@Kb) (@Q4)) (@MV)) (And.intro (@GK) (@Ol)))))) (And.intro (And.intro (And.intro (And.intro (And.intro (And.intro (@Sr) (@St)) (@Ff)) (And.intro (And.intro (@LP) (@Ih)) (@J'))) (And.intro (And.intro (And.intro (@Ka) (@Ar)) (@F6)) (And.intro (@Jb) (@LK)))) (And.intro (And.intro (And.intro (And.intro (@LM) (@AW)) (@Gu)) (And.intro (@LJ) (@Ll))) (And.intro (And.intro (And.intro (@NW) (@NX)) (@I1)) (And.intro (@NV) (@I2))))) (And.intro (And.intro (And.intro (And.intro (And.intro (@MB) (@QP)) (@QS)) (And.intro (@J1) (@MC))) (And.intro (And.intro (And.intro (@QR) (@MF)) (@MG)) (And.intro (@QQ) (@MD)))) (And.intro (And.intro (And.intro (And.intro (@ME) (@QO)) (@J2)) (And.intro (@aau) (@agL))) (And.intro (And.intro (And.intro (@agQ) (@Lu)) (@agM)) (And.intro (@aav) (@Wn)))))))) (And.intro (And.intro (And.intro (And.intro (And.intro (And.intro (And.intro (And.intro (@Wp) (@abt)) (@ahV)) (And.intro (And.intro (@ahW) (@Xo)) (@ahn))) (And.intro (And.intro (And.intro (@agO) (@agP)) (@agN)) (And.intro (@aaw) (@aax)))) (And.intro (And.intro (And.intro (And.intro (@amS) (@W6)) (@ahG)) (And.intro (@aa4) (@amM))) (And.intro (And.intro (And.intro (@amJ) (@amL)) (@amK)) (And.intro (@amN) (@ahI))))) (And.intro (And.intro (And.intro (And.intro (And.intro (@abh) (@abg)) (@WY)) (And.intro (And.intro (@WX) (@aaU)) (@HE))) (And.intro (And.intro (And.intro (@aq7) (@aa8)) (@aa9)) (And.intro (@aba) (@ahs)))) (And.intro (And.intro (And.intro (And.intro (@aa') (@aa7)) (@W3)) (And.intro (@W2) (@amx))) (And.intro (And.intro (And.intro (@aq9) (@ahy)) (@abk)) (And.intro (@amw) (@amB)))))) (And.intro (And.intro (And.intro (And.intro (And.intro (And.intro (@LZ) (@amF)) (@amH)) (And.intro (And.intro (@amG) (@Oy)) (@aa6))) (And.intro (And.intro (And.intro (@ahB) (@amQ)) (@amO)) (And.intro (@ahS) (@aa5)))) (And.intro (And.intro (And.intro (And.intro (@W4) (@Ox)) (@aaV)) (And.intro (@W0) (@Sw))) (And.intro (And.intro (And.intro (@aa3) (@amR)) (@ahE)) (And.intro (@ahC) (@ahv))))) (And.intro (And.intro (And.intro (And.intro (And.intro (@aaY) (@aaW)) (@amV)) (And.intro (@ahR) (@WZ))) (And.intro (And.intro (And.intro (@aho) (@abl)) (@abb)) (And.intro (@aht) (@Oz)))) (And.intro (And.intro (And.intro (And.intro (@W5) (@aaS)) (@aaT)) (And.intro (@amY) (@amW))) (And.intro (And.intro (And.intro (@amX) (@aa0)) (@aa1)) (And.intro (@aa2) (@amA))))))) (And.intro (And.intro (And.intro (And.intro (And.intro (And.intro (And.intro (@amy) (@amz)) (@W9)) (And.intro (And.intro (@aq8) (@amT)) (@amU))) (And.intro (And.intro (And.intro (@W7) (@W8)) (@adS)) (And.intro (@adU) (@adT)))) (And.intro (And.intro (And.intro (And.intro (@amI) (@ahA)) (@ahK)) (And.intro (@abi) (@ahJ))) (And.intro (And.intro (And.intro (@ahL) (@ahN)) (@ahO)) (And.intro (@aaZ) (@ahP))))) (And.intro (And.intro (And.intro (And.intro (And.intro (@ahM) (@abj)) (@Rb)) (And.intro (@Zj) (@MW))) (And.intro (And.intro (And.intro (@MI) (@aaz)) (@amP)) (And.intro (@ahD) (@MH)))) (And.intro (And.intro (And.intro (And.intro (@aay) (@ahr)) (@abc)) (And.intro (@ahF) (@ahH))) (And.intro (And.intro (And.intro (@afH) (@afI)) (@Vm)) (And.intro (@ZL) (@Vn)))))) (And.intro (And.intro (And.intro (And.intro (And.intro (And.intro (@ZM) (@ZN)) (@akS)) (And.intro (And.intro (@afJ) (@aes)) (@afc))) (And.intro (And.intro (And.intro (@Zx) (@afd)) (@U4)) (And.intro (@amD) (@ahx)))) (And.intro (And.intro (And.intro (And.intro (@amE) (@amC)) (@ahw)) (And.intro (@ahu) (@aer))) (And.intro (And.intro (And.intro (@aaX) (@ahQ)) (@abd)) (And.intro (@ajy) (@ajB))))) (And.intro (And.intro (And.intro (And.intro (And.intro (@ajA) (@ajC)) (@ajz)) (And.intro (@ajD) (@M3))) (And.intro (And.intro (And.intro (@LO) (@UH)) (@ahq)) (And.intro (@ahp) (@aei)))) (And.intro (And.intro (And.intro (And.intro (@aeh) (@Wo)) (@J0)) (And.intro (@NZ) (@F5))) (And.intro (And.intro (And.intro (@U3) (@abf)) (@ye)) (And.intro (@ahT) (@abe))))))))
def yQ:=And.intro Y2 (And.intro (And.intro (And.intro (And.intro (And.intro (And.intro (@ni.eq_1) (@ni.eq_2)) (@jN.eq_1)) (And.intro (And.intro (@jN.eq_2) (@nD.eq_1)) (@nD.eq_2))) (And.intro (And.intro (And.intro (@kM.eq_1) (@kM.eq_2)) (@AU.eq_1)) (And.intro (@AU.eq_2) (@aI.eval.eq_1)))) (And.intro (And.intro (And.intro (And.intro (@aI.eval.eq_2) (@aI.eval.eq_3)) (@AS.cR.eq_1)) (And.intro (And.intro (@AS.cR.eq_2) (@mr.eq_1)) (@mr.eq_2))) (And.intro (And.intro (And.intro (@mr.eq_3) (@yj.eq_1)) (@yj.eq_2)) (And.intro (@j8.eq_1) (@j8.eq_3))))) (And.intro (And.intro (And.intro (And.intro (And.intro (@gX.eq_1) (@gX.eq_2)) (@gX.eq_4)) (And.intro (And.intro (@bound.eq_1) (@bound.eq_2)) (@nO.eq_1))) (And.intro (And.intro (And.intro (@nO.eq_2) (@AS.cN.eq_1)) (@cK.eq_1)) (And.intro (@putAt.eq_1) (@bS.eq_1)))) (And.intro (And.intro (And.intro (And.intro (@br.eq_11) (@br.eq_12)) (@br.eq_13)) (And.intro (@br.eq_34) (@Option.isSome.eq_1.{0}))) (And.intro (And.intro (And.intro (@Option.isSome.eq_2.{0}) (@Option.isNone.eq_1.{0})) (@Option.isNone.eq_2.{0})) (And.intro (@cond_true.{1}) (@cond_false.{1}))))))
def gO:=And.intro yQ (And.intro (And.intro (And.intro (@zd) (@zc)) (And.intro (@zb) (@za))) (And.intro (And.intro (@y9) (@y8)) (And.intro (@zg) (@zf))))
def dJ:=And.intro gO (And.intro (And.intro (@aW.eq_1) (@gf)) (And.intro (@Int.toNat_natCast) (@Nat.add_zero)))
def lI:=dJ
section
section
variable {P Q A B C D E F G H:Prop}
def tv:True:=trivial
def j2(a:A)(b:B):A/\B:=⟨a,b⟩
def j3(a:A)(b:B)(c:C):A/\B/\C:=⟨a,b,c⟩
def j4(a:A)(b:B)(c:C)(d:D):A/\B/\C/\D:=⟨a,b,c,d⟩
def j5(a:A)(b:B)(c:C)(d:D)(e:E):A/\B/\C/\D/\E:=⟨a,b,c,d,e⟩
def Ce  (q:Q)(z:P=Q:=by simp(disch:=omega)only[dJ,ab,simprocAttr]<;>rfl):P:=z.mpr q
def P9(a:A)(q:Q)(z:A->(P=Q):=by intro a;simp(disch:=omega)only[dJ,ab,simprocAttr,a]<;>rfl):P:=(z a).mpr q
def qx(a:A)(b:B)(q:Q)(z:A->B->(P=Q):=by intro a b;simp(disch:=omega)only[dJ,ab,simprocAttr,a,b]<;>rfl):P:=(z a b).mpr q
def ry(a:A)(b:B)(c:C)(q:Q)(z:A->B->C->(P=Q):=by intro a b c;simp(disch:=omega)only[dJ,ab,simprocAttr,a,b,c]<;>rfl):P:=(z a b c).mpr q
def wK(a:A)(b:B)(c:C)(d:D)(q:Q)(z:A->B->C->D->(P=Q):=by intro a b c d;simp(disch:=omega)only[dJ,ab,simprocAttr,a,b,c,d]<;>rfl):P:=(z a b c d).mpr q
def Hk(a:A)(b:B)(c:C)(d:D)(e:E)(q:Q)(z:A->B->C->D->E->(P=Q):=by intro a b c d e;simp(disch:=omega)only[dJ,ab,simprocAttr,a,b,c,d,e]<;>rfl):P:=(z a b c d e).mpr q
def l8(a:A)(b:B)(c:C)(d:D)(e:E)(f:F)(q:Q)(z:A->B->C->D->E->F->(P=Q):=by intro a b c d e f;simp(disch:=omega)only[dJ,ab,simprocAttr,a,b,c,d,e,f]<;>rfl):P:=(z a b c d e f).mpr q
def nL0  (q:Q)(z:P=Q:=by simp(disch:=omega)only[dJ,ab,simprocAttr,ah]<;>rfl):P:=z.mpr q
def nL1(a:A)(q:Q)(z:A->(P=Q):=by intro a;simp(disch:=omega)only[dJ,ab,simprocAttr,ah,a]<;>rfl):P:=(z a).mpr q
def nL2(a:A)(b:B)(q:Q)(z:A->B->(P=Q):=by intro a b;simp(disch:=omega)only[dJ,ab,simprocAttr,ah,a,b]<;>rfl):P:=(z a b).mpr q
def nL3(a:A)(b:B)(c:C)(q:Q)(z:A->B->C->(P=Q):=by intro a b c;simp(disch:=omega)only[dJ,ab,simprocAttr,ah,a,b,c]<;>rfl):P:=(z a b c).mpr q
def nL4(a:A)(b:B)(c:C)(d:D)(q:Q)(z:A->B->C->D->(P=Q):=by intro a b c d;simp(disch:=omega)only[dJ,ab,simprocAttr,ah,a,b,c,d]<;>rfl):P:=(z a b c d).mpr q
def nL5(a:A)(b:B)(c:C)(d:D)(e:E)(q:Q)(z:A->B->C->D->E->(P=Q):=by intro a b c d e;simp(disch:=omega)only[dJ,ab,simprocAttr,ah,a,b,c,d,e]<;>rfl):P:=(z a b c d e).mpr q
def l9(a:A)(b:B)(c:C)(d:D)(e:E)(f:F)(q:Q)(z:A->B->C->D->E->F->(P=Q):=by intro a b c d e f;simp(disch:=omega)only[dJ,ab,simprocAttr,ah,a,b,c,d,e,f]<;>rfl):P:=(z a b c d e f).mpr q
def Lw  (q:Q)(z:P=Q:=by simp(disch:=omega)only[gO,ab,simprocAttr]<;>rfl):P:=z.mpr q
def Lx(a:A)(q:Q)(z:A->(P=Q):=by intro a;simp(disch:=omega)only[gO,ab,simprocAttr,a]<;>rfl):P:=(z a).mpr q
def Wt(a:A)(b:B)(q:Q)(z:A->B->(P=Q):=by intro a b;simp(disch:=omega)only[gO,ab,simprocAttr,a,b]<;>rfl):P:=(z a b).mpr q
def nO3(a:A)(b:B)(c:C)(q:Q)(z:A->B->C->(P=Q):=by intro a b c;simp(disch:=omega)only[gO,ab,simprocAttr,a,b,c]<;>rfl):P:=(z a b c).mpr q
def nO4(a:A)(b:B)(c:C)(d:D)(q:Q)(z:A->B->C->D->(P=Q):=by intro a b c d;simp(disch:=omega)only[gO,ab,simprocAttr,a,b,c,d]<;>rfl):P:=(z a b c d).mpr q
def Ac(a:A)(b:B)(c:C)(d:D)(e:E)(q:Q)(z:A->B->C->D->E->(P=Q):=by intro a b c d e;simp(disch:=omega)only[gO,ab,simprocAttr,a,b,c,d,e]<;>rfl):P:=(z a b c d e).mpr q
def N6  (q:Q)(z:P=Q:=by simp(disch:=omega)only[yQ,ab,simprocAttr]<;>rfl):P:=z.mpr q
def Yn(a:A)(q:Q)(z:A->(P=Q):=by intro a;simp(disch:=omega)only[yQ,ab,simprocAttr,a]<;>rfl):P:=(z a).mpr q
def Yo(a:A)(b:B)(q:Q)(z:A->B->(P=Q):=by intro a b;simp(disch:=omega)only[yQ,ab,simprocAttr,a,b]<;>rfl):P:=(z a b).mpr q
def nE3(a:A)(b:B)(c:C)(q:Q)(z:A->B->C->(P=Q):=by intro a b c;simp(disch:=omega)only[yQ,ab,simprocAttr,a,b,c]<;>rfl):P:=(z a b c).mpr q
def I6(a:A)(b:B)(c:C)(d:D)(q:Q)(z:A->B->C->D->(P=Q):=by intro a b c d;simp(disch:=omega)only[yQ,ab,simprocAttr,a,b,c,d]<;>rfl):P:=(z a b c d).mpr q
def nS0  (q:Q)(z:P=Q:=by simp(disch:=omega)only[lI,ab,simprocAttr]<;>rfl):P:=z.mpr q
def nS1(a:A)(q:Q)(z:A->(P=Q):=by intro a;simp(disch:=omega)only[lI,ab,simprocAttr,a]<;>rfl):P:=(z a).mpr q
def Yp(a:A)(b:B)(q:Q)(z:A->B->(P=Q):=by intro a b;simp(disch:=omega)only[lI,ab,simprocAttr,a,b]<;>rfl):P:=(z a b).mpr q
end
end
def nM{P Q A:Prop}(a:A)(q:Q)(z:A->(P=Q):=by intro a;simp(disch:=omega)only[Y2,ni,jN,nD,kM,AU,bS,br,fO,aI.eval,AS.cR,↓reduceIte,Nat.reduceEqDiff,Option.isSome,Option.isNone,cond_true,cond_false,Nat.reduceBEq,Nat.reduceAdd,Nat.reduceMul,ab,mr,eq_self,reduceCtorEq,yj,ny,j8,gX,bound,nO,AS.cN,cK,iK,dN,Nat.reduceLeDiff,mI,putAt,Int.reduceEq,Int.reduceLT,Int.reduceLE,Int.reduceBEq,Int.reduceBNe,Int.reduceAdd,Int.reduceNeg,Int.reduceSub,Int.reduceMul,zd,zc,zb,za,y9,y8,zg,zf,aW,gf,Int.toNat_natCast,axZ,ah,cH,cA,axA,axr,fY,a]<;>rfl):P:=(z a).mpr q
section
section
variable {P A B C D E F G H:Prop}
def vE0(z:P:=by simp(disch:=omega)only[yQ,ab,simprocAttr]):P:=z
def vE1(a:A)(z:A->P:=by intro a;simp(disch:=omega)only[yQ,ab,simprocAttr,a]):P:=z a
def vE2(a:A)(b:B)(z:A->B->P:=by intro a b;simp(disch:=omega)only[yQ,ab,simprocAttr,a,b]):P:=z a b
def vE3(a:A)(b:B)(c:C)(z:A->B->C->P:=by intro a b c;simp(disch:=omega)only[yQ,ab,simprocAttr,a,b,c]):P:=z a b c
def vE4(a:A)(b:B)(c:C)(d:D)(z:A->B->C->D->P:=by intro a b c d;simp(disch:=omega)only[yQ,ab,simprocAttr,a,b,c,d]):P:=z a b c d
def vE5(a:A)(b:B)(c:C)(d:D)(e:E)(z:A->B->C->D->E->P:=by intro a b c d e;simp(disch:=omega)only[yQ,ab,simprocAttr,a,b,c,d,e]):P:=z a b c d e
def dS(z:P:=by simp(disch:=omega)only[gO,ab,simprocAttr]):P:=z
def cV(a:A)(z:A->P:=by intro a;simp(disch:=omega)only[gO,ab,simprocAttr,a]):P:=z a
def XX(a:A)(b:B)(z:A->B->P:=by intro a b;simp(disch:=omega)only[gO,ab,simprocAttr,a,b]):P:=z a b
def vO3(a:A)(b:B)(c:C)(z:A->B->C->P:=by intro a b c;simp(disch:=omega)only[gO,ab,simprocAttr,a,b,c]):P:=z a b c
def vO4(a:A)(b:B)(c:C)(d:D)(z:A->B->C->D->P:=by intro a b c d;simp(disch:=omega)only[gO,ab,simprocAttr,a,b,c,d]):P:=z a b c d
def vO5(a:A)(b:B)(c:C)(d:D)(e:E)(z:A->B->C->D->E->P:=by intro a b c d e;simp(disch:=omega)only[gO,ab,simprocAttr,a,b,c,d,e]):P:=z a b c d e
def vO6(a:A)(b:B)(c:C)(d:D)(e:E)(f:F)(z:A->B->C->D->E->F->P:=by intro a b c d e f;simp(disch:=omega)only[gO,ab,simprocAttr,a,b,c,d,e,f]):P:=z a b c d e f
def vO7(a:A)(b:B)(c:C)(d:D)(e:E)(f:F)(g:G)(z:A->B->C->D->E->F->G->P:=by intro a b c d e f g;simp(disch:=omega)only[gO,ab,simprocAttr,a,b,c,d,e,f,g]):P:=z a b c d e f g
def sH(z:P:=by simp(disch:=omega)only[dJ,ab,simprocAttr]):P:=z
def n8(a:A)(z:A->P:=by intro a;simp(disch:=omega)only[dJ,ab,simprocAttr,a]):P:=z a
def My(a:A)(b:B)(z:A->B->P:=by intro a b;simp(disch:=omega)only[dJ,ab,simprocAttr,a,b]):P:=z a b
def vK3(a:A)(b:B)(c:C)(z:A->B->C->P:=by intro a b c;simp(disch:=omega)only[dJ,ab,simprocAttr,a,b,c]):P:=z a b c
def vK4(a:A)(b:B)(c:C)(d:D)(z:A->B->C->D->P:=by intro a b c d;simp(disch:=omega)only[dJ,ab,simprocAttr,a,b,c,d]):P:=z a b c d
def vK5(a:A)(b:B)(c:C)(d:D)(e:E)(z:A->B->C->D->E->P:=by intro a b c d e;simp(disch:=omega)only[dJ,ab,simprocAttr,a,b,c,d,e]):P:=z a b c d e
def vK6(a:A)(b:B)(c:C)(d:D)(e:E)(f:F)(z:A->B->C->D->E->F->P:=by intro a b c d e f;simp(disch:=omega)only[dJ,ab,simprocAttr,a,b,c,d,e,f]):P:=z a b c d e f
def vK8(a:A)(b:B)(c:C)(d:D)(e:E)(f:F)(g:G)(h:H)(z:A->B->C->D->E->F->G->H->P:=by intro a b c d e f g h;simp(disch:=omega)only[dJ,ab,simprocAttr,a,b,c,d,e,f,g,h]):P:=z a b c d e f g h
def xn(z:P:=by simp(disch:=omega)only[lI,ab,simprocAttr]):P:=z
def cd(a:A)(z:A->P:=by intro a;simp(disch:=omega)only[lI,ab,simprocAttr,a]):P:=z a
def vS2(a:A)(b:B)(z:A->B->P:=by intro a b;simp(disch:=omega)only[lI,ab,simprocAttr,a,b]):P:=z a b
end
end
end Go.Proofs.YtkoebdjmmgckdaaGreatDoor
namespace Go.Abs
variable {s:AS}{f:FuncId}{ls:List (List aQ)}{i:Nat}{a b:aG}
section
def ag6{a b:Nat}(h:a≠b):Nat.beq a b=false:=by
 cases hb:Nat.beq a b with
 | false=>rfl
 | true=>exact absurd (ax4 hb) h
section
variable {A:AP}
def D(A:AP)(c:aG)(s:AS)(Q:bB->AS->Prop):Prop:=WN A.aX (ai A) c s Q
def tf{s:AS}{Q:bB->AS->Prop} : D A .skip s Q=Q .normal s:=rfl
def acA{s:AS}{Q:bB->AS->Prop} : D A .ret s Q=Q .ret s:=rfl
def aex{i:Nat}{s:AS}{Q:bB->AS->Prop} : D A (.exit i) s Q=Q (.exit i) s:=rfl
def dM{Q:bB->AS->Prop} : D A (.seq a b) s Q=D A a s (andThen (fun s'=>D A b s' Q) Q):=rfl
def Il{Q:bB->AS->Prop} : D A (.block i a) s Q=D A a s (leave i Q):=rfl
def iQ{c:aI}{a b:aG}{s:AS}{Q:bB->AS->Prop} : D A (.cond c a b) s Q=Dc (c.eval A.aX s.T) (fun s=>D A a s Q) (fun s=>D A b s Q) s:=rfl
def bY{os:List aQ}{Q:bB->AS->Prop}(h:Sl os=true):D A (.region os) s Q=WO A os s (Q .normal) :=
 propext ⟨Be os s h,fun ⟨s',h1,h2⟩=>vB os s s' h1 h2⟩
def Q8{c:aG}{Q:bB->AS->Prop}(h:W A c s Q):D A c s Q:=CP h
end
def noI:aQ:=⟨none,none,.next (.yn .undef)⟩
def exts(ops:List aQ)(pre:List (List Nat)):Nat->Array Bool->List (List aQ)
 | 0,B=>match jT pre B with
  | []=>[[]]
  | _=>[[noI]]
 | n+1,B=>match jT pre B with
  | []=>[[]]
  | r=>r.flatMap fun i=>match ops[i]? with
   | some o=>(exts ops pre n (B.setIfInBounds i true)).map (o :: ·)
   | none=>[[noI]]
section
variable {A:AP}{ops:List aQ}{pre:List (List Nat)}{Q:AS->Prop}
def amg(h:WO A [noI] s Q):False:=by
 obtain⟨s',h,_⟩:=h;simp[gr,bS,noI,br] at h
def J3:∀ (n:Nat) (B:Array Bool) (s:AS),xu A.aX (ai A) ops pre n B s Q->xu A.aX (ai A) ops pre (n+1) B s Q
 | 0,B,s,h=>⟨fun _=>h.2,fun i hi=>by rw[h.1] at hi;cases hi⟩
 | n+1,B,s,h=>⟨h.1,fun i hi=>by
  obtain⟨o,s',h1,h2,h3⟩:=h.2 i hi;exact⟨o,s',h1,h2,J3 n _ _ h3⟩⟩
def Pj:∀ (n:Nat) (B:Array Bool),∃ l,l∈exts ops pre n B
 | 0,B=>by unfold exts;split<;>exact⟨_,List.mem_cons_self⟩
 | n+1,B=>by
  unfold exts;split
  ·exact⟨_,List.mem_cons_self⟩
  ·rename_i h
   obtain⟨i,r,hr⟩:=azq h;cases ho:ops[i]? with
   | none=>exact⟨[noI],ayz.2 ⟨i,by rw[hr];exact List.mem_cons_self,by rw[ho];exact List.mem_cons_self⟩⟩
   | some o =>
    obtain⟨l,hl⟩:=Pj n (B.setIfInBounds i true);exact⟨o :: l,ayz.2 ⟨i,by rw[hr];exact List.mem_cons_self,by rw[ho];exact List.mem_map.2 ⟨l,hl,rfl⟩⟩⟩
def C3:∀ (n:Nat) (B:Array Bool) (s:AS),(∀ l∈exts ops pre n B,WO A l s Q)->xu A.aX (ai A) ops pre n B s Q
 | 0,B,s,h=>by
  unfold exts at h;split at h
  ·rename_i e
   have:=h [] List.mem_cons_self
   rw[H3] at this;exact⟨e,this⟩
  ·exact (amg (h _ List.mem_cons_self)).elim
 | n+1,B,s,h=>by
  unfold exts at h;refine⟨fun e=>?_,fun i hi=>?_⟩
  ·rw[e] at h
   have:=h [] List.mem_cons_self
   rwa [H3] at this
  ·split at h
   ·rename_i e;rw[e] at hi;cases hi
   ·have h:=fun l hl=>h l (ayz.2 ⟨i,hi,hl⟩)
    cases ho:ops[i]? with
    | none=>rw[ho] at h;exact (amg (h _ List.mem_cons_self)).elim
    | some o =>
     rw[ho] at h;have h:=fun l hl=>h (o :: l) (List.mem_map.2 ⟨l,hl,rfl⟩)
     obtain⟨l,hl⟩:=Pj (ops:=ops) (pre:=pre) n (B.setIfInBounds i true);have h0:=h l hl;rw[fG] at h0;obtain⟨s1,h1,_⟩:=h0;refine⟨o,s1,rfl,h1,C3 n _ _ fun l hl=>?_⟩
     have:=h l hl
     rw[fG,h1,aS] at this;exact this
def F1(A:AP)(Q:AS->Prop)(s:AS):List (List aQ)->Prop
 | []=>True
 | l :: r=>WO A l s Q/\F1 A Q s r
def Tx : ∀ {ls:List (List aQ)},F1 A Q s ls->∀ l∈ls,WO A l s Q
 | [],_,l,hl=>by cases hl
 | a :: r,h,l,hl=>by
  rcases axs.1 hl with rfl|hl
  ·exact h.1
  ·exact Tx h.2 l hl
def Ub{Q:bB->AS->Prop}(hl:exts ops pre ops.length (Array.replicate ops.length false)=ls)(h:F1 A (Q .normal) s ls):D A (.rD ops pre) s Q :=
 C3 _ _ _ (by rw[hl];exact Tx h)
def Qe(k n:Nat)(pre:List (List Nat)):Bool:=Nat.beq pre.length n&&Nat.ble k n&&(List.range n).all fun i=>cond (Nat.blt i k) ((pre.getD i []).all fun e=>Nat.blt e i) ((List.range k).all (pre.getD i []).contains)
def mem_ready{B:Array Bool} : i∈jT pre B↔i<pre.length/\B.getD i true=false/\∀ e,e∈pre.getD i []->B.getD e false=true:=by
 unfold jT;rw[azi,ayB];simp only[aw4,axq,aw8]
def Cw{B:Array Bool}{x:Bool}(h:B.getD i true=false\/i<B.size):B.getD i x=B.getD i true:=by
 by_cases hi:i<B.size
 ·simp[hi]
 ·rcases h with h|h
  ·simp[hi] at h
  ·exact absurd h hi
def OX{n:Nat}{B:Array Bool}(h:xu A.aX (ai A) ops pre n B s Q):∀ m,xu A.aX (ai A) ops pre (m+n) B s Q
 | 0=>by rwa [axC]
 | m+1=>by rw[Nat.add_right_comm];exact J3 _ _ _ (OX h m)
def YB{k:Nat}(hk:Qe k ops.length pre=true){R:AS->Prop}(hR:∀ s,R s->∀ B:Array Bool,B.size=ops.length->(∀ i,i<k->B.getD i true=true)->(∀ i,k<=i->i<ops.length->B.getD i true=false)->xu A.aX (ai A) ops pre (ops.length-k) B s Q) :
  ∀ (m:Nat) (B C:Array Bool) (s:AS),B.size=ops.length->C.size=k->(∀ i,i<k->B.getD i true=C.getD i true)->(∀ i,k<=i->i<ops.length->B.getD i true=false) ->
   xu A.aX (ai A) (ops.take k) (pre.take k) m C s R->xu A.aX (ai A) ops pre (m+(ops.length-k)) B s Q:=by
 simp only[Qe,aw4,aza,axv,aw8,ayB] at hk;obtain⟨⟨hl,RL⟩,hp⟩:=hk;have pt:∀ i,i<k->(pre.take k).getD i []=pre.getD i []:=fun i hi=>by simp[List.getD_eq_getElem?_getD,List.getElem?_take,hi]
 have back:∀ i,i<k->∀ e,e∈pre.getD i []->e<i:=fun i hi e he=>by
  have:=hp i (by omega)
  rw[show Nat.blt i k=true by simp[axp,hi],cond_true,aw8] at this
  simpa [axp] using this e he
 have all:∀ i,k<=i->i<ops.length->∀ j,j<k->j∈pre.getD i []:=fun i hi ZE j hj=>by
  have:=hp i ZE
  rw[show Nat.blt i k=false by cases hb:Nat.blt i k with|false=>rfl|true=>rw[axp] at hb;omega,cond_false,aw8] at this
  simpa using this j (ayB.2 hj)
 have full:∀ C:Array Bool,C.size=k->jT (pre.take k) C=[]->∀ i,i<k->C.getD i true=true:=fun C hC hr i=>by
  induction i using Nat.strongRecOn with
  | _ i ih =>
   intro hi;cases hb:C.getD i true with
   | true=>rfl
   | false =>
    have:i∈jT (pre.take k) C:=mem_ready.2 ⟨by simp;omega,hb,fun e he=>by
     rw[pt i hi] at he;have:=back i hi e he
     rw[Cw (.inr (by omega))];exact ih e this (by omega)⟩
    rw[hr] at this;cases this
 intro m
 induction m with
 | zero =>
  intro B C s hB hC hBC hBk h;rw[axC];exact hR s h.2 B hB (fun i hi=>(hBC i hi).trans (full C hC h.1 i hi)) hBk
 | succ m ih =>
  intro B C s hB hC hBC hBk h
  by_cases e:jT (pre.take k) C=[]
  ·exact OX (hR s (h.1 e) B hB (fun i hi=>(hBC i hi).trans (full C hC e i hi)) hBk) _
  ·obtain⟨j,r,hj⟩:=azq e
   obtain⟨j1,j2,j3⟩:=mem_ready.1 (show j∈jT (pre.take k) C by rw[hj];exact List.mem_cons_self)
   have j1:j<k:=by simp at j1;omega
   have same:∀ i,i<k->(i∈jT pre B↔i∈jT (pre.take k) C):=fun i hi=>by
    rw[mem_ready,mem_ready,hBC i hi,pt i hi];refine and_congr ⟨fun _=>by simp;omega,fun _=>by omega⟩ (and_congr Iff.rfl (forall_congr' fun e=>forall_congr' fun he=>?_))
    have:=back i hi e he
    rw[Cw (.inr (by omega)),Cw (B:=C) (.inr (by omega)),hBC e (by omega)]
   rw[Nat.add_right_comm];refine⟨fun hr=>?_,fun i hi=>?_⟩
   ·have:=(same j j1).2 (by rw[hj];exact List.mem_cons_self)
    rw[hr] at this;cases this
   ·have IG:i<k:=by
     rcases azj i k with h|h
     ·exact h
     ·obtain⟨h1,_,h3⟩:=mem_ready.1 hi
      have:=h3 j (all i h (by omega) j j1)
      rw[Cw (.inr (by omega)),hBC j j1,j2] at this
      cases this
    obtain⟨o,s',h1,h2,h3⟩:=h.2 i ((same i IG).1 hi);rw[List.getElem?_take,if_pos IG] at h1;refine⟨o,s',h1,h2,ih _ _ s' (by simpa using hB) (by simpa using hC) (fun q hq=>?_) (fun q hq hqn=>?_) h3⟩
    ·by_cases e:i=q
     ·subst e;simp[show i<B.size by omega,show i<C.size by omega]
     ·rw[getD_set_ne true e,getD_set_ne true e];exact hBC q hq
    ·rw[getD_set_ne true (by omega)];exact hBk q hq hqn
def onB(k n:Nat):Array Bool:=((List.range n).map fun i=>Nat.blt i k).toArray
def acz(k:Nat)(L:List Nat){l:List aQ}{Q:bB->AS->Prop}(hk:Qe k ops.length pre=true)(hl:XI false L (ops.take k) (pre.take k)=some l)(hx:Sl l=true)(hr:exts ops pre (ops.length-k) (onB k ops.length)=ls)
  (h:WO A l s fun s1=>F1 A (Q .normal) s1 ls):D A (.rD ops pre) s Q:=by
 have RL:k<=ops.length:=by
  simp only[Qe,aw4,axv] at hk;exact hk.1.2
 have h1:WN A.aX (ai A) (.rD (ops.take k) (pre.take k)) s (fun _ s1=>F1 A (Q .normal) s1 ls):=by
  refine Ja (L:=L) (c:=.rD (ops.take k) (pre.take k)) (pc:=false) id ?_;unfold orR;rw[hl];simp only[hx,cond_true];rw[show WN A.aX (ai A) (.region l) s _=_ from bY hx]
  exact h
 have:=YB (A:=A) (Q:=Q .normal) hk (R:=fun s1=>F1 A (Q .normal) s1 ls) (fun s1 hs B hB hB1 hB2=>by
  have:B=onB k ops.length:=by
   refine Array.ext (by simp[onB,hB]) fun i hi _=>?_
   have e:B.getD i true=B[i]:=by simp[hi]
   rw[<- e]
   by_cases IG:i<k
   ·simp[onB,hB1 i IG,axp,IG]
   ·rw[hB2 i (by omega) (by omega)]
    have:Nat.blt i k=false:=by cases hb:Nat.blt i k with|false=>rfl|true=>rw[axp] at hb;omega
    simp[onB,this]
  rw[this];exact C3 _ _ _ (by rw[hr];exact Tx hs)) (ops.take k).length (Array.replicate ops.length false) (Array.replicate (ops.take k).length false) s (by simp) (by simp[RL]) (fun i hi=>by simp[RL,show i<ops.length by omega,hi]) (fun i _ hi=>by simp[hi]) h1
 rw[axO,azB RL,Nat.add_sub_cancel' RL] at this;exact this
end
end
section
section
variable {G:Nat->List AV}{cf:fX}
theorem QG{Q:bB->AS->Prop}(I:Nat->AS->Prop)(hI:∀ k s,I k s->WN G cf a s (andThen (fun s'=>∃ k',k=k' + 1/\I k' s') Q)):∀ k s,I k s->zo (WN G cf a) (k+1) s Q:=by
 intro k
 induction k with
 | zero =>
  intro s h;refine jM a s (hI 0 s h) (lr (fun s' h=>?_) (fun _ _ h=>h))
  grind
 | succ k ih =>
  intro s h;refine jM a s (hI (k+1) s h) (lr (fun s' h=>?_) (fun _ _ h=>h))
  grind
end
section
variable {A:AP}
def aiC{P:Program}(hA:lP P A){fn:Func}(JJ:P.funcs[f]?=some fn){dB locals muts:List Nat}{qA:aD}(hc:aR P dB locals muts fn=some qA){g:List AV->aa->Option (AV × Option fw)}
  (hm:qA.muts.elem 777777=false) (Nq:∀ args H r c,g args H=some (r,c)->jH H c)
  (hg:∀ args H x,g args H=some x->args.length=qA.np/\WN A.aX (ai A) qA.body { T:=dO args,H,lo:=H.length,gen:=0 } (done H.length qA.results x)):gx P A.aX f g:=by
 refine ad6 hA JJ hc Nq fun args H x hx=>?_
 obtain⟨h1,h2⟩:=hg args H x hx;refine⟨h1,jM _ _ h2 fun e s h=>?_⟩
 have key:∀ s,fin H.length qA.results s=some x->finish H.length qA s=some x:=fun s h=>by
  have:=pU (fn:=qA) h
  rwa [vk hm] at this
 cases e with
 | exit i=>exact h.elim
 | normal=>exact key _ h
 | ret=>exact key _ h
end
end
def cW{A:AP}{fn:aD}{tk l m:List Nat}{nt np:Nat}{rs:List gN}(e:fn=⟨tk,l,m,nt,np,rs,b⟩){args:List AV}{H:aa}{r:AV × Option fw}
  (h:W A b { T:=dO args,H,lo:=H.length,gen:=0 } (done H.length rs r)) (ho:A.ov f=none:=by exact rfl) (hf:A.fns f=some fn:=by exact rfl) (hn:Nat.beq args.length np=true:=by exact rfl) (hm:m.elem 777777=false:=by exact rfl):ai A f args H=some r:=by
 subst e;exact cy ho hf hn h hm
end Go.Abs
namespace Go.Proofs.YtkoebdjmmgckdaaGreatDoor
open Go Go.Abs Go.Proofs
abbrev av:=List UInt8
def mq(n k:Int):Int:=(if n<0 then -(n+1) else n).tmod k
def atZ(l:List Int)(i k:Int):Int:=if i<0\/(l.length:Int)<=i then 0 else mq (l.getD i.toNat 0) k
def kT(c:UInt8):Bool:=decide ((97:Int)<=c.toNat)&&decide ((c.toNat:Int)<=122) || decide ((65:Int)<=c.toNat)&&decide ((c.toNat:Int)<=90)
def isDigit(c:UInt8):Bool:=decide ((48:Int)<=c.toNat)&&decide ((c.toNat:Int)<=57)
def kindOf(c:UInt8):Int:=if kT c then 1 else if isDigit c then 2 else 0
def kR{α:Type}[BEq α](x:α):List α->Nat->Int
 | [],_=>-1
 | a :: l,i=>if a==x then i else kR x l (i+1)
def rm{α:Type}[BEq α][LawfulBEq α](x:α):∀ (l:List α) (i:Nat),decide (0<=kR x l i)=l.contains x
 | [],i=>by simp[kR]
 | a :: l,i=>by
  unfold kR
  by_cases h:a=x
  ·subst h;simp
  ·have h' : (a==x)=false:=cJ h
   have h2:(x==a)=false:=by simpa using fun e=>h e.symm
   rw[h',ayJ,h2,ax2];exact rm x l (i+1)
theorem rF(n k:Int)(H:aa)(hn:CU n)(hk:0<k):ai A 12 [.int .i64 n,.int .i64 k] H=some (.int .i64 (mq n k),none):=by
 obtain⟨h1,h2⟩:=hn;have ui:k≠0:=af;refine cy (fn:=af2) rfl rfl rfl ?_;unfold af2;refine N6 ?_;refine ju ?_ ?_<;>intro h
 ·simp(disch:=omega)only[yQ,ab,simprocAttr,ui,mq,if_pos h]
  grind
 ·simp(disch:=omega)only[yQ,ab,simprocAttr,ui,mq,if_neg h]
def aor(l:List Int)(i k:Int)(H:aa)(hl:∀ n∈l,CU n)(hk:0<k):ai A 51 [.slice (ints l) false,.int .i64 i,.int .i64 k] H=some (.int .i64 (atZ l i k),none):=by
 refine cy (fn:=agj) rfl rfl rfl ?_;unfold agj
 by_cases h0:i<0
 ·exact nE3 h0 true_or @atZ.eq_1 tv
 by_cases h1:(l.length:Int)<=i
 ·exact I6 h0 h1 @p7 (j2 or_true @atZ.eq_1) tv
 ·have hi:i.toNat<l.length:=af
  have hg:l[i.toNat]?=some (l.getD i.toNat 0):=by rw[List.getD_eq_getElem?_getD,aw3 hi];rfl
  have hr:CU (l.getD i.toNat 0):=hl _ (by rw[List.getD_eq_getElem?_getD,aw3 hi];exact axn hi)
  simp(disch:=omega)only[yQ,ab,simprocAttr,h0,h1,p7,atZ,false_or,gf (show 0<=i by omega),ints_at hg,rF _ _ H hr hk]
def PU(l:List av)(w:av)(H:aa)(hl:l.length<=9223372036854775806):ai A 58 [.slice (strs l) false,.str w] H=some (.int .i64 (kR w l 0),none):=by
 refine cy (fn:=agm) rfl rfl rfl ?_;unfold agm;refine N6 ?_;refine vC l.length (fun i=>Hd (fun T=>T 0=.slice (strs l) false/\T 1=.str w/\T 7=.int .i64 l.length/\T 8=.int .i64 i/\kR w l 0=kR w (l.drop i) i) H H.length 0) ?_ 0 _ (axh _) ?_
 ·rintro i s hi hs
  obtain⟨T,rfl,h0,h1,h7,h8,hc⟩:=hs.out;refine Yo h7 h8 ?_;refine ju ?_ ?_<;>intro h
  ·have j6:i<l.length:=af
   refine I6 h0 h1 h8 (gY (aw3 j6)) ?_;refine jI ?_ ?_<;>intro hb
   ·simp(disch:=omega)only[yQ,ab,simprocAttr,hc,axk j6,kR,show (l[i]==w)=true by rw[axL] at hb ⊢;exact hb.symm]
   ·refine I6 h0 h1 h7 h8 ?_
    exact⟨j6,by rw[hc,axk j6,kR,show (l[i]==w)=false by rw[ayI] at hb ⊢;exact hb.symm];rfl⟩
  ·have:i=l.length:=af
   subst this;simp(disch:=omega)only[yQ,ab,simprocAttr,hc,ayy,kR]
 ·exact Yn @bu tv
def MZ(l:List av)(w:av)(H:aa)(hl:l.length<=9223372036854775806):ai A 95 [.slice (strs l) false,.str w] H=some (.bool (l.contains w),none):=by
 refine cy (fn:=agx) rfl rfl rfl ?_;unfold agx;exact Yo (PU l w H hl) @rm tv
def rW(c:UInt8)(H:aa):ai A 94 [.int .u8 c.toNat] H=some (.bool (kT c),none):=by
 refine cy (fn:=agw) rfl rfl rfl ?_;unfold agw kT
 by_cases h1:(97:Int)<=c.toNat<;>by_cases h2:(c.toNat:Int)<=122<;>by_cases h3:(65:Int)<=c.toNat<;>by_cases h4:(c.toNat:Int)<=90 <;>
  exact vE4 h1 h2 h3 h4
def yL(c:UInt8)(H:aa):ai A 192 [.int .u8 c.toNat] H=some (.bool (isDigit c),none):=by
 refine cy (fn:=VU) rfl rfl rfl ?_;unfold VU isDigit
 by_cases h1:(48:Int)<=c.toNat<;>by_cases h2:(c.toNat:Int)<=57 <;>
  exact vE2 h1 h2
def Kp(c:UInt8)(H:aa):ai A 191 [.int .u8 c.toNat] H=some (.bool (kT c || isDigit c),none):=by
 refine cy (fn:=VT) rfl rfl rfl ?_;unfold VT;cases h:kT c<;>exact vE3 rW yL h
def xU(c:UInt8)(H:aa):ai A 83 [.int .u8 c.toNat] H=some (.int .i64 (kindOf c),none):=by
 refine cy (fn:=agq) rfl rfl rfl ?_;unfold agq kindOf kT isDigit
 by_cases h1:(97:Int)<=c.toNat<;>by_cases h2:(c.toNat:Int)<=122<;>by_cases h3:(65:Int)<=c.toNat<;>by_cases h4:(c.toNat:Int)<=90<;>by_cases h5:(48:Int)<=c.toNat<;>by_cases h6:(c.toNat:Int)<=57 <;>
  exact I6 h1 h2 h3 (j4 h4 h5 h6 @Bool.false_eq_true) tv
theorem wZ:∀ (p s:av),p.isPrefixOf s=(decide (p.length<=s.length)&&(s.take p.length==p))
 | [],s=>ae
 | a :: p,[]=>ae
 | a :: p,b :: s=>by
  have:=wZ p s
  grind
def yW(s p:av)(H:aa):ai A 124 [.str s,.str p] H=some (.bool (p.isPrefixOf s),none):=by
 refine cy (fn:=VL) rfl rfl rfl ?_;unfold VL;rw[wZ]
 by_cases h:(p.length:Int)<=s.length
 ·have hh:p.length<=s.length:=af
  exact vE2 h hh
 ·exact vE2 h (show ¬ p.length<=s.length by omega)
def BA(s p:av)(H:aa):ai A 93 [.str s,.str p] H=some (.bool (p.isPrefixOf s),none):=by
 refine cy (fn:=agv) rfl rfl rfl ?_;unfold agv;exact vE1 yW
def bt:Bool->av->Nat
 | _,[]=>0
 | c,b :: r=>if b.toNat=10 then 1+bt false r else if b.toNat=35 then 1+bt true r else if b.toNat≠32/\c=false then 0 else 1+bt c r
def mg:∀ (c:Bool) (s:av),bt c s<=s.length
 | _,[]=>Nat.le_refl _
 | c,b :: r=>by
  have h1:=mg false r;have h2:=mg true r;have h3:=mg c r;simp only[bt,List.length_cons];split
  ·omega
  ·split
   ·omega
   ·split<;>omega
def nY:av:=[40,41,123,125,91,93,44,58,46,61,43,45,42,47,37,60]
def kU(s:av):Bool:=s==[61,61] || s==[45,62] || (decide (s.length=1)&&nY.contains (s.getD 0 0))
def aiq(a b:UInt8):(((a.toNat:Int))==(b.toNat:Int))=(a==b):=by
 by_cases h:a=b
 ·subst h;simp
 ·have h' : a.toNat≠b.toNat:=fun e=>h (UInt8.toNat_inj.1 e)
  have h2:(a==b)=false:=cJ h;rw[h2];simp;omega
def OF(s:av)(H:aa):ai A 84 [.str s] H=some (.bool (kU s),none):=by
 refine cy (fn:=agr) rfl rfl rfl ?_;unfold agr kU;cases e1:(s==[61,61]) with
 | true=>exact Yn e1 tv
 | false =>
 cases e2:(s==[45,62]) with
 | true=>exact Yo e1 e2 tv
 | false =>
 refine Yo e1 e2 ?_;refine jI ?_ ?_<;>intro hl
 ·have Gg:s.length≠1:=fun e=>by rw[e] at hl;simp at hl
  exact Yn Gg tv
 have Gg:s.length=1:=by
  have:(s.length:Int)=1:=cJ hl
  omega
 match s,Gg with
 | [b],_ =>
 refine N6 ?_;refine vC 16 (fun i=>Hd (fun T=>T 0=.str [b]/\T 3=.str nY/\T 4=.int .i64 i/\nY.contains b=(nY.drop i).contains b) H H.length 0) ?_ 0 _ (axh _) ?_
 ·rintro i st hi gP
  obtain⟨T,rfl,h0,h3,h4,hc⟩:=gP.out;refine nE3 h3 h4 (show nY.length=16 from rfl) ?_
  refine ju ?_ ?_<;>intro h
  ·have j6:i<nY.length:=by simp only[show nY.length=16 from rfl];omega
   refine I6 h0 h3 h4 (j2 (aw3 j6) @aiq) ?_;refine jI ?_ ?_<;>intro hb
   ·have iG:nY[i]=b:=cJ hb
    simp(disch:=omega)only[yQ,ab,simprocAttr,hc,axk j6,ayJ,iG,azl]
   ·have iG:(b==nY[i])=false:=by
     have:nY[i]≠b:=cJ hb
     simpa using fun e=>this e.symm
    refine nE3 h0 h3 h4 ?_;exact⟨af,by rw[hc,axk j6,ayJ,iG,ax2]⟩
  ·have:i=16:=af
   subst this;rw[show (nY.drop 16).contains b=false from rfl] at hc
   simp(disch:=omega)only[yQ,ab,simprocAttr,azl,hc]
 ·refine N6 ?_
  exact rfl
end Go.Proofs.YtkoebdjmmgckdaaGreatDoor
end
