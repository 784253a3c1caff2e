/-
  A part of the proof of PrintLossless: AbsNon, AbsStab, AbsVar, AbsEqS, AbsIrUa, AbsIrU, AbsProgU, AbsEvU, AbsEvZ, AbsAny, AbsSgnU, AbsCw, U1, U2.
-/
import Derived.Test.YtnhpoddlmjpapaaGreatDoorProg
import Derived.KernelRfl
import Derived.Lib.AtoiAll
import Derived.Lib.ItoaNum
import Derived.Test.YtnhpoddlmjpapaaGreatDoorQ06
set_option linter.unusedSimpArgs false
set_option linter.unusedVariables false
set_option linter.defProp false
set_option maxHeartbeats 4000000
set_option maxRecDepth 100000
noncomputable section
namespace Go.Abs
variable {s1:AS}{z:AV}{agg b pc:Bool}{q:Bool × Nat × Nat × aE}{fn:Func}{f:FuncId}{dW locals muts ord:List Nat}{ops:List aS}{es:List qP}{sz:Nat}{d:Option Nat}{α:Type}{w0:World}{o:aS}{H0:ae}{Q Q':bJ->AS->Prop}{e:qP}
section
section
variable (G:Nat->List AV)(cf:gD)
def pW:List aS->AS->(AS->Prop)->Prop
 | [],s,Q=>Q s
 | o :: r,s,Q=>match xy o with
  | some t=>∃ g kz ka va cur todo,s.T t=.iter g kz ka va cur todo/\(todo=[]->pW r (s.bW o.dst (.tuple [.bool false])) Q) /\
    ∀ q rest,todo.Perm (q :: rest)->pW r ((s.cy t (.iter g kz ka va q rest)).bW o.dst (.tuple [.bool true,qz ka (q.take kz),qz va (q.drop kz)])) Q
  | none=>∃ s',aP G cf s o=some s'/\pW r s' Q
def jS(pre:List (List Nat))(L:Array Bool):List Nat:=(List.range pre.length).filter fun i=>!L.getD i true&&(pre.getD i []).all fun j=>L.getD j false
def wL(ops:List aS)(pre:List (List Nat)):Nat->Array Bool->AS->(AS->Prop)->Prop
 | 0,L,s,Q=>jS pre L=[]/\Q s
 | n+1,L,s,Q=>(jS pre L=[]->Q s)/\∀ i∈jS pre L,∃ o s',ops[i]?=some o/\aP G cf s o=some s'/\wL ops pre n (L.setIfInBounds i true) s' Q
def yJ(F:AS->(bJ->AS->Prop)->Prop):Nat->AS->(bJ->AS->Prop)->Prop
 | 0,_,_=>False
 | n+1,s,Q=>F s (andThen (fun s'=>yJ F n s' Q) Q)
def WN:aH->AS->(bJ->AS->Prop)->Prop
 | .skip,s,Q=>Q .normal s
 | .region ops,s,Q=>pW G cf ops s (Q .normal)
 | .seq a b,s,Q=>WN a s (andThen (fun s'=>WN b s' Q) Q)
 | .cond c a b,s,Q=>∃ t,c.eval G s.T=.bool t/\(t=true->WN a s Q)/\(t=false->WN b s Q)
 | .block id a,s,Q=>WN a s (leave id Q)
 | .loop a,s,Q=>∃ n,yJ (WN a) n s Q
 | .exit id,s,Q=>Q (.exit id) s
 | .ret,s,Q=>Q .ret s
 | .qQ ops pre,s,Q=>wL G cf ops pre ops.length (Array.replicate ops.length false) s (Q .normal)
end
section
variable {G:Nat->List AV}{cf:gD}
theorem Di{t:Nat}(h:xy o=some t):o.op=.next (.tmp t)/\o.guard=none:=by
 unfold xy at h
 grind
def tq:∀ (l:List aS) (s:AS) {Q Q' : AS->Prop},pW G cf l s Q->(∀ s,Q s->Q' s)->pW G cf l s Q'
 | [],_,_,_,h,hq=>hq _ h
 | o :: r,s,Q,Q',h,hq=>by
  unfold pW at h ⊢;cases hn:xy o with
  | none =>
   rw[hn] at h;obtain⟨s',h1,h2⟩:=h;exact⟨s',h1,tq r s' h2 hq⟩
  | some t =>
   rw[hn] at h;obtain⟨g,kz,ka,va,cur,todo,h1,h2,h3⟩:=h;exact⟨g,kz,ka,va,cur,todo,h1,fun e=>tq r _ (h2 e) hq,fun q rest hp=>tq r _ (h3 q rest hp) hq⟩
def FM{pre:List (List Nat)} : ∀ (n:Nat) (L:Array Bool) (s:AS) {Q Q' : AS->Prop},wL G cf ops pre n L s Q->(∀ s,Q s->Q' s)->wL G cf ops pre n L s Q'
 | 0,_,_,_,_,h,hq=>⟨h.1,hq _ h.2⟩
 | n+1,L,s,Q,Q',h,hq=>by
  refine⟨fun e=>hq _ (h.1 e),fun i hi=>?_⟩
  obtain⟨o,s',h1,h2,h3⟩:=h.2 i hi;exact⟨o,s',h1,h2,FM n _ _ h3 hq⟩
def lq{P P':AS->Prop}(hp:∀ s,P s->P' s)(hq:∀ e s,Q e s->Q' e s):∀ e s,andThen P Q e s->andThen P' Q' e s
 | .normal,s,h=>hp s h
 | .ret,s,h=>hq _ s h
 | .exit i,s,h=>hq _ s h
theorem MY{i:Nat}(hq:∀ e s,Q e s->Q' e s):∀ e s,leave i Q e s->leave i Q' e s:=by
 intro e s h;cases e with
 | exit j =>
  unfold leave at h ⊢
  grind
 | _=>exact hq _ _ h
def C6{F:AS->(bJ->AS->Prop)->Prop}(hF:∀ s Q Q',F s Q->(∀ e s,Q e s->Q' e s)->F s Q'):∀ (n:Nat) (s:AS) {Q Q' : bJ->AS->Prop},yJ F n s Q->(∀ e s,Q e s->Q' e s)->yJ F n s Q'
 | 0,_,_,_,h,_=>h.elim
 | n+1,s,Q,Q',h,hq=>hF _ _ _ h (lq (fun s h=>C6 hF n s h hq) hq)
def jL:∀ (c:aH) (s:AS) {Q Q' : bJ->AS->Prop},WN G cf c s Q->(∀ e s,Q e s->Q' e s)->WN G cf c s Q'
 | .skip,_,_,_,h,hq=>hq _ _ h
 | .region ops,s,_,_,h,hq=>tq ops s h (hq .normal)
 | .seq a b,s,_,_,h,hq=>jL a s h (lq (fun s h=>jL b s h hq) hq)
 | .cond c a b,s,_,_,h,hq=>by obtain⟨t,h1,h2,h3⟩:=h;exact⟨t,h1,fun e=>jL a s (h2 e) hq,fun e=>jL b s (h3 e) hq⟩
 | .block id a,s,_,_,h,hq=>jL a s h (MY hq)
 | .loop a,s,_,_,h,hq=>by obtain⟨n,h⟩:=h;exact⟨n,C6 (fun s Q Q' h hq=>jL a s h hq) n s h hq⟩
 | .exit id,_,_,_,h,hq=>hq _ _ h
 | .ret,_,_,_,h,hq=>hq _ _ h
 | .qQ ops pre,s,_,_,h,hq=>FM _ _ _ h (hq .normal)
def uY:∀ (l:List aS) (s s' : AS) {Q:AS->Prop},gM G cf l s=some s'->Q s'->pW G cf l s Q
 | [],s,s',Q,he,hq=>by simp only[gM,auR] at he;rwa [<- he] at hq
 | o :: l,s,s',Q,he,hq=>by
  simp only[gM,auQ] at he;obtain⟨s1,h1,h2⟩:=he;unfold pW;cases hn:xy o with
  | none=>exact⟨s1,h1,uY l s1 s' h2 hq⟩
  | some t =>
   obtain⟨ho,hg⟩:=Di hn;unfold aP at h1;rw[hg,ho] at h1;simp[aQ] at h1
def A8(n:Nat):∀ (c:aH) (s:AS) {e:bJ} {s' : AS} {Q:bJ->AS->Prop},kK G cf n c s=some (e,s')->Q e s'->WN G cf c s Q
 | .skip,s,e,s',Q,he,hq=>by simp only[kK,auR,auV] at he;rw[<- he.1,<- he.2] at hq;exact hq
 | .exit i,s,e,s',Q,he,hq=>by simp only[kK,auR,auV] at he;rw[<- he.1,<- he.2] at hq;exact hq
 | .ret,s,e,s',Q,he,hq=>by simp only[kK,auR,auV] at he;rw[<- he.1,<- he.2] at hq;exact hq
 | .region ops,s,e,s',Q,he,hq=>by
  simp only[kK,auP,auV] at he;obtain⟨s1,h1,rfl,rfl⟩:=he;exact uY ops s _ h1 hq
 | .qQ ..,s,e,s',Q,he,hq=>by simp[kK] at he
 | .seq a b,s,e,s',Q,he,hq=>by
  simp only[kK,auQ] at he;obtain⟨⟨e1,s1⟩,h1,h2⟩:=he;refine A8 n a s h1 ?_;cases e1 with
  | normal=>exact A8 n b s1 h2 hq
  | _=>simp only[auR,auV] at h2;rw[<- h2.1,<- h2.2] at hq;exact hq
 | .cond c a b,s,e,s',Q,he,hq=>by
  simp only[kK] at he;split at he
  ·rename_i t ht
   refine⟨t,ht,fun h=>?_,fun h=>?_⟩<;>subst h
   ·exact A8 n a s he hq
   ·exact A8 n b s he hq
  ·cases he
 | .block i a,s,e,s',Q,he,hq=>by
  simp only[kK,auP] at he;obtain⟨⟨e1,s1⟩,h1,h2⟩:=he;refine A8 n a s h1 ?_;cases e1<;>simp only[auV] at h2<;>rw[<- h2.1,<- h2.2] at hq<;>exact hq
 | .loop a,s,e,s',Q,he,hq=>by
  simp only[kK] at he;have go:∀ (m:Nat) (s:AS),iter (kK G cf n a) m s=some (e,s')->yJ (WN G cf a) m s Q:=by
   intro m
   induction m with
   | zero=>intro s h;cases h
   | succ m ih =>
    intro s h;simp only[iter,auQ] at h;obtain⟨⟨e1,s1⟩,h1,h2⟩:=h;refine A8 n a s h1 ?_;cases e1 with
    | normal=>exact ih s1 h2
    | _=>simp only[auR,auV] at h2;rw[<- h2.1,<- h2.2] at hq;exact hq
  exact⟨n,go n s he⟩
def BW{A:AP}{c:aH}{s:AS}(h:W A c s Q):WN A.aW (aj A) c s Q:=by
 obtain⟨n,e,s',h1,h2⟩:=h;exact A8 n c s h1 h2
end
section
variable {P:Program}{G:Nat->List AV}{base nt:Nat}{gh:Gh}{w w' : World}{a:Act}{s:AS}{H:ae}{L:List Nat}
theorem qy{ops:Array Oper} : ∀ {l:List Oper} {is:List aS},lF P dW locals muts nt ops l=some is->l.length=is.length /\
  ∀ (i:Nat) (o:Oper),l[i]?=some o->∃ io,is[i]?=some io/\uj P dW locals muts nt ops o=some io
 | [],is,h=>by simp[lF] at h;subst h;exact⟨rfl,fun i o h=>by simp at h⟩
 | o :: l,is,h=>by
  simp only[lF,auQ,auP] at h;obtain⟨io,hio,is',OB,rfl⟩:=h;obtain⟨h1,h2⟩:=qy OB
  grind
def NN(x:Option oc):Prop:=∀ it,x≠some (.next it)
def NN.none:NN none:=fun _ h=>by cases h
def NN.bind{x:Option α}{f:α->Option oc}(h:∀ a,NN (f a)):NN (x.bind f):=by
 cases x with
 | none=>exact NN.none
 | some a=>exact h a
def NN.map{x:Option α}{f:α->oc}(h:∀ a,NN (some (f a))):NN (x.map f):=by
 cases x with
 | none=>exact NN.none
 | some a=>exact h a
def NN.cond{x y:Option oc}(h1:NN x)(h2:NN y):NN (bif b then x else y):=by cases b<;>assumption
def NN.aaH{x y:oc}(h1:NN (some x))(h2:NN (some y)):NN (some (bif b then x else y)):=by cases b<;>assumption
def Fh{c:Call} : NN (x7 P locals muts nt d c):=by
 unfold x7
 repeat' first
  | exact fun _ h=>by cases h
  | exact NN.none
  | exact fun _ h=>by cases h
  | refine NN.bind fun _=>?_
  | refine NN.map fun _=>?_
  | refine NN.cond ?_ ?_
  | refine NN.aaH ?_ ?_
  | split
theorem Jq{o:Op}{x:aE}(h:dI P dW locals muts nt d o=some (.next x)):∃ y,o=.next y false/\ar nt y=some x:=by
 have key:(∀ y b,o≠.next y b)->NN (dI P dW locals muts nt d o):=by
  intro hn;cases o
  case makeMap t r =>
   cases r with
   | none=>simp only[dI];exact NN.map fun _ _ h=>by cases h
   | some r=>simp only[dI];exact NN.none
  all_goals simp only[dI]
  all_goals first
   | exact absurd rfl (hn _ _)
   | exact Fh
   | (repeat' first
     | exact NN.none
     | exact fun _ h=>by cases h
     | refine NN.bind fun _=>?_
     | refine NN.map fun _=>?_
     | refine NN.cond ?_ ?_
     | refine NN.aaH ?_ ?_
     | split)
 by_cases hn:∀ y b,o≠.next y b
 ·exact absurd h (key hn x)
 ·have:∃ y b,o=.next y b:=by
   grind
  obtain⟨y,b,rfl⟩:=this;cases b with
  | true=>simp[dI] at h
  | false =>
   simp only[dI,auP,oc.next.injEq] at h
   grind
theorem oM{cf:gD}(tO:je P G cf){lT:Gh}{ops:Array Oper}(Lt:∀ x,x∈locals->x∈L)(Lu:∀ x,x∈muts->x∈L)(Q:Exit->Act->World->Prop)(R:AS->Prop)
  (hR:∀ s' a' bt w',R s'->Inv G base nt L H0 lT w0 s' bt w' a'->Q .normal a' w') :
  ∀ (l:List Oper) (is:List aS) (s:AS) (gh:Gh) (w:World) (a:Act),Inv G base nt L H0 lT w0 s gh w a->lF P dW locals muts nt ops l=some is->pW G cf is s R->wpList P ops Q l a w
 | [],is,s,gh,w,a,hI,hc,he=>by
  simp only[lF,auR] at hc;subst hc;exact hR s a gh w he hI
 | o :: l,is,s,gh,w,a,hI,hc,he=>by
  simp only[lF,auQ,auP] at hc;obtain⟨io,hio,is',OB,rfl⟩:=hc;unfold pW at he;unfold wpList;have hinv:=sj hio;cases hn:xy io with
  | none =>
   rw[hn] at he;obtain⟨s1,h1,h2⟩:=he;rw[wV,auP] at h1;obtain⟨⟨z,s2⟩,hz,rfl⟩:=h1;refine GL tO hI hio Lt Lu hz _ Q (fun a' bt w' Be=>?_)
   rw[hinv.2.2.1] at h2;exact oM tO Lt Lu Q R hR l is' _ bt w' a' Be OB h2
  | some t =>
   rw[hn] at he;obtain⟨g,kz,ka,va,cur,todo,hT,h0,h1⟩:=he;obtain⟨fa,HO⟩:=Di hn;rw[fa] at hinv;obtain⟨y,hoy,D4⟩:=Jq hinv.1;have hog:o.guard=none:=by
    have hg:=hinv.2.1;rw[HO] at hg;cases hgo:o.guard with
    | none=>rfl
    | some jw =>
     obtain⟨j,want⟩:=jw;rw[hgo] at hg;simp only[qY,auQ] at hg
     grind
   have hw:Region.wanted o (yielded ops a.tmps)=true:=by simp[Region.wanted,hog]
   rw[if_pos hw];have htL:t∈L:=hI.F.obj t (by rw[hT];rfl)
   refine .inl (Xq hI.W hI.F hoy D4 hT htL hinv.2.2.2 _ Q (fun HS v' bt w' hO=>?_) (fun q rest hp v' bt w' hO=>?_))
   ·have:=h0 HS
    rw[hinv.2.2.1] at this;exact oM tO Lt Lu Q R hR l is' _ bt w' _ (hI.out hO hI.lo) OB this
   ·have:=h1 q rest hp
    rw[hinv.2.2.1] at this;exact oM tO Lt Lu Q R hR l is' _ bt w' _ (hI.out hO (hI.lo.qu rfl rfl)) OB this
def Dy{ops:Array Oper}{L:Array Bool} : jS (ops.toList.map o9) L=Region.ready .any ops L:=by
 unfold jS Region.ready;rw[show (ops.toList.map o9).length=ops.size by simp]
 refine List.filter_congr fun i hi=>?_
 have aZ:i<ops.size:=cT hi;have e1:(ops.toList.map o9).getD i []=o9 ops[i]:=by simp[List.getD_eq_getElem?_getD,aZ]
 rw[e1,au' aZ];simp only[au2,avN,o9]
 simp_all
theorem B7{cf:gD}(tO:je P G cf){lT:Gh}{ops:Array Oper}(Lt:∀ x,x∈locals->x∈L)(Lu:∀ x,x∈muts->x∈L)(Q:Exit->Act->World->Prop)(R:AS->Prop)
  (hR:∀ s' a' bt w',R s'->Inv G base nt L H0 lT w0 s' bt w' a'->Q .normal a' w') {is:List aS} (hc:lF P dW locals muts nt ops ops.toList=some is) :
  ∀ (n:Nat) (B:Array Bool) (s:AS) (gh:Gh) (w:World) (a:Act),Inv G base nt L H0 lT w0 s gh w a->wL G cf is (ops.toList.map o9) n B s R->wpAny P .any ops Q n B a w
 | 0,B,s,gh,w,a,hI,h=>⟨by rw[<- Dy];exact h.1,hR s a gh w h.2 hI⟩
 | n+1,B,s,gh,w,a,hI,h=>by
  refine⟨fun e=>hR s a gh w (h.1 (by rw[Dy];exact e)) hI,fun i hi=>?_⟩
  obtain⟨io,s1,hio,h1,h2⟩:=h.2 i (by rw[Dy];exact hi)
  obtain⟨hlen,aid⟩:=qy hc;unfold wpOp;split
  ·grind
  ·rename_i o ho
   obtain⟨io',anm,cg⟩:=aid i o (cT ho);obtain rfl:io'=io:=avF (anm.symm.trans hio);have hinv:=sj cg;rw[wV,auP] at h1;obtain⟨⟨z,s2⟩,hz,rfl⟩:=h1;refine GL tO hI cg Lt Lu hz _ Q (fun a' bt w' Be=>?_)
   rw[hinv.2.2.1] at h2;exact B7 tO Lt Lu Q R hR hc n _ _ bt w' a' Be h2
def oa{cf:gD}(tO:je P G cf)(hm:P.follows .mixedOrders=true){lT:Gh} :
  ∀ (c:Code) (ic:aH),js P dW locals muts nt c=some ic->∀ (s:AS) (gh:Gh) (w:World) (a:Act) (Q:Exit->Act->World->Prop) (R:bJ->AS->Prop),Inv G base nt (locals++muts) H0 lT w0 s gh w a->WN G cf ic s R ->
   (∀ e s' a' bt w',R e s'->Inv G base nt (locals++muts) H0 lT w0 s' bt w' a'->Q e.ahE a' w')->c.wp P Q a w
 | .skip,ic,hc,s,gh,w,a,Q,R,hI,he,hQ=>by
  simp only[js,auR] at hc;subst hc;exact wp_skip (hQ .normal s a gh w he hI)
 | .region id ops draw,ic,hc,s,gh,w,a,Q,R,hI,he,hQ=>by
  simp only[js,auP] at hc;obtain⟨is,OB,rfl⟩:=hc;have Lt:∀ x,x∈locals->x∈locals++muts:=fun x hx=>auY.2 (.inl hx)
  have Lu:∀ x,x∈muts->x∈locals++muts:=fun x hx=>auY.2 (.inr hx)
  cases draw with
  | false=>exact wp_region_list (oM tO Lt Lu Q (R .normal) (fun s' a' bt w' hr Be=>hQ .normal s' a' bt w' hr Be) ops.toList is s gh w a hI OB he)
  | true =>
   have hl:ops.size=is.length:=by simpa using (qy OB).1
   simp only[cond_true,WN,<- hl] at he;exact wp_region_any hm (B7 tO Lt Lu Q (R .normal) (fun s' a' bt w' hr Be=>hQ .normal s' a' bt w' hr Be) OB _ _ _ gh _ a hI.drew he)
 | .seq x y,ic,hc,s,gh,w,a,Q,R,hI,he,hQ=>by
  simp only[js,auQ,auP] at hc;obtain⟨ix,hx,iy,hy,rfl⟩:=hc;refine wp_seq (oa tO hm x ix hx s gh w a _ _ hI he (fun e s' a' bt w' hr Be=>?_))
  cases e with
  | normal=>exact oa tO hm y iy hy s' bt w' a' Q R Be hr hQ
  | exit id=>exact hQ (.exit id) s' a' bt w' hr Be
  | ret=>exact hQ .ret s' a' bt w' hr Be
 | .cond c x y,ic,hc,s,gh,w,a,Q,R,hI,he,hQ=>by
  simp only[js,auQ,auP] at hc;obtain⟨iq,hq,ix,hx,iy,hy,rfl⟩:=hc;obtain⟨t,ht,h1,h2⟩:=he;have hv:=(cX hI.W hI.F hq ht rfl).lW;cases t with
  | true=>exact wp_cond_true hv (oa tO hm x ix hx s gh w a Q R hI (h1 rfl) hQ)
  | false=>exact wp_cond_false hv (oa tO hm y iy hy s gh w a Q R hI (h2 rfl) hQ)
 | .block id c,ic,hc,s,gh,w,a,Q,R,hI,he,hQ=>by
  simp only[js,auP] at hc;obtain⟨ix,hx,rfl⟩:=hc;refine wp_block (oa tO hm c ix hx s gh w a _ _ hI he (fun e s' a' bt w' hr Be=>?_))
  cases e with
  | normal=>exact hQ .normal s' a' bt w' hr Be
  | exit i =>
   show if i=id then Q .normal a' w' else Q (.exit i) a' w'
   simp only[leave,iE] at hr
   by_cases hi:i=id
   ·rw[if_pos hi];exact hQ .normal s' a' bt w' (by simpa [hi] using hr) Be
   ·rw[if_neg hi];exact hQ (.exit i) s' a' bt w' (by simpa [hi] using hr) Be
  | ret=>exact hQ .ret s' a' bt w' hr Be
 | .loop c,ic,hc,s,gh,w,a,Q,R,hI,he,hQ=>by
  simp only[js,auP] at hc;obtain⟨ix,hx,rfl⟩:=hc;obtain⟨n,he⟩:=he;have rounds:∀ (m:Nat) (s:AS) (gh:Gh) (w:World) (a:Act),Inv G base nt (locals++muts) H0 lT w0 s gh w a->yJ (WN G cf ix) m s R->Code.rounds P c Q m a w:=by
   intro m
   induction m with
   | zero=>intro s gh w a _ h;exact h.elim
   | succ m ih =>
    intro s gh w a hI h;rw[rounds_succ];refine oa tO hm c ix hx s gh w a _ _ hI h (fun e s' a' bt w' hr Be=>?_)
    cases e with
    | normal=>exact ih s' bt w' a' Be hr
    | exit id=>exact hQ (.exit id) s' a' bt w' hr Be
    | ret=>exact hQ .ret s' a' bt w' hr Be
  exact wp_loop_rounds n (rounds n s gh w a hI he)
 | .exit id,ic,hc,s,gh,w,a,Q,R,hI,he,hQ=>by
  simp only[js,auR] at hc;subst hc;exact wp_exit (hQ (.exit id) s a gh w he hI)
 | .ret,ic,hc,s,gh,w,a,Q,R,hI,he,hQ=>by
  simp only[js,auR] at hc;subst hc;exact wp_ret (hQ .ret s a gh w he hI)
 | .label l,ic,hc,s,gh,w,a,Q,R,hI,he,hQ=>by
  simp only[js,auR] at hc;subst hc;exact wp_label (hQ .normal s a gh w he hI)
 | .scope c,ic,hc,s,gh,w,a,Q,R,hI,he,hQ=>by
  simp only[js] at hc;refine wp_scope_straight (oa tO hm c ic hc s gh w a _ R hI he (fun e s' a' bt w' hr Be=>?_))
  have:=hQ e s' a' bt w' hr Be
  cases e<;>exact this
 | .rangeFunc _ _ _ _,_,hc,_,_,_,_,_,_,_,_,_=>by simp[js] at hc
 | .goto _,_,hc,_,_,_,_,_,_,_,_,_=>by simp[js] at hc
 | .refuse _,_,hc,_,_,_,_,_,_,_,_,_=>by simp[js] at hc
end
end
section
mutual
def Hy:∀ (a b:AV),qm a b=true->a=b
 | .bool a,b,h=>by cases b<;>simp_all [qm]
 | .int k a,b,h=>by cases b<;>simp_all [qm]
 | .str a,b,h=>by cases b<;>simp_all [qm]
 | .any,b,h=>by cases b<;>simp_all [qm]
 | .kX,b,h=>by cases b<;>simp_all [qm]
 | .kq,b,h=>by cases b<;>simp_all [qm]
 | .kH,b,h=>by cases b<;>simp_all [qm]
 | .de,b,h=>by cases b<;>simp_all [qm]
 | .aq,b,h=>by cases b<;>simp_all [qm]
 | .slice e o,b,h=>by
  cases b<;>simp[qm] at h
  rename_i f q;rw[vg e f h.1,h.2]
 | .ref l o,b,h=>by cases b<;>simp_all [qm]
 | .sref l o n z,b,h=>by cases b<;>simp_all [qm]
 | .mref l,b,h=>by cases b<;>simp_all [qm]
 | .agg a,b,h=>by
  cases b<;>simp[qm] at h
  rename_i f;rw[sv a f h]
 | .tuple a,b,h=>by
  cases b<;>simp[qm] at h
  rename_i f;rw[sv a f h]
 | .iface t a,b,h=>by
  cases b<;>simp[qm] at h
  rename_i t' f;rw[Hy a f h.2,h.1]
 | .eptr a,b,h=>by
  cases b<;>simp[qm] at h
  rename_i f;rw[sv a f h]
 | .lbox g a,b,h=>by
  cases b<;>simp[qm] at h
  rename_i g' f;rw[h.1,sv a f h.2]
 | .lref s g o,b,h=>by cases b<;>simp_all [qm]
 | .lsl g e,b,h=>by
  cases b<;>simp[qm] at h
  rename_i g' f;rw[h.1,vg e f h.2]
 | .lsr s g,b,h=>by cases b<;>simp_all [qm]
 | .eref s g i z o,b,h=>by cases b<;>simp_all [qm]
 | .iW kz ka va e,b,h=>by
  cases b<;>simp[qm] at h
  rename_i p8 p7 p9 f;rw[h.1.1.1,h.1.1.2,h.1.2,vg e f h.2]
 | .mn kz ka va e,b,h=>by
  cases b<;>simp[qm] at h
  rename_i p8 p7 p9 f;rw[h.1.1.1,h.1.1.2,h.1.2,vg e f h.2]
 | .iter g kz ka va c e,b,h=>by
  cases b<;>simp[qm] at h
  rename_i g' p8 p7 p9 c' f;rw[h.1.1.1.1.1,h.1.1.1.1.2,h.1.1.1.2,h.1.1.2,sv c c' h.1.2,vg e f h.2]
 | .func f a c,b,h=>by
  cases b<;>simp[qm] at h
  rename_i f' b d;rw[h.1.1,sv a b h.1.2,sv c d h.2]
def sv:∀ (a b:List AV),Mj a b=true->a=b
 | [],b,h=>by cases b<;>simp_all [Mj]
 | x :: l,b,h=>by
  cases b with
  | nil=>simp[Mj] at h
  | cons y m =>
   simp[Mj] at h;rw[Hy x y h.1,sv l m h.2]
def vg:∀ (a b:List (List AV)),Ba a b=true->a=b
 | [],b,h=>by cases b<;>simp_all [Ba]
 | x :: l,b,h=>by
  cases b with
  | nil=>simp[Ba] at h
  | cons y m =>
   simp[Ba] at h;rw[sv x y h.1,vg l m h.2]
end
mutual
def Ct:∀ a:AV,qm a a=true
 | .bool _|.int _ _|.str _|.any|.kX|.kq|.kH|.de|.aq|.ref _ _|.sref _ _ _ _|.mref _|.lref _ _ _|.lsr _ _|.eref _ _ _ _ _=>by simp[qm]
 | .slice e o=>by simp[qm,oQ e]
 | .agg a=>by simp[qm,mX a]
 | .tuple a=>by simp[qm,mX a]
 | .iface t a=>by simp[qm,Ct a]
 | .eptr a=>by simp[qm,mX a]
 | .lbox g a=>by simp[qm,mX a]
 | .lsl g e=>by simp[qm,oQ e]
 | .iW kz ka va e=>by simp[qm,oQ e]
 | .mn kz ka va e=>by simp[qm,oQ e]
 | .iter g kz ka va c e=>by simp[qm,mX c,oQ e]
 | .func f a c=>by simp[qm,mX a,mX c]
def mX:∀ l:List AV,Mj l l=true
 | []=>rfl
 | a :: l=>by simp[Mj,Ct a,mX l]
def oQ:∀ l:List (List AV),Ba l l=true
 | []=>rfl
 | a :: l=>by simp[Ba,mX a,oQ l]
end
theorem Aa:∀ (n:Nat) (l:List Nat),l.Nodup->(∀ i,i∈l->i<n)->l.length<=n
 | 0,l,_,h=>by
  cases l with
  | nil=>exact Nat.le_refl _
  | cons i l=>exact absurd (h i List.mem_cons_self) (Nat.not_lt_zero _)
 | n+1,l,Qt,h=>by
  have ih:=Aa n (l.erase n) (Qt.erase n) (fun i hi=>by
   have:=(Qt.mem_erase_iff).1 hi
   have:=h i this.2
   omega)
  grind
section
variable {G:Nat->List AV}{cf:gD}
def Ga:∀ (a b:List aS) (s:AS),gM G cf (a++b) s=(gM G cf a s).bind (gM G cf b)
 | [],b,s=>by simp[gM]
 | o :: a,b,s=>by
  simp only[avU,gM];cases aP G cf s o with
  | none=>rfl
  | some s1=>simp only[auW];exact Ga a b s1
def Aq(G:Nat->List AV)(s:AS)(q:Bool × Nat × Nat × aE):Prop:=cO s false q.1 q.2.1 (q.2.2.2.addr G s.T)=some (s.T q.2.2.1,none)
def Xt{d:Nat}{x:aE}{s s':AS}(h:aP G cf s ⟨none,none,.same agg sz d x⟩=some s'):s'=s/\Aq G s (agg,sz,d,x):=by
 simp only[aP,aQ,auQ] at h;obtain⟨⟨z,so⟩,h1,h2⟩:=h;split at h1
 ·rename_i v hv
  obtain⟨h3,h1⟩:=al h1;simp only[auR,auV] at h1;obtain⟨rfl,rfl⟩:=h1;simp[AS.bW] at h2;refine⟨h2.symm,?_⟩;unfold Aq;rw[hv,Hy _ _ h3]
 ·cases h1
def vF{L:List Nat}{cl:List (List Nat)}{k:Nat} : ∀ (done:List Nat) (s s' : AS),
  gM G cf (done.filterMap fun j=>cond ((cl.getD k []).contains j) none ((ops[j]?).bind fun o=>(lj L ops o).map fun q=>⟨none,none,.same q.1 q.2.1 q.2.2.1 q.2.2.2⟩)) s=some s' ->
  s'=s/\∀ j,j∈done->(cl.getD k []).contains j=false->∀ q,(ops[j]?).bind (lj L ops)=some q->Aq G s q
 | [],s,s',h=>by simp[gM] at h;exact⟨h.symm,fun j hj=>by simp at hj⟩
 | j :: done,s,s',h=>by
  rw[List.filterMap_cons] at h;cases hc:(cl.getD k []).contains j with
  | true =>
   rw[hc] at h;simp only[cond_true] at h;obtain⟨h1,h2⟩:=vF done s s' h;exact⟨h1,fun i hi j8 q hq=>by
    rcases avi.1 hi with rfl|hi
    ·rw[hc] at j8;cases j8
    ·exact h2 i hi j8 q hq⟩
  | false =>
   rw[hc] at h;simp only[cond_false] at h;cases ho:(ops[j]?).bind (lj L ops) with
   | none =>
    have:((ops[j]?).bind fun o=>(lj L ops o).map fun q=>(⟨none,none,.same q.1 q.2.1 q.2.2.1 q.2.2.2⟩:aS))=none:=by
     cases hj:ops[j]? with
     | none=>rfl
     | some o=>rw[hj] at ho;simp only[auW] at ho ⊢;rw[ho];rfl
    rw[this] at h;obtain⟨h1,h2⟩:=vF done s s' h;exact⟨h1,fun i hi j8 q hq=>by
     rcases avi.1 hi with rfl|hi
     ·rw[ho] at hq;cases hq
     ·exact h2 i hi j8 q hq⟩
   | some q =>
    have:((ops[j]?).bind fun o=>(lj L ops o).map fun q=>(⟨none,none,.same q.1 q.2.1 q.2.2.1 q.2.2.2⟩:aS))=some ⟨none,none,.same q.1 q.2.1 q.2.2.1 q.2.2.2⟩:=by
     cases hj:ops[j]? with
     | none=>rw[hj] at ho;cases ho
     | some o=>rw[hj] at ho;simp only[auW] at ho ⊢;rw[ho];rfl
    rw[this] at h;simp only[gM,auQ] at h;obtain⟨s1,h3,h⟩:=h;obtain⟨rfl,h4⟩:=Xt h3;obtain⟨h1,h2⟩:=vF done _ s' h;exact⟨h1,fun i hi j8 q' hq=>by
     rcases avi.1 hi with rfl|hi
     ·rw[ho] at hq;cases hq;exact h4
     ·exact h2 i hi j8 q' hq⟩
def A6{L:List Nat}{cl:List (List Nat)} : ∀ (todo done:List Nat) (s s' : AS),(∀ k,k∈todo->k<ops.length) ->
  gM G cf (G6 pc L ops cl es done todo) s=some s' ->
  ∃ S:Nat->AS,S 0=s/\S todo.length=s'/\∀ (p k:Nat),todo[p]?=some k->∃ o,ops[k]?=some o /\
   (∀ c y,vW ops L o.op=some (c,y)->(∀ g w,o.guard=some (g,w)->(S p).T g=.bool w)->gv c (y.addr G (S p).T)=true) /\
   aP G cf (S p) (nh pc o)=some (S (p+1)) /\
   ((es.getD k default).wh=true->∀ j,j∈done++todo.take p->(cl.getD k []).contains j=false->∀ q,(ops[j]?).bind (lj L ops)=some q->Aq G (S (p+1)) q)
 | [],done,s,s',aZ,h=>by
  simp only[G6,gM,auR] at h;exact⟨fun _=>s,rfl,h,fun p k hp=>by simp at hp⟩
 | k :: r,done,s,s',aZ,h=>by
  obtain⟨o,ho⟩:∃ o,ops[k]?=some o:=⟨_,auS (aZ k (by simp))⟩
  simp only[G6,ho,Ga,auQ] at h;obtain⟨s1,h1,s2,h2,h3⟩:=h;obtain⟨b1,b2⟩:=QH h1;have hr:s2=s1/\((es.getD k default).wh=true->∀ j,j∈done->(cl.getD k []).contains j=false->∀ q,(ops[j]?).bind (lj L ops)=some q->Aq G s1 q):=by
   unfold abU at h2;cases hw:(es.getD k default).wh with
   | false=>rw[hw] at h2;simp only[cond_false,gM,auR] at h2;exact⟨h2.symm,fun h=>by cases h⟩
   | true =>
    rw[hw] at h2;obtain⟨c1,c2⟩:=vF done s1 s2 h2;exact⟨c1,fun _=>c2⟩
  obtain⟨rfl,hre⟩:=hr;obtain⟨S,d0,d1,d2⟩:=A6 r (done++[k]) s2 s' (fun j hj=>aZ j (av3 _ hj)) h3
  refine⟨fun p=>match p with|0=>s|p+1=>S p,rfl,d1,fun p k' hp=>?_⟩
  cases p with
  | zero =>
   simp only[avb,auR] at hp;subst hp;refine⟨o,ho,b1,by rw[b2,<- d0],fun hw j hj=>?_⟩
   simp only[avV,List.append_nil] at hj
   show _->∀ q,_->Aq G (S 0) q
   rw[d0];exact hre hw j hj
  | succ p =>
   obtain⟨o',e1,e2,e3,e4⟩:=d2 p k' (by simpa using hp)
   refine⟨o',e1,e2,e3,fun hw j hj=>e4 hw j ?_⟩
   simpa using hj
def DP{L:List Nat}(h:lj L ops o=some q):o=⟨some q.2.2.1,none,.load false q.1 q.2.1 q.2.2.2⟩/\Jp ops L q.2.2.2=.heap/\q.2.2.1∉q.2.2.2.tmps:=by
 unfold lj at h;split at h
 ·rename_i d agg sz x
  obtain⟨h1,h⟩:=al h;injection h with h
  subst h;simp only[auT,avg,axC,ave] at h1;refine⟨rfl,?_,h1.2⟩;have h1:=h1.1;generalize Jp ops L x=c at h1;cases c with
  | heap=>rfl
  | _=>cases h1
 ·cases h
def vn{s x:AS}{v:AV}{r:Option AS}(hc:gv .heap v=true)(hH:x.H=s.H)(h:cO s false agg sz v=some (z,r)):cO x false agg sz v=some (z,none)/\r=none:=by
 unfold cO at h ⊢;cases v<;>simp only at h ⊢<;>try (cases h;done)
 case eptr cs =>
  simp only[auP,auV] at h ⊢;obtain⟨w,h1,rfl,rfl⟩:=h;exact⟨⟨w,h1,rfl,trivial⟩,rfl⟩
 case ref loc off =>
  rw[hH];generalize s.H[loc]?=X at h ⊢;cases X with
  | none=>cases h
  | some ob =>
   cases ob<;>simp only[avk,cond_false] at h ⊢<;>try (cases h;done)
   all_goals
    simp only[auP,auV] at h ⊢;obtain⟨w,h1,rfl,rfl⟩:=h;exact⟨⟨w,h1,rfl,trivial⟩,rfl⟩
 case lref=>cases hc
 case eref=>cases hc
def okP{L:List Nat}{pre cl:List (List Nat)}(h:okS L ops pre cl es ord=true) :
  pre.length=ops.length/\ord.length=ops.length/\ord.Nodup/\(∀ k,k∈ord->k<ops.length)/\(∀ k,k<ops.length->∀ e,e∈pre.getD k []->e<k) /\
  (∀ k,k<ops.length->∀ j,j∈cl.getD k []->∃ e,e∈pre.getD k []/\(j=e\/j∈cl.getD e [])) /\
  (∀ q,q<ops.length->∀ p,p<q->Dm L ops cl es ord p q=true):=by
 simp only[okS,auT,auX,awv,List.any_eq_true,awl,avh,iE,au1] at h;obtain⟨⟨⟨⟨⟨⟨h1,h2⟩,h3⟩,h4⟩,h5⟩,h6⟩,h8⟩:=h;refine⟨h1,h2,?_,h4,h5,fun k hk j hj=>?_,h8⟩
 ·clear h1 h2 h4 h5 h6 h8
  induction ord with
  | nil=>exact List.nodup_nil
  | cons x l ih =>
   simp only[Ni,auT,avg,axC,ave] at h3;exact axt.2 ⟨h3.1,ih h3.2⟩
 ·obtain⟨e,he,h⟩:=h6 k hk j hj
  exact⟨e,he,by simpa using h⟩
def F3{pre cl:List (List Nat)}{n:Nat}{X:Nat->Prop}(yu:∀ k,k<n->∀ e,e∈pre.getD k []->e<k)
  (mo:∀ k,k<n->∀ j,j∈cl.getD k []->∃ e,e∈pre.getD k []/\(j=e\/j∈cl.getD e []))
  (hX:∀ k,k<n->X k->∀ e,e∈pre.getD k []->X e):∀ k,k<n->X k->∀ j,j∈cl.getD k []->X j:=by
 intro k
 induction k using Nat.strongRecOn with
 | _ k ih =>
  intro hk hx j hj;obtain⟨e,h1,h2⟩:=mo k hk j hj;have aZ:=yu k hk e h1;have hxe:=hX k hk hx e h1
  rcases h2 with rfl|h2
  ·exact hxe
  ·exact ih e aZ (by omega) hxe j h2
variable {n k:Nat}{S:Nat->AS}{E:Nat->qP}{X:Nat->Prop}{x x1:AS}
def F9{L:List Nat} : ∀ {l:List aS} {es:List qP},F8 pc L ops l=some es->es.length=l.length/\∀ (i:Nat) (o:aS),l[i]?=some o->Mg pc L ops o=some (es.getD i default)
 | [],es,h=>by simp[F8] at h;subst h;exact⟨rfl,fun i o hi=>by simp at hi⟩
 | o :: l,es,h=>by
  simp only[F8,auQ,auP] at h;obtain⟨e,he,uq,h',rfl⟩:=h;obtain⟨h1,h2⟩:=F9 h';refine⟨by simp[h1],fun i o' hi=>?_⟩
  cases i with
  | zero=>simp only[avb,auR] at hi;subst hi;simpa using he
  | succ i=>simpa using h2 i o' (by simpa using hi)
def Jz{L:List Nat}(h:Mg pc L ops o=some e):∃ e0,Jx pc ops L o=some e0/\e.rs=e0.rs/\e.ws=e0.ws/\e.wh=e0.wh/\e.wg=e0.wg/\(lj L ops o=none->e=e0):=by
 simp only[Mg,auP] at h;obtain⟨e0,h1,h2⟩:=h;refine⟨e0,h1,?_⟩;split at h2
 ·rename_i q hq
  subst h2;exact⟨rfl,rfl,rfl,rfl,fun h=>by rw[hq] at h;cases h⟩
 ·subst h2
  exact⟨rfl,rfl,rfl,rfl,fun _=>rfl⟩
def fW.congr{e0:qP}{x x1:AS}(h1:e.ws=e0.ws)(h2:e.wh=e0.wh)(h3:e.wg=e0.wg)(h:fW e0 s1 x x1):fW e s1 x x1 :=
 ⟨fun t ht=>h.T t (by rw[<- h1];exact ht),fun t ht=>h.T' t (by rw[<- h1];exact ht),fun a=>h.H (by rw[<- h2];exact a),fun a=>h.H' (by rw[<- h2];exact a),fun a=>h.G (by rw[<- h3];exact a),fun a=>h.G' (by rw[<- h3];exact a)⟩
def af0{L:List Nat}(hq:lj L ops o=some q)(he:Mg pc L ops o=some e) :
  e.ws=[q.2.2.1]/\e.wh=false/\e.wg=false/\(∀ t,t∈q.2.2.2.tmps->t∈e.rs)/\e.rh=false:=by
 obtain⟨rfl,hc,_⟩:=DP hq;unfold Mg at he;rw[hq] at he;simp only[Jx,vW,hc,F7,au2,auR,zW,iv] at he;subst he;simp
def Z3{s:AS}(ho:o=⟨some q.2.2.1,none,.load false q.1 q.2.1 q.2.2.2⟩)(hc:gv .heap (q.2.2.2.addr G s.T)=true)(h:aP G cf s o=some s1) :
  ∃ z,cO s false q.1 q.2.1 (q.2.2.2.addr G s.T)=some (z,none)/\s1=s.bW (some q.2.2.1) z:=by
 subst ho;simp only[aP,aQ,auQ] at h;obtain⟨⟨z,so⟩,h1,h2⟩:=h;obtain⟨h3,rfl⟩:=vn hc rfl h1;refine⟨z,h3,?_⟩
 simpa using h2.symm
def af1{x:AS}(ho:o=⟨some q.2.2.1,none,.load false q.1 q.2.1 q.2.2.2⟩)(h:cO x false q.1 q.2.1 (q.2.2.2.addr G x.T)=some (z,none)) :
  aP G cf x o=some (x.bW (some q.2.2.1) z):=by
 subst ho;simp[aP,aQ,h]
def V9{L:List Nat}{pre cl:List (List Nat)}(IT:F8 pc L ops ops=some es)(qE:okS L ops pre cl es ord=true)
  {s s' : AS} (he:gM G cf (G6 pc L ops cl es [] ord) s=some s') {Q:AS->Prop} (hQ:Q s'):wL G cf ops pre ops.length (Array.replicate ops.length false) s Q:=by
 obtain⟨ij,hol,Qt,aZ,yu,mo,TX⟩:=okP qE;obtain⟨S,h0,hn,hS⟩:=A6 ord [] s s' aZ he;rw[hol] at hn;obtain⟨apO,am1⟩:=F9 IT
 let π:Nat->Nat:=fun p=>ord.getD p 0
 let E:Nat->qP:=fun p=>es.getD (π p) default
 have hπ:∀ p,p<ops.length->ord[p]?=some (π p):=fun p hp=>by
  have:p<ord.length:=by omega
  simp[π,this]
 have hπl:∀ p,p<ops.length->π p<ops.length:=fun p hp=>aZ _ (au0 (hπ p hp))
 have hπi:∀ p q,p<ops.length->q<ops.length->π p=π q->p=q:=fun p q hp hq h=>by
  have a:=hπ p hp;have b:=hπ q hq;obtain⟨a1,a2⟩:=auU.1 a;obtain⟨b1,b2⟩:=auU.1 b;exact (List.getElem_inj Qt).1 (by rw[a2,b2,h])
 have CT:∀ i,i<ops.length->∃ p,p<ops.length/\π p=i:=fun i hi=>by
  have hm:i∈ord:=by
   cases hc:ord.contains i with
   | true=>simpa using hc
   | false =>
    have hni:i∉ord:=by simpa using hc
    have:=Aa ops.length (i :: ord) (axt.2 ⟨hni,Qt⟩) (fun j hj=>by
     rcases avi.1 hj with rfl|hj
     ·exact hi
     ·exact aZ j hj)
    simp at this;omega
  obtain⟨p,hp,e⟩:=List.mem_iff_getElem.1 hm;refine⟨p,by omega,?_⟩
  simp[π,hp,e]
 have hSp:∀ p,p<ops.length->∃ o,ops[π p]?=some o/\Mg pc L ops o=some (E p) /\
   (∀ c y,vW ops L o.op=some (c,y)->(∀ g w,o.guard=some (g,w)->(S p).T g=.bool w)->gv c (y.addr G (S p).T)=true) /\
   aP G cf (S p) (nh pc o)=some (S (p+1)) /\
   ((E p).wh=true->∀ j,j∈ord.take p->(cl.getD (π p) []).contains j=false->∀ q,(ops[j]?).bind (lj L ops)=some q->Aq G (S (p+1)) q):=fun p hp=>by
  obtain⟨o,a,b,c,d⟩:=hS p (π p) (hπ p hp);exact⟨o,a,am1 _ o a,b,c,fun hw j hj=>d hw j (by simpa using hj)⟩
 have R5:∀ (e:qP) (q:AS),Agr e q q:=fun e q=>⟨fun _ _=>rfl,fun _=>⟨rfl,rfl⟩,fun _=>rfl⟩
 have hK:RU S E ops.length:=by
  have mv:∀ j,j<ops.length->fW (E j) (S (j+1)) (S j) (S (j+1)):=by
   intro j hj;obtain⟨o,ho,hx,hc,cu,_⟩:=hSp j hj;obtain⟨e0,he0,_,e2,e3,e4,_⟩:=Jz hx;obtain⟨x1,h1,h2,_⟩:=De he0 hc cu (R5 _ (S j));rw[y3 cu] at h1;injection h1 with h1
   rw[<- h1] at h2;exact h2.congr e2 e3 e4
  refine⟨fun t j hj hw=>(mv j hj).T' t hw,fun j hj hw=>?_,fun j hj hw=>(mv j hj).G' (by simpa using hw)⟩
  have:=(mv j hj).H' (by simpa using hw)
  simp only[this]
 have aaX:∀ p q,p<q->q<ops.length->conflict (E q) (E p)=true->π p∈cl.getD (π q) []:=by
  intro p q hpq hq hc;have:=TX q hq p hpq
  simp only[Dm,auT] at this;have h1:=this.1.1;simp only[E,π] at hc;rw[hc] at h1
  simpa [π] using h1
 have main:∀ (n:Nat) (B:Array Bool) (x:AS),B.size=ops.length->(∀ l:List Nat,l.Nodup->(∀ i,i∈l->i<ops.length/\B.getD i true=false)->l.length<=n) ->
   (∀ k,k<ops.length->B.getD k false=true->∀ e,e∈pre.getD k []->B.getD e false=true) ->
   wG S E (fun p=>p<ops.length/\B.getD (π p) false=true) x->wL G cf ops pre n B x Q:=by
  intro n;have fin:∀ (B:Array Bool) (x:AS),(∀ i,i<ops.length->B.getD i false=true)->wG S E (fun p=>p<ops.length/\B.getD (π p) false=true) x->Q x:=by
   intro B x fq hB;rw[LX hK hB (fun j=>⟨fun h=>h.1,fun h=>⟨h,fq _ (hπl j h)⟩⟩),hn]
   exact hQ
  have mem_ready:∀ (B:Array Bool) (i:Nat),i∈jS pre B↔i<ops.length/\B.getD i true=false/\∀ e,e∈pre.getD i []->B.getD e false=true:=by
   intro B i;unfold jS;rw[axe,awv,ij];simp only[auT,avg,auX]
  induction n with
  | zero =>
   intro B x Qs adt BJ hB;have fq:∀ i,i<ops.length->B.getD i false=true:=by
    intro i hi;cases hb:B.getD i true with
    | true =>
     have:i<B.size:=by omega
     simpa [this] using hb
    | false =>
     have:=adt [i] (by simp) (fun j hj=>by simp at hj;subst hj;exact⟨hi,hb⟩)
     simp at this
   refine⟨?_,fin B x fq hB⟩;cases hr:jS pre B with
   | nil=>rfl
   | cons i r =>
    obtain⟨h1,h2,_⟩:=(mem_ready B i).1 (by rw[hr];exact List.mem_cons_self)
    have:=fq i h1
    have uE:i<B.size:=by omega
    simp[uE] at this h2;rw[this] at h2;cases h2
  | succ n ih =>
   intro B x Qs adt BJ hB;refine⟨fun adV=>fin B x ?_ hB,fun i hi=>?_⟩
   ·intro i
    induction i using Nat.strongRecOn with
    | _ i OJ =>
     intro Qq;have uE:i<B.size:=by omega
     cases hb:B.getD i true with
     | true=>simpa [uE] using hb
     | false =>
      exfalso;have:i∈jS pre B:=(mem_ready B i).2 ⟨Qq,hb,fun e he=>OJ e (yu i Qq e he) (by have:=yu i Qq e he;omega)⟩
      rw[adV] at this;cases this
   ·obtain⟨Qq,adZ,Tu⟩:=(mem_ready B i).1 hi
    have uE:i<B.size:=by omega
    obtain⟨p,hp,rfl⟩:=CT i Qq;obtain⟨o,ho,hx,hc,cu,Lv⟩:=hSp p hp;have aiW:¬ (B.getD (π p) false=true):=by
     simp[uE] at adZ ⊢;exact adZ
    have ready:∀ j,j∈cl.getD (π p) []->B.getD j false=true:=by
     intro j hj;obtain⟨e,h1,h2⟩:=mo (π p) Qq j hj;have:=Tu e h1
     rcases h2 with rfl|h2
     ·exact this
     ·exact F3 (X:=fun i=>B.getD i false=true) yu mo BJ e (by have:=yu _ Qq e h1;omega) this j h2
    have closed:∀ r,r<ops.length->B.getD (π r) false=true->π p∉cl.getD (π r) []:=fun r hr hb hm =>
     aiW (F3 (X:=fun i=>B.getD i false=true) yu mo BJ (π r) (hπl r hr) hb (π p) hm)
    have later:∀ j,p<j->conflict (E j) (E p)=true->¬ (j<ops.length/\B.getD (π j) false=true):=fun j hpj hcj hj=>closed j hj.1 hj.2 (aaX p j hpj hj.1 hcj)
    have Oc:∀ j,j<p->conflict (E p) (E j)=true->(j<ops.length/\B.getD (π j) false=true):=fun j hj hcj=>⟨by omega,ready _ (aaX j p hj hp hcj)⟩
    have hX:¬ (p<ops.length/\B.getD (π p) false=true):=fun h=>aiW h.2
    have step:∃ x1,aP G cf x o=some x1/\fW (E p) (S (p+1)) x x1:=by
     cases gZ:lj L ops o with
     | none =>
      obtain⟨e0,he0,_,_,_,_,e5⟩:=Jz hx;have hA:Agr (E p) (S p) x:=Ca hK hp hB hX Oc later;have e5' : E p=e0:=e5 gZ;rw[e5'] at hA;obtain⟨x1,h1,h2,_⟩:=De he0 hc cu hA;rw[<- e5'] at h2;exact⟨x1,h1,h2⟩
     | some q =>
      obtain⟨hoq,amT,anG⟩:=DP gZ;obtain⟨f1,f2,f3,f4,f5⟩:=af0 gZ hx;have hTr:=(Ca hK hp hB hX Oc later).T;have hck:gv .heap (q.2.2.2.addr G (S p).T)=true:=by
       refine hc .heap q.2.2.2 ?_ (fun g w h=>by rw[hoq] at h;cases h)
       rw[hoq];simp only[vW,amT]
      obtain⟨z,hz1,T9⟩:=Z3 hoq hck (y3 cu);have hzd:(S (p+1)).T q.2.2.1=z:=by rw[T9];simp[AS.bW,fM]
      have had:q.2.2.2.addr G x.T=q.2.2.2.addr G (S p).T:=B5 (s:=S p) (x:=x) (e:=E p) hTr f4;have TM:cO x false q.1 q.2.1 (q.2.2.2.addr G x.T)=some (z,none):=by
       rw[had];have J' : ∀ a b,a<=b->b<=ops.length->(∀ j,a<=j->j<b->¬ ((E j).wh=true))->(S b).H=(S a).H:=fun a b h1 h2 h3=>by
        have:=sk (f:=fun s:AS=>(s.H,s.lo)) (w:=fun j=>(E j).wh=true) (fun j=>hK.H j) b h1 h2 h3
        simp only[auV] at this;exact this.1
       have wl:∀ j,j<p->(E j).wh=true->(j<ops.length/\B.getD (π j) false=true):=by
        intro j hj hw;refine⟨by omega,ready _ ?_⟩
        have:=TX p hp j hj
        simp only[Dm,auT] at this;have h1:=this.1.2;have h2:QL L ops (ord.getD p 0)=true:=by simp only[QL];rw[show ops[ord.getD p 0]?=some o from ho];simp[gZ]
        have h3:(es.getD (ord.getD j 0) default).wh=true:=hw;rw[h2,h3] at h1
        simpa [π] using h1
       rcases hB.H with ⟨i,hXi,WA,TP,hHe⟩|⟨mH,hHe⟩
       ·simp only[auV] at hHe
        rcases aw4 i p with hip|hip|hip
        ·have:(S p).H=(S (i+1)).H:=J' (i+1) p (by omega) (by omega) (fun j h1 h2 hw=>by
          have:=TP j (wl j h2 hw) hw
          omega)
         exact (vn hck (by rw[hHe.1,this]) hz1).1
        ·subst hip
         have:(E i).wh=false:=f2
         rw[this] at WA;cases WA
        ·
         have hpi:=TX i hXi.1 p hip;simp only[Dm,auT] at hpi;have h1:=hpi.2;have h2:QL L ops (ord.getD p 0)=true:=by simp only[QL];rw[show ops[ord.getD p 0]?=some o from ho];simp[gZ]
         have h3:(es.getD (ord.getD i 0) default).wh=true:=WA;have h4:(cl.getD (ord.getD i 0) []).contains (ord.getD p 0)=false:=by
          have:=closed i hXi.1 hXi.2
          simpa [π] using this
         rw[h2,h3,h4] at h1;simp only[Bool.and_self,avW,avP,auX,awv,awl,avm,avg] at h1;have an' : stT L ops (ord.getD p 0)=q.2.2.1 :: q.2.2.2.tmps:=by
          simp only[stT];rw[show ops[ord.getD p 0]?=some o from ho];simp[gZ]
         have Kc:∀ t,t∈q.2.2.1 :: q.2.2.2.tmps->(S (i+1)).T t=(S (p+1)).T t:=by
          intro t ht;refine sk (f:=fun s:AS=>s.T t) (w:=fun j=>t∈(E j).ws) (fun j=>hK.T t j) (i+1) (by omega) (by omega) (fun j j1 j2 hw=>?_)
          rcases h1 j j2 with h|h
          ·omega
          ·rw[an'] at h
           have:=vp (x:=(E j).ws) hw ht
           rw[show meets (E j).ws (q.2.2.1 :: q.2.2.2.tmps)=false from h] at this
           cases this
         obtain⟨_,_,_,_,_,amM⟩:=hSp i hXi.1;have MF:π p∈ord.take i:=by
          refine au0 (i:=p) ?_;rw[avn,if_pos hip];exact hπ p hp
         have hA:=amM WA (π p) MF h4 q (by rw[ho];exact gZ)
         unfold Aq at hA;have hpT:∀ t,t∈q.2.2.2.tmps->(S (p+1)).T t=(S p).T t:=fun t ht=>by
          rw[T9];simp only[AS.bW,fM];rw[if_neg (fun h=>anG (by rw[<- h];exact ht))]
         have amL:q.2.2.2.addr G (S (i+1)).T=q.2.2.2.addr G (S p).T :=
          B5 (s:=S p) (x:=S (i+1)) (e:=⟨q.2.2.2.tmps,[],false,false,false⟩) (fun t ht=>(Kc t (av3 _ ht)).trans (hpT t ht)) (fun t ht=>ht)
         rw[amL,Kc _ List.mem_cons_self,hzd] at hA;exact (vn hck hHe.1 hA).1
       ·simp only[auV] at hHe
        have:(S p).H=(S 0).H:=J' 0 p (by omega) (by omega) (fun j _ h2 hw=>mH j (wl j h2 hw) hw)
        exact (vn hck (by rw[hHe.1,this]) hz1).1
      have hM:fW (E p) (S (p+1)) x (x.bW (some q.2.2.1) z):=by
       refine⟨fun t ht=>?_,fun t ht=>?_,fun h=>?_,fun _=>⟨rfl,rfl⟩,fun h=>?_,fun _=>rfl⟩
       ·rw[f1] at ht
        rw[ava.1 ht,hzd];simp[AS.bW,fM]
       ·rw[f1] at ht
        have:t≠q.2.2.1:=by simpa using ht
        simp[AS.bW,fM,this]
       ·rw[show (E p).wh=false from f2] at h;cases h
       ·rw[show (E p).wg=false from f3] at h;cases h
      exact⟨_,af1 hoq TM,hM⟩
    obtain⟨x1,nN,hM⟩:=step;refine⟨o,x1,ho,nN,?_⟩;have qc:∀ j,(B.setIfInBounds (π p) true).getD j false=true↔(B.getD j false=true\/j=π p):=by
     intro j
     by_cases hji:π p=j
     ·subst hji
      simp[uE]
     ·rw[getD_set_ne false hji]
      simp[awf hji]
    have hB':=Jf hB hX later hM;have ady:∀ j,((j<ops.length/\B.getD (π j) false=true)\/j=p)↔(j<ops.length/\(B.setIfInBounds (π p) true).getD (π j) false=true):=by
     intro j;rw[qc];constructor
     ·rintro (⟨h1,h2⟩|rfl)
      ·exact⟨h1,.inl h2⟩
      ·exact⟨hp,.inr rfl⟩
     ·rintro ⟨h1,h2|h2⟩
      ·exact .inl ⟨h1,h2⟩
      ·exact .inr (hπi j p h1 hp h2)
    refine ih (B.setIfInBounds (π p) true) _ (by simpa using Qs) (fun l Qt hl=>?_) (fun j hj hjb e he=>?_) ⟨fun t=>wO ady (hB'.T t),wO ady hB'.H,wO ady hB'.G⟩
    ·have aio:π p∉l:=by
      intro hm;have:=(hl _ hm).2
      simp[uE] at this
     have:=adt (π p :: l) (axt.2 ⟨aio,Qt⟩) (fun j hj=>by
      rcases avi.1 hj with rfl|hj
      ·exact⟨Qq,adZ⟩
      ·have h1:=hl j hj
       have hji:π p≠j:=by rintro rfl;exact aio hj
       rw[getD_set_ne true hji] at h1;exact h1)
     simp at this;omega
    ·rcases (qc j).1 hjb with h|rfl
     ·exact (qc _).2 (.inl (BJ j hj h e he))
     ·exact (qc _).2 (.inl (Tu e he))
 have mH:∀ i,¬ ((Array.replicate ops.length false).getD i false=true):=by
  intro i h;have:(Array.replicate ops.length false).getD i false=false:=by
   by_cases h:i<ops.length<;>simp[h]
  rw[this] at h;cases h
 refine main ops.length _ _ (by simp) (fun l Qt hl=>Aa ops.length l Qt (fun i hi=>(hl i hi).1)) (fun j _ h=>absurd h (mH j)) ?_
 rw[<- h0];exact Je fun j h=>mH _ h.2
end
end
section
section
variable {G:Nat->List AV}{cf:gD}
def Ao:∀ (l:List aS) (s:AS) {Q:AS->Prop},QY l=true->pW G cf l s Q->∃ s1,gM G cf l s=some s1/\Q s1
 | [],s,Q,_,h=>⟨s,rfl,h⟩
 | o :: l,s,Q,hn,h=>by
  simp only[QY,List.all_cons,auT] at hn;unfold pW at h;rw[awD.1 hn.1] at h;obtain⟨s',h1,h2⟩:=h;obtain⟨s1,h3,h4⟩:=Ao l s' hn.2 h2;exact⟨s1,by simp only[gM,h1,auW,h3],h4⟩
def Il{L:List Nat}{pre:List (List Nat)}{c:aH}{s:AS}(hc:WN G cf c s Q->WN G cf (.qQ ops pre) s Q)(h:WN G cf (orR L ops pre c pc) s Q):WN G cf (.qQ ops pre) s Q:=by
 unfold orR at h;split at h
 ·rename_i l hl
  cases hb:QY l with
  | false=>rw[hb] at h;exact hc h
  | true =>
   rw[hb] at h;obtain⟨s1,h1,hq⟩:=Ao l s hb h;simp only[V8,auQ] at hl;obtain⟨es,IT,hl⟩:=hl;obtain⟨qE,hl⟩:=al hl;injection hl with hl
   subst hl;exact V9 IT qE h1 hq
 ·exact hc h
def pV{L:List Nat} : ∀ (c:aH) (s:AS) {Q:bJ->AS->Prop},WN G cf (ze L c) s Q->WN G cf c s Q
 | .skip,s,Q,h|.exit _,s,Q,h|.ret,s,Q,h|.region _,s,Q,h=>h
 | .qQ ops pre,s,Q,h=>Il (Il id) h
 | .seq a b,s,Q,h=>jL a s (pV a s h) (lq (fun s h=>pV b s h) fun _ _ h=>h)
 | .cond c a b,s,Q,⟨t,h1,h2,h3⟩=>⟨t,h1,fun e=>pV a s (h2 e),fun e=>pV b s (h3 e)⟩
 | .block i a,s,Q,h=>pV a s h
 | .loop a,s,Q,⟨n,h⟩=>⟨n,by
  have go:∀ (n:Nat) (s:AS),yJ (WN G cf (ze L a)) n s Q->yJ (WN G cf a) n s Q:=by
   intro n
   induction n with
   | zero=>exact fun _ h=>h
   | succ n ih=>exact fun s h=>jL a s (pV a s h) (lq ih fun _ _ h=>h)
  exact go n s h⟩
end
section
variable {P:Program}{G:Nat->List AV}{H:ae}
def G1{cf:gD}(tO:je P G cf)(hm:P.follows .mixedOrders=true)(IU:P.funcs[f]?=some fn){v:ax}(hc:bo P dW locals muts fn=some v)
  {args:List AV} {r:AV} {c:Option fR} (RD:args.length=v.np) (xK:jF H c) (he:WN G cf v.body { T:=fm args,H,lo:=H.length,gen:=0 } fun e s=>match e with|.exit _=>False|_=>finish H.length v s=some (r,c)) :
  (∃ fn,P.funcs[f]?=some fn/\fn.body.isSome=true/\fn.name≠ "runtime.NumGoroutine")/\jF H c /\
  ∀ (base:Nat) (gh:Gh) (w:World) (vs:Array Value),bf G base H gh w->clean gh->vs.size=args.length->(∀ (j:Nat) (v:Value) (x:AV),vs[j]?=some v->args[j]?=some x->CR gh H.length w (.par j) v x) ->
   Calls P f vs w fun e w'=>∃ v bt,e=.returned v/\oY G base H gh w r c v bt w':=by
 simp only[bo,SB,auP,auQ] at hc;obtain⟨qd,⟨code,J2,b,hb,rs,OG,hc⟩,rfl⟩:=hc;obtain⟨h0,hc⟩:=al hc;injection hc with hc
 subst hc;simp only[auT,avm,bne_iff_ne,ne_eq] at h0;refine⟨⟨fn,IU,by rw[J2];rfl,h0.2⟩,xK,fun base gh w vs hW mo Fx dv=>?_⟩
 refine calls_of_wp IU J2 ?_;have RD:args.length=fn.params.size+fn.nfree:=RD;refine oa tO hm code b hb _ gh.taken w _ _ _ (Uc (locals:=locals) (muts:=muts) hW Fx (by omega) dv) (pV _ _ he) (fun e s' a' bt w' hr Be=>?_)
 cases e with
 | exit i=>exact hr.elim
 | _ =>
  obtain⟨_,v,gh2,hv,hR⟩:=Rj (P:=P) hW mo Be OG hr;exact⟨Be.F.defers,v,hv,v,gh2,rfl,hR⟩
structure lL (P:Program) (A:AP):Prop where
 mixed:P.follows .mixedOrders=true
 fns:∀ f v,A.fns f=some v->∃ fn dW locals muts,P.funcs[f]?=some fn/\bo P dW locals muts fn=some v
 ov:∀ f g,A.ov f=some g->fU P A.aW f g
def zL{A:AP}(h:lL P A):∀ n,je P A.aW (D3 A n)
 | 0=>fun f args H r c he=>by cases he
 | n+1=>fun f args H r c he=>by
  simp only[D3] at he;split at he
  ·rename_i g hg
   obtain⟨h0,he⟩:=al he;obtain⟨k1,k2,k3⟩:=h.ov f g hg args H r c he;refine⟨k1,k2,fun base gh w vs hW mo Fx dv=>k3 base gh w vs hW mo Fx (fun j v x hv hx=>?_)⟩
   rcases dv j v x hv hx with h|⟨e,rfl,_⟩
   ·exact h
   ·have:=auX.1 h0 _ (au0 hx)
    simp[vw] at this
  ·split at he
   ·cases he
   ·rename_i v hf
    obtain⟨fn,dW,locals,muts,IU,hc⟩:=h.fns f v hf;have tO:=zL h n;simp only[y5] at he;obtain⟨h1,he⟩:=al he;simp only[auQ] at he;obtain⟨⟨ex,s'⟩,cu,he⟩:=he;have we:=wT (H:=H) (fun f args H r c h=>(tO f args H r c h).2.1) n v.body _ s' ex cu ⟨Nat.le_refl _,Nat.le_refl _,fun _ _=>rfl⟩
    refine G1 tO h.mixed IU hc (avR h1) ?_ (A8 n _ _ cu ?_)
    ·cases ex with
     | exit i=>cases he
     | _=>exact CD we he
    ·cases ex with
     | exit i=>cases he
     | _=>exact he
def Sy{A:AP}(hA:lL P A):je P A.aW (aj A):=by
 intro f args H r c h;obtain⟨n,hn⟩:=o5.1 h;exact zL hA n f args H r c hn
def nT{A:AP}(hA:lL P A) : fU P A.aW f (aj A f):=fun args H r c he=>by
 obtain⟨k1,k2,k3⟩:=Sy hA f args H r c he;exact⟨k1,k2,fun base gh w vs hW mo Fx dv=>k3 base gh w vs hW mo Fx fun j v x hv hx=>.inl (dv j v x hv hx)⟩
def ab7{A:AP}(hA:lL P A)(IU:P.funcs[f]?=some fn){qd:ax}(hc:bo P dW locals muts fn=some qd){g:List AV->ae->Option (AV × Option fR)}
  (Mx:∀ args H r c,g args H=some (r,c)->jF H c)
  (hg:∀ args H x,g args H=some x->args.length=qd.np/\WN A.aW (aj A) qd.body { T:=fm args,H,lo:=H.length,gen:=0 } (fun e s=>match e with|.exit _=>False|_=>finish H.length qd s=some x)):fU P A.aW f g:=by
 intro args H r c he;obtain⟨RD,hwn⟩:=hg args H (r,c) he;obtain⟨k1,k2,k3⟩:=G1 (Sy hA) hA.mixed IU hc RD (Mx args H r c he) hwn;exact⟨k1,k2,fun base gh w vs hW mo Fx dv=>k3 base gh w vs hW mo Fx fun j v x hv hx=>.inl (dv j v x hv hx)⟩
end
end
section
section
variable {A:AP}{T:aD}{H:ae}{lo gen:Nat}{K:AS->Prop}{os:List aS}{t:Nat}
def afS{agg:Bool}{sz b:Nat}{x:aE} : WO A (⟨none,none,.same agg sz b x⟩ :: os) ⟨T,H,lo,gen⟩ K=(yO T H agg sz (x.addr A.aW T)=some (T b)/\WO A os ⟨T,H,lo,gen⟩ K):=by
 have hl:cO ⟨T,H,lo,gen⟩ false agg sz (x.addr A.aW T)=(yO T H agg sz (x.addr A.aW T)).map (·,none):=by
  simp only[cO,yO,avk,cond_false];cases x.addr A.aW T with
  | ref loc off=>cases hl:H[loc]? with
   | none=>simp only[hl,bS];rfl
   | some o=>cases o<;>simp only[hl,bS]<;>rfl
  | eref b g i z off =>
   simp only[yR];cases T b<;>try rfl
   rename_i g' e;cases hb:Nat.beq g g'<;>simp only[hb,cond_true,cond_false,av6]
   cases he:e[i]?<;>simp only[auW,Option.bind_none,DA,av6]
   rename_i r;cases hr:Nat.beq r.length z<;>simp only[cond_true,cond_false,av6]
  | lref b g off =>
   simp only[oV];cases T b<;>try rfl
   rename_i g' cs;cases hb:Nat.beq g g'<;>simp only[hb,cond_true,cond_false,av6]
  | _=>rfl
 rw[gl];simp only[aP,aQ,hl];refine propext ?_;cases yO T H agg sz (x.addr A.aW T) with
 | none=>simp[ca]
 | some v =>
  simp only[au2];cases hq:qm v (T b) with
  | false =>
   have:v≠T b:=fun e=>by rw[e,Ct] at hq;cases hq
   simp[ca,this]
  | true=>simp[ca,fz,AS.bW,Hy _ _ hq]
def Zw{cs:List AV}{agg:Bool}{sz off:Nat} : bS (some (.bV cs)) agg sz off=ab false agg sz off cs:=rfl
end
end
end Go.Abs
namespace Go.Proofs.YtnhpoddlmjpapaaGreatDoor
open Go Go.Abs Go.Proofs
section
section
variable {P:Program}{t l m:List Nat}{n:Nat}{a b:Code}{x y:aH}
def cF(P:Program)(t l m:List Nat)(n:Nat)(a:Code):Option aH:=(js P t l m n a).map (ze l)
def fX(h:cF P t l m n a=some x)(k:cF P t l m n b=some y):cF P t l m n (.seq a b)=some (.seq x y):=by
 simp only[cF,auP] at *;obtain⟨_,h,rfl⟩:=h;obtain⟨_,k,rfl⟩:=k;simp[js,h,k,ze]
def dB{c:Operand}{z:aE}(i:ar n c=some z)(h:cF P t l m n a=some x)(k:cF P t l m n b=some y):cF P t l m n (.cond c a b)=some (.cond z x y):=by
 simp only[cF,auP] at *;obtain⟨_,h,rfl⟩:=h;obtain⟨_,k,rfl⟩:=k;simp[js,h,k,i,ze]
def cK{i:Nat}(h:cF P t l m n a=some x):cF P t l m n (.block i a)=some (.block i x):=by
 simp only[cF,auP] at *;obtain⟨_,h,rfl⟩:=h;simp[js,h,ze]
def dC(h:cF P t l m n a=some x):cF P t l m n (.loop a)=some (.loop x):=by
 simp only[cF,auP] at *;obtain⟨_,h,rfl⟩:=h;simp[js,h,ze]
def cM(h:cF P t l m n a=some x):cF P t l m n (.scope a)=some x:=h
def qM(f:Func){r:List gY}{k:Nat}(h:f.body=some a)(hn:f.ntmps=n)(i:cF P t l m n a=some x)(j:kA P n f.results.toList=some r)(c:(Nat.ble (f.params.size+f.nfree) n&&f.name != "runtime.NumGoroutine")=true)(e:f.params.size+f.nfree=k):bo P t l m f=some ⟨t,l,m,n,k,r,x⟩:=by
 subst hn e;simp only[cF,auP] at i;obtain⟨_,i,rfl⟩:=i;simp[bo,SB,h,i,j,c]
end
def pT:Program:=⟨Tryz.progTables,#[]⟩
def H3(f:Func)(i:ax):Option ax:=bo Tryz.prog i.dW i.locals i.muts f
def tM(t l m:List Nat)(f:Func):ax:=(bo Tryz.prog t l m f).getD ⟨[],[],[],0,0,[],.skip⟩
noncomputable def ir3:ax:=by
 apply (fun{x:ax}(_:bo pT [10,11,12,13,14,16,42,52,700015] [15] [] Tryz.f3=some x)=>x);apply qM Tryz.f3 rfl rfl ?_ ?_ rfl rfl
 repeat' first|apply fX|apply dB|apply cK|apply dC|apply cM
 all_goals try(conv=>lhs;cbv)
 all_goals rfl
noncomputable def ir4:ax:=by
 apply (fun{x:ax}(_:bo pT [2,3,4] [1] [] Tryz.f4=some x)=>x);apply qM Tryz.f4 rfl rfl ?_ ?_ rfl rfl
 repeat' first|apply fX|apply dB|apply cK|apply dC|apply cM
 all_goals try(conv=>lhs;cbv)
 all_goals rfl
noncomputable def I4:ax:=by
 apply (fun{x:ax}(_:bo pT [3,5,6,7,8,10,11,29,78,86,115] [2,4,9,12] [777777] Tryz.f5=some x)=>x);apply qM Tryz.f5 rfl rfl ?_ ?_ rfl rfl
 repeat' first|apply fX|apply dB|apply cK|apply dC|apply cM
 all_goals try(conv=>lhs;cbv)
 all_goals rfl
noncomputable def ir6:ax:=by
 apply (fun{x:ax}(_:bo pT [8,9,10,11,12,13,14,15,16,17,18,19,27] [] [] Tryz.f6=some x)=>x);apply qM Tryz.f6 rfl rfl ?_ ?_ rfl rfl
 repeat' first|apply fX|apply dB|apply cK|apply dC|apply cM
 all_goals try(conv=>lhs;cbv)
 all_goals rfl
def ir7:ax:=by refine(fun(_:bo pT [4] [] [] Tryz.f7=some ?x)=>?x) ?_;rotate_left;conv=>lhs;cbv
def ir8:ax:=tM [3,4,5,6,7,9,10,13,15,16,17,18,19,20,21,22,45,50,56,68,78,84,109,113,120,129,147,158,181,186,193,199,30,33,95,138,700002,700008,700012,700014] [2,8,12,14,82,999999] [19,158,165,186,189] Tryz.f8
def ir9:ax:=by refine(fun(_:bo pT [2,3,4,7,20,700006] [6,999999] [] Tryz.f9=some ?x)=>?x) ?_;rotate_left;conv=>lhs;cbv
def aos:ax:=tM [0,1,2,3,4,6,18,24,30,45,50,55,700005,700007,700008] [5,7,8,999999] [2,10] Tryz.f10
def Yg:ax:=by refine(fun(_:bo pT [1,4,5,6] [] [1,11] Tryz.f11=some ?x)=>?x) ?_;rotate_left;conv=>lhs;cbv
def ad6:ax:=by refine(fun(_:bo pT [2,3,4,9,25] [1] [] Tryz.f12=some ?x)=>?x) ?_;rotate_left;conv=>lhs;cbv
noncomputable def ad7:ax:=by
 apply (fun{x:ax}(_:bo pT [2,3,4,25,28,36,48,58,64,70,74,77] [1] [] Tryz.f13=some x)=>x);apply qM Tryz.f13 rfl rfl ?_ ?_ rfl rfl
 repeat' first|apply fX|apply dB|apply cK|apply dC|apply cM
 all_goals try(conv=>lhs;cbv)
 all_goals rfl
def ad8:ax:=by refine(fun(_:bo pT [2] [] [777777] Tryz.f14=some ?x)=>?x) ?_;rotate_left;conv=>lhs;cbv
noncomputable def ad9:ax:=by
 apply (fun{x:ax}(_:bo pT [4] [] [777777] Tryz.f15=some x)=>x);apply qM Tryz.f15 rfl rfl ?_ ?_ rfl rfl
 repeat' first|apply fX|apply dB|apply cK|apply dC|apply cM
 all_goals try(conv=>lhs;cbv)
 all_goals rfl
def aea:ax:=by refine(fun(_:bo pT [6,7,8,16,22] [] [777777] Tryz.f16=some ?x)=>?x) ?_;rotate_left;conv=>lhs;cbv
def aeb:ax:=by refine(fun(_:bo pT [4,5,6,7,29] [] [] Tryz.f17=some ?x)=>?x) ?_;rotate_left;conv=>lhs;cbv
def xf:ax:=by refine(fun(_:bo pT [5,18,10,15,27,28,700004] [4] [777777] Tryz.f18=some ?x)=>?x) ?_;rotate_left;conv=>lhs;cbv
noncomputable def fA:ax:=by
 apply (fun{x:ax}(_:bo pT [5,6,7,8,9,10,11,12,20,26,34,39,48,64,79,100,112,122,134,146,156,168,180,189,25,33,38,47,63,78,99,121,133,145,179,188,201,219,222,700004] [4] [777777] Tryz.f19=some x)=>x);apply qM Tryz.f19 rfl rfl ?_ ?_ rfl rfl
 repeat' first|apply fX|apply dB|apply cK|apply dC|apply cM
 all_goals try(conv=>lhs;cbv)
 all_goals rfl
def aje:ax:=by refine(fun(_:bo pT [2,3,4,5,6,7,8,9,32,38] [] [] Tryz.f20=some ?x)=>?x) ?_;rotate_left;conv=>lhs;cbv
def aec:ax:=by refine(fun(_:bo pT [0,4] [] [] Tryz.f21=some ?x)=>?x) ?_;rotate_left;conv=>lhs;cbv
def aed:ax:=by refine(fun(_:bo pT [2,3,4,5,12,23] [] [] Tryz.f22=some ?x)=>?x) ?_;rotate_left;conv=>lhs;cbv
def ajg:ax:=by refine(fun(_:bo pT [2,3,4,5,6,7,8,9,38,46] [999999] [] Tryz.f23=some ?x)=>?x) ?_;rotate_left;conv=>lhs;cbv
def Ut:ax:=by refine(fun(_:bo pT [] [999999] [] Tryz.f24=some ?x)=>?x) ?_;rotate_left;conv=>lhs;cbv
def aee:ax:=by refine(fun(_:bo pT [2,3] [999999] [] Tryz.f25=some ?x)=>?x) ?_;rotate_left;conv=>lhs;cbv
def Uu:ax:=by refine(fun(_:bo pT [] [999999] [] Tryz.f26=some ?x)=>?x) ?_;rotate_left;conv=>lhs;cbv
noncomputable def vP:ax:=by
 apply (fun{x:ax}(_:bo pT [34,8,700002,700003] [2,999999,999998] [777777] Tryz.f27=some x)=>x);apply qM Tryz.f27 rfl rfl ?_ ?_ rfl rfl
 repeat' first|apply fX|apply dB|apply cK|apply dC|apply cM
 all_goals try(conv=>lhs;cbv)
 all_goals rfl
def Yh:H3 Tryz.f27 vP=some vP:=by kernel_rfl
def aef:ax:=by refine(fun(_:bo pT [6,7,19,700009] [9,999999] [] Tryz.f28=some ?x)=>?x) ?_;rotate_left;conv=>lhs;cbv
def HZ:ax:=by refine(fun(_:bo pT [2,3,5,18,36,6] [999999] [] Tryz.f29=some ?x)=>?x) ?_;rotate_left;conv=>lhs;cbv
noncomputable def C3:ax:=by
 apply (fun{x:ax}(_:bo pT [2,3,4,9,34,59,83,93,100,106,111,136,14,700005] [5,999999] [] Tryz.f30=some x)=>x);apply qM Tryz.f30 rfl rfl ?_ ?_ rfl rfl
 repeat' first|apply fX|apply dB|apply cK|apply dC|apply cM
 all_goals try(conv=>lhs;cbv)
 all_goals rfl
noncomputable def aeg:ax:=by
 apply (fun{x:ax}(_:bo pT [2,3,4,17] [999999] [] Tryz.f31=some x)=>x);apply qM Tryz.f31 rfl rfl ?_ ?_ rfl rfl
 repeat' first|apply fX|apply dB|apply cK|apply dC|apply cM
 all_goals try(conv=>lhs;cbv)
 all_goals rfl
noncomputable def Yi:ax:=by
 apply (fun{x:ax}(_:bo pT [4,6,700005] [999999] [500002,500003] Tryz.f32=some x)=>x);apply qM Tryz.f32 rfl rfl ?_ ?_ rfl rfl
 repeat' first|apply fX|apply dB|apply cK|apply dC|apply cM
 all_goals try(conv=>lhs;cbv)
 all_goals rfl
def aeh:ax:=by refine(fun(_:bo pT [2,3] [999999] [] Tryz.f33=some ?x)=>?x) ?_;rotate_left;conv=>lhs;cbv
def aot:ax:=tM [0] [999999,1] [888888] Tryz.f34
def aou:ax:=tM [6,7,8,9,10,11,12,27,45,86] [999999] [10,67] Tryz.f35
noncomputable def ajh:ax:=by
 apply (fun{x:ax}(_:bo pT [5] [] [] Tryz.f36=some x)=>x);apply qM Tryz.f36 rfl rfl ?_ ?_ rfl rfl
 repeat' first|apply fX|apply dB|apply cK|apply dC|apply cM
 all_goals try(conv=>lhs;cbv)
 all_goals rfl
def aov:ax:=tM [3,5,20,53,700002,700004,700006] [2,4,6,999999,999998] [500001] Tryz.f37
noncomputable def aei:ax:=by
 apply (fun{x:ax}(_:bo pT [2,3,4,6,23,27,31,40,47,54,61,65] [7,64] [888888] Tryz.f38=some x)=>x);apply qM Tryz.f38 rfl rfl ?_ ?_ rfl rfl
 repeat' first|apply fX|apply dB|apply cK|apply dC|apply cM
 all_goals try(conv=>lhs;cbv)
 all_goals rfl
def aej:ax:=by refine(fun(_:bo pT [2,3,4,8] [] [] Tryz.f39=some ?x)=>?x) ?_;rotate_left;conv=>lhs;cbv
def aji:ax:=by refine(fun(_:bo pT [3] [] [] Tryz.f40=some ?x)=>?x) ?_;rotate_left;conv=>lhs;cbv
noncomputable def aek:ax:=by
 apply (fun{x:ax}(_:bo pT [2,3,8,13,35,41,46,51,55,64,73,80,89,700004] [1,4] [] Tryz.f41=some x)=>x);apply qM Tryz.f41 rfl rfl ?_ ?_ rfl rfl
 repeat' first|apply fX|apply dB|apply cK|apply dC|apply cM
 all_goals try(conv=>lhs;cbv)
 all_goals rfl
def ael:ax:=by refine(fun(_:bo pT [2,6,12,18] [1] [] Tryz.f42=some ?x)=>?x) ?_;rotate_left;conv=>lhs;cbv
def ajj:ax:=by refine(fun(_:bo pT [0,2,3] [] [] Tryz.f43=some ?x)=>?x) ?_;rotate_left;conv=>lhs;cbv
noncomputable def xg:ax:=by
 apply (fun{x:ax}(_:bo pT [2,3,4,5,6,7,8,9,10,11,12,13,16,30,38,43,52,54,63,78,81,90,92,99,101,108,110,117,123,130,132,139,150,153,160,173,177,188,192,203,214,217,233,241,255,266,276,283,285,292,294] [1] [] Tryz.f44=some x)=>x);apply qM Tryz.f44 rfl rfl ?_ ?_ rfl rfl
 repeat' first|apply fX|apply dB|apply cK|apply dC|apply cM
 all_goals try(conv=>lhs;cbv)
 all_goals rfl
def aem:ax:=by refine(fun(_:bo pT [6,9] [] [] Tryz.f45=some ?x)=>?x) ?_;rotate_left;conv=>lhs;cbv
def Uv:ax:=by refine(fun(_:bo pT [2] [] [777777] Tryz.f46=some ?x)=>?x) ?_;rotate_left;conv=>lhs;cbv
def aen:ax:=by refine(fun(_:bo pT [6,7,8,9,19] [] [777777] Tryz.f47=some ?x)=>?x) ?_;rotate_left;conv=>lhs;cbv
def ajk:ax:=by refine(fun(_:bo pT [1,4,6,20] [] [] Tryz.f48=some ?x)=>?x) ?_;rotate_left;conv=>lhs;cbv
end
noncomputable def aeo:ax:=by
 apply (fun{x:ax}(_:bo pT [4,5,6,19,25,31,49] [] [] Tryz.f49=some x)=>x);apply qM Tryz.f49 rfl rfl ?_ ?_ rfl rfl
 repeat' first|apply fX|apply dB|apply cK|apply dC|apply cM
 all_goals try(conv=>lhs;cbv)
 all_goals rfl
def ajl:ax:=by refine(fun(_:bo pT [2,3,4,13,18] [999999] [] Tryz.f50=some ?x)=>?x) ?_;rotate_left;conv=>lhs;cbv
noncomputable def ajm:ax:=by
 apply (fun{x:ax}(_:bo pT [2,5,7,9,22,37,700004] [4,999999] [] Tryz.f51=some x)=>x);apply qM Tryz.f51 rfl rfl ?_ ?_ rfl rfl
 repeat' first|apply fX|apply dB|apply cK|apply dC|apply cM
 all_goals try(conv=>lhs;cbv)
 all_goals rfl
noncomputable def aep:ax:=by
 apply (fun{x:ax}(_:bo pT [2,7] [999999] [] Tryz.f52=some x)=>x);apply qM Tryz.f52 rfl rfl ?_ ?_ rfl rfl
 repeat' first|apply fX|apply dB|apply cK|apply dC|apply cM
 all_goals try(conv=>lhs;cbv)
 all_goals rfl
noncomputable def ajn:ax:=by
 apply (fun{x:ax}(_:bo pT [2,5,10,17] [999999] [] Tryz.f53=some x)=>x);apply qM Tryz.f53 rfl rfl ?_ ?_ rfl rfl
 repeat' first|apply fX|apply dB|apply cK|apply dC|apply cM
 all_goals try(conv=>lhs;cbv)
 all_goals rfl
def aeq:ax:=by refine(fun(_:bo pT [4,5,8] [999999] [] Tryz.f54=some ?x)=>?x) ?_;rotate_left;conv=>lhs;cbv
def Fy:ax:=by refine(fun(_:bo pT [16] [999999] [888887] Tryz.f55=some ?x)=>?x) ?_;rotate_left;conv=>lhs;cbv
noncomputable def C4:ax:=by
 apply (fun{x:ax}(_:bo pT [15,7,700002] [2,999999,999998] [] Tryz.f56=some x)=>x);apply qM Tryz.f56 rfl rfl ?_ ?_ rfl rfl
 repeat' first|apply fX|apply dB|apply cK|apply dC|apply cM
 all_goals try(conv=>lhs;cbv)
 all_goals rfl
def Yj:H3 Tryz.f56 C4=some C4:=by kernel_rfl
def H2:ax:=by refine(fun(_:bo pT [3,7,11,6,10,17,20,700002] [2,999999] [777777] Tryz.f57=some ?x)=>?x) ?_;rotate_left;conv=>lhs;cbv
def aer:ax:=by refine(fun(_:bo pT [4,5] [999999] [] Tryz.f58=some ?x)=>?x) ?_;rotate_left;conv=>lhs;cbv
noncomputable def mQ:ax:=by
 apply (fun{x:ax}(_:bo pT [4,8,25,37,700002,700003] [2,18,999999,18,30,42,57,999998] [500002,500003,777777] Tryz.f59=some x)=>x);apply qM Tryz.f59 rfl rfl ?_ ?_ rfl rfl
 repeat' first|apply fX|apply dB|apply cK|apply dC|apply cM
 all_goals try(conv=>lhs;cbv)
 all_goals rfl
def Yk:H3 Tryz.f59 mQ=some mQ:=by kernel_rfl
def Yl:ax:=by refine(fun(_:bo pT [8] [999999] [] Tryz.f60=some ?x)=>?x) ?_;rotate_left;conv=>lhs;cbv
def ajo:ax:=by refine(fun(_:bo pT [] [999999] [] Tryz.f61=some ?x)=>?x) ?_;rotate_left;conv=>lhs;cbv
def Uw:ax:=by refine(fun(_:bo pT [16,30] [999999] [] Tryz.f62=some ?x)=>?x) ?_;rotate_left;conv=>lhs;cbv
def aes:ax:=by refine(fun(_:bo pT [9] [999999] [] Tryz.f63=some ?x)=>?x) ?_;rotate_left;conv=>lhs;cbv
noncomputable def om:ax:=by
 apply (fun{x:ax}(_:bo pT [2,4,13,18,21,27,30,36,39,44,53,56,63,66,700003] [999999] [] Tryz.f65=some x)=>x);apply qM Tryz.f65 rfl rfl ?_ ?_ rfl rfl
 repeat' first|apply fX|apply dB|apply cK|apply dC|apply cM
 all_goals try(conv=>lhs;cbv)
 all_goals rfl
noncomputable def tR:ax:=by
 apply (fun{x:ax}(_:bo pT [18,24,43,49,62,68,85,90,100,119,158,179] [999999,999996] [] Tryz.f66=some x)=>x);apply qM Tryz.f66 rfl rfl ?_ ?_ rfl rfl
 repeat' first|apply fX|apply dB|apply cK|apply dC|apply cM
 all_goals try(conv=>lhs;cbv)
 all_goals rfl
def aoy:ax:=tM [2,3,4,29] [999999] [3,8,888888] Tryz.f68
def ajp:ax:=by refine(fun(_:bo pT [3,6] [999999] [] Tryz.f69=some ?x)=>?x) ?_;rotate_left;conv=>lhs;cbv
def ajq:ax:=by refine(fun(_:bo pT [] [999999] [] Tryz.f70=some ?x)=>?x) ?_;rotate_left;conv=>lhs;cbv
def ajr:ax:=by refine(fun(_:bo pT [4,12] [999999] [] Tryz.f71=some ?x)=>?x) ?_;rotate_left;conv=>lhs;cbv
def aoz:ax:=tM [2,5] [999999,7] [888888] Tryz.f73
def aoA:ax:=tM [2,5] [999999,7] [888888] Tryz.f74
def aoB:ax:=tM [2,5] [999999,7] [888888] Tryz.f75
def aoC:ax:=tM [3,20,700002,700004] [2,4,999999,999998] [500001] Tryz.f76
def aoD:ax:=tM [3,12,700002,700004] [2,4,999999] [500001] Tryz.f77
def aet:ax:=by refine(fun(_:bo pT [5,9,12,19] [] [] Tryz.f78=some ?x)=>?x) ?_;rotate_left;conv=>lhs;cbv
def aeu:ax:=by refine(fun(_:bo pT [0] [] [] Tryz.f79=some ?x)=>?x) ?_;rotate_left;conv=>lhs;cbv
noncomputable def aev:ax:=by
 apply (fun{x:ax}(_:bo pT [2,10,21,25,30] [1] [] Tryz.f80=some x)=>x);apply qM Tryz.f80 rfl rfl ?_ ?_ rfl rfl
 repeat' first|apply fX|apply dB|apply cK|apply dC|apply cM
 all_goals try(conv=>lhs;cbv)
 all_goals rfl
noncomputable def aew:ax:=by
 apply (fun{x:ax}(_:bo pT [5,11,18,25,32,40,48] [2,3] [] Tryz.f81=some x)=>x);apply qM Tryz.f81 rfl rfl ?_ ?_ rfl rfl
 repeat' first|apply fX|apply dB|apply cK|apply dC|apply cM
 all_goals try(conv=>lhs;cbv)
 all_goals rfl
noncomputable def xh:ax:=by
 apply (fun{x:ax}(_:bo pT [3,4,5,6,7,8,15,18,26,33,42,47,52,57,63,69,73,80,83,88,97,103,109,112,121,127,131,136,148,152,158,162,167,176,181,186] [1] [] Tryz.f82=some x)=>x);apply qM Tryz.f82 rfl rfl ?_ ?_ rfl rfl
 repeat' first|apply fX|apply dB|apply cK|apply dC|apply cM
 all_goals try(conv=>lhs;cbv)
 all_goals rfl
def ajs:ax:=by refine(fun(_:bo pT [2,3,4,5,6] [] [] Tryz.f83=some ?x)=>?x) ?_;rotate_left;conv=>lhs;cbv
def ajt:ax:=by refine(fun(_:bo pT [8,9,10,12,16,18] [] [] Tryz.f84=some ?x)=>?x) ?_;rotate_left;conv=>lhs;cbv
def aju:ax:=by refine(fun(_:bo pT [2,3,4,13,16] [] [] Tryz.f85=some ?x)=>?x) ?_;rotate_left;conv=>lhs;cbv
noncomputable def aex:ax:=by
 apply (fun{x:ax}(_:bo pT [2,3,4,5,8] [] [] Tryz.f86=some x)=>x);apply qM Tryz.f86 rfl rfl ?_ ?_ rfl rfl
 repeat' first|apply fX|apply dB|apply cK|apply dC|apply cM
 all_goals try(conv=>lhs;cbv)
 all_goals rfl
def ajv:ax:=by refine(fun(_:bo pT [4,9,12] [2] [] Tryz.f87=some ?x)=>?x) ?_;rotate_left;conv=>lhs;cbv
noncomputable def aey:ax:=by
 apply (fun{x:ax}(_:bo pT [4,7] [] [] Tryz.f88=some x)=>x);apply qM Tryz.f88 rfl rfl ?_ ?_ rfl rfl
 repeat' first|apply fX|apply dB|apply cK|apply dC|apply cM
 all_goals try(conv=>lhs;cbv)
 all_goals rfl
def aez:ax:=by refine(fun(_:bo pT [4] [999999] [] Tryz.f89=some ?x)=>?x) ?_;rotate_left;conv=>lhs;cbv
def aeA:ax:=by refine(fun(_:bo pT [2,5,9,12] [999999] [] Tryz.f90=some ?x)=>?x) ?_;rotate_left;conv=>lhs;cbv
def aeB:ax:=by refine(fun(_:bo pT [4] [999999] [] Tryz.f91=some ?x)=>?x) ?_;rotate_left;conv=>lhs;cbv
def aeC:ax:=by refine(fun(_:bo pT [700002,700003] [2,3,999999] [777777] Tryz.f92=some ?x)=>?x) ?_;rotate_left;conv=>lhs;cbv
def aeD:ax:=by refine(fun(_:bo pT [2,3,11] [999999] [] Tryz.f93=some ?x)=>?x) ?_;rotate_left;conv=>lhs;cbv
def aeE:ax:=by refine(fun(_:bo pT [2,3,4,5,12,16,22] [999999] [] Tryz.f94=some ?x)=>?x) ?_;rotate_left;conv=>lhs;cbv
noncomputable def yG:ax:=by
 apply (fun{x:ax}(_:bo pT [] [999999,18] [888887] Tryz.f95=some x)=>x);apply qM Tryz.f95 rfl rfl ?_ ?_ rfl rfl
 repeat' first|apply fX|apply dB|apply cK|apply dC|apply cM
 all_goals try(conv=>lhs;cbv)
 all_goals rfl
def Ym:H3 Tryz.f95 yG=some yG:=by kernel_rfl
noncomputable def nA:ax:=by
 apply (fun{x:ax}(_:bo pT [5,6,9,39,48,700004,700007,700008] [4,7,8,999999] [14,777777] Tryz.f96=some x)=>x);apply qM Tryz.f96 rfl rfl ?_ ?_ rfl rfl
 repeat' first|apply fX|apply dB|apply cK|apply dC|apply cM
 all_goals try(conv=>lhs;cbv)
 all_goals rfl
def Yn:H3 Tryz.f96 nA=some nA:=by kernel_rfl
def Yo:ax:=by refine(fun(_:bo pT [] [999999] [] Tryz.f97=some ?x)=>?x) ?_;rotate_left;conv=>lhs;cbv
def aeF:ax:=by refine(fun(_:bo pT [4,5,6,7] [999999] [] Tryz.f98=some ?x)=>?x) ?_;rotate_left;conv=>lhs;cbv
def abm:ax:=by refine(fun(_:bo pT [3] [999999] [] Tryz.f100=some ?x)=>?x) ?_;rotate_left;conv=>lhs;cbv
def abn:ax:=by refine(fun(_:bo pT [4] [999999] [] Tryz.f101=some ?x)=>?x) ?_;rotate_left;conv=>lhs;cbv
def abo:ax:=⟨[],[999999],[],2,1,[],.skip⟩
def abp:ax:=by refine(fun(_:bo pT [4] [999999] [] Tryz.f103=some ?x)=>?x) ?_;rotate_left;conv=>lhs;cbv
def abq:ax:=by refine(fun(_:bo pT [2] [999999] [] Tryz.f104=some ?x)=>?x) ?_;rotate_left;conv=>lhs;cbv
def Ue:ax:=by refine(fun(_:bo pT [6,10,700007] [7,999999] [] Tryz.f105=some ?x)=>?x) ?_;rotate_left;conv=>lhs;cbv
def OL:ax:=by refine(fun(_:bo pT [4,5,6,7] [999999] [] Tryz.f106=some ?x)=>?x) ?_;rotate_left;conv=>lhs;cbv
def Uf:ax:=by refine(fun(_:bo pT [8,15] [999999] [] Tryz.f107=some ?x)=>?x) ?_;rotate_left;conv=>lhs;cbv
def abr:ax:=by refine(fun(_:bo pT [6,10,700007] [7,999999] [] Tryz.f108=some ?x)=>?x) ?_;rotate_left;conv=>lhs;cbv
noncomputable def Gu:ax:=by
 apply (fun{x:ax}(_:bo pT [4] [999999,999996] [] Tryz.f109=some x)=>x);apply qM Tryz.f109 rfl rfl ?_ ?_ rfl rfl
 repeat' first|apply fX|apply dB|apply cK|apply dC|apply cM
 all_goals try(conv=>lhs;cbv)
 all_goals rfl
def ai9:ax:=tM [4,6,13,17] [999999] [] Tryz.f111
def ai':ax:=tM [2,5] [999999,7] [888888] Tryz.f113
def aja:ax:=tM [2,5] [999999,7] [888888] Tryz.f114
def abt:ax:=by refine(fun(_:bo pT [2,3,4,5,6,14,17] [] [] Tryz.f115=some ?x)=>?x) ?_;rotate_left;conv=>lhs;cbv
noncomputable def Ug:ax:=by
 apply (fun{x:ax}(_:bo pT [5,11] [2,3] [] Tryz.f116=some x)=>x);apply qM Tryz.f116 rfl rfl ?_ ?_ rfl rfl
 repeat' first|apply fX|apply dB|apply cK|apply dC|apply cM
 all_goals try(conv=>lhs;cbv)
 all_goals rfl
def Uh:ax:=by refine(fun(_:bo pT [3,4,5,6,12,14,16,18,20,22,32,34,36,39,41,43,50,52] [1] [] Tryz.f117=some ?x)=>?x) ?_;rotate_left;conv=>lhs;cbv
noncomputable def abu:ax:=by
 apply (fun{x:ax}(_:bo pT [2,3,5] [] [] Tryz.f118=some x)=>x);apply qM Tryz.f118 rfl rfl ?_ ?_ rfl rfl
 repeat' first|apply fX|apply dB|apply cK|apply dC|apply cM
 all_goals try(conv=>lhs;cbv)
 all_goals rfl
def Ui:ax:=by refine(fun(_:bo pT [2,3,4,8,13,21] [1] [] Tryz.f119=some ?x)=>?x) ?_;rotate_left;conv=>lhs;cbv
def Uj:ax:=by refine(fun(_:bo pT [4,10] [999999] [] Tryz.f120=some ?x)=>?x) ?_;rotate_left;conv=>lhs;cbv
def nW:ax:=by refine(fun(_:bo pT [4,8,16,23,27,31,39,52,6,15,22,26,30,700002,700003] [2,999999] [500002,500003,777777] Tryz.f122=some ?x)=>?x) ?_;rotate_left;conv=>lhs;cbv
def abv:ax:=by refine(fun(_:bo pT [4,5,6] [999999] [] Tryz.f123=some ?x)=>?x) ?_;rotate_left;conv=>lhs;cbv
def abw:ax:=by refine(fun(_:bo pT [4] [999999] [] Tryz.f125=some ?x)=>?x) ?_;rotate_left;conv=>lhs;cbv
def abx:ax:=by refine(fun(_:bo pT [4] [999999] [] Tryz.f126=some ?x)=>?x) ?_;rotate_left;conv=>lhs;cbv
def aby:ax:=by refine(fun(_:bo pT [] [999999] [] Tryz.f127=some ?x)=>?x) ?_;rotate_left;conv=>lhs;cbv
noncomputable def C1:ax:=by
 apply (fun{x:ax}(_:bo pT [2,3,4,700005] [5,999999] [7] Tryz.f128=some x)=>x);apply qM Tryz.f128 rfl rfl ?_ ?_ rfl rfl
 repeat' first|apply fX|apply dB|apply cK|apply dC|apply cM
 all_goals try(conv=>lhs;cbv)
 all_goals rfl
def Uk:H3 Tryz.f128 C1=some C1:=by kernel_rfl
def Ul:ax:=by refine(fun(_:bo pT [] [999999] [] Tryz.f129=some ?x)=>?x) ?_;rotate_left;conv=>lhs;cbv
noncomputable def abz:ax:=by
 apply (fun{x:ax}(_:bo pT [] [999999,999996] [] Tryz.f130=some x)=>x);apply qM Tryz.f130 rfl rfl ?_ ?_ rfl rfl
 repeat' first|apply fX|apply dB|apply cK|apply dC|apply cM
 all_goals try(conv=>lhs;cbv)
 all_goals rfl
noncomputable def abA:ax:=by
 apply (fun{x:ax}(_:bo pT [] [999999,999996] [] Tryz.f131=some x)=>x);apply qM Tryz.f131 rfl rfl ?_ ?_ rfl rfl
 repeat' first|apply fX|apply dB|apply cK|apply dC|apply cM
 all_goals try(conv=>lhs;cbv)
 all_goals rfl
noncomputable def pD:ax:=by
 apply (fun{x:ax}(_:bo pT [700002] [2,999999,999998,1,14,29] [888887] Tryz.f136=some x)=>x);apply qM Tryz.f136 rfl rfl ?_ ?_ rfl rfl
 repeat' first|apply fX|apply dB|apply cK|apply dC|apply cM
 all_goals try(conv=>lhs;cbv)
 all_goals rfl
def Um:H3 Tryz.f136 pD=some pD:=by kernel_rfl
noncomputable def Un:ax:=by
 apply (fun{x:ax}(_:bo pT [18,29,39,6,700002,700003] [2,3,999999] [500002,500003,777777] Tryz.f137=some x)=>x);apply qM Tryz.f137 rfl rfl ?_ ?_ rfl rfl
 repeat' first|apply fX|apply dB|apply cK|apply dC|apply cM
 all_goals try(conv=>lhs;cbv)
 all_goals rfl
def oA:ax:=by refine(fun(_:bo pT [13,20,27,44,8,10,700002,700003,700004] [2,999999] [500002,500003,777777] Tryz.f138=some ?x)=>?x) ?_;rotate_left;conv=>lhs;cbv
noncomputable def abB:ax:=by
 apply (fun{x:ax}(_:bo pT [4,5,7] [999999] [] Tryz.f139=some x)=>x);apply qM Tryz.f139 rfl rfl ?_ ?_ rfl rfl
 repeat' first|apply fX|apply dB|apply cK|apply dC|apply cM
 all_goals try(conv=>lhs;cbv)
 all_goals rfl
noncomputable def abC:ax:=by
 apply (fun{x:ax}(_:bo pT [4,5,6,7,8,9,10,11,12,13,16,19,24,31,36,40,84,102,121,128] [999999] [] Tryz.f144=some x)=>x);apply qM Tryz.f144 rfl rfl ?_ ?_ rfl rfl
 repeat' first|apply fX|apply dB|apply cK|apply dC|apply cM
 all_goals try(conv=>lhs;cbv)
 all_goals rfl
def Uo:ax:=by refine(fun(_:bo pT [2,3,4,7,11,13] [999999] [] Tryz.f145=some ?x)=>?x) ?_;rotate_left;conv=>lhs;cbv
noncomputable def tH:ax:=by
 apply (fun{x:ax}(_:bo pT [] [999999,8,999998] [888887] Tryz.f151=some x)=>x);apply qM Tryz.f151 rfl rfl ?_ ?_ rfl rfl
 repeat' first|apply fX|apply dB|apply cK|apply dC|apply cM
 all_goals try(conv=>lhs;cbv)
 all_goals rfl
def Up:H3 Tryz.f151 tH=some tH:=by kernel_rfl
def ajb:ax:=tM [2] [999999] [] Tryz.f158
def ajc:ax:=tM [4,5,6,7,8,9,10,11,33,68] [999999] [] Tryz.f159
def ajd:ax:=tM [2,3,4,5,6,7,8] [999999] [] Tryz.f165
def Uq:ax:=by refine(fun(_:bo pT [2,5] [999999] [] Tryz.f188=some ?x)=>?x) ?_;rotate_left;conv=>lhs;cbv
def Ur:ax:=by refine(fun(_:bo pT [2,5] [999999] [] Tryz.f189=some ?x)=>?x) ?_;rotate_left;conv=>lhs;cbv
def ajf:ax:=tM [0,1,2,5,6,7,8,9,12,14,16,18,20,22,24,26,28,30] [999999] [] Tryz.f204
def dD(c:Int):Nat->List UInt8->Int
 | _,[]=>-1
 | k,b :: r=>cond (decide ((b.toNat:Int)=c)) k (dD c (k+1) r)
def Dp(args:List AV)(_:ae):Option (AV × Option fR) :=
 match args with
 | [.str l]=>cond (Nat.ble l.length 281474976710656) (match Lib.atoiAll l with
  | .ok v=>some (.tuple [.int .i64 v,.de],none)
  | .range=>some (.tuple [.int .i64 (Lib.atoiSat l),.iface 194 .any],none)
  | _=>some (.tuple [.int .i64 0,.iface 194 .any],none)) none
 | _=>none
def iC(args:List AV)(_:ae):Option (AV × Option fR) :=
 match args with
 | [.str l,.int .u8 c]=>cond (decide (0<=c)&&decide (c<256)) (some (.int .i64 (dD c 0 l),none)) none
 | _=>none
def vb(e:List (List AV)):Bool:=e.all fun r=>match r with|[.int .u8 n]=>decide (0<=n)&&decide (n<256)|_=>false
def rD(args:List AV)(H:ae):Option (AV × Option fR) :=
 match args with
 | [.ref l 0]=>match H[l]? with
  | some (.box 125 [_,.slice e true])=>cond (Nat.ble e.length 4611686018427387904&&vb e&&!e.isEmpty) ((bytesOf e).map fun b=>(.str b,none)) none
  | _=>none
 | _=>none
def jI(args:List AV)(H:ae):Option (AV × Option fR) :=
 match args with
 | [.ref l 0]=>match H[l]? with
  | some (.box 125 [.kX,x])=>some (.undef,some ⟨H.set l (.box 125 [.ref l 0,x]),l⟩)
  | some (.box 125 [.ref l' 0,_])=>cond (Nat.beq l l') (some (.undef,none)) none
  | _=>none
 | _=>none
def gO:Nat->Nat->List UInt8->List UInt8
 | 0,_,acc=>acc
 | f+1,n,acc=>cond (Nat.blt n 10) (UInt8.ofNat (48+n) :: acc) (gO f (n / 10) (UInt8.ofNat (48+n % 10) :: acc))
def rp(n:Int):List UInt8 :=
 match n with
 | .ofNat k=>gO (k+1) k []
 | .negSucc k=>45 :: gO (k+2) (k+1) []
def Dq(args:List AV)(_:ae):Option (AV × Option fR) :=
 match args with
 | [.int .i64 n]=>cond (decide (-9223372036854775808<=n)&&decide (n<=9223372036854775807)) (some (.str (rp n),none)) none
 | _=>none
def afY:List (List UInt8):=[[43],[45],[42],[47],[37],[60],[61,61],[97,110,100],[111,114],[110,111,116],[106,111,105,110],[108,101,110]]
def YF:List Int:=[5,5,6,6,6,3,3,2,1,7,4,7]
def da(n:Int):List UInt8 × Int:=if n<0\/11<n then ([],0) else (afY.getD n.toNat [],YF.getD n.toNat 0)
def n8(n:Int):List UInt8 × Int:=if n<0\/11<n then ([],7) else da n
def vx(args:List AV)(_:ae):Option (AV × Option fR) :=
 match args with
 | [.int .i64 n]=>some (.tuple [.str (n8 n).1,.int .i64 (n8 n).2],none)
 | _=>none
def ov0:FuncId->Option (List AV->ae->Option (AV × Option fR))
 | 64=>some Dq
 | 67=>some iC
 | 110=>some iC
 | 121=>some Dp
 | 72=>some rD
 | 112=>some jI
 | _=>none
def ov:FuncId->Option (List AV->ae->Option (AV × Option fR))
 | 128=>some vx
 | 64=>some Dq
 | 67=>some iC
 | 110=>some iC
 | 121=>some Dp
 | 72=>some rD
 | 112=>some jI
 | _=>none
def fns:FuncId->Option ax
 | 3=>some ir3
 | 4=>some ir4
 | 5=>some I4
 | 6=>some ir6
 | 7=>some ir7
 | 8=>some ir8
 | 9=>some ir9
 | 10=>some aos
 | 11=>some Yg
 | 12=>some ad6
 | 13=>some ad7
 | 14=>some ad8
 | 15=>some ad9
 | 16=>some aea
 | 17=>some aeb
 | 18=>some xf
 | 19=>some fA
 | 20=>some aje
 | 21=>some aec
 | 22=>some aed
 | 23=>some ajg
 | 24=>some Ut
 | 25=>some aee
 | 26=>some Uu
 | 27=>some vP
 | 28=>some aef
 | 29=>some HZ
 | 30=>some C3
 | 31=>some aeg
 | 32=>some Yi
 | 33=>some aeh
 | 34=>some aot
 | 35=>some aou
 | 36=>some ajh
 | 37=>some aov
 | 38=>some aei
 | 39=>some aej
 | 40=>some aji
 | 41=>some aek
 | 42=>some ael
 | 43=>some ajj
 | 44=>some xg
 | 45=>some aem
 | 46=>some Uv
 | 47=>some aen
 | 48=>some ajk
 | 49=>some aeo
 | 50=>some ajl
 | 51=>some ajm
 | 52=>some aep
 | 53=>some ajn
 | 54=>some aeq
 | 55=>some Fy
 | 56=>some C4
 | 57=>some H2
 | 58=>some aer
 | 59=>some mQ
 | 60=>some Yl
 | 61=>some ajo
 | 62=>some Uw
 | 63=>some aes
 | 65=>some om
 | 66=>some tR
 | 68=>some aoy
 | 69=>some ajp
 | 70=>some ajq
 | 71=>some ajr
 | 73=>some aoz
 | 74=>some aoA
 | 75=>some aoB
 | 76=>some aoC
 | 77=>some aoD
 | 78=>some aet
 | 79=>some aeu
 | 80=>some aev
 | 81=>some aew
 | 82=>some xh
 | 83=>some ajs
 | 84=>some ajt
 | 85=>some aju
 | 86=>some aex
 | 87=>some ajv
 | 88=>some aey
 | 89=>some aez
 | 90=>some aeA
 | 91=>some aeB
 | 92=>some aeC
 | 93=>some aeD
 | 94=>some aeE
 | 95=>some yG
 | 96=>some nA
 | 97=>some Yo
 | 98=>some aeF
 | 100=>some abm
 | 101=>some abn
 | 102=>some abo
 | 103=>some abp
 | 104=>some abq
 | 105=>some Ue
 | 106=>some OL
 | 107=>some Uf
 | 108=>some abr
 | 109=>some Gu
 | 111=>some ai9
 | 113=>some ai'
 | 114=>some aja
 | 115=>some abt
 | 116=>some Ug
 | 117=>some Uh
 | 118=>some abu
 | 119=>some Ui
 | 120=>some Uj
 | 122=>some nW
 | 123=>some abv
 | 125=>some abw
 | 126=>some abx
 | 127=>some aby
 | 128=>some C1
 | 129=>some Ul
 | 130=>some abz
 | 131=>some abA
 | 136=>some pD
 | 137=>some Un
 | 138=>some oA
 | 139=>some abB
 | 144=>some abC
 | 145=>some Uo
 | 151=>some tH
 | 158=>some ajb
 | 159=>some ajc
 | 165=>some ajd
 | 188=>some Uq
 | 189=>some Ur
 | 204=>some ajf
 | _=>none
def G7:TypeId:=214
def fG:List (List UInt8):=[[109,111,100,117,108,101],[117,115,101],[114,101,99],[99,97,115,101],[102,117,110],[111,110],[116,101,115,116],[99,111,110,118],[116,114,117,101],[102,97,108,115,101],[110,111,116],[97,110,100],[111,114],[105,102],[116,104,101,110],[101,108,115,101],[108,101,116],[105,110],[109,97,116,99,104],[102,111,108,100],[111,118,101,114],[100,111],[108,101,110],[106,111,105,110],[76,105,115,116],[73,110,116],[66,111,111,108]]
def mA:List (List UInt8):=[[61,61],[45,62],[40],[41],[123],[125],[91],[93],[44],[58],[46],[61],[43],[45],[42],[47],[37],[60]]
def fI:List (List UInt8):=[[114,101,99],[99,97,115,101],[102,117,110],[111,110],[116,101,115,116],[99,111,110,118]]
def mR:List (List AV):=[[.str [37],.int .i64 4,.int .i64 6],[.str [42],.int .i64 2,.int .i64 6],[.str [43],.int .i64 0,.int .i64 5],[.str [45],.int .i64 1,.int .i64 5],[.str [47],.int .i64 3,.int .i64 6],[.str [60],.int .i64 5,.int .i64 3],[.str [61,61],.int .i64 6,.int .i64 3],[.str [97,110,100],.int .i64 7,.int .i64 2],[.str [106,111,105,110],.int .i64 10,.int .i64 4],[.str [111,114],.int .i64 8,.int .i64 1]]
def xN:Nat->List AV
 | 0=>[.slice (fI.map fun s=>[.str s]) false]
 | 1=>[.func (.func 90) [] [],.func (.func 188) [] [],.func (.func 189) [] [],.func (.func 189) [] []]
 | 2=>mA.map .str
 | 3=>fG.map .str
 | 4=>[.mn 1 false true mR]
 | 6=>Lib.pow10Tab.map (.int .u64)
 | 7=>[.iface G7 .any]
 | 8=>[.iface G7 .any]
 | _=>[]
def A0:AP:={ fns,ov:=ov0,aW:=xN }
def A:AP:={ fns,ov,aW:=xN }
def nK:=And.intro (And.intro (And.intro (And.intro (And.intro (And.intro (And.intro (And.intro (And.intro (@Wm) (@IN)) (@agz)) (And.intro (And.intro (@Lm) (@agF)) (@alb))) (And.intro (And.intro (And.intro (@agB) (@ab')) (@agE)) (And.intro (@ak') (@Ll)))) (And.intro (And.intro (And.intro (And.intro (@agy) (@aam)) (@Rx)) (And.intro (@agD) (@Wl))) (And.intro (And.intro (And.intro (@ala) (@agC)) (@Wk)) (And.intro (@aao) (@agA))))) (And.intro (And.intro (And.intro (And.intro (And.intro (@aan) (@NU)) (@Rw)) (And.intro (And.intro (@aU) (@L9)) (@Jr))) (And.intro (And.intro (And.intro (@Y7) (@MT)) (@MS)) (And.intro (@Option.bind_some.{0,0}) (@Option.map_some.{0,0})))) (And.intro (And.intro (And.intro (And.intro (@Jg) (@beq_self_eq_true.{0})) (@Bool.and_false)) (And.intro (@Bool.false_and) (@Bool.true_and))) (And.intro (And.intro (And.intro (@Bool.and_true) (@Bool.or_true)) (@Bool.true_or)) (And.intro (@Bool.or_false) (@Bool.false_or)))))) (And.intro (And.intro (And.intro (And.intro (And.intro (And.intro (@Bool.not_true) (@Bool.not_false)) (@decide_true)) (And.intro (And.intro (@decide_false) (@List.map_cons.{0,0})) (@List.map_nil.{0,0}))) (And.intro (And.intro (And.intro (@List.all_cons.{0}) (@List.all_nil.{0})) (@List.length_cons.{0})) (And.intro (@List.length_nil.{0}) (@List.getElem?_cons_zero.{0})))) (And.intro (And.intro (And.intro (And.intro (@List.getElem?_cons_succ.{0}) (@List.nil_append.{0})) (@List.append_nil.{0})) (And.intro (@List.cons_append.{0}) (@wrap64))) (And.intro (And.intro (And.intro (@zC) (@Pw)) (@Pv)) (And.intro (@Option.some.injEq.{0}) (@Prod.mk.injEq.{0,0}))))) (And.intro (And.intro (And.intro (And.intro (And.intro (@Nat.zero_add) (@List.drop_zero.{0})) (@N9)) (And.intro (@W4) (@dle))) (And.intro (And.intro (And.intro (@dlt) (@List.take_succ_cons.{0})) (@List.take_zero.{0})) (And.intro (@List.drop_succ_cons.{0}) (@Int.natCast_add)))) (And.intro (And.intro (And.intro (And.intro (@Int.cast_ofNat_Int) (@List.set_cons_zero.{0})) (@List.set_cons_succ.{0})) (And.intro (@R') (@gu))) (And.intro (And.intro (And.intro (@Sb) (@Z4)) (@ae2)) (And.intro (@qj) (@Rr))))))) (And.intro (And.intro (And.intro (And.intro (And.intro (And.intro (And.intro (@List.length_map.{0,0}) (@ge_iff_le.{0})) (@gt_iff_lt.{0})) (And.intro (And.intro (@AV.int.injEq) (@AV.str.injEq)) (@AV.bool.injEq))) (And.intro (And.intro (And.intro (@AV.slice.injEq) (@true_and)) (@and_true)) (And.intro (@and_self) (@PI)))) (And.intro (And.intro (And.intro (And.intro (@SL) (@SN)) (@Me)) (And.intro (@SM) (@PJ))) (And.intro (And.intro (And.intro (@SK) (@Hv)) (@Ju)) (And.intro (@Jw) (@zJ))))) (And.intro (And.intro (And.intro (And.intro (And.intro (@Fk) (@Jv)) (@Hw)) (And.intro (And.intro (@Fj) (@AE)) (@Xx))) (And.intro (And.intro (And.intro (@acV) (@acX)) (@JN)) (And.intro (@Te) (@acW)))) (And.intro (And.intro (And.intro (And.intro (@Xy) (@acU)) (@L3)) (And.intro (@PD) (@PF))) (And.intro (And.intro (And.intro (@Jj) (@PE)) (@L5)) (And.intro (@F0) (@Nq)))))) (And.intro (And.intro (And.intro (And.intro (And.intro (And.intro (@Q3) (@Q5)) (@Dv)) (And.intro (And.intro (@KN) (@Hr)) (@Jh))) (And.intro (And.intro (And.intro (@Ji) (@zE)) (@Fg)) (And.intro (@Im) (@KJ)))) (And.intro (And.intro (And.intro (And.intro (@KK) (@Ab)) (@FH)) (And.intro (@KI) (@Kr))) (And.intro (And.intro (And.intro (@M0) (@M1)) (@Ib)) (And.intro (@MZ) (@Ic))))) (And.intro (And.intro (And.intro (And.intro (And.intro (@LH) (@Pp)) (@Ps)) (And.intro (@I') (@LI))) (And.intro (And.intro (And.intro (@Pr) (@LM)) (@LN)) (And.intro (@Pq) (@LJ)))) (And.intro (And.intro (And.intro (And.intro (@LK) (@Po)) (@Ja)) (And.intro (@YN) (@aeQ))) (And.intro (And.intro (And.intro (@aeV) (@Ky)) (@aeR)) (And.intro (@YO) (@UT)))))))) (And.intro (And.intro (And.intro (And.intro (And.intro (And.intro (And.intro (And.intro (@UW) (@ZK)) (@afU)) (And.intro (And.intro (@afV) (@VN)) (@afl))) (And.intro (And.intro (And.intro (@aeT) (@aeU)) (@aeS)) (And.intro (@YP) (@YQ)))) (And.intro (And.intro (And.intro (And.intro (@akx) (@Vx)) (@afF)) (And.intro (@Zl) (@akr))) (And.intro (And.intro (And.intro (@ako) (@akq)) (@akp)) (And.intro (@aks) (@afH))))) (And.intro (And.intro (And.intro (And.intro (And.intro (@Zz) (@Zy)) (@Vq)) (And.intro (And.intro (@Vp) (@Zb)) (@GV))) (And.intro (And.intro (And.intro (@aoW) (@Zp)) (@Zq)) (And.intro (@Zs) (@afq)))) (And.intro (And.intro (And.intro (And.intro (@Zr) (@Zo)) (@Vu)) (And.intro (@Vt) (@akc))) (And.intro (And.intro (And.intro (@aoY) (@afx)) (@ZC)) (And.intro (@akb) (@akg)))))) (And.intro (And.intro (And.intro (And.intro (And.intro (And.intro (@KU) (@akk)) (@akm)) (And.intro (And.intro (@akl) (@NA)) (@Zn))) (And.intro (And.intro (And.intro (@afA) (@akv)) (@akt)) (And.intro (@afR) (@Zm)))) (And.intro (And.intro (And.intro (And.intro (@Vv) (@Nz)) (@Zc)) (And.intro (@Vs) (@Q8))) (And.intro (And.intro (And.intro (@Zk) (@akw)) (@afD)) (And.intro (@afB) (@afu))))) (And.intro (And.intro (And.intro (And.intro (And.intro (@Zf) (@Zd)) (@akA)) (And.intro (@afQ) (@Vr))) (And.intro (And.intro (And.intro (@afm) (@ZD)) (@Zt)) (And.intro (@afr) (@NB)))) (And.intro (And.intro (And.intro (And.intro (@Vw) (@Y9)) (@Za)) (And.intro (@akD) (@akB))) (And.intro (And.intro (And.intro (@akC) (@Zh)) (@Zi)) (And.intro (@Zj) (@akf))))))) (And.intro (And.intro (And.intro (And.intro (And.intro (And.intro (And.intro (@akd) (@ake)) (@VA)) (And.intro (And.intro (@aoX) (@aky)) (@akz))) (And.intro (And.intro (And.intro (@Vy) (@Vz)) (@abR)) (And.intro (@abT) (@abS)))) (And.intro (And.intro (And.intro (And.intro (@akn) (@afz)) (@afJ)) (And.intro (@ZA) (@afI))) (And.intro (And.intro (And.intro (@afK) (@afM)) (@afN)) (And.intro (@Zg) (@afO))))) (And.intro (And.intro (And.intro (And.intro (And.intro (@afL) (@ZB)) (@PM)) (And.intro (@Xz) (@L6))) (And.intro (And.intro (And.intro (@LP) (@YS)) (@aku)) (And.intro (@afC) (@LO)))) (And.intro (And.intro (And.intro (And.intro (@YR) (@afp)) (@Zu)) (And.intro (@afE) (@afG))) (And.intro (And.intro (And.intro (@adO) (@adP)) (@TU)) (And.intro (@XZ) (@TV)))))) (And.intro (And.intro (And.intro (And.intro (And.intro (And.intro (@X0) (@X1)) (@aiF)) (And.intro (And.intro (@adQ) (@acz)) (@adk))) (And.intro (And.intro (And.intro (@XL) (@adl)) (@TA)) (And.intro (@aki) (@afw)))) (And.intro (And.intro (And.intro (And.intro (@akj) (@akh)) (@afv)) (And.intro (@afs) (@acy))) (And.intro (And.intro (And.intro (@Ze) (@afP)) (@Zv)) (And.intro (@aht) (@ahw))))) (And.intro (And.intro (And.intro (And.intro (And.intro (@ahv) (@ahx)) (@ahu)) (And.intro (@ahy) (@Md))) (And.intro (And.intro (And.intro (@KM) (@Td)) (@afo)) (And.intro (@afn) (@aco)))) (And.intro (And.intro (And.intro (And.intro (@acn) (@UU)) (@I9)) (And.intro (@M5) (@Ff))) (And.intro (And.intro (And.intro (@Tz) (@Zx)) (@xE)) (And.intro (@afS) (@Zw))))))))
def jh:=And.intro nK (And.intro (And.intro (And.intro (And.intro (And.intro (And.intro (@cY.eq_1) (@cY.eq_2)) (@cb.eq_1)) (And.intro (And.intro (@cb.eq_2) (@ct.eq_1)) (@ct.eq_2))) (And.intro (And.intro (And.intro (@cm.eq_1) (@cm.eq_2)) (@gC.eq_1)) (And.intro (@gC.eq_2) (@aE.eval.eq_1)))) (And.intro (And.intro (And.intro (And.intro (@aE.eval.eq_2) (@aE.eval.eq_3)) (@AS.bW.eq_1)) (And.intro (And.intro (@AS.bW.eq_2) (@cn.eq_1)) (@cn.eq_2))) (And.intro (And.intro (And.intro (@cn.eq_3) (@gr.eq_1)) (@gr.eq_2)) (And.intro (@cd.eq_1) (@cd.eq_3))))) (And.intro (And.intro (And.intro (And.intro (And.intro (@bD.eq_1) (@bD.eq_2)) (@bD.eq_4)) (And.intro (And.intro (@bound.eq_1) (@bound.eq_2)) (@dc.eq_1))) (And.intro (And.intro (And.intro (@dc.eq_2) (@AS.bC.eq_1)) (@aN.eq_1)) (And.intro (@putAt.eq_1) (@aP.eq_1)))) (And.intro (And.intro (And.intro (And.intro (@aQ.eq_11) (@aQ.eq_12)) (@aQ.eq_13)) (And.intro (@aQ.eq_34) (@Option.isSome.eq_1.{0}))) (And.intro (And.intro (And.intro (@Option.isSome.eq_2.{0}) (@Option.isNone.eq_1.{0})) (@Option.isNone.eq_2.{0})) (And.intro (@cond_true.{1}) (@cond_false.{1}))))))
def dr:=And.intro jh (And.intro (And.intro (And.intro (@dQ) (@dP)) (And.intro (@dO) (@dN))) (And.intro (And.intro (@dM) (@dL)) (And.intro (@dS) (@dR))))
def aO:=And.intro dr (And.intro (And.intro (@au.eq_1) (@bA)) (And.intro (@Int.toNat_natCast) (@Nat.add_zero)))
def jV:=aO
section
section
variable {P A B C D E F G H:Prop}
def vE0(z:P:=by simp(disch:=omega)only[jh,aa,simprocAttr]):P:=z
def vE1(a:A)(z:A->P:=by intro a;simp(disch:=omega)only[jh,aa,simprocAttr,a]):P:=z a
def vE2(a:A)(b:B)(z:A->B->P:=by intro a b;simp(disch:=omega)only[jh,aa,simprocAttr,a,b]):P:=z a b
def vE3(a:A)(b:B)(c:C)(z:A->B->C->P:=by intro a b c;simp(disch:=omega)only[jh,aa,simprocAttr,a,b,c]):P:=z a b c
def vE4(a:A)(b:B)(c:C)(d:D)(z:A->B->C->D->P:=by intro a b c d;simp(disch:=omega)only[jh,aa,simprocAttr,a,b,c,d]):P:=z a b c d
def vE5(a:A)(b:B)(c:C)(d:D)(e:E)(z:A->B->C->D->E->P:=by intro a b c d e;simp(disch:=omega)only[jh,aa,simprocAttr,a,b,c,d,e]):P:=z a b c d e
def jd(z:P:=by simp(disch:=omega)only[dr,aa,simprocAttr]):P:=z
def fY(a:A)(z:A->P:=by intro a;simp(disch:=omega)only[dr,aa,simprocAttr,a]):P:=z a
def RQ(a:A)(b:B)(z:A->B->P:=by intro a b;simp(disch:=omega)only[dr,aa,simprocAttr,a,b]):P:=z a b
def vO3(a:A)(b:B)(c:C)(z:A->B->C->P:=by intro a b c;simp(disch:=omega)only[dr,aa,simprocAttr,a,b,c]):P:=z a b c
def WI(a:A)(b:B)(c:C)(d:D)(z:A->B->C->D->P:=by intro a b c d;simp(disch:=omega)only[dr,aa,simprocAttr,a,b,c,d]):P:=z a b c d
def vO5(a:A)(b:B)(c:C)(d:D)(e:E)(z:A->B->C->D->E->P:=by intro a b c d e;simp(disch:=omega)only[dr,aa,simprocAttr,a,b,c,d,e]):P:=z a b c d e
def vO6(a:A)(b:B)(c:C)(d:D)(e:E)(f:F)(z:A->B->C->D->E->F->P:=by intro a b c d e f;simp(disch:=omega)only[dr,aa,simprocAttr,a,b,c,d,e,f]):P:=z a b c d e f
def vO7(a:A)(b:B)(c:C)(d:D)(e:E)(f:F)(g:G)(z:A->B->C->D->E->F->G->P:=by intro a b c d e f g;simp(disch:=omega)only[dr,aa,simprocAttr,a,b,c,d,e,f,g]):P:=z a b c d e f g
def tL(z:P:=by simp(disch:=omega)only[aO,aa,simprocAttr]):P:=z
def nx(a:A)(z:A->P:=by intro a;simp(disch:=omega)only[aO,aa,simprocAttr,a]):P:=z a
def Lz(a:A)(b:B)(z:A->B->P:=by intro a b;simp(disch:=omega)only[aO,aa,simprocAttr,a,b]):P:=z a b
def vK3(a:A)(b:B)(c:C)(z:A->B->C->P:=by intro a b c;simp(disch:=omega)only[aO,aa,simprocAttr,a,b,c]):P:=z a b c
def vK4(a:A)(b:B)(c:C)(d:D)(z:A->B->C->D->P:=by intro a b c d;simp(disch:=omega)only[aO,aa,simprocAttr,a,b,c,d]):P:=z a b c d
def vK5(a:A)(b:B)(c:C)(d:D)(e:E)(z:A->B->C->D->E->P:=by intro a b c d e;simp(disch:=omega)only[aO,aa,simprocAttr,a,b,c,d,e]):P:=z a b c d e
def vK6(a:A)(b:B)(c:C)(d:D)(e:E)(f:F)(z:A->B->C->D->E->F->P:=by intro a b c d e f;simp(disch:=omega)only[aO,aa,simprocAttr,a,b,c,d,e,f]):P:=z a b c d e f
def vK8(a:A)(b:B)(c:C)(d:D)(e:E)(f:F)(g:G)(h:H)(z:A->B->C->D->E->F->G->H->P:=by intro a b c d e f g h;simp(disch:=omega)only[aO,aa,simprocAttr,a,b,c,d,e,f,g,h]):P:=z a b c d e f g h
def wF(z:P:=by simp(disch:=omega)only[jV,aa,simprocAttr]):P:=z
def cz(a:A)(z:A->P:=by intro a;simp(disch:=omega)only[jV,aa,simprocAttr,a]):P:=z a
def vS2(a:A)(b:B)(z:A->B->P:=by intro a b;simp(disch:=omega)only[jV,aa,simprocAttr,a,b]):P:=z a b
end
end
end Go.Proofs.YtnhpoddlmjpapaaGreatDoor
namespace Go.Abs
variable {s:AS}{f:FuncId}{ls:List (List aS)}{i:Nat}{a b:aH}
section
def ae3{a b:Nat}(h:a≠b):Nat.beq a b=false:=by
 cases hb:Nat.beq a b with
 | false=>rfl
 | true=>exact absurd (avR hb) h
section
variable {A:AP}
def D(A:AP)(c:aH)(s:AS)(Q:bJ->AS->Prop):Prop:=WN A.aW (aj A) c s Q
def sq{Q:bJ->AS->Prop} : D A .skip s Q=Q .normal s:=rfl
def aaK{Q:bJ->AS->Prop} : D A .ret s Q=Q .ret s:=rfl
def acC{Q:bJ->AS->Prop} : D A (.exit i) s Q=Q (.exit i) s:=rfl
def fi{Q:bJ->AS->Prop} : D A (.seq a b) s Q=D A a s (andThen (fun s'=>D A b s' Q) Q):=rfl
def Hu{Q:bJ->AS->Prop} : D A (.block i a) s Q=D A a s (leave i Q):=rfl
def iP{c:aE}{Q:bJ->AS->Prop} : D A (.cond c a b) s Q=Cj (c.eval A.aW s.T) (fun s=>D A a s Q) (fun s=>D A b s Q) s:=rfl
def cr{os:List aS}{Q:bJ->AS->Prop}(h:QY os=true):D A (.region os) s Q=WO A os s (Q .normal) :=
 propext ⟨Ao os s h,fun ⟨s',h1,h2⟩=>uY os s s' h1 h2⟩
def PH{c:aH}{Q:bJ->AS->Prop}(h:W A c s Q):D A c s Q:=BW h
end
def noI:aS:=⟨none,none,.next (.xI .undef)⟩
def exts(ops:List aS)(pre:List (List Nat)):Nat->Array Bool->List (List aS)
 | 0,B=>match jS pre B with
  | []=>[[]]
  | _=>[[noI]]
 | n+1,B=>match jS pre B with
  | []=>[[]]
  | r=>r.flatMap fun i=>match ops[i]? with
   | some o=>(exts ops pre n (B.setIfInBounds i true)).map (o :: ·)
   | none=>[[noI]]
section
variable {A:AP}{ops:List aS}{pre:List (List Nat)}{Q:AS->Prop}
def ajW(h:WO A [noI] s Q):False:=by
 obtain⟨s',h,_⟩:=h;simp[gM,aP,noI,aQ] at h
def Jb:∀ (n:Nat) (B:Array Bool) (s:AS),wL A.aW (aj A) ops pre n B s Q->wL A.aW (aj A) ops pre (n+1) B s Q
 | 0,B,s,h=>⟨fun _=>h.2,fun i hi=>by rw[h.1] at hi;cases hi⟩
 | n+1,B,s,h=>⟨h.1,fun i hi=>by
  obtain⟨o,s',h1,h2,h3⟩:=h.2 i hi;exact⟨o,s',h1,h2,Jb n _ _ h3⟩⟩
def Oi:∀ (n:Nat) (B:Array Bool),∃ l,l∈exts ops pre n B
 | 0,B=>by unfold exts;split<;>exact⟨_,List.mem_cons_self⟩
 | n+1,B=>by
  unfold exts;split
  ·exact⟨_,List.mem_cons_self⟩
  ·rename_i h
   obtain⟨i,r,hr⟩:=axj h;cases ho:ops[i]? with
   | none=>exact⟨[noI],aws.2 ⟨i,by rw[hr];exact List.mem_cons_self,by rw[ho];exact List.mem_cons_self⟩⟩
   | some o =>
    obtain⟨l,hl⟩:=Oi n (B.setIfInBounds i true);exact⟨o :: l,aws.2 ⟨i,by rw[hr];exact List.mem_cons_self,by rw[ho];exact List.mem_map.2 ⟨l,hl,rfl⟩⟩⟩
def B8:∀ (n:Nat) (B:Array Bool) (s:AS),(∀ l∈exts ops pre n B,WO A l s Q)->wL A.aW (aj A) ops pre n B s Q
 | 0,B,s,h=>by
  unfold exts at h;split at h
  ·rename_i e
   have:=h [] List.mem_cons_self
   rw[Hi] at this;exact⟨e,this⟩
  ·exact (ajW (h _ List.mem_cons_self)).elim
 | n+1,B,s,h=>by
  unfold exts at h;refine⟨fun e=>?_,fun i hi=>?_⟩
  ·rw[e] at h
   have:=h [] List.mem_cons_self
   rwa [Hi] at this
  ·split at h
   ·rename_i e;rw[e] at hi;cases hi
   ·have h:=fun l hl=>h l (aws.2 ⟨i,hi,hl⟩)
    cases ho:ops[i]? with
    | none=>rw[ho] at h;exact (ajW (h _ List.mem_cons_self)).elim
    | some o =>
     rw[ho] at h;have h:=fun l hl=>h (o :: l) (List.mem_map.2 ⟨l,hl,rfl⟩)
     obtain⟨l,hl⟩:=Oi (ops:=ops) (pre:=pre) n (B.setIfInBounds i true);have h0:=h l hl;rw[gl] at h0;obtain⟨s1,h1,_⟩:=h0;refine⟨o,s1,rfl,h1,B8 n _ _ fun l hl=>?_⟩
     have:=h l hl
     rw[gl,h1,aU] at this;exact this
def Fa(A:AP)(Q:AS->Prop)(s:AS):List (List aS)->Prop
 | []=>True
 | l :: r=>WO A l s Q/\Fa A Q s r
def R6 : ∀ {ls:List (List aS)},Fa A Q s ls->∀ l∈ls,WO A l s Q
 | [],_,l,hl=>by cases hl
 | a :: r,h,l,hl=>by
  rcases avi.1 hl with rfl|hl
  ·exact h.1
  ·exact R6 h.2 l hl
def SH{Q:bJ->AS->Prop}(hl:exts ops pre ops.length (Array.replicate ops.length false)=ls)(h:Fa A (Q .normal) s ls):D A (.qQ ops pre) s Q :=
 B8 _ _ _ (by rw[hl];exact R6 h)
def OU(k n:Nat)(pre:List (List Nat)):Bool:=Nat.beq pre.length n&&Nat.ble k n&&(List.range n).all fun i=>cond (Nat.blt i k) ((pre.getD i []).all fun e=>Nat.blt e i) ((List.range k).all (pre.getD i []).contains)
def mem_ready{B:Array Bool} : i∈jS pre B↔i<pre.length/\B.getD i true=false/\∀ e,e∈pre.getD i []->B.getD e false=true:=by
 unfold jS;rw[axe,awv];simp only[auT,avg,auX]
def BH{B:Array Bool}{x:Bool}(h:B.getD i true=false\/i<B.size):B.getD i x=B.getD i true:=by
 by_cases hi:i<B.size
 ·simp[hi]
 ·rcases h with h|h
  ·simp[hi] at h
  ·exact absurd h hi
def N0{n:Nat}{B:Array Bool}(h:wL A.aW (aj A) ops pre n B s Q):∀ m,wL A.aW (aj A) ops pre (m+n) B s Q
 | 0=>by rwa [avt]
 | m+1=>by rw[Nat.add_right_comm];exact Jb _ _ _ (N0 h m)
def WS{k:Nat}(hk:OU k ops.length pre=true){R:AS->Prop}(hR:∀ s,R s->∀ B:Array Bool,B.size=ops.length->(∀ i,i<k->B.getD i true=true)->(∀ i,k<=i->i<ops.length->B.getD i true=false)->wL A.aW (aj A) ops pre (ops.length-k) B s Q) :
  ∀ (m:Nat) (B C:Array Bool) (s:AS),B.size=ops.length->C.size=k->(∀ i,i<k->B.getD i true=C.getD i true)->(∀ i,k<=i->i<ops.length->B.getD i true=false) ->
   wL A.aW (aj A) (ops.take k) (pre.take k) m C s R->wL A.aW (aj A) ops pre (m+(ops.length-k)) B s Q:=by
 simp only[OU,auT,aw3,avm,auX,awv] at hk;obtain⟨⟨hl,Qr⟩,hp⟩:=hk;have pt:∀ i,i<k->(pre.take k).getD i []=pre.getD i []:=fun i hi=>by simp[List.getD_eq_getElem?_getD,avn,hi]
 have back:∀ i,i<k->∀ e,e∈pre.getD i []->e<i:=fun i hi e he=>by
  have:=hp i (by omega)
  rw[show Nat.blt i k=true by simp[avh,hi],cond_true,auX] at this
  simpa [avh] using this e he
 have all:∀ i,k<=i->i<ops.length->∀ j,j<k->j∈pre.getD i []:=fun i hi XS j hj=>by
  have:=hp i XS
  rw[show Nat.blt i k=false by cases hb:Nat.blt i k with|false=>rfl|true=>rw[avh] at hb;omega,cond_false,auX] at this
  simpa using this j (awv.2 hj)
 have full:∀ C:Array Bool,C.size=k->jS (pre.take k) C=[]->∀ i,i<k->C.getD i true=true:=fun C hC hr i=>by
  induction i using Nat.strongRecOn with
  | _ i ih =>
   intro hi;cases hb:C.getD i true with
   | true=>rfl
   | false =>
    have:i∈jS (pre.take k) C:=mem_ready.2 ⟨by simp;omega,hb,fun e he=>by
     rw[pt i hi] at he;have:=back i hi e he
     rw[BH (.inr (by omega))];exact ih e this (by omega)⟩
    rw[hr] at this;cases this
 intro m
 induction m with
 | zero =>
  intro B C s hB hC hBC hBk h;rw[avt];exact hR s h.2 B hB (fun i hi=>(hBC i hi).trans (full C hC h.1 i hi)) hBk
 | succ m ih =>
  intro B C s hB hC hBC hBk h
  by_cases e:jS (pre.take k) C=[]
  ·exact N0 (hR s (h.1 e) B hB (fun i hi=>(hBC i hi).trans (full C hC e i hi)) hBk) _
  ·obtain⟨j,r,hj⟩:=axj e
   obtain⟨j1,j2,j3⟩:=mem_ready.1 (show j∈jS (pre.take k) C by rw[hj];exact List.mem_cons_self)
   have j1:j<k:=by simp at j1;omega
   have same:∀ i,i<k->(i∈jS pre B↔i∈jS (pre.take k) C):=fun i hi=>by
    rw[mem_ready,mem_ready,hBC i hi,pt i hi];refine and_congr ⟨fun _=>by simp;omega,fun _=>by omega⟩ (and_congr Iff.rfl (forall_congr' fun e=>forall_congr' fun he=>?_))
    have:=back i hi e he
    rw[BH (.inr (by omega)),BH (B:=C) (.inr (by omega)),hBC e (by omega)]
   rw[Nat.add_right_comm];refine⟨fun hr=>?_,fun i hi=>?_⟩
   ·have:=(same j j1).2 (by rw[hj];exact List.mem_cons_self)
    rw[hr] at this;cases this
   ·have HP:i<k:=by
     rcases axf i k with h|h
     ·exact h
     ·obtain⟨h1,_,h3⟩:=mem_ready.1 hi
      have:=h3 j (all i h (by omega) j j1)
      rw[BH (.inr (by omega)),hBC j j1,j2] at this
      cases this
    obtain⟨o,s',h1,h2,h3⟩:=h.2 i ((same i HP).1 hi);rw[avn,if_pos HP] at h1;refine⟨o,s',h1,h2,ih _ _ s' (by simpa using hB) (by simpa using hC) (fun q hq=>?_) (fun q hq hqn=>?_) h3⟩
    ·by_cases e:i=q
     ·subst e;simp[show i<B.size by omega,show i<C.size by omega]
     ·rw[getD_set_ne true e,getD_set_ne true e];exact hBC q hq
    ·rw[getD_set_ne true (by omega)];exact hBk q hq hqn
def onB(k n:Nat):Array Bool:=((List.range n).map fun i=>Nat.blt i k).toArray
def aaJ(k:Nat)(L:List Nat){l:List aS}{Q:bJ->AS->Prop}(hk:OU k ops.length pre=true)(hl:V8 false L (ops.take k) (pre.take k)=some l)(hx:QY l=true)(hr:exts ops pre (ops.length-k) (onB k ops.length)=ls)
  (h:WO A l s fun s1=>Fa A (Q .normal) s1 ls):D A (.qQ ops pre) s Q:=by
 have Qr:k<=ops.length:=by
  simp only[OU,auT,avm] at hk;exact hk.1.2
 have h1:WN A.aW (aj A) (.qQ (ops.take k) (pre.take k)) s (fun _ s1=>Fa A (Q .normal) s1 ls):=by
  refine Il (L:=L) (c:=.qQ (ops.take k) (pre.take k)) (pc:=false) id ?_;unfold orR;rw[hl];simp only[hx,cond_true];rw[show WN A.aW (aj A) (.region l) s _=_ from cr hx]
  exact h
 have:=WS (A:=A) (Q:=Q .normal) hk (R:=fun s1=>Fa A (Q .normal) s1 ls) (fun s1 hs B hB hB1 hB2=>by
  have:B=onB k ops.length:=by
   refine Array.ext (by simp[onB,hB]) fun i hi _=>?_
   have e:B.getD i true=B[i]:=by simp[hi]
   rw[<- e]
   by_cases HP:i<k
   ·simp[onB,hB1 i HP,avh,HP]
   ·rw[hB2 i (by omega) (by omega)]
    have:Nat.blt i k=false:=by cases hb:Nat.blt i k with|false=>rfl|true=>rw[avh] at hb;omega
    simp[onB,this]
  rw[this];exact B8 _ _ _ (by rw[hr];exact R6 hs)) (ops.take k).length (Array.replicate ops.length false) (Array.replicate (ops.take k).length false) s (by simp) (by simp[Qr]) (fun i hi=>by simp[Qr,show i<ops.length by omega,hi]) (fun i _ hi=>by simp[hi]) h1
 rw[avK,axu Qr,Nat.add_sub_cancel' Qr] at this;exact this
end
end
section
section
variable {G:Nat->List AV}{cf:gD}
theorem Pg{Q:bJ->AS->Prop}(I:Nat->AS->Prop)(hI:∀ k s,I k s->WN G cf a s (andThen (fun s'=>∃ k',k=k' + 1/\I k' s') Q)):∀ k s,I k s->yJ (WN G cf a) (k+1) s Q:=by
 intro k
 induction k with
 | zero =>
  intro s h;refine jL a s (hI 0 s h) (lq (fun s' h=>?_) (fun _ _ h=>h))
  grind
 | succ k ih =>
  intro s h;refine jL a s (hI (k+1) s h) (lq (fun s' h=>?_) (fun _ _ h=>h))
  grind
end
section
variable {A:AP}
def agw{P:Program}(hA:lL P A){fn:Func}(IU:P.funcs[f]?=some fn){dW locals muts:List Nat}{qd:ax}(hc:bo P dW locals muts fn=some qd){g:List AV->ae->Option (AV × Option fR)}
  (hm:qd.muts.elem 777777=false) (Mx:∀ args H r c,g args H=some (r,c)->jF H c)
  (hg:∀ args H x,g args H=some x->args.length=qd.np/\WN A.aW (aj A) qd.body { T:=fm args,H,lo:=H.length,gen:=0 } (done H.length qd.results x)):fU P A.aW f g:=by
 refine ab7 hA IU hc Mx fun args H x hx=>?_
 obtain⟨h1,h2⟩:=hg args H x hx;refine⟨h1,jL _ _ h2 fun e s h=>?_⟩
 have key:∀ s,fin H.length qd.results s=some x->finish H.length qd s=some x:=fun s h=>by
  have:=pd (fn:=qd) h
  rwa [uP hm] at this
 cases e with
 | exit i=>exact h.elim
 | normal=>exact key _ h
 | ret=>exact key _ h
end
end
def cW{A:AP}{fn:ax}{tk l m:List Nat}{nt np:Nat}{rs:List gY}(e:fn=⟨tk,l,m,nt,np,rs,b⟩){args:List AV}{H:ae}{r:AV × Option fR}
  (h:W A b { T:=fm args,H,lo:=H.length,gen:=0 } (done H.length rs r)) (ho:A.ov f=none:=by exact rfl) (hf:A.fns f=some fn:=by exact rfl) (hn:Nat.beq args.length np=true:=by exact rfl) (hm:m.elem 777777=false:=by exact rfl):aj A f args H=some r:=by
 subst e;exact cB ho hf hn h hm
end Go.Abs
namespace Go.Proofs.YtnhpoddlmjpapaaGreatDoor
open Go Go.Abs Go.Proofs
variable {α:Type}
abbrev aB:=List UInt8
def mi(n k:Int):Int:=(if n<0 then -(n+1) else n).tmod k
def atZ(l:List Int)(i k:Int):Int:=if i<0\/(l.length:Int)<=i then 0 else mi (l.getD i.toNat 0) k
def kV(c:UInt8):Bool:=decide ((97:Int)<=c.toNat)&&decide ((c.toNat:Int)<=122) || decide ((65:Int)<=c.toNat)&&decide ((c.toNat:Int)<=90)
def isDigit(c:UInt8):Bool:=decide ((48:Int)<=c.toNat)&&decide ((c.toNat:Int)<=57)
def kindOf(c:UInt8):Int:=if kV c then 1 else if isDigit c then 2 else 0
def mP[BEq α](x:α):List α->Nat->Int
 | [],_=>-1
 | a :: l,i=>if a==x then i else mP x l (i+1)
def wm[BEq α][LawfulBEq α](x:α):∀ (l:List α) (i:Nat),decide (0<=mP x l i)=l.contains x
 | [],i=>by simp[mP]
 | a :: l,i=>by
  unfold mP
  by_cases h:a=x
  ·subst h;simp
  ·have h' : (a==x)=false:=cT h
   have h2:(x==a)=false:=by simpa using fun e=>h e.symm
   rw[h',awA,h2,avP];exact wm x l (i+1)
theorem qS(n k:Int)(H:ae)(hn:BZ n)(hk:0<k):aj A 21 [.int .i64 n,.int .i64 k] H=some (.int .i64 (mi n k),none):=by
 obtain⟨h1,h2⟩:=hn;have tF:k≠0:=ah;refine cB (fn:=aec) rfl rfl rfl ?_;unfold aec;simp(disch:=omega)only[jh,aa,simprocAttr];refine jt ?_ ?_<;>intro h
 ·simp(disch:=omega)only[jh,aa,simprocAttr,tF,mi,if_pos h]
  grind
 ·simp(disch:=omega)only[jh,aa,simprocAttr,tF,mi,if_neg h]
def amc(l:List Int)(i k:Int)(H:ae)(hl:∀ n∈l,BZ n)(hk:0<k):aj A 45 [.slice (ints l) false,.int .i64 i,.int .i64 k] H=some (.int .i64 (atZ l i k),none):=by
 refine cB (fn:=aem) rfl rfl rfl ?_;unfold aem
 by_cases h0:i<0
 ·simp(disch:=omega)only[jh,aa,simprocAttr,h0,atZ,true_or]
 by_cases h1:(l.length:Int)<=i
 ·simp(disch:=omega)only[jh,aa,simprocAttr,h0,h1,pA,atZ,or_true]
 ·have hi:i.toNat<l.length:=ah
  have hg:l[i.toNat]?=some (l.getD i.toNat 0):=by rw[List.getD_eq_getElem?_getD,auS hi];rfl
  have hr:BZ (l.getD i.toNat 0):=hl _ (by rw[List.getD_eq_getElem?_getD,auS hi];exact avj hi)
  simp(disch:=omega)only[jh,aa,simprocAttr,h0,h1,pA,atZ,false_or,bA (show 0<=i by omega),ints_at hg,qS _ _ H hr hk]
def OK(l:List aB)(w:aB)(H:ae)(hl:l.length<=9223372036854775806):aj A 54 [.slice (strs l) false,.str w] H=some (.int .i64 (mP w l 0),none):=by
 refine cB (fn:=aeq) rfl rfl rfl ?_;unfold aeq;simp(disch:=omega)only[jh,aa,simprocAttr];refine uZ l.length (fun i=>Hd (fun T=>T 0=.slice (strs l) false/\T 1=.str w/\T 7=.int .i64 l.length/\T 8=.int .i64 i/\mP w l 0=mP w (l.drop i) i) H H.length 0) ?_ 0 _ (Nat.zero_le _) ?_
 ·rintro i s hi hs
  obtain⟨T,rfl,h0,h1,h7,h8,hc⟩:=hs.out;simp(disch:=omega)only[jh,aa,simprocAttr,h7,h8];refine jt ?_ ?_<;>intro h
  ·have j8:i<l.length:=ah
   simp(disch:=omega)only[jh,aa,simprocAttr,h0,h1,h8,iz (auS j8)];refine jG ?_ ?_<;>intro hb
   ·simp(disch:=omega)only[jh,aa,simprocAttr,hc,avf j8,mP,show (l[i]==w)=true by rw[avB] at hb ⊢;exact hb.symm]
   ·simp(disch:=omega)only[jh,aa,simprocAttr,h0,h1,h7,h8]
    exact⟨j8,by rw[hc,avf j8,mP,show (l[i]==w)=false by rw[awX] at hb ⊢;exact hb.symm];rfl⟩
  ·have:i=l.length:=ah
   subst this;simp(disch:=omega)only[jh,aa,simprocAttr,hc,awr,mP]
 ·simp(disch:=omega)only[jh,aa,simprocAttr,bG]
def Ma(l:List aB)(w:aB)(H:ae)(hl:l.length<=9223372036854775806):aj A 91 [.slice (strs l) false,.str w] H=some (.bool (l.contains w),none):=by
 refine cB (fn:=aeB) rfl rfl rfl ?_;unfold aeB;simp(disch:=omega)only[jh,aa,simprocAttr,OK l w H hl,wm]
def ru(c:UInt8)(H:ae):aj A 90 [.int .u8 c.toNat] H=some (.bool (kV c),none):=by
 refine cB (fn:=aeA) rfl rfl rfl ?_;unfold aeA kV
 by_cases h1:(97:Int)<=c.toNat<;>by_cases h2:(c.toNat:Int)<=122<;>by_cases h3:(65:Int)<=c.toNat<;>by_cases h4:(c.toNat:Int)<=90 <;>
  exact vE4 h1 h2 h3 h4
def yd(c:UInt8)(H:ae):aj A 189 [.int .u8 c.toNat] H=some (.bool (isDigit c),none):=by
 refine cB (fn:=Ur) rfl rfl rfl ?_;unfold Ur isDigit
 by_cases h1:(48:Int)<=c.toNat<;>by_cases h2:(c.toNat:Int)<=57 <;>
  exact vE2 h1 h2
def JA(c:UInt8)(H:ae):aj A 188 [.int .u8 c.toNat] H=some (.bool (kV c || isDigit c),none):=by
 refine cB (fn:=Uq) rfl rfl rfl ?_;unfold Uq;cases h:kV c<;>exact vE3 ru yd h
def xj(c:UInt8)(H:ae):aj A 78 [.int .u8 c.toNat] H=some (.int .i64 (kindOf c),none):=by
 refine cB (fn:=aet) rfl rfl rfl ?_;unfold aet kindOf kV isDigit
 by_cases h1:(97:Int)<=c.toNat<;>by_cases h2:(c.toNat:Int)<=122<;>by_cases h3:(65:Int)<=c.toNat<;>by_cases h4:(c.toNat:Int)<=90<;>by_cases h5:(48:Int)<=c.toNat<;>by_cases h6:(c.toNat:Int)<=57 <;>
  simp(disch:=omega)only[jh,aa,simprocAttr,h1,h2,h3,h4,h5,h6,av4]
theorem wo:∀ (p s:aB),p.isPrefixOf s=(decide (p.length<=s.length)&&(s.take p.length==p))
 | [],s=>ag
 | a :: p,[]=>ag
 | a :: p,b :: s=>by
  have:=wo p s
  grind
def yr(s p:aB)(H:ae):aj A 120 [.str s,.str p] H=some (.bool (p.isPrefixOf s),none):=by
 refine cB (fn:=Uj) rfl rfl rfl ?_;unfold Uj;rw[wo]
 by_cases h:(p.length:Int)<=s.length
 ·have hh:p.length<=s.length:=ah
  exact vE2 h hh
 ·exact vE2 h (show ¬ p.length<=s.length by omega)
def AK(s p:aB)(H:ae):aj A 89 [.str s,.str p] H=some (.bool (p.isPrefixOf s),none):=by
 refine cB (fn:=aez) rfl rfl rfl ?_;unfold aez;exact vE1 yr
def bY:Bool->aB->Nat
 | _,[]=>0
 | c,b :: r=>if b.toNat=10 then 1+bY false r else if b.toNat=35 then 1+bY true r else if b.toNat≠32/\c=false then 0 else 1+bY c r
def n9:∀ (c:Bool) (s:aB),bY c s<=s.length
 | _,[]=>Nat.le_refl _
 | c,b :: r=>by
  have h1:=n9 false r;have h2:=n9 true r;have h3:=n9 c r;simp only[bY,List.length_cons];split
  ·omega
  ·split
   ·omega
   ·split<;>omega
def nI:aB:=[40,41,123,125,91,93,44,58,46,61,43,45,42,47,37,60]
def mq(s:aB):Bool:=s==[61,61] || s==[45,62] || (decide (s.length=1)&&nI.contains (s.getD 0 0))
def agq(a b:UInt8):(((a.toNat:Int))==(b.toNat:Int))=(a==b):=by
 by_cases h:a=b
 ·subst h;simp
 ·have h' : a.toNat≠b.toNat:=fun e=>h (aw0.1 e)
  have h2:(a==b)=false:=cT h;rw[h2];simp;omega
def NJ(s:aB)(H:ae):aj A 88 [.str s] H=some (.bool (mq s),none):=by
 refine cB (fn:=aey) rfl rfl rfl ?_;unfold aey mq;cases e1:(s==[61,61]) with
 | true=>simp(disch:=omega)only[jh,aa,simprocAttr,e1]
 | false =>
 cases e2:(s==[45,62]) with
 | true=>simp(disch:=omega)only[jh,aa,simprocAttr,e1,e2]
 | false =>
 simp(disch:=omega)only[jh,aa,simprocAttr,e1,e2];refine jG ?_ ?_<;>intro hl
 ·have Fu:s.length≠1:=fun e=>by rw[e] at hl;simp at hl
  simp(disch:=omega)only[jh,aa,simprocAttr,Fu]
 have Fu:s.length=1:=by
  have:(s.length:Int)=1:=cT hl
  omega
 match s,Fu with
 | [b],_ =>
 simp(disch:=omega)only[jh,aa,simprocAttr];refine uZ 16 (fun i=>Hd (fun T=>T 0=.str [b]/\T 3=.str nI/\T 4=.int .i64 i/\nI.contains b=(nI.drop i).contains b) H H.length 0) ?_ 0 _ (Nat.zero_le _) ?_
 ·rintro i st hi gZ
  obtain⟨T,rfl,h0,h3,h4,hc⟩:=gZ.out;simp(disch:=omega)only[jh,aa,simprocAttr,h3,h4,show nI.length=16 from rfl]
  refine jt ?_ ?_<;>intro h
  ·have j8:i<nI.length:=by simp only[show nI.length=16 from rfl];omega
   simp(disch:=omega)only[jh,aa,simprocAttr,h0,h3,h4,auS j8,agq];refine jG ?_ ?_<;>intro hb
   ·have iJ:nI[i]=b:=cT hb
    simp(disch:=omega)only[jh,aa,simprocAttr,hc,avf j8,awA,iJ,axM]
   ·have iJ:(b==nI[i])=false:=by
     have:nI[i]≠b:=cT hb
     simpa using fun e=>this e.symm
    simp(disch:=omega)only[jh,aa,simprocAttr,h0,h3,h4];exact⟨ah,by rw[hc,avf j8,awA,iJ,avP]⟩
  ·have:i=16:=ah
   subst this;rw[show (nI.drop 16).contains b=false from rfl] at hc
   simp(disch:=omega)only[jh,aa,simprocAttr,axM,hc]
 ·simp(disch:=omega)only[jh,aa,simprocAttr]
  exact rfl
end Go.Proofs.YtnhpoddlmjpapaaGreatDoor
end
