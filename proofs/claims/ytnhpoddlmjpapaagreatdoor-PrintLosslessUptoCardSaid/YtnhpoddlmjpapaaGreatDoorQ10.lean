/-
  A part of the proof of PrintLossless: UQ3, UQ4, UQ5, UQ6, UQ7, UQ8, UQ9, UQ10, UQ11, UQ12, UQ13, UQ14, UQ15, U46.
-/
import Derived.Test.YtnhpoddlmjpapaaGreatDoorQ09
set_option linter.unusedSimpArgs false
set_option linter.unusedVariables false
set_option linter.defProp false
set_option maxHeartbeats 1000000
set_option maxRecDepth 100000
noncomputable section
namespace Go.Proofs.YtnhpoddlmjpapaaGreatDoor
open Go Go.Abs Go.Proofs
variable {v:AV}{r x y:AV × Option fR}{b:Bool}{least:Int}{rows:List (List AV)}{args c0 row row':List AV}{tk':List Tk}{ks:List Tm}{ns:List aB}{gen j l lo mm n' q:Nat}{w:aB}{T:aD}{K' K0:ae}{fn:ax}{o:bM}
section
section
variable {tk:List Tk}{pl:Nat}{K:ae}
def Kl(h:PQ pl K)(hb:Bu tk){s:PS}(hw:w≠[])(e:(pk (az tk) s==w)=true):aj A 26 [.ref pl 0,.str w] (aI tk pl s K)=some (.bool true,some ⟨aI tk pl s.up K,pl⟩):=by
 have aZ:s.i<tk.length:=tK (by rw[avB.1 e];exact hw)
 have hl:=hb.len;have hp:=Du h hb s ah;have h0:=nj (tk:=tk) (s:=s) h;have ho:=h.open (tk:=tk) (s:=s.up);have ij:=h.lt;unfold nC at h0;refine cB (fn:=Uu) rfl rfl rfl ?_;unfold Uu;obtain⟨i,b⟩:=s;simp only[PS.up] at h0 aZ ho ⊢;simp(disch:=omega)only[nK,cY,cb,ct,cm,gC,aP,aQ,br,aE.eval,AS.bW,↓reduceIte,Nat.reduceEqDiff,Option.isSome,Option.isNone,cond_true,cond_false,Nat.reduceBEq,Nat.reduceAdd,Nat.reduceMul,aa,cn,avs,reduceCtorEq,gr,cZ,cd,bD,bound,dc,AS.bC,aN,bI,bu,Nat.reduceLeDiff,cq,putAt,Int.reduceEq,Int.reduceLT,Int.reduceLE,Int.reduceBEq,Int.reduceBNe,Int.reduceAdd,Int.reduceNeg,Int.reduceSub,Int.reduceMul,dQ,dP,dO,dN,dM,dL,dS,dR,au,bA,au5,au7,hp,e,h0,bF,rI,dK,ho,ab]
def Kk(h:PQ pl K)(hb:Bu tk){s:PS}(hs:s.i<=tk.length)(e:(pk (az tk) s==w)=false):aj A 26 [.ref pl 0,.str w] (aI tk pl s K)=some (.bool false,none):=by
 have hl:=hb.len;have hp:=Du h hb s ah;refine cB (fn:=Uu) rfl rfl rfl ?_;unfold Uu;simp(disch:=omega)only[nK,cY,cb,ct,cm,gC,aP,aQ,br,aE.eval,AS.bW,↓reduceIte,Nat.reduceEqDiff,Option.isSome,Option.isNone,cond_true,cond_false,Nat.reduceBEq,Nat.reduceAdd,Nat.reduceMul,aa,cn,avs,reduceCtorEq,gr,cZ,cd,bD,bound,dc,AS.bC,aN,bI,bu,Nat.reduceLeDiff,cq,putAt,Int.reduceEq,Int.reduceLT,Int.reduceLE,Int.reduceBEq,Int.reduceBNe,Int.reduceAdd,Int.reduceNeg,Int.reduceSub,Int.reduceMul,dQ,dP,dO,dN,dM,dL,dS,dR,au,bA,au5,au7,hp,e]
def DX(h:PQ pl K)(hb:Bu tk){s:PS}(hw:w≠[])(hs:s.i<=tk.length):aj A 24 [.ref pl 0,.str w] (aI tk pl s K)=some (.tuple [],some ⟨aI tk pl (aY (az tk) w s) K,pl⟩):=by
 unfold aY;have ij:=h.lt;cases e:(pk (az tk) s==w) with
 | true =>
  have hi:=Kl h hb hw e;have ho:=h.open (tk:=tk) (s:=s.up);refine cB (fn:=Ut) rfl rfl rfl ?_;unfold Ut;rw[cond_true];simp(disch:=omega)only[nK,cY,cb,ct,cm,gC,aP,aQ,br,aE.eval,AS.bW,↓reduceIte,Nat.reduceEqDiff,Option.isSome,Option.isNone,cond_true,cond_false,Nat.reduceBEq,Nat.reduceAdd,Nat.reduceMul,aa,cn,avs,reduceCtorEq,gr,cZ,cd,bD,bound,dc,AS.bC,aN,bI,bu,Nat.reduceLeDiff,cq,putAt,Int.reduceEq,Int.reduceLT,Int.reduceLE,Int.reduceBEq,Int.reduceBNe,Int.reduceAdd,Int.reduceNeg,Int.reduceSub,Int.reduceMul,dQ,dP,dO,dN,dM,dL,dS,dR,au,bA,au5,au7,hi,bF,dK,ho]
 | false =>
  have hi:=Kk h hb hs e;have ho:=h.open (tk:=tk) (s:=s.wX);have h0:=nj (tk:=tk) (s:=s) h;unfold nC at h0;refine cB (fn:=Ut) rfl rfl rfl ?_;unfold Ut;rw[cond_false];obtain⟨i,b⟩:=s;simp only[PS.wX] at h0 ho ⊢;simp(disch:=omega)only[nK,cY,cb,ct,cm,gC,aP,aQ,br,aE.eval,AS.bW,↓reduceIte,Nat.reduceEqDiff,Option.isSome,Option.isNone,cond_true,cond_false,Nat.reduceBEq,Nat.reduceAdd,Nat.reduceMul,aa,cn,avs,reduceCtorEq,gr,cZ,cd,bD,bound,dc,AS.bC,aN,bI,bu,Nat.reduceLeDiff,cq,putAt,Int.reduceEq,Int.reduceLT,Int.reduceLE,Int.reduceBEq,Int.reduceBNe,Int.reduceAdd,Int.reduceNeg,Int.reduceSub,Int.reduceMul,dQ,dP,dO,dN,dM,dL,dS,dR,au,bA,au5,au7,hi,h0,bF,uU,dK,ho]
def vu(h:PQ pl K)(hb:Bu tk){s:PS}(hs:s.i<=tk.length):aj A 25 [.ref pl 0] (aI tk pl s K)=some (.str (aL (az tk) s).1,some ⟨aI tk pl (aL (az tk) s).2 K,pl⟩):=by
 have hl:=hb.len;have hp:=Du h hb s ah;have ij:=h.lt;have h0:=nj (tk:=tk) (s:=s) h;unfold nC at h0;have hw:=fun H=>Ph (pk (az tk) s) H (by have:=hb.pkl s;omega)
 unfold aL;refine cB (fn:=aee) rfl rfl rfl ?_;unfold aee;cases e:isWord (pk (az tk) s) with
 | true =>
  have aZ:s.i<tk.length:=tK (fun h=>by rw[h] at e;cases e)
  rw[e] at hw;have ho:=h.open (tk:=tk) (s:=s.up);rw[cond_true];generalize pk (az tk) s=w at *;obtain⟨i,b⟩:=s;simp only[PS.up] at h0 aZ ho ⊢;simp(disch:=omega)only[nK,cY,cb,ct,cm,gC,aP,aQ,br,aE.eval,AS.bW,↓reduceIte,Nat.reduceEqDiff,Option.isSome,Option.isNone,cond_true,cond_false,Nat.reduceBEq,Nat.reduceAdd,Nat.reduceMul,aa,cn,avs,reduceCtorEq,gr,cZ,cd,bD,bound,dc,AS.bC,aN,bI,bu,Nat.reduceLeDiff,cq,putAt,Int.reduceEq,Int.reduceLT,Int.reduceLE,Int.reduceBEq,Int.reduceBNe,Int.reduceAdd,Int.reduceNeg,Int.reduceSub,Int.reduceMul,dQ,dP,dO,dN,dM,dL,dS,dR,au,bA,au5,au7,hp,hw,h0,bF,rI,dK,ho,ab]
 | false =>
  rw[e] at hw;have ho:=h.open (tk:=tk) (s:=s.wX);rw[cond_false];generalize pk (az tk) s=w at *;obtain⟨i,b⟩:=s;simp only[PS.wX] at h0 ho ⊢;simp(disch:=omega)only[nK,cY,cb,ct,cm,gC,aP,aQ,br,aE.eval,AS.bW,↓reduceIte,Nat.reduceEqDiff,Option.isSome,Option.isNone,cond_true,cond_false,Nat.reduceBEq,Nat.reduceAdd,Nat.reduceMul,aa,cn,avs,reduceCtorEq,gr,cZ,cd,bD,bound,dc,AS.bC,aN,bI,bu,Nat.reduceLeDiff,cq,putAt,Int.reduceEq,Int.reduceLT,Int.reduceLE,Int.reduceBEq,Int.reduceBNe,Int.reduceAdd,Int.reduceNeg,Int.reduceSub,Int.reduceMul,dQ,dP,dO,dN,dM,dL,dS,dR,au,bA,au5,au7,hp,hw,h0,bF,uU,dK,ho]
def AZ:fL []=-1:=a8
def ae5(h:PQ pl K)(hb:Bu tk){s:PS}(hs:s.i<=tk.length)(h1:0<=least)(h2:least<=10):aj A 58 [.ref pl 0,.int .i64 least] (aI tk pl s K)=some (.int .i64 (jR (az tk) least s).1,some ⟨aI tk pl (jR (az tk) least s).2 K,pl⟩):=by
 have hl:=hb.len;have hp:=Du h hb s ah;have ij:=h.lt;have h0:=nj (tk:=tk) (s:=s) h;unfold nC at h0;have hn:=fun H=>GK (pk (az tk) s) H (hb.pkl s)
 unfold jR;refine cB (fn:=aer) rfl rfl rfl ?_;unfold aer;cases e:decide (fL (pk (az tk) s)<least) with
 | false =>
  have aZ:s.i<tk.length:=tK (fun h=>by
   rw[h,AZ] at e;simp only[ave] at e;omega)
  have ho:=h.open (tk:=tk) (s:=s.up);rw[cond_false];generalize fL (pk (az tk) s)=w at *;obtain⟨i,b⟩:=s;simp only[PS.up] at h0 aZ ho ⊢;simp(disch:=omega)only[nK,cY,cb,ct,cm,gC,aP,aQ,br,aE.eval,AS.bW,↓reduceIte,Nat.reduceEqDiff,Option.isSome,Option.isNone,cond_true,cond_false,Nat.reduceBEq,Nat.reduceAdd,Nat.reduceMul,aa,cn,avs,reduceCtorEq,gr,cZ,cd,bD,bound,dc,AS.bC,aN,bI,bu,Nat.reduceLeDiff,cq,putAt,Int.reduceEq,Int.reduceLT,Int.reduceLE,Int.reduceBEq,Int.reduceBNe,Int.reduceAdd,Int.reduceNeg,Int.reduceSub,Int.reduceMul,dQ,dP,dO,dN,dM,dL,dS,dR,au,bA,au5,au7,hp,hn,e,h0,bF,rI,dK,ho,ab]
 | true =>
  have ho:=h.open (tk:=tk) (s:=s.wX);rw[cond_true];generalize fL (pk (az tk) s)=w at *;obtain⟨i,b⟩:=s;simp only[PS.wX] at h0 ho ⊢;simp(disch:=omega)only[nK,cY,cb,ct,cm,gC,aP,aQ,br,aE.eval,AS.bW,↓reduceIte,Nat.reduceEqDiff,Option.isSome,Option.isNone,cond_true,cond_false,Nat.reduceBEq,Nat.reduceAdd,Nat.reduceMul,aa,cn,avs,reduceCtorEq,gr,cZ,cd,bD,bound,dc,AS.bC,aN,bI,bu,Nat.reduceLeDiff,cq,putAt,Int.reduceEq,Int.reduceLT,Int.reduceLE,Int.reduceBEq,Int.reduceBNe,Int.reduceAdd,Int.reduceNeg,Int.reduceSub,Int.reduceMul,dQ,dP,dO,dN,dM,dL,dS,dR,au,bA,au5,au7,hp,hn,e,h0,bF,uU,dK,ho]
def lk{s:PS}(hw:w≠[])(e:(pk (az tk) s==w)=true):s.up.i<=tk.length:=by
 have:=tK (tk:=tk) (s:=s) (by rw[avB.1 e];exact hw)
 exact this
theorem gA{s:PS}(hw:w≠[])(hs:s.i<=tk.length):(aY (az tk) w s).i<=tk.length:=by
 unfold aY;cases e:(pk (az tk) s==w) with
 | true=>exact lk hw e
 | false=>exact hs
def jQ{s:PS}(hs:s.i<=tk.length):(aL (az tk) s).2.i<=tk.length:=by
 unfold aL;cases e:isWord (pk (az tk) s) with
 | true=>exact tK (fun h=>by rw[h] at e;cases e)
 | false=>exact hs
def ae6{s:PS}(h1:0<=least)(hs:s.i<=tk.length):(jR (az tk) least s).2.i<=tk.length:=by
 unfold jR;cases e:decide (fL (pk (az tk) s)<least) with
 | false=>exact tK (fun h=>by
   rw[h,AZ] at e;simp only[ave] at e;omega)
 | true=>exact hs
theorem uO(hb:Bu tk){s:PS} : (aL (az tk) s).1.length<=1000000:=by
 unfold aL;cases e:isWord (pk (az tk) s) with
 | true=>exact hb.pkl s
 | false=>simp
def Vm{s:PS}(hs:s.i<=tk.length):(aR (az tk) s).2.i<=tk.length:=by
 unfold aR;cases e:(!(aL (az tk) s).2.bad&&(pk (az tk) (aL (az tk) s).2==[46])) with
 | true =>
  simp only[auT] at e;exact jQ (lk ag e.2)
 | false=>exact jQ hs
def KR(h:PQ pl K)(hb:Bu tk){s:PS}(hs:s.i<=tk.length):aj A 93 [.ref pl 0] (aI tk pl s K)=some (.str (aR (az tk) s).1,some ⟨aI tk pl (aR (az tk) s).2 K,pl⟩):=by
 have hl:=hb.len;have ij:=h.lt;have hn:=vu h hb hs;have hle:=jQ hs (tk:=tk);have hlen:=uO hb (s:=s);unfold aR;generalize aL (az tk) s=r at *;obtain⟨a,i,b⟩:=r;simp only at hle hlen ⊢;have h0:=nj (tk:=tk) (s:=⟨i,b⟩) h;unfold nC at h0;refine cB (fn:=aeD) rfl rfl rfl ?_;unfold aeD;cases b with
 | true =>
  have ho:=h.open (tk:=tk) (s:=⟨i,true⟩);rw[avW,avk,cond_false];simp(disch:=omega)only[nK,cY,cb,ct,cm,gC,aP,aQ,br,aE.eval,AS.bW,↓reduceIte,Nat.reduceEqDiff,Option.isSome,Option.isNone,cond_true,cond_false,Nat.reduceBEq,Nat.reduceAdd,Nat.reduceMul,aa,cn,avs,reduceCtorEq,gr,cZ,cd,bD,bound,dc,AS.bC,aN,bI,bu,Nat.reduceLeDiff,cq,putAt,Int.reduceEq,Int.reduceLT,Int.reduceLE,Int.reduceBEq,Int.reduceBNe,Int.reduceAdd,Int.reduceNeg,Int.reduceSub,Int.reduceMul,dQ,dP,dO,dN,dM,dL,dS,dR,au,bA,au5,au7,hn,h0,bF,dK,ho,ab]
 | false =>
  rw[av5,avv];cases e:(pk (az tk) ⟨i,false⟩==[46]) with
  | false =>
   have hi:=Kk h hb (s:=⟨i,false⟩) hle e;have ho:=h.open (tk:=tk) (s:=⟨i,false⟩);rw[cond_false];simp(disch:=omega)only[nK,cY,cb,ct,cm,gC,aP,aQ,br,aE.eval,AS.bW,↓reduceIte,Nat.reduceEqDiff,Option.isSome,Option.isNone,cond_true,cond_false,Nat.reduceBEq,Nat.reduceAdd,Nat.reduceMul,aa,cn,avs,reduceCtorEq,gr,cZ,cd,bD,bound,dc,AS.bC,aN,bI,bu,Nat.reduceLeDiff,cq,putAt,Int.reduceEq,Int.reduceLT,Int.reduceLE,Int.reduceBEq,Int.reduceBNe,Int.reduceAdd,Int.reduceNeg,Int.reduceSub,Int.reduceMul,dQ,dP,dO,dN,dM,dL,dS,dR,au,bA,au5,au7,hn,hi,h0,bF,dK,ho,ab]
  | true =>
   have hi:=Kl h hb (s:=⟨i,false⟩) ag e;have XX:=vu h hb (s:=PS.up ⟨i,false⟩) (lk ag e);have MC:=uO hb (s:=PS.up ⟨i,false⟩);rw[cond_true];generalize aL (az tk) (PS.up ⟨i,false⟩)=q at *;obtain⟨c,s2⟩:=q;simp only at XX MC ⊢;have ho:=h.open (tk:=tk) (s:=s2);simp(disch:=omega)only[nK,cY,cb,ct,cm,gC,aP,aQ,br,aE.eval,AS.bW,↓reduceIte,Nat.reduceEqDiff,Option.isSome,Option.isNone,cond_true,cond_false,Nat.reduceBEq,Nat.reduceAdd,Nat.reduceMul,aa,cn,avs,reduceCtorEq,gr,cZ,cd,bD,bound,dc,AS.bC,aN,bI,bu,Nat.reduceLeDiff,cq,putAt,Int.reduceEq,Int.reduceLT,Int.reduceLE,Int.reduceBEq,Int.reduceBNe,Int.reduceAdd,Int.reduceNeg,Int.reduceSub,Int.reduceMul,dQ,dP,dO,dN,dM,dL,dS,dR,au,bA,au5,au7,hn,hi,XX,h0,bF,dK,ho,ab]
   done
end
end
section
abbrev Rel:=List AV->ae->AV × Option fR->Prop
open Classical in
def lZ(R:Rel)(args:List AV)(H:ae):Option (AV × Option fR):=if h:∃ x,R args H x then some (Classical.choose h) else none
theorem sV{R:Rel}{H:ae}(h:lZ R args H=some x):R args H x:=by
 unfold lZ at h;split at h
 ·grind
 ·cases h
theorem pK{R:Rel}{H:ae}(hu:∀ y,R args H y->y=x)(h:R args H x):lZ R args H=some x:=by
 have hx:∃ x,R args H x:=⟨x,h⟩;unfold lZ
 grind
structure jn (tk:List Tk) (pl:Nat) (s:PS) (H:ae):Prop where
 q:PQ pl H
 at' : H[pl]?=some (nC tk s)
 b:Bu tk
 le:s.i<=tk.length
theorem Vc{tk:List Tk}{s s':PS}(h:nC tk s=nC tk' s'):tk=tk'/\s=s':=by
 unfold nC at h;simp only[bM.box.injEq,awa,AV.slice.injEq,AV.int.injEq,AV.bool.injEq,awL,avZ] at h;obtain⟨h1,h2,h3⟩:=h;refine⟨?_,?_⟩
 ·have key:∀ a b:List Tk,a.map gL=b.map gL->a=b:=by
   intro a
   induction a with
   | nil=>intro b hb;cases b with|nil=>rfl|cons x r=>simp at hb
   | cons x r ih =>
    intro b hb;cases b with
    | nil=>simp at hb
    | cons y q =>
     simp only[au9,awa] at hb;obtain⟨h1,h2⟩:=hb;unfold gL at h1
     grind
  exact key _ _ h1
 ·obtain⟨i,b⟩:=s
  obtain⟨j,c⟩:=s'
  grind
theorem jn.uniq{tk:List Tk}{pl:Nat}{s s':PS}{H:ae}(h:jn tk pl s H)(h' : jn tk' pl s' H):tk=tk'/\s=s':=by
 have:=h.at'
 rw[h'.at'] at this
 grind [Vc]
def jn.eq{tk:List Tk}{pl:Nat}{s:PS}{H:ae}(h:jn tk pl s H):H=aI tk pl s H:=by
 unfold aI;refine awi fun i=>?_
 rw[avO];split
 ·rename_i e;subst e;rw[if_pos h.q.lt];exact h.at'
 ·rfl
def jn.to{tk:List Tk}{pl:Nat}{s s':PS}{H:ae}(h:jn tk pl s H)(hl:s'.i<=tk.length):jn tk pl s' (aI tk pl s' H):=⟨h.q.aI,nj h.q,h.b,hl⟩
def ud(H:ae)(tl c z:Nat)(row:List AV):Option ae :=
 match H[tl]? with
 | some (.bV cs)=>match cs[c]? with
  | some .aq=>some (H.set tl (.bV (cs.set c (.sref H.length 0 1 z)))++[.box bE row])
  | some (.sref l 0 n z')=>match H[l]? with
   | some (.box ty es)=>cond (Nat.beq ty bE&&Nat.beq z' z&&Nat.beq es.length (n*z)&&Nat.ble n 2000000&&Nat.blt tl l&&Nat.beq row.length z) (some ((H.set l .dead).set tl (.bV (cs.set c (.sref H.length 0 (n+1) z)))++[.box bE (es++row)])) none
   | _=>none
  | _=>none
 | _=>none
inductive zw (n:Nat):Rel where
 | mk {tk pl s H t s'} (h:jn tk pl s H) (hn:n<=1000000) (he:pE (az tk) n 0 s=some (t,s')):zw n [.ref pl 0] H (.agg (aK t),some ⟨aI tk pl s' H,pl⟩)
inductive zu (n:Nat):Rel where
 | mk {tk pl s H t s'} {lv:Nat} (h:jn tk pl s H) (hn:n<=1000000) (h1:1<=lv) (h7:lv<=7) (he:pE (az tk) n lv s=some (t,s')):zu n [.ref pl 0,.int .i64 lv] H (.agg (aK t),some ⟨aI tk pl s' H,pl⟩)
inductive xO (n:Nat):Rel where
 | mk {tk pl tl s H t s' H'} (h:jn tk pl s H) (hn:n<=1000000) (aZ:pl<tl) (he:pE (az tk) n 0 s=some (t,s')) (ha:ud (aI tk pl s' H) tl 6 8 (aK t)=some H'):xO n [.agg [.ref pl 0,.ref tl 0]] H (.tuple [],some ⟨H',pl⟩)
inductive zx (n:Nat):Rel where
 | no {tk pl pv tl s H w} (h:jn tk pl s H) (hn:n<=1000000) (hv:H[pv]?=some (.box 72 [.ref pl 0])) (aZ:pl<pv) (tQ:pv<tl) (hw:w≠[]) (he:(aY (az tk) w s).bad=true):zx n [.str w,.ref pv 0,.ref tl 0] H (.tuple [],some ⟨aI tk pl (aY (az tk) w s) H,pl⟩)
 | mk {tk pl pv tl s H w t s' H'} (h:jn tk pl s H) (hn:n<=1000000) (hv:H[pv]?=some (.box 72 [.ref pl 0])) (aZ:pl<pv) (tQ:pv<tl) (hw:w≠[]) (hg:(aY (az tk) w s).bad=false) (he:pE (az tk) n 0 (aY (az tk) w s)=some (t,s'))
   (ha:ud (aI tk pl s' H) tl 6 8 (aK t)=some H'):zx n [.str w,.ref pv 0,.ref tl 0] H (.tuple [],some ⟨H',pl⟩)
inductive B1 (n:Nat):Rel where
 | mk {tk pl pv cv tl s H t s' H1 H'} (h:jn tk pl s H) (hn:n<=1000000) (hv:H[pv]?=some (.box 72 [.ref pl 0])) (hc:H[cv]?=some (.box 1 [.func (.func 136) [.agg [.ref pl 0,.ref tl 0]] []])) (aZ:pl<pv) (tQ:pv<tl) (htc:tl<cv)
   (h1:ud (aI tk pl (aL (az tk) s).2 H) tl 7 1 [.str (aL (az tk) s).1]=some H1) (he:pE (az tk) n 0 (aY (az tk) [61] (aL (az tk) s).2)=some (t,s'))
   (h2:ud (aI tk pl s' H1) tl 6 8 (aK t)=some H'):B1 n [.ref tl 0,.ref pv 0,.ref cv 0] H (.tuple [],some ⟨H',pl⟩)
def NL:List (List AV)->AV
 | []=>.aq
 | r=>.slice r true
inductive B2 (n:Nat):Rel where
 | mk {tk pl pv fl s H fd s' kd cs} {rows:List (List AV)} (h:jn tk pl s H) (hn:n<=1000000) (hv:H[pv]?=some (.box 72 [.ref pl 0])) (hf:H[fl]?=some (.box 85 (.int .i64 kd :: cs))) (hc:cs[1]?=some (NL rows)) (aZ:pl<pv) (hlf:pv<fl) (hr:rows.length<=1000000) (hw:vS 4 rows)
   (he:rM (az tk) n kd [] s=some ([fd],s')):B2 n [.ref pv 0,.ref fl 0] H (.tuple [],some ⟨(aI tk pl s' H).set fl (.box 85 (.int .i64 kd :: cs.set 1 (.slice (rows++[fF fd]) true))),pl⟩)
inductive Fc (n:Nat):Rel where
 | mk {tk pl s H f s'} (h:jn tk pl s H) (hn:n<=1000000) (he:tB (az tk) n (pE (az tk) n 0) s=some (f,s')):Fc n [.ref pl 0] H (.agg (bZ f),some ⟨aI tk pl s' H,pl⟩)
theorem Rb{n:Nat}{H:ae}(hx:zw n args H x)(hy:zw n args H y):y=x:=by
 cases hx with
 | mk h hn he=>cases hy with
  | mk h' IY yw =>
   obtain⟨rfl,rfl⟩:=h.uniq h'
   grind
theorem Ra{n:Nat}{H:ae}(hx:zu n args H x)(hy:zu n args H y):y=x:=by
 cases hx with
 | @mk tk pl s H t s' lv h hn h1 h7 he =>
  generalize ha:([.ref pl 0,.int .i64 lv]:List AV)=args at hy;cases hy with
  | @mk tk2 pl2 s2 _ t2 s2' lv2 h' IY Wt h7' yw =>
   simp only[awa,AV.ref.injEq,avZ,AV.int.injEq,awL] at ha;obtain⟨rfl,tQ⟩:=ha;obtain rfl:lv=lv2:=by omega
   obtain⟨rfl,rfl⟩:=h.uniq h'
   grind
theorem Rd{n:Nat}{H:ae}(hx:xO n args H x)(hy:xO n args H y):y=x:=by
 cases hx with
 | mk h hn aZ he ha=>cases hy with
  | mk h' IY uE yw ha' =>
   obtain⟨rfl,rfl⟩:=h.uniq h'
   grind
def GU{H:ae}{pv pl pl':Nat}(h:H[pv]?=some (.box 72 [.ref pl 0]))(h' : H[pv]?=some (.box 72 [.ref pl' 0])):pl=pl':=by
 rw[h] at h';cases h';rfl
theorem Rg{n:Nat}{H:ae}(hx:zx n args H x)(hy:zx n args H y):y=x:=by
 cases hx with
 | no h hn hv aZ tQ hw he=>cases hy with
  | no h' IY oG uE XW hw' yw =>
   obtain rfl:=GU hv oG;obtain⟨rfl,rfl⟩:=h.uniq h';rfl
  | mk h' IY oG uE XW hw' hg' yw ha' =>
   obtain rfl:=GU hv oG;obtain⟨rfl,rfl⟩:=h.uniq h';rw[he] at hg';cases hg'
 | mk h hn hv aZ tQ hw hg he ha=>cases hy with
  | no h' IY oG uE XW hw' yw =>
   obtain rfl:=GU hv oG;obtain⟨rfl,rfl⟩:=h.uniq h';rw[yw] at hg;cases hg
  | mk h' IY oG uE XW hw' hg' yw ha' =>
   obtain rfl:=GU hv oG;obtain⟨rfl,rfl⟩:=h.uniq h'
   grind
theorem Re{n:Nat}{H:ae}(hx:B1 n args H x)(hy:B1 n args H y):y=x:=by
 cases hx with
 | mk h hn hv hc aZ tQ htc h1 he h2=>cases hy with
  | mk h' IY oG BI uE XW asH Wt yw h2' =>
   obtain rfl:=GU hv oG;obtain⟨rfl,rfl⟩:=h.uniq h'
   grind
theorem ZS{a b:List (List AV)}(h:NL a=NL b):a=b:=by
 cases a<;>cases b<;>simp only[NL] at h<;>first|rfl|(cases h;rfl)|cases h
theorem Rf{n:Nat}{H:ae}(hx:B2 n args H x)(hy:B2 n args H y):y=x:=by
 cases hx with
 | mk h hn hv hf hc aZ hlf hr hw he=>cases hy with
  | mk h' IY oG hf' BI uE ar9 I0 hw' yw =>
   obtain rfl:=GU hv oG;obtain⟨rfl,rfl⟩:=h.uniq h'
   grind [ZS]
theorem Rc{n:Nat}{H:ae}(hx:Fc n args H x)(hy:Fc n args H y):y=x:=by
 cases hx with
 | mk h hn he=>cases hy with
  | mk h' IY yw =>
   obtain⟨rfl,rfl⟩:=h.uniq h'
   grind
def ovP(k n:Nat):FuncId->Option (List AV->ae->Option (AV × Option fR))
 | 59=>some (lZ (zw n))
 | 96=>some (lZ (zu n))
 | 136=>bif Nat.ble 1 k then some (lZ (xO n)) else none
 | 95=>bif Nat.ble 2 k then some (lZ (zx n)) else none
 | 151=>bif Nat.ble 2 k then some (lZ (B1 n)) else none
 | 55=>none
 | 122=>none
 | 137=>none
 | 138=>none
 | 56=>bif Nat.ble 3 k then some (lZ (B2 n)) else none
 | 27=>bif Nat.ble 4 k then some (lZ (Fc n)) else none
 | 8=>none
 | 3=>none
 | 10=>none
 | f=>some (aj A f)
def ac2:FuncId->Option ax
 | 59=>some mQ
 | 96=>some nA
 | f=>fns f
def PA(k n:Nat):AP:={ fns:=ac2,ov:=ovP k n,aW:=xN }
def cP{k n:Nat}{f:FuncId}(h:(PA k n).ov f=some (aj A f)){H:ae}(hr:aj A f args H=some r)(hn:args.all vw=true:=by rfl):aj (PA k n) f args H=some r:=fZ (g:=aj A f) h hr hn
def Oh{k n:Nat}{tk:List Tk}{pl:Nat}{s s':PS}{H:ae}{t:Tm}(h:jn tk pl s H)(hn:n<=1000000)(he:pE (az tk) n 0 s=some (t,s')):aj (PA k n) 59 [.ref pl 0] H=some (.agg (aK t),some ⟨aI tk pl s' H,pl⟩) :=
 fZ (g:=lZ (zw n)) rfl (pK (fun _ hy=>Rb (.mk h hn he) hy) (.mk h hn he))
def WY{k n:Nat}{tk:List Tk}{pl:Nat}{s s':PS}{H:ae}{t:Tm}{lv:Nat}(h:jn tk pl s H)(hn:n<=1000000)(h1:1<=lv)(h7:lv<=7)(he:pE (az tk) n lv s=some (t,s')):aj (PA k n) 96 [.ref pl 0,.int .i64 lv] H=some (.agg (aK t),some ⟨aI tk pl s' H,pl⟩) :=
 fZ (g:=lZ (zu n)) rfl (pK (fun _ hy=>Ra (.mk h hn h1 h7 he) hy) (.mk h hn h1 h7 he))
end
section
section
variable {tk:List Tk}{pl:Nat}{K:ae}
theorem Cr(h:PQ pl K)(hb:Bu tk){s:PS}(hs:s.i<=tk.length){w:Wd}{s':PS}(hle:s'.i<=tk.length)
  (hw:aj A 57 [.ref pl 0] (aI tk pl (aY (az tk) [40] s) K)=some (.agg (gR w),some ⟨aI tk pl s' K,pl⟩)) :
  aj A 92 [.ref pl 0] (aI tk pl s K)=some (.agg (gR w),some ⟨aI tk pl (aY (az tk) [41] s') K,pl⟩):=by
 have h1:=DX h hb (s:=s) (w:=[40]) ag hs;have h2:=DX h hb (s:=s') (w:=[41]) ag hle;generalize aY (az tk) [40] s=s1 at *;generalize aY (az tk) [41] s'=s2 at *;have ho:=h.open (tk:=tk) (s:=s2);have ij:=h.lt;rw[iu] at hw ⊢;refine bO (fn:=aeC) rfl rfl rfl rfl ?_;unfold aeC;simp(disch:=omega)only[nK,cY,cb,ct,cm,gC,aP,aQ,br,aE.eval,AS.bW,↓reduceIte,Nat.reduceEqDiff,Option.isSome,Option.isNone,cond_true,cond_false,Nat.reduceBEq,Nat.reduceAdd,Nat.reduceMul,aa,cn,avs,reduceCtorEq,gr,cZ,cd,bD,bound,dc,AS.bC,aN,bI,bu,Nat.reduceLeDiff,cq,putAt,Int.reduceEq,Int.reduceLT,Int.reduceLE,Int.reduceBEq,Int.reduceBNe,Int.reduceAdd,Int.reduceNeg,Int.reduceSub,Int.reduceMul,dQ,dP,dO,dN,dM,dL,dS,dR,au,bA,au5,au7,h1,h2,hw,ho,au,bF,dK,cH,cG,fp,YX,ab]
theorem Pj(h:PQ pl K)(hb:Bu tk):∀ (n:Nat) (s:PS) (w:Wd) (s' : PS),s.i<=tk.length->pX (az tk) n s=some (w,s')->s'.i<=tk.length/\aj A 57 [.ref pl 0] (aI tk pl s K)=some (.agg (gR w),some ⟨aI tk pl s' K,pl⟩):=by
 intro n;have ij:=h.lt
 induction n with
 | zero=>intro s w s' _ he;cases he
 | succ n ih =>
  intro s w s' hs he;unfold pX at he;cases e1:(pk (az tk) s==ua) with
  | true =>
   rw[e1,cond_true] at he;injection he with he
   injection he with lO iY
   subst lO iY;refine⟨lk a8 e1,bO (fn:=H2) rfl rfl rfl rfl ?_⟩;have hi:=Kl h hb a8 e1;have ho:=h.open (tk:=tk) (s:=s.up);unfold ua at hi ⊢;generalize s.up=s1 at *;unfold H2;simp(disch:=omega)only[dr,aa,simprocAttr,hi,ho,au,bF,dK,cH,cG,cV,gR,aG]
  | false =>
  have i1:=Kk h hb hs e1;unfold ua at i1;cases e2:(pk (az tk) s==oZ) with
  | true =>
   rw[e1,e2,cond_false,cond_true] at he;injection he with he
   injection he with lO iY
   subst lO iY;refine⟨lk a8 e2,bO (fn:=H2) rfl rfl rfl rfl ?_⟩;have hi:=Kl h hb a8 e2;have ho:=h.open (tk:=tk) (s:=s.up);unfold oZ at hi ⊢;generalize s.up=s1 at *;unfold H2;simp(disch:=omega)only[dr,aa,simprocAttr,i1,hi,ho,au,bF,dK,cH,cG,cV,gR,aG]
  | false =>
  have i2:=Kk h hb hs e2;unfold oZ at i2;cases e3:(pk (az tk) s==ki) with
  | true =>
   rw[e1,e2,e3,cond_false,cond_false,cond_true] at he;simp only[auP] at he;obtain⟨⟨v,s2⟩,hv,he⟩:=he;injection he with lO iY
   subst lO iY;have hi:=Kl h hb a8 e3;have hu:=lk (tk:=tk) (s:=s) (w:=ki) a8 e3;obtain⟨hle,hc⟩:=ih _ v s2 (gA ag hu) hv;have CN:=Cr h hb hu hle hc;refine⟨gA ag hle,bO (fn:=H2) rfl rfl rfl rfl ?_⟩;have ho:=h.open (tk:=tk) (s:=aY (az tk) [41] s2);unfold ki at hi ⊢;generalize aY (az tk) [41] s2=s3 at *;generalize s.up=s1 at *;rw[iu] at CN;unfold H2;simp(disch:=omega)only[dr,aa,simprocAttr,i1,i2,hi,CN,ho,au,bF,dK,cH,cG,fp,jP,mZ,gR,aG,iu]
  | false =>
   have i3:=Kk h hb hs e3;unfold ki at i3;rw[e1,e2,e3,cond_false,cond_false,cond_false] at he;injection he with he
   injection he with lO iY
   subst lO iY;have hq:=KR h hb hs;have hqn:(aR (az tk) s).1=(aR (az tk) s).1:=rfl;refine⟨Vm hs,bO (fn:=H2) rfl rfl rfl rfl ?_⟩;generalize aR (az tk) s=q at *;obtain⟨a,s1⟩:=q;have ho:=h.open (tk:=tk) (s:=s1);simp only at hq ⊢;unfold H2;simp(disch:=omega)only[dr,aa,simprocAttr,i1,i2,i3,hq,ho,au,bF,dK,cH,cG,cV,gR,aG]
theorem Mh(h:PQ pl K)(hb:Bu tk){n:Nat}{s:PS}{w:Wd}{s':PS}(hs:s.i<=tk.length)(he:lS (az tk) n s=some (w,s')):s'.i<=tk.length/\aj A 92 [.ref pl 0] (aI tk pl s K)=some (.agg (gR w),some ⟨aI tk pl s' K,pl⟩):=by
 unfold lS at he;simp only[auP] at he
 grind [Pj,gA,Cr]
end
end
section
structure qO (H:ae) (tl c z:Nat) (kc:AV) (m:Nat) (es:List AV) (Hd:ae) (cs:List AV):Prop where
 obj:H[tl]?=some (.bV cs)
 cell:cs[c]?=some kc
 drop:kc.drop=kc
 adr:∀ s,mB s kc=kc
 fr:aM kc=true
 hc:gv .heap kc=true
 cells:kc.cells=some [kc]
 len:cZ .sl kc=some (.int .i64 m)
 lv:∀ T,M4 T .sl kc=some (.int .i64 m)
 le:m<=2000000
 el:es.length=m*z
 hd:Hd.length=H.length
 hdt:Hd[tl]?=some (.bV cs)
 low:∀ j,j<=tl->Hd[j]?=H[j]?
 app:∀ T lo gen row o bytes,lo<=tl->bytes<=1000->row.length=z->row.all AV.plain=true->ju ⟨T,H,lo,gen⟩ z bytes kc (.slice [row] o)=some (.sref H.length 0 (m+1) z,some ⟨T,Hd++[.box bE (es++row)],lo,gen⟩)
 lt:tl<H.length
 ob:∀ (j:Nat) (cs' : List AV),Hd[j]?=some (bM.bV cs')->H[j]?=some (bM.bV cs')
 bx:∀ (j:Nat) (ty:TypeId) (uq:List AV),H[j]?=some (bM.box ty uq)->ty≠bE->Hd[j]?=some (bM.box ty uq)
def mT{H H':ae}{tl c z:Nat}(hz:row.length=z)(h:ud H tl c z row=some H') :
  ∃ kc m es Hd cs,qO H tl c z kc m es Hd cs/\H'=(Hd++[bM.box bE (es++row)]).set tl (.bV (cs.set c (.sref H.length 0 (m+1) z))):=by
 unfold ud at h;split at h
 ·rename_i cs pj
  have aZ:tl<H.length:=(auU.1 pj).1;split at h
  ·rename_i hc
   injection h with h
   refine⟨.aq,0,[],H,cs,⟨pj,hc,rfl,fun _=>rfl,rfl,rfl,rfl,rfl,fun _=>rfl,ah,ag,rfl,pj,fun _ _=>rfl,?_,aZ,fun _ _ h=>h,fun _ _ _ h _=>h⟩,?_⟩
   ·intro T lo gen row o bytes we hb hr hp
    have f1:cE z bytes [] [row]=true:=by
     unfold cE;simp only[List.length_nil,List.length_cons,auT,avm,gF,List.head?_nil,axs,av6,au2,Option.getD_none,avN,aw3,hr,avZ];omega
    have f2:dZ [row]=true:=by unfold dZ;simp only[List.all_cons,List.all_nil,hp,Bool.and_self]
    have f3:GH .aq (.slice [row] o)=none:=rfl;unfold ju;rw[f3];simp only[jN,bu,auW,axl,av5,f1,f2,Bool.and_self,cond_true,List.length_cons,List.length_nil,avo,av8,List.append_nil,AS.iF,avM];have:Nat.blt H.length lo=false:=by
     cases hb:Nat.blt H.length lo with
     | true=>have:=avS hb;omega
     | false=>rfl
    rw[this];rfl
   ·rw[<- h,List.set_append_left _ _ aZ,avM]
  ·rename_i l n z' hc
   split at h
   ·rename_i ty es IT
    obtain⟨aaW,h⟩:=al h;simp only[auT,aw3,avm,avh] at aaW;obtain⟨⟨⟨⟨⟨h0,h1⟩,h2⟩,h3⟩,h4⟩,h5⟩:=aaW;subst h1;injection h with h
    refine⟨.sref l 0 n z',n,es,H.set l .dead,cs,⟨pj,hc,rfl,fun _=>rfl,rfl,rfl,rfl,rfl,fun _=>rfl,h3,h2,ag,?_,?_,?_,aZ,?_,?_⟩,?_⟩
    ·rw[List.getElem?_set_ne ah];exact pj
    ·intro j hj;exact List.getElem?_set_ne ah
    ·intro T lo gen row o bytes we hb hr hp
     have hmul:(n+1)*bytes<=2000001*1000:=Nat.mul_le_mul ah hb;have f3:GH (.sref l 0 n z') (.slice [row] o)=none:=rfl;have f2:dZ [row]=true:=by unfold dZ;simp only[List.all_cons,List.all_nil,hp,Bool.and_self]
     have f1:(Nat.beq 0 0&&Nat.beq z' z'&&Nat.beq es.length (n*z')&&Nat.ble ((n+1)*bytes) 70368744177664&&Nat.ble (n+1) 70368744177664&&gF z' [row]&&dZ [row])=true:=by
      have q:(n+1)*bytes<=70368744177664:=ah;have q2:n+1<=70368744177664:=ah;simp only[auT,avm,gF,axs,au2,avN,aw3,hr,f2,h2,q,q2,axE]
     unfold ju;rw[f3];simp only[jN,bu,auW,IT,List.length_cons,List.length_nil,avt,f1,cond_true,avo,av8,List.append_nil,AS.iF];have:Nat.blt l lo=false:=by
      cases hb:Nat.blt l lo with
      | true=>have:=avS hb;omega
      | false=>rfl
     rw[this];rfl
    ·intro j cs' hj
     by_cases e:l=j
     ·subst e;rw[List.getElem?_set_self (auU.1 IT).1] at hj;cases hj
     ·rwa [List.getElem?_set_ne e] at hj
    ·intro j oe uq hj dp
     by_cases e:l=j
     ·subst e;rw[IT] at hj;cases hj;exact absurd h0 dp
     ·rwa [List.getElem?_set_ne e]
    ·rw[<- h,List.set_append_left _ _ (cT aZ)]
   ·cases h
  ·cases h
 ·cases h
section
variable {H:ae}{tl c z:Nat}{kc:AV}{m:Nat}{es:List AV}{Hd:ae}{cs:List AV}
def rX(Hd:ae)(es row:List AV):ae:=Hd++[.box bE (es++row)]
def Hl : (rX Hd es row).length=Hd.length+1:=by simp[rX]
def qO.t(h:qO H tl c z kc m es Hd cs) : (rX Hd es row)[tl]?=some (.bV cs):=by
 unfold rX;rw[au3 (by have:=h.lt;have:=h.hd;omega)]
 exact h.hdt
def qO.n(h:qO H tl c z kc m es Hd cs) : ((rX Hd es row).set tl o)[H.length]?=some (.box bE (es++row)):=by
 have:=h.lt
 rw[List.getElem?_set_ne ah,rX,<- h.hd];simp
def qO.n0(h:qO H tl c z kc m es Hd cs) : (rX Hd es row)[H.length]?=some (.box bE (es++row)):=by
 rw[rX,<- h.hd];simp
def qO.put(h:qO H tl c z kc m es Hd cs)(hr:row.length=z)(I0:row'.length=z):putAt (es++row) (m*z) row'=es++row':=by
 unfold putAt;rw[<- h.el,awn rfl,List.drop_eq_nil_of_le dw,List.append_nil]
def qO.set(h:qO H tl c z kc m es Hd cs) : ((rX Hd es row).set tl o).set H.length (.box bE (es++row'))=(rX Hd es row').set tl o:=by
 have:=h.lt
 have hd:=h.hd;rw[List.set_comm _ _ ah]
 congr 1
 unfold rX;rw[<- hd,List.set_append_right _ _ (Nat.le_refl _),awG];rfl
def qO.akF(h:qO H tl c z kc m es Hd cs) : (rX Hd es row).set H.length (.box bE (es++row'))=rX Hd es row':=by
 have hd:=h.hd;unfold rX;rw[<- hd,List.set_append_right _ _ (Nat.le_refl _),awG];rfl
end
def dn(fn:ax)(base:Nat)(x:AV × Option fR):bJ->AS->Prop
 | .exit _,_=>False
 | _,s=>finish base fn s=some x
def OX{base:Nat}{s:AS}{tl:Nat}{cs:List AV}(h1:s.lo<=tl)(h2:tl<base)(h3:s.H[tl]?=some (.bV cs))(h4:cs.all (AV.bz base)=false):ku base s=false:=by
 unfold ku;have:Nat.beq s.lo base=false:=ae3 ah
 rw[this,cond_false];cases hb:((s.H.take base).drop s.lo).all fun o=>match o with|.bV cs=>cs.all (AV.bz base)|_=>true with
 | false=>rfl
 | true =>
  rw[auX] at hb;have hm:bM.bV cs∈(s.H.take base).drop s.lo:=by
   refine au0 (i:=tl-s.lo) ?_;rw[avY,avn,if_pos ah,show s.lo+(tl-s.lo)=tl by omega]
   exact h3
  have:=hb _ hm
  simp only at this;rw[h4] at this;cases this
def Ok{base:Nat}{s:AS}(hf:fn.muts.elem 888887=true)(hr:fn.results=[])(ho:ku base s=false):finish base fn s=some (.tuple [],some ⟨s.H,s.lo⟩):=by
 unfold finish mc;rw[ho,cond_false];simp only[av6,BB,hf,cond_true,wY,hr,lN,List.length_nil];rfl
def ZP{cs:List AV}{c base n z:Nat}(hc:c<cs.length)(hl:base<=l):(cs.set c (.sref l 0 n z)).all (AV.bz base)=false:=by
 cases hb:(cs.set c (.sref l 0 n z)).all (AV.bz base) with
 | false=>rfl
 | true =>
  rw[auX] at hb;have:=hb _ (List.mem_set hc _)
  simp only[AV.bz,avh] at this;omega
def Pa{t:Tm} : (aK t).all AV.plain=true:=by rw[ai];rfl
end
section
section
variable {H:ae}{tl c z:Nat}{kc:AV}{m:Nat}{es:List AV}{Hd:ae}{cs:List AV}
def qO.ao{A:AP}(h:qO H tl c z kc m es Hd cs){o:Bool}{bytes d:Nat}{os:List aS}{K:AS->Prop}(we:lo<=tl)(hb:bytes<=1000)(hr:row.length=z)(hp:row.all AV.plain=true) :
  Wr A z bytes kc (.slice [row] o) d os T H lo gen K=WO A os ⟨T.put d (.sref H.length 0 (m+1) z),rX Hd es row,lo,gen⟩ K:=by
 unfold Wr;rw[h.app T lo gen row o bytes we hb hr hp,aU];rfl
def qO.cl(h:qO H tl c z kc m es Hd cs):c<cs.length:=(auU.1 h.cell).1
def qO.tk(h:qO H tl c z kc m es Hd cs) : List.take c cs++[v]++List.drop (c+1) cs=cs.set c v:=by
 rw[List.set_eq_take_append_cons_drop,if_pos h.cl];simp
def qO.bc(h:qO H tl c z kc m es Hd cs):bS (some (.bV cs)) false 1 c=some kc:=by
 simp only[bS,ab,cond_false,h.cell,au2,h.drop]
end
def af4{t:Tm} : (aK t).map AV.drop=aK t:=by rw[ai];rfl
def akQ{t:Tm} : RN (aK t)=true:=by rw[ai];rfl
def nr:List AV:=[.int .i64 0,.int .i64 0,.str [],.str [],.str [],.aq,.aq,.aq]
def Wp:[AV.int .i64 0,.int .i64 0,.str [],.str [],.str [],.aq,.aq,.aq]=nr:=rfl
def Wn:nr.length=8:=rfl
def NV:nr.map AV.drop=nr:=rfl
def IP:nr.all AV.plain=true:=rfl
def Wo:RN nr=true:=rfl
section
variable {k n:Nat}{tk:List Tk}{pl tl:Nat}{s s' : PS}{H:ae}{t:Tm}
def aoH(h:jn tk pl s H)(aZ:pl<tl)(kB:aj (PA k n) 59 [.ref pl 0] H=some (.agg (aK t),some ⟨aI tk pl s' H,pl⟩))
  {kc:AV} {m:Nat} {es:List AV} {Hd:ae} {cs:List AV} (hA:qO (aI tk pl s' H) tl 6 8 kc m es Hd cs) {T0:aD} (CI:T0 1=.lbox 0 [.ref pl 0,.ref tl 0]) {Q:bJ->AS->Prop}
  (hQ:∀ T,Q .normal ⟨T,(rX Hd es (aK t)).set tl (.bV (cs.set 6 (.sref H.length 0 (m+1) 8))),pl,2⟩) :
  D (PA k n) (pD.body.sub [true,true,true]) ⟨T0,H,H.length,2⟩ Q:=by
 have hlen:=h.q.lt;have pj:H[tl]?=some (.bV cs):=by have:=hA.obj;rwa [dV ah] at this
 have oT:(aI tk pl s' H).length=H.length:=bF;have uy:=fun (T:aD) (o:Bool) (os:List aS) (K:AS->Prop)=>hA.ao (A:=PA k n) (row:=aK t) (o:=o) (bytes:=136) (d:=29) (os:=os) (T:=T) (lo:=pl) (gen:=2) (K:=K) ah ah ja Pa
 rw[oT] at uy;have h7:decide (7<=cs.length)=true:=by have:=hA.cl;simp;omega
 have mO:=fun v=>hA.tk (v:=v)
 have IX:decide (tl<pl)=false:=dw;unfold pD;simp only[aH.sub];refine PH ?_;simp(disch:=omega)only[nK,cY,cb,ct,cm,gC,aP,aQ,br,aE.eval,AS.bW,↓reduceIte,Nat.reduceEqDiff,Option.isSome,Option.isNone,cond_true,cond_false,Nat.reduceBEq,Nat.reduceAdd,Nat.reduceMul,aa,cn,avs,reduceCtorEq,gr,cZ,cd,bD,bound,dc,AS.bC,aN,bI,bu,Nat.reduceLeDiff,cq,putAt,Int.reduceEq,Int.reduceLT,Int.reduceLE,Int.reduceBEq,Int.reduceBNe,Int.reduceAdd,Int.reduceNeg,Int.reduceSub,Int.reduceMul,dQ,dP,dO,dN,dM,dL,dS,dR,au,bA,au5,au7,CI,hA.obj,pj,hA.bc,hA.hc,kB,hA.adr,hA.lv,uy,hA.t,h7,mO,IX,ja,af4,Pa,akQ];exact hQ _
def aoG(h:jn tk pl s H)(aZ:pl<tl)(kB:aj (PA k n) 59 [.ref pl 0] H=some (.agg (aK t),some ⟨aI tk pl s' H,pl⟩))
  {kc:AV} {m:Nat} {es:List AV} {Hd:ae} {cs:List AV} (hA:qO (aI tk pl s' H) tl 6 8 kc m es Hd cs) {T0:aD} (CI:T0 1=.lbox 0 [.ref pl 0,.ref tl 0]) {Q:bJ->AS->Prop}
  (hQ:∀ T,Q .normal ⟨T,(rX Hd es (aK t)).set tl (.bV (cs.set 6 (.sref H.length 0 (m+1) 8))),pl,2⟩) :
  D (PA k n) (pD.body.sub [true,true,false]) ⟨T0,H,H.length,2⟩ Q:=by
 have hlen:=h.q.lt;have pj:H[tl]?=some (.bV cs):=by have:=hA.obj;rwa [dV ah] at this
 have oT:(aI tk pl s' H).length=H.length:=bF;have uy:=fun (T:aD) (o:Bool) (os:List aS) (K:AS->Prop)=>hA.ao (A:=PA k n) (row:=nr) (o:=o) (bytes:=136) (d:=14) (os:=os) (T:=T) (lo:=pl) (gen:=2) (K:=K) ah ah rfl rfl
 rw[oT] at uy;have h7:decide (7<=cs.length)=true:=by have:=hA.cl;simp;omega
 have mO:=fun v=>hA.tk (v:=v)
 have IX:decide (tl<pl)=false:=dw;unfold pD;simp only[aH.sub];have asm:asNat (.int .i64 (m:Int))=some m:=by rw[bA ah];rfl
 have CP:decide (m<m+1)=true:=ag;have hn:=fun row o=>hA.n (row:=row) (o:=o)
 have qc:=fun o=>hA.set (row:=nr) (row':=aK t) (o:=o)
 rw[oT] at hn qc;have Ke:=hA.put (row:=nr) (row':=aK t) rfl ja;have Bk:List.take (m*8) (es++nr)++aK t++List.drop (m*8+8) (es++nr)=es++aK t:=by
  have:=Ke;unfold putAt at this;rwa [ja] at this
 have CN:(es++nr).length=(m+1)*8:=by rw[List.length_append,hA.el];simp[nr];omega
 have h88:decide (m*8+8<=(m+1)*8)=true:=dw;have fq:(aK t).all (aX H.length)=true:=by rw[ai];rfl
 have TN:decide (H.length<pl)=false:=dw;refine PH ?_;simp(disch:=omega)only[nK,cY,cb,ct,cm,gC,aP,aQ,br,aE.eval,AS.bW,↓reduceIte,Nat.reduceEqDiff,Option.isSome,Option.isNone,cond_true,cond_false,Nat.reduceBEq,Nat.reduceAdd,Nat.reduceMul,aa,cn,avs,reduceCtorEq,gr,cZ,cd,bD,bound,dc,AS.bC,aN,bI,bu,Nat.reduceLeDiff,cq,putAt,Int.reduceEq,Int.reduceLT,Int.reduceLE,Int.reduceBEq,Int.reduceBNe,Int.reduceAdd,Int.reduceNeg,Int.reduceSub,Int.reduceMul,dQ,dP,dO,dN,dM,dL,dS,dR,au,bA,au5,au7,CI,hA.obj,pj,hA.bc,hA.hc,kB,hA.adr,hA.lv,uy,asm,CP,ja,hn,CN,h88,fq,Bk,qc,TN,hA.t,h7,mO,IX,Wp,Wn,NV,IP,Wo];exact hQ _
def SG{A:AP}{H:ae}{Q:bJ->AS->Prop}
  (hQ:∀ T' b,(∀ t,t≠2->t≠3->T' t=T t)->T' 3=.bool b->Q .normal ⟨T',H,lo,gen+1⟩) :
  D A (.qQ [⟨some 2,none,.allocL [.bool false]⟩,⟨none,none,.store 1 (.tmp 2) (.xI (.bool true))⟩,⟨none,none,.store 1 (.tmp 2) (.xI (.bool false))⟩,⟨some 3,none,.load false false 1 (.tmp 2)⟩] [[],[0],[0],[0,0,1,2]]) ⟨T,H,lo,gen⟩ Q:=by
 refine SH (by conv=>lhs;cbv) ?_
 simp(disch:=omega)only[aO,aa,simprocAttr,Fa,AS.bC];refine⟨hQ _ _ (fun t h1 h2=>?_) rfl,hQ _ _ (fun t h1 h2=>?_) rfl⟩<;>simp only[kZ,h1,h2,axF]
end
end
section
section
variable {H:ae}{tl c z:Nat}{kc:AV}{m:Nat}{es:List AV}{Hd:ae}{cs:List AV}
def qO.tn(h:qO H tl c z kc m es Hd cs) : ((rX Hd es row).set tl o)[tl]?=some o:=by
 refine List.getElem?_set_self ?_;rw[Hl,h.hd];have:=h.lt
 omega
def qO.fin(h:qO H tl c z kc m es Hd cs){base:Nat}(hf:fn.muts.elem 888887=true)(hr:fn.results=[])(we:lo<=tl)(hb:tl<base)(w5:base<=H.length) :
  finish base fn ⟨T,(rX Hd es row).set tl (.bV (cs.set c (.sref H.length 0 n' z))),lo,gen⟩=some (.tuple [],some ⟨(rX Hd es row).set tl (.bV (cs.set c (.sref H.length 0 n' z))),lo⟩) :=
 Ok hf hr (OX (tl:=tl) we hb h.tn (ZP h.cl w5))
end
def Yx{n:Nat}{H:ae}(h:xO n args H x):args.length=pD.np/\D (PA 0 n) pD.body ⟨fm args,H,H.length,0⟩ (dn pD H.length x):=by
 cases h with
 | @mk tk pl tl s H t s' H' h hn aZ he ha =>
  refine⟨rfl,?_⟩;have kB:=Oh (k:=0) h hn he;obtain⟨kc,m,es,Hd,cs,hA,hH⟩:=mT ja ha;have oT:(aI tk pl s' H).length=H.length:=bF;rw[oT] at hH;have qq:=hA.lt;rw[oT] at qq;have key:∀ T,dn pD H.length (.tuple [],some ⟨H',pl⟩) .normal ⟨T,(rX Hd es (aK t)).set tl (.bV (cs.set 6 (.sref H.length 0 (m+1) 8))),pl,2⟩:=fun T=>by
   show finish H.length pD _=_
   have:=hA.fin (row:=aK t) (T:=T) (lo:=pl) (gen:=2) (base:=H.length) (n':=m+1) (fn:=pD) rfl rfl ah qq ah
   rw[oT] at this;rw[this,hH];rfl
  refine (show D (PA 0 n) (.seq (.region _) (.seq (.qQ _ _) (.cond _ (pD.body.sub [true,true,false]) (pD.body.sub [true,true,true])))) _ _ from ?_)
  rw[fi,cr rfl];simp(disch:=omega)only[aO,aa,simprocAttr];rw[fi];refine SG fun T' b hT hb=>?_
  have h1:T' 1=.lbox 0 [.ref pl 0,.ref tl 0]:=(hT 1 ah ah).trans rfl;rw[kL,iP];refine⟨b,hb,fun e=>?_,fun e=>?_⟩
  ·exact aoG h aZ kB hA h1 key
  ·exact aoH h aZ kB hA h1 key
end
section
def Yu{k n:Nat}(hk:1<=k){H:ae}(h:xO n args H x):aj (PA k n) 136 args H=some x:=by
 have ho:(PA k n).ov 136=some (lZ (xO n)):=by
  have:Nat.ble 1 k=true:=by rw[avm];exact hk
  show (bif Nat.ble 1 k then _ else _)=_
  rw[this];rfl
 refine fZ ho (pK (fun _ hy=>Rd h hy) h) ?_
 cases h;rfl
section
variable {H:ae}{tl c z:Nat}{kc:AV}{m:Nat}{es:List AV}{Hd:ae}{cs:List AV}
def qO.aeP(h:qO H tl c z kc m es Hd cs)(hj:j<tl):((rX Hd es row).set tl o)[j]?=H[j]?:=by
 rw[List.getElem?_set_ne ah,rX,au3 (by have:=h.lt;have:=h.hd;omega)]
 exact h.low j ah
def qO.bx2(h:qO H tl c z kc m es Hd cs){ty:TypeId}{uq:List AV}(hj:H[j]?=some (.box ty uq))(ht:ty≠bE):((rX Hd es row).set tl o)[j]?=some (.box ty uq):=by
 have tU:j<H.length:=(auU.1 hj).1;have dp:tl≠j:=fun e=>by subst e;rw[h.obj] at hj;cases hj
 rw[List.getElem?_set_ne dp,rX,au3 (by have:=h.hd;omega)]
 exact h.bx j ty uq hj ht
def qO.xp(h:qO H tl c z kc m es Hd cs) : ((rX Hd es row).set tl o).length=H.length+1:=by
 rw[List.length_set,Hl,h.hd]
def qO.pq(h:qO H tl c z kc m es Hd cs){pl:Nat}(hq:PQ pl H)(aZ:pl<tl) : PQ pl ((rX Hd es row).set tl (.bV (cs.set c (.sref H.length 0 n' z)))):=by
 have ij:=hq.lt;refine⟨by rw[h.xp];omega,fun j cs' hj hc=>?_⟩
 rw[h.xp]
 by_cases e:tl=j
 ·subst e
  rw[h.tn] at hc;cases hc;have:=hq.ob tl cs hj h.obj
  rw[auX] at this ⊢;intro x hx
  rcases awC hx with hx|rfl
  ·exact Hs ah x (this x hx)
  ·simp[AV.bz,avh]
 ·rw[List.getElem?_set_ne e,rX,avJ] at hc
  split at hc
  ·have:=hq.ob j cs' hj (h.ob j cs' hc)
   rw[auX] at this ⊢;exact fun x hx=>Hs ah x (this x hx)
  ·cases tU:j-Hd.length with
   | zero=>rw[tU] at hc;simp at hc
   | succ q=>rw[tU] at hc;simp at hc
def qO.pat(h:qO H tl c z kc m es Hd cs){tk:List Tk}{pl:Nat}{s:PS}(hp:jn tk pl s H)(aZ:pl<tl) : jn tk pl s ((rX Hd es row).set tl (.bV (cs.set c (.sref H.length 0 n' z)))) :=
 ⟨h.pq hp.q aZ,by rw[h.aeP aZ];exact hp.at',hp.b,hp.le⟩
end
section
variable {n:Nat}{tk:List Tk}{pl pv tl:Nat}{s s' : PS}{H:ae}{t:Tm}
def aoI(aZ:pl<tl)(hle:pl<H.length)(tQ:pl<pv/\pv<tl)(hv:H[pv]?=some (.box 72 [.ref pl 0]))(kB:aj (PA 1 n) 59 [.ref pl 0] H=some (.agg (aK t),some ⟨aI tk pl s' H,pl⟩))
  {kc:AV} {m:Nat} {es:List AV} {Hd:ae} {cs:List AV} (hA:qO (aI tk pl s' H) tl 6 8 kc m es Hd cs) {T0:aD} {g:Nat} (CI:T0 1=.ref pv 0) (hT2:T0 2=.ref tl 0) {Q:bJ->AS->Prop}
  (hQ:∀ T,Q .normal ⟨T,(rX Hd es (aK t)).set tl (.bV (cs.set 6 (.sref H.length 0 (m+1) 8))),pl,g⟩) :
  D (PA 1 n) (yG.body.sub [true,true,false]) ⟨T0,H,pl,g⟩ Q:=by
 have pj:H[tl]?=some (.bV cs):=by have:=hA.obj;rwa [dV ah] at this
 have oT:(aI tk pl s' H).length=H.length:=bF;have TY:H[pv]?=some (.box 72 [.ref pl 0]):=hv;have uy:=fun (T:aD) (o:Bool) (os:List aS) (K:AS->Prop)=>hA.ao (A:=PA 1 n) (row:=nr) (o:=o) (bytes:=136) (d:=18) (os:=os) (T:=T) (lo:=pl) (gen:=g) (K:=K) ah ah rfl rfl
 rw[oT] at uy;have h7:decide (7<=cs.length)=true:=by have:=hA.cl;simp;omega
 have mO:=fun v=>hA.tk (v:=v)
 have IX:decide (tl<pl)=false:=dw;have ME:decide (pl<pl)=false:=ag;have TN:decide (H.length<pl)=false:=dw;have asm:asNat (.int .i64 (m:Int))=some m:=by rw[bA ah];rfl
 have CP:decide (m<m+1)=true:=ag;have hn:=fun row o=>hA.n (row:=row) (o:=o)
 have hn0:=fun row=>hA.n0 (row:=row)
 have qc:=fun o=>hA.set (row:=nr) (row':=aK t) (o:=o)
 have Kf:=hA.akF (row:=nr) (row':=aK t);rw[oT] at hn hn0 qc Kf;have Ke:=hA.put (row:=nr) (row':=aK t) rfl ja;have Bk:List.take (m*8) (es++nr)++aK t++List.drop (m*8+8) (es++nr)=es++aK t:=by
  have:=Ke;unfold putAt at this;rwa [ja] at this
 have CN:(es++nr).length=(m+1)*8:=by rw[List.length_append,hA.el];simp[nr];omega
 have h88:decide (m*8+8<=(m+1)*8)=true:=dw;have fq:(aK t).all (aX H.length)=true:=by rw[ai];rfl
 unfold yG;simp only[aH.sub];refine aaJ 7 [] rfl (by conv=>lhs;cbv) rfl (by conv=>lhs;cbv) ?_
 simp(disch:=omega)only[nK,cY,cb,ct,cm,gC,aP,aQ,br,aE.eval,AS.bW,↓reduceIte,Nat.reduceEqDiff,Option.isSome,Option.isNone,cond_true,cond_false,Nat.reduceBEq,Nat.reduceAdd,Nat.reduceMul,aa,cn,avs,reduceCtorEq,gr,cZ,cd,bD,bound,dc,AS.bC,aN,bI,bu,Nat.reduceLeDiff,cq,putAt,Int.reduceEq,Int.reduceLT,Int.reduceLE,Int.reduceBEq,Int.reduceBNe,Int.reduceAdd,Int.reduceNeg,Int.reduceSub,Int.reduceMul,dQ,dP,dO,dN,dM,dL,dS,dR,au,bA,au5,au7,Fa,hT2,CI,hA.obj,pj,hA.bc,hA.hc,TY,kB,ME,hA.adr,hA.lv,uy,asm,CP,ja,hn,hn0,CN,h88,fq,Bk,qc,Kf,TN,hA.t,h7,mO,IX,Wp,Wn,NV,IP,Wo]
 and_intros<;>exact hQ _
end
section
variable {k n:Nat}{tk:List Tk}{pl:Nat}{s:PS}{H:ae}
def zf(h:jn tk pl s H)(hw:w≠[]):aj (PA k n) 24 [.ref pl 0,.str w] H=some (.tuple [],some ⟨aI tk pl (aY (az tk) w s) H,pl⟩):=by
 have:=DX h.q h.b (s:=s) (w:=w) hw h.le
 rw[<- h.eq] at this;exact cP rfl this
def H5(h:jn tk pl s H)(hw:w≠[])(e:(pk (az tk) s==w)=true):aj (PA k n) 26 [.ref pl 0,.str w] H=some (.bool true,some ⟨aI tk pl s.up H,pl⟩):=by
 have:=Kl h.q h.b hw e
 rw[<- h.eq] at this;exact cP rfl this
def H4(h:jn tk pl s H)(e:(pk (az tk) s==w)=false):aj (PA k n) 26 [.ref pl 0,.str w] H=some (.bool false,none):=by
 have:=Kk h.q h.b h.le e
 rw[<- h.eq] at this;exact cP rfl this
def OZ(h:jn tk pl s H):aj (PA k n) 52 [.ref pl 0] H=some (.str (pk (az tk) s),none):=by
 have:=Du h.q h.b s (by have:=h.le;have:=h.b.len;omega)
 rw[<- h.eq] at this;exact cP rfl this
def U0(h:jn tk pl s H):aj (PA k n) 25 [.ref pl 0] H=some (.str (aL (az tk) s).1,some ⟨aI tk pl (aL (az tk) s).2 H,pl⟩):=by
 have:=vu h.q h.b h.le
 rw[<- h.eq] at this;exact cP rfl this
def Vl(h:jn tk pl s H):aj (PA k n) 93 [.ref pl 0] H=some (.str (aR (az tk) s).1,some ⟨aI tk pl (aR (az tk) s).2 H,pl⟩):=by
 have:=KR h.q h.b h.le
 rw[<- h.eq] at this;exact cP rfl this
def ae4(h:jn tk pl s H)(h1:0<=least)(h2:least<=10):aj (PA k n) 58 [.ref pl 0,.int .i64 least] H=some (.int .i64 (jR (az tk) least s).1,some ⟨aI tk pl (jR (az tk) least s).2 H,pl⟩):=by
 have:=ae5 h.q h.b h.le h1 h2
 rw[<- h.eq] at this;exact cP rfl this
def ab8(h:jn tk pl s H){w:Wd}{s':PS}(he:pX (az tk) q s=some (w,s')):aj (PA k n) 57 [.ref pl 0] H=some (.agg (gR w),some ⟨aI tk pl s' H,pl⟩):=by
 have:=(Pj h.q h.b q s w s' h.le he).2
 rw[<- h.eq] at this;exact cP rfl this
def SU(h:jn tk pl s H){w:Wd}{s':PS}(he:lS (az tk) q s=some (w,s')):aj (PA k n) 92 [.ref pl 0] H=some (.agg (gR w),some ⟨aI tk pl s' H,pl⟩):=by
 have:=(Mh h.q h.b h.le he).2
 rw[<- h.eq] at this;exact cP rfl this
def U7(hw:w.length<=1000000):aj (PA k n) 94 [.str w] H=some (.int .i64 (fL w),none):=cP rfl (GK w H hw)
end
def SJ{base:Nat}(hm:fn.muts.elem 777777=false):∀ e s,done base fn.results x e s->dn fn base x e s:=by
 intro e s h;have key:∀ s,fin base fn.results s=some x->finish base fn s=some x:=fun s h=>by
  have:=pd (fn:=fn) h
  rwa [uP hm] at this
 cases e with
 | exit i=>exact h.elim
 | normal=>exact key _ h
 | ret=>exact key _ h
section
variable {n:Nat}
def P8{H:ae}(h:zx n args H x):args.length=yG.np/\D (PA 1 n) yG.body ⟨fm args,H,H.length,0⟩ (dn yG H.length x):=by
 cases h with
 | @no tk pl pv tl s H w h hn hv aZ tQ hw he =>
  refine⟨rfl,?_⟩;have CY:=zf (k:=1) (n:=n) h hw;have hp:=h.to (s':=aY (az tk) w s) (gA hw h.le);have ho:=h.q.open (tk:=tk) (s:=aY (az tk) w s);have ij:=h.q.lt;have h0:=hp.at';unfold nC at h0;rw[he] at h0;have Wz:=(auU.1 hv).1;have oG:(aI tk pl (aY (az tk) w s) H)[pv]?=some (.box 72 [.ref pl 0]):=by rw[dV ah];exact hv
  refine jL _ _ ?_ (SJ rfl);refine (show D (PA 1 n) (.seq (.region _) (.seq (.region _) (.cond _ (yG.body.sub [true,true,false]) .skip))) _ _ from ?_)
  rw[fi,cr rfl];simp(disch:=omega)only[aO,aa,simprocAttr,hv,CY];rw[fi,cr rfl];simp(disch:=omega)only[aO,aa,simprocAttr,oG,h0,iP,sq,ho,dK,show yG.results=[] from rfl]
  done
 | @mk tk pl pv tl s H w t s' H' h hn hv aZ tQ hw hg he ha =>
  refine⟨rfl,?_⟩;have CY:=zf (k:=1) (n:=n) h hw;have hp:=h.to (s':=aY (az tk) w s) (gA hw h.le);have ij:=h.q.lt;have h0:=hp.at';unfold nC at h0;rw[hg] at h0;have Wz:=(auU.1 hv).1;have oG:(aI tk pl (aY (az tk) w s) H)[pv]?=some (.box 72 [.ref pl 0]):=by rw[dV ah];exact hv
  have kB:=Oh (k:=1) hp hn he;have ha' : ud (aI tk pl s' (aI tk pl (aY (az tk) w s) H)) tl 6 8 (aK t)=some H':=by rw[fK];exact ha
  obtain⟨kc,m,es,Hd,cs,hA,hH⟩:=mT ja ha';have oT:(aI tk pl s' (aI tk pl (aY (az tk) w s) H)).length=H.length:=by rw[bF,bF]
  have MC:(aI tk pl (aY (az tk) w s) H).length=H.length:=bF;rw[oT] at hH;have qq:=hA.lt;rw[oT] at qq;have key:∀ T,dn yG H.length (.tuple [],some ⟨H',pl⟩) .normal ⟨T,(rX Hd es (aK t)).set tl (.bV (cs.set 6 (.sref (aI tk pl (aY (az tk) w s) H).length 0 (m+1) 8))),pl,0⟩:=fun T=>by
   show finish H.length yG _=_
   have:=hA.fin (row:=aK t) (T:=T) (lo:=pl) (gen:=0) (base:=H.length) (n':=m+1) (fn:=yG) rfl rfl ah qq ah
   rw[oT] at this;rw[MC,this,hH];rfl
  refine (show D (PA 1 n) (.seq (.region _) (.seq (.region _) (.cond _ (yG.body.sub [true,true,false]) .skip))) _ _ from ?_)
  rw[fi,cr rfl];simp(disch:=omega)only[aO,aa,simprocAttr,hv,CY];rw[fi,cr rfl];simp(disch:=omega)only[aO,aa,simprocAttr,oG,h0,iP,sq];exact aoI (n:=n) (pv:=pv) ah (by rw[MC];exact ij) ⟨aZ,tQ⟩ oG kB hA (tL) (tL) key
end
end
section
section
variable {n:Nat}{tk:List Tk}{pl pv tl:Nat}{s s' : PS}{H:ae}{nm:aB}
def ajR(aZ:pl<tl)(hle:pl<H.length)(tQ:pl<pv/\pv<tl)(hv:H[pv]?=some (.box 72 [.ref pl 0]))(kB:aj (PA 1 n) 25 [.ref pl 0] H=some (.str nm,some ⟨aI tk pl s' H,pl⟩))
  {kc:AV} {m:Nat} {es:List AV} {Hd:ae} {cs:List AV} (hA:qO (aI tk pl s' H) tl 7 1 kc m es Hd cs) {T0:aD} (oF:T0 0=.ref tl 0) (CI:T0 1=.ref pv 0) {Q:bJ->AS->Prop}
  (hQ:∀ T,T 1=T0 1->T 2=T0 2->Q .normal ⟨T,(rX Hd es [.str nm]).set tl (.bV (cs.set 7 (.sref H.length 0 (m+1) 1))),pl,0⟩) :
  D (PA 1 n) (tH.body.sub [false]) ⟨T0,H,H.length,0⟩ Q:=by
 have pj:H[tl]?=some (.bV cs):=by have:=hA.obj;rwa [dV ah] at this
 have oT:(aI tk pl s' H).length=H.length:=bF;have TY:H[pv]?=some (.box 72 [.ref pl 0]):=hv;have uy:=fun (T:aD) (o:Bool) (os:List aS) (K:AS->Prop)=>hA.ao (A:=PA 1 n) (row:=[.str nm]) (o:=o) (bytes:=16) (d:=8) (os:=os) (T:=T) (lo:=pl) (gen:=0) (K:=K) ah ah rfl rfl
 rw[oT] at uy;have h7:decide (8<=cs.length)=true:=by have:=hA.cl;simp;omega
 have mO:=fun v=>hA.tk (v:=v)
 have IX:decide (tl<pl)=false:=dw;unfold tH;simp only[aH.sub];refine PH ?_;simp(disch:=omega)only[nK,cY,cb,ct,cm,gC,aP,aQ,br,aE.eval,AS.bW,↓reduceIte,Nat.reduceEqDiff,Option.isSome,Option.isNone,cond_true,cond_false,Nat.reduceBEq,Nat.reduceAdd,Nat.reduceMul,aa,cn,avs,reduceCtorEq,gr,cZ,cd,bD,bound,dc,AS.bC,aN,bI,bu,Nat.reduceLeDiff,cq,putAt,Int.reduceEq,Int.reduceLT,Int.reduceLE,Int.reduceBEq,Int.reduceBNe,Int.reduceAdd,Int.reduceNeg,Int.reduceSub,Int.reduceMul,dQ,dP,dO,dN,dM,dL,dS,dR,au,bA,au5,au7,oF,CI,hA.obj,pj,hA.bc,hA.hc,TY,kB,hA.adr,hA.lv,uy,hA.t,h7,mO,IX];exact hQ _ rfl rfl
theorem Nb{H:ae}(h:B1 n args H x):args.length=tH.np/\D (PA 1 n) tH.body ⟨fm args,H,H.length,0⟩ (dn tH H.length x):=by
 cases h with
 | @mk tk pl pv cv tl s H t s' H1 H' h hn hv hc aZ tQ htc h1 he h2 =>
  refine⟨rfl,?_⟩;have ij:=h.q.lt;have rf:=U0 (k:=1) (n:=n) h;obtain⟨kc,m,es,Hd,cs,hA,hH⟩:=mT (z:=1) (row:=[.str (aL (az tk) s).1]) rfl h1;have oT:(aI tk pl (aL (az tk) s).2 H).length=H.length:=bF;have qq:=hA.lt;rw[oT] at hH qq
  replace hH:H1=(rX Hd es [.str (aL (az tk) s).1]).set tl (.bV (cs.set 7 (.sref H.length 0 (m+1) 1))):=hH
  have D5:=h.to (s':=(aL (az tk) s).2) (jQ h.le);have hp2:=hA.pat D5 ah (row:=[.str (aL (az tk) s).1]) (n':=m+1);rw[oT,<- hH] at hp2;have X8:H1[pv]?=some (.box 72 [.ref pl 0]):=by rw[hH,hA.aeP ah,dV ah];exact hv
  have hc1:H1[cv]?=some (.box 1 [.func (.func 136) [.agg [.ref pl 0,.ref tl 0]] []]):=by
   rw[hH];refine hA.bx2 ?_ a8
   grind [dV]
  have CY:=zf (k:=1) (n:=n) hp2 (w:=[61]) ag;have hp3:=hp2.to (s':=aY (az tk) [61] (aL (az tk) s).2) (gA ag hp2.le);have hl1:H1.length=H.length+1:=by rw[hH,hA.xp,oT]
  have Wz:=(auU.1 hv).1;have gT:(aI tk pl (aY (az tk) [61] (aL (az tk) s).2) H1)[cv]?=some (.box 1 [.func (.func 136) [.agg [.ref pl 0,.ref tl 0]] []]):=by rw[dV ah];exact hc1
  have anr:=Yu (k:=1) ah (xO.mk (tl:=tl) hp3 hn ah he (by rw[fK];exact h2))
  obtain⟨kc2,m2,es2,Hd2,cs2,hA2,hH2⟩:=mT ja h2;have MC:(aI tk pl s' H1).length=H1.length:=bF
  replace hH2:H'=(rX Hd2 es2 (aK t)).set tl (.bV (cs2.set 6 (.sref (aI tk pl s' H1).length 0 (m2+1) 8))):=hH2
  have key:∀ T,dn tH H.length (.tuple [],some ⟨H',pl⟩) .normal ⟨T,H',pl,0⟩:=fun T=>by
   show finish H.length tH _=_
   have:=hA2.fin (row:=aK t) (T:=T) (lo:=pl) (gen:=0) (base:=H.length) (n':=m2+1) (fn:=tH) rfl rfl ah qq ah
   grind
  refine (show D (PA 1 n) (.seq (tH.body.sub [false]) (.seq (.region _) (.region _))) _ _ from ?_)
  rw[fi];refine ajR (n:=n) (pv:=pv) (T0:=fm [.ref tl 0,.ref pv 0,.ref cv 0]) ah ij ⟨aZ,tQ⟩ hv rf hA rfl rfl fun T q1 q2=>?_
  have q1:T 1=.ref pv 0:=q1.trans rfl;have q2:T 2=.ref cv 0:=q2.trans rfl;rw[<- hH];rw[kL,fi,cr rfl];simp(disch:=omega)only[aO,aa,simprocAttr,q1,X8,CY];rw[cr rfl];simp(disch:=omega)only[aO,aa,simprocAttr,q2,gT,anr];exact key _
end
end
section
def Cg{A:AP}{f:FuncId}(ho:A.ov f=none)(hf:A.fns f=some fn){H:ae}(hn:Nat.beq args.length fn.np=true)
  (h:W A fn.body { T:=fm args,H,lo:=H.length,gen:=0 } (dn fn H.length r)):aj A f args H=some r:=by
 obtain⟨n,e,s',h1,h2⟩:=h;refine qX ho hf (n:=n) ?_;unfold y5;rw[hn,cond_true,h1,auW];cases e with
 | exit i=>exact h2.elim
 | _=>exact h2
def dnP(fn:ax)(base:Nat)(P:AV × Option fR->Prop):bJ->AS->Prop
 | .exit _,_=>False
 | _,s=>∃ x,finish base fn s=some x/\P x
def PB{A:AP}{f:FuncId}(ho:A.ov f=none)(hf:A.fns f=some fn){H:ae}{P:AV × Option fR->Prop}(hn:Nat.beq args.length fn.np=true)
  (h:W A fn.body { T:=fm args,H,lo:=H.length,gen:=0 } (dnP fn H.length P)):∃ r,aj A f args H=some r/\P r:=by
 obtain⟨n,e,s',h1,h2⟩:=h;have key:∀ r,finish H.length fn s'=some r->(e=.normal\/e=.ret)->aj A f args H=some r:=fun r hr he=>by
  refine qX ho hf (n:=n) ?_;unfold y5;rw[hn,cond_true,h1,auW]
  rcases he with rfl|rfl<;>exact hr
 cases e with
 | exit i=>exact h2.elim
 | normal=>obtain⟨r,hr,hp⟩:=h2;exact⟨r,key r hr (.inl rfl),hp⟩
 | ret=>obtain⟨r,hr,hp⟩:=h2;exact⟨r,key r hr (.inr rfl),hp⟩
section
variable {α:Type}{kk n:Nat}{tk:List Tk}{pl base:Nat}{f:FuncId}{fs cs:List AV}{elem:α->PS->Option (α × PS)}{fin:aB}{J:Bool->α->PS->ae->Prop}{sz:α->Nat}
structure He (kk n:Nat) (tk:List Tk) (pl base:Nat) (f:FuncId) (fs cs:List AV) (elem:α->PS->Option (α × PS)) (J:Bool->α->PS->ae->Prop) (sz:α->Nat):Prop where
 at' : ∀ b a s K,J b a s K->jn tk pl s K
 set:∀ b a s s' K,J b a s K->s'.i<=tk.length->J b a s' (aI tk pl s' K)
 el:∀ b a s K r,J b a s K->sz a<=1000000->elem a s=some r->∃ K',aj (PA kk n) f (fs++cs) K=some (.tuple [],some ⟨K',pl⟩)/\J true r.1 r.2 K'
 sz:∀ a s r,elem a s=some r->sz r.1=sz a+1
 fin:∀ a s K T gen,J true a s K->finish base Fy ⟨T,K,pl,gen⟩=some (.tuple [],some ⟨K,pl⟩)
 fc:aM (.func (.func f) fs cs)=true
def jn.ahH{s s':PS}{H:ae}(h:jn tk pl s H) : finish H.length Fy ⟨T,aI tk pl s' H,pl,gen⟩=some (.tuple [],some ⟨aI tk pl s' H,pl⟩):=by
 refine SJ (fn:=Fy) (x:=(.tuple [],some ⟨aI tk pl s' H,pl⟩)) rfl .normal _ ?_;have ho:=h.q.open (tk:=tk) (s:=s');have ij:=h.q.lt;simp(disch:=omega)only[aO,aa,simprocAttr,ho,dK,show Fy.results=[] from rfl]
def Ie(hE:He kk n tk pl base f fs cs elem J sz){k:Nat}{a:α}{s:PS}{H:ae}{r:α × PS}(hb:H.length=base)(hf:fin≠[])(hJ:J false a s H)(j9:sz a+k<=1000001)
  (hr:tI (az tk) elem fin k a s=some r):∃ K',aj (PA kk n) 55 [.ref pl 0,.str fin,.func (.func f) fs cs] H=some (.tuple [],some ⟨K',pl⟩)/\((∃ b,J b r.1 r.2 K')):=by
 subst hb;have h:=hE.at' _ _ _ _ hJ;have ij:=h.q.lt;have hfc:=hE.fc;unfold tI at hr;cases e:(pk (az tk) s==fin) with
 | true =>
  rw[e,cond_true] at hr;injection hr with hr
  subst hr;have hi:=H5 (k:=kk) (n:=n) h hf e;have hle:=lk (tk:=tk) (s:=s) hf e;refine⟨aI tk pl s.up H,Cg (fn:=Fy) rfl rfl rfl ?_,⟨false,hE.set _ _ _ _ _ hJ hle⟩⟩;have nw:=fun T gen=>h.ahH (s':=s.up) (T:=T) (gen:=gen)
  unfold Fy;simp(disch:=omega)only[aO,aa,simprocAttr,hi,Bool.and_self];exact nw _ _
 | false =>
  rw[e,cond_false] at hr;have hi:=H4 (k:=kk) (n:=n) h e;cases k with
  | zero=>cases hr
  | succ k =>
  simp only[uM,auQ] at hr;obtain⟨r1,h1,hr⟩:=hr;obtain⟨K1,hc1,Bf⟩:=hE.el _ _ _ _ _ hJ ah h1;have qa:=hE.sz _ _ _ h1;have key:∃ R,aj (PA kk n) 55 [.ref pl 0,.str fin,.func (.func f) fs cs] H=some R/\∃ K',R=(.tuple [],some ⟨K',pl⟩)/\J true r.1 r.2 K':=by
   refine PB (fn:=Fy) rfl rfl rfl ?_;have D5:=hE.at' _ _ _ _ Bf;unfold Fy;simp(disch:=omega)only[aO,aa,simprocAttr,hi,hc1,Bool.and_self];refine oD 0 (fun k' s=>∃ T a1 s1 K1,s=⟨T,K1,pl,0⟩/\T 0=.ref pl 0/\T 1=.str fin/\T 2=.func (.func f) fs cs/\J true a1 s1 K1/\sz a1+k'<=1000001 /\
     (bif !s1.bad&&(pk (az tk) s1==[44]) then uM (az tk) elem fin k' a1 s1.up else some (a1,bif s1.bad then s1 else aY (az tk) fin s1))=some r)
    (fun s=>∃ T a1 s1 K1,s=⟨T,K1,pl,0⟩/\T 0=.ref pl 0/\T 1=.str fin/\J true a1 s1 K1/\(a1,bif s1.bad then s1 else aY (az tk) fin s1)=r) (fun _=>False) ?_ ?_ (fun _ h=>h.elim) k _ ?_
   ·rintro k' s ⟨T,a1,s1,K1,rfl,q0,q1,q2,Bf,hz,CV⟩
    have D5:=hE.at' _ _ _ _ Bf;have h0:=D5.at';have anR:=D5.q.lt;unfold nC at h0;obtain⟨i1,b1⟩:=s1;simp only at h0;cases b1 with
    | true =>
     rw[avW,avk,cond_false] at CV;injection CV with CV
     simp(disch:=omega)only[aO,aa,simprocAttr,q0,h0];exact⟨_,a1,⟨i1,true⟩,K1,rfl,nx q0,nx q1,Bf,CV⟩
    | false =>
     rw[av5,avv] at CV;cases e1:(pk (az tk) ⟨i1,false⟩==[44]) with
     | false =>
      rw[e1,cond_false] at CV;injection CV with CV
      have RI:=H4 (k:=kk) (n:=n) D5 e1;simp(disch:=omega)only[aO,aa,simprocAttr,q0,h0,RI];exact⟨_,a1,⟨i1,false⟩,K1,rfl,nx q0,nx q1,Bf,CV⟩
     | true =>
      rw[e1,cond_true] at CV;have RI:=H5 (k:=kk) (n:=n) D5 ag e1;have hle:=lk (tk:=tk) (s:=⟨i1,false⟩) (w:=[44]) ag e1;have Ls:=hE.set _ _ _ _ _ Bf hle;cases k' with
      | zero=>cases CV
      | succ k' =>
       simp only[uM,auQ] at CV;obtain⟨r2,h2,MJ⟩:=CV;obtain⟨K2,gT,Ts⟩:=hE.el _ _ _ _ _ Ls ah h2;have xe:=hE.sz _ _ _ h2;simp(disch:=omega)only[aO,aa,simprocAttr,q0,q2,h0,RI,gT,Bool.and_self];exact⟨k',ah,_,r2.1,r2.2,K2,rfl,nx q0,nx q1,nx q2,Ts,ah,MJ⟩
   ·rintro s ⟨T,a1,s1,K1,rfl,q0,q1,Bf,rfl⟩
    have D5:=hE.at' _ _ _ _ Bf;have h0:=D5.at';unfold nC at h0;have CY:=zf (k:=kk) (n:=n) D5 hf;have hwl:=gA (tk:=tk) hf D5.le;have anR:=D5.q.lt;obtain⟨i1,b1⟩:=s1;simp only at h0;cases b1 with
    | true =>
     simp(disch:=omega)only[aO,aa,simprocAttr,q0,h0];exact⟨_,hE.fin _ _ _ _ _ Bf,K1,rfl,Bf⟩
    | false =>
     have Ls:=hE.set _ _ _ _ _ Bf hwl;simp(disch:=omega)only[aO,aa,simprocAttr,q0,q1,h0,CY];exact⟨_,hE.fin _ _ _ _ _ Ls,_,rfl,Ls⟩
   ·exact⟨_,r1.1,r1.2,K1,rfl,tL,tL,tL,Bf,ah,hr⟩
  obtain⟨R,hR,K',rfl,hJ'⟩:=key;exact⟨K',hR,true,hJ'⟩
end
end
section
structure Lq (tk:List Tk) (s s' : PS):Prop where
 le:s.i<=tk.length->s'.i<=tk.length
 bad:s.bad=true->s'.bad=true
 i:s.i<=s'.i
section
variable {tk:List Tk}
theorem Lq.ZJ{s:PS} : Lq tk s s:=⟨id,id,Nat.le_refl _⟩
def Lq.tr{a b c:PS}(h:Lq tk a b)(k:Lq tk b c):Lq tk a c:=⟨fun x=>k.le (h.le x),fun x=>k.bad (h.bad x),avx h.i k.i⟩
def kG{s:PS}(hw:w≠[])(e:(pk (az tk) s==w)=true):Lq tk s s.up:=⟨fun _=>lk hw e,id,Nat.le_succ _⟩
theorem BN{s:PS} : Lq tk s s.wX:=⟨id,fun _=>rfl,Nat.le_refl _⟩
def cU{s:PS}(hw:w≠[]):Lq tk s (aY (az tk) w s):=by
 unfold aY;cases e:(pk (az tk) s==w) with
 | true=>exact kG hw e
 | false=>exact BN
def fJ{s:PS} : Lq tk s (aL (az tk) s).2:=by
 unfold aL;cases e:isWord (pk (az tk) s) with
 | true=>exact⟨fun _=>tK (fun h=>by rw[h] at e;cases e),id,Nat.le_succ _⟩
 | false=>exact BN
def Ih{s:PS}(h1:0<=least):Lq tk s (jR (az tk) least s).2:=by
 refine⟨ae6 h1,?_,?_⟩
 ·unfold jR
  cases decide (fL (pk (az tk) s)<least)<;>intro h<;>first|exact h|rfl
 ·unfold jR
  cases decide (fL (pk (az tk) s)<least)
  ·exact Nat.le_succ _
  ·exact Nat.le_refl _
theorem jZ{s:PS} : Lq tk s (aR (az tk) s).2:=by
 unfold aR;cases e:(!(aL (az tk) s).2.bad&&(pk (az tk) (aL (az tk) s).2==[46])) with
 | true =>
  simp only[auT] at e;exact fJ.tr ((kG ag e.2).tr fJ)
 | false=>exact fJ
theorem mh:∀ (n:Nat) (s:PS) (r:Wd × PS),pX (az tk) n s=some r->Lq tk s r.2
 | 0,_,_,h=>by cases h
 | n+1,s,r,h=>by
  unfold pX at h;cases e1:(pk (az tk) s==ua) with
  | true=>rw[e1,cond_true] at h;cases h;exact kG a8 e1
  | false =>
  cases e2:(pk (az tk) s==oZ) with
  | true=>rw[e1,e2,cond_false,cond_true] at h;cases h;exact kG a8 e2
  | false =>
  cases e3:(pk (az tk) s==ki) with
  | true =>
   rw[e1,e2,e3,cond_false,cond_false,cond_true] at h;simp only[auP] at h;obtain⟨q,hq,rfl⟩:=h;exact (kG a8 e3).tr ((cU ag).tr ((mh n _ q hq).tr (cU ag)))
  | false =>
   grind [jZ]
def xr{n:Nat}{s:PS}{r:Wd × PS}(h:lS (az tk) n s=some r):Lq tk s r.2:=by
 unfold lS at h;simp only[auP] at h;obtain⟨q,hq,rfl⟩:=h;exact (cU ag).tr ((mh n _ q hq).tr (cU ag))
def Kv{α:Type}{elem:α->PS->Option (α × PS)}{fin:aB}(hf:fin≠[])(hE:∀ a s r,elem a s=some r->Lq tk s r.2):∀ (k:Nat) (a:α) (s:PS) (r:α × PS),uM (az tk) elem fin k a s=some r->Lq tk s r.2
 | 0,_,_,_,h=>by cases h
 | k+1,a,s,r,h=>by
  simp only[uM,auQ] at h;obtain⟨q,hq,h⟩:=h;have h1:=hE _ _ _ hq;cases e:(!q.2.bad&&(pk (az tk) q.2==[44])) with
  | true =>
   rw[e,cond_true] at h;simp only[auT] at e;exact h1.tr ((kG ag e.2).tr (Kv hf hE k _ _ r h))
  | false =>
   rw[e,cond_false] at h;cases h;cases hb:q.2.bad with
   | true=>simp only[cond_true];exact h1
   | false=>simp only[cond_false];exact h1.tr (cU hf)
def vo{α:Type}{elem:α->PS->Option (α × PS)}{fin:aB}(hf:fin≠[])(hE:∀ a s r,elem a s=some r->Lq tk s r.2){k:Nat}{a:α}{s:PS}{r:α × PS}(h:tI (az tk) elem fin k a s=some r):Lq tk s r.2:=by
 unfold tI at h;cases e:(pk (az tk) s==fin) with
 | true=>rw[e,cond_true] at h;cases h;exact kG hf e
 | false=>rw[e,cond_false] at h;exact Kv hf hE k a s r h
def iM(tk:List Tk)(E:EP):Prop:=∀ s r,E s=some r->Lq tk s r.2
variable {E B:EP}
def mg(hE:iM tk E){s:PS}{r:List Tm × PS}(h:uJ E ks s=some r):Lq tk s r.2:=by
 unfold uJ at h;simp only[auP] at h;obtain⟨q,hq,rfl⟩:=h;exact hE _ _ hq
def kF(hE:iM tk E)(hw:w≠[]){s:PS}{r:List Tm × PS}(h:oI (az tk) E w ks s=some r):Lq tk s r.2:=by
 unfold oI at h;cases e:(aY (az tk) w s).bad with
 | true=>rw[e,cond_true] at h;cases h;exact cU hw
 | false=>rw[e,cond_false] at h;exact (cU hw).tr (mg hE h)
def BO(hE:iM tk E){a:List aB × List Tm}{s:PS}{r:(List aB × List Tm) × PS}(h:FD (az tk) E a s=some r):Lq tk s r.2:=by
 unfold FD at h;simp only[auP] at h;obtain⟨q,hq,rfl⟩:=h;exact fJ.tr ((cU ag).tr (mg hE hq))
def Ku{s:PS} : Lq tk s (v8 (az tk) s).2:=by
 unfold v8;cases e:(aY (az tk) [44] (aL (az tk) s).2).bad with
 | true=>exact fJ.tr (cU ag)
 | false=>exact fJ.tr ((cU ag).tr fJ)
def YJ(hE:iM tk E)(hB:iM tk B):iM tk (uu (az tk) E B):=by
 intro s r h;unfold uu at h;cases e1:(pk (az tk) s==LD) with
 | true =>
  rw[e1,cond_true] at h;simp only[auQ,auP] at h;obtain⟨a,ha,b,hb,c,hc,rfl⟩:=h;exact (kG a8 e1).tr ((mg hE ha).tr ((kF hE a8 hb).tr (kF hE a8 hc)))
 | false =>
 cases e2:(pk (az tk) s==B4) with
 | true =>
  rw[e1,e2,cond_false,cond_true] at h;simp only[auQ,auP] at h;obtain⟨a,ha,c,hc,rfl⟩:=h;exact (kG a8 e2).tr (fJ.tr ((kF hE a8 ha).tr (kF hE a8 hc)))
 | false =>
 cases e3:(pk (az tk) s==wK) with
 | true =>
  rw[e1,e2,e3,cond_false,cond_false,cond_true] at h;simp only[auQ,auP] at h;obtain⟨a,ha,b,hb,c,hc,rfl⟩:=h;exact (kG a8 e3).tr (Ku.tr ((kF hE a8 ha).tr ((kF hE a8 hb).tr (kF hE a8 hc))))
 | false =>
  rw[e1,e2,e3,cond_false,cond_false,cond_false] at h;exact hB _ _ h
def z7(hE:iM tk E):∀ (k:Nat) (a:List aB × List Tm) (s:PS) (r:(List aB × List Tm) × PS),qG (az tk) E k a s=some r->Lq tk s r.2
 | 0,_,_,_,h=>by cases h
 | k+1,a,s,r,h=>by
  simp only[qG,auQ] at h;obtain⟨q,hq,h⟩:=h;have h1:=(fJ (tk:=tk) (s:=s)).tr (fJ.tr ((cU ag).tr (hE _ _ hq)));cases e:(!q.2.bad&&(pk (az tk) q.2==[44])) with
  | true =>
   rw[e,cond_true] at h;simp only[auT] at e;exact h1.tr ((kG ag e.2).tr (z7 hE k _ _ r h))
  | false=>rw[e,cond_false] at h;cases h;exact h1
def UN(hE:iM tk E){n:Nat} : iM tk (sR (az tk) n E):=by
 intro s r h;unfold sR at h;simp only[auQ,auP] at h;obtain⟨a,ha,q,hq,rfl⟩:=h;exact jZ.tr ((cU ag).tr ((hE _ _ ha).tr ((cU ag).tr ((cU ag).tr ((z7 hE _ _ _ _ hq).tr (cU ag))))))
def QV(hE:iM tk E){nm:aB} : iM tk (xx (az tk) E nm):=by
 intro s r h;unfold xx at h;cases e:(pk (az tk) (aL (az tk) s).2==[91]) with
 | true =>
  rw[e,cond_true] at h;simp only[auP] at h;obtain⟨q,hq,rfl⟩:=h;exact fJ.tr ((kG ag e).tr ((hE _ _ hq).tr (cU ag)))
 | false =>
  rw[e,cond_false] at h;simp only[auP] at h;obtain⟨q,hq,rfl⟩:=h;exact fJ.tr ((cU ag).tr ((hE _ _ hq).tr (cU ag)))
def UO(hE:iM tk E){n:Nat} : iM tk (qH (az tk) n E):=by
 intro s r h;unfold qH at h;simp only at h;cases e1:(pk (az tk) (aR (az tk) s).2==[40]) with
 | true =>
  rw[e1,cond_true] at h;simp only[auP] at h;obtain⟨q,hq,rfl⟩:=h;exact jZ.tr ((kG ag e1).tr (vo ag (fun a s r h=>mg hE h) hq))
 | false =>
 cases e2:(pk (az tk) (aR (az tk) s).2==[123]) with
 | true =>
  rw[e1,e2,cond_false,cond_true] at h;simp only[auP] at h;obtain⟨q,hq,rfl⟩:=h;exact jZ.tr ((kG ag e2).tr (vo ag (fun a s r h=>BO hE h) hq))
 | false =>
 cases e3:(pk (az tk) (aR (az tk) s).2==[58]) with
 | true =>
  rw[e1,e2,e3,cond_false,cond_false,cond_true] at h;exact jZ.tr ((kG ag e3).tr (QV hE _ _ h))
 | false =>
  rw[e1,e2,e3,cond_false,cond_false,cond_false] at h;cases e4:decide (0<=dD 46 0 (aR (az tk) s).1) with
  | true=>rw[e4,cond_true] at h;cases h;exact jZ.tr BN
  | false=>rw[e4,cond_false] at h;cases h;exact jZ
def YI(hE:iM tk E){n:Nat} : iM tk (qi (az tk) n E):=by
 intro s r h;unfold qi at h;cases e1:decide (0<=fL (pk (az tk) s)) with
 | true=>rw[e1,cond_true] at h;cases h;exact Ih ah
 | false =>
 cases e2:(pk (az tk) s==[45]) with
 | true=>rw[e1,e2,cond_false,cond_true] at h;cases h;exact (kG ag e2).tr (Ih ah)
 | false =>
 cases e3:(pk (az tk) s==zA) with
 | true=>rw[e1,e2,e3,cond_false,cond_false,cond_true] at h;cases h;exact kG a8 e3
 | false =>
 cases e4:(pk (az tk) s==u6) with
 | true=>rw[e1,e2,e3,e4,cond_false,cond_false,cond_false,cond_true] at h;cases h;exact kG a8 e4
 | false =>
 cases e5:(pk (az tk) s==[40]) with
 | true =>
  rw[e1,e2,e3,e4,e5,cond_false,cond_false,cond_false,cond_false,cond_true] at h;simp only[auP] at h;obtain⟨q,hq,rfl⟩:=h;exact (kG ag e5).tr ((hE _ _ hq).tr (cU ag))
 | false =>
 cases e6:(pk (az tk) s==ki) with
 | true =>
  rw[e1,e2,e3,e4,e5,e6,cond_false,cond_false,cond_false,cond_false,cond_false,cond_true] at h;simp only[auQ,auP] at h;obtain⟨w,hw,q,hq,rfl⟩:=h;exact (kG a8 e6).tr ((xr hw).tr ((cU ag).tr (vo ag (fun a s r h=>mg hE h) hq)))
 | false =>
 cases e7:(pk (az tk) s==rV) with
 | true =>
  rw[e1,e2,e3,e4,e5,e6,e7,cond_false,cond_false,cond_false,cond_false,cond_false,cond_false,cond_true] at h;exact (kG a8 e7).tr (UN hE _ _ h)
 | false =>
  rw[e1,e2,e3,e4,e5,e6,e7,cond_false,cond_false,cond_false,cond_false,cond_false,cond_false,cond_false] at h;exact UO hE _ _ h
def KG:Bo []=none:=a8
def BM(hB:iM tk B){lv:Int} : ∀ (k:Nat) (t:Tm) (s:PS) (r:Tm × PS),xV (az tk) B lv k t s=some r->Lq tk s r.2
 | 0,_,_,_,h=>by cases h
 | k+1,t,s,r,h=>by
  unfold xV at h;cases hb:s.bad with
  | true=>rw[hb,cond_true] at h;cases h;exact .ZJ
  | false =>
   rw[hb,cond_false] at h;cases ho:Bo (pk (az tk) s) with
   | none=>rw[ho] at h;cases h;exact .ZJ
   | some x =>
    obtain⟨o,l⟩:=x;rw[ho] at h;simp only at h;cases hl:decide (l=lv) with
    | false=>rw[hl,cond_false] at h;cases h;exact .ZJ
    | true =>
     rw[hl,cond_true] at h;simp only[auQ] at h;obtain⟨q,hq,h⟩:=h;have hu:Lq tk s s.up:=⟨fun _=>tK (fun h=>by rw[h,KG] at ho;cases ho),id,Nat.le_succ _⟩
     cases h3:decide (lv=3) with
     | true=>rw[h3,cond_true] at h;cases h;exact hu.tr (hB _ q hq)
     | false=>rw[h3,cond_false] at h;exact hu.tr ((hB _ _ hq).tr (BM hB k _ _ r h))
def jY:∀ (n l:Nat),iM tk (pE (az tk) n l)
 | 0,_,_,_,h=>by cases h
 | n+1,l,s,r,h=>by
  unfold pE at h;split at h
  ·exact YJ (jY n 0) (jY n 1) _ _ h
  ·cases e1:(pk (az tk) s==vU) with
   | true =>
    rw[e1,cond_true] at h;simp only[auP] at h;obtain⟨q,hq,rfl⟩:=h;exact (kG a8 e1).tr (jY n 7 _ q hq)
   | false =>
   cases e2:(pk (az tk) s==xQ) with
   | true =>
    rw[e1,e2,cond_false,cond_true] at h;simp only[auP] at h;obtain⟨q,hq,rfl⟩:=h;exact (kG a8 e2).tr (jY n 7 _ q hq)
   | false =>
    rw[e1,e2,cond_false,cond_false] at h;exact YI (jY n 0) _ _ h
  ·simp only[auQ] at h
   obtain⟨q,hq,h⟩:=h;exact (jY n _ _ q hq).tr (BM (jY n _) _ _ _ _ h)
end
end
def lJ(K:ae)(base tl z:Nat)(v:AV)(rows:List (List AV)):Prop :=
 (v=.aq/\rows=[])\/∃ l,v=.sref l 0 rows.length z/\tl<l/\base<=l/\K[l]?=some (.box bE rows.flatten)/\rows≠[]
theorem kR{z:Nat} : ∀ {rows:List (List AV)},(∀ r∈rows,r.length=z)->rows.flatten.length=rows.length*z
 | [],_=>ag
 | r :: q,h=>by
  grind [kR]
theorem lJ.add{K:ae}{base tl z c:Nat}{cs:List AV}(h:lJ K base tl z v rows)(pj:K[tl]?=some (.bV cs))(hc:cs[c]?=some v)(hz:row.length=z)(hn:rows.length<=2000000)(hw:∀ r∈rows,r.length=z)(hb:base<=K.length) :
  ∃ K',ud K tl c z row=some K'/\K'[tl]?=some (.bV (cs.set c (.sref K.length 0 (rows.length+1) z)))/\lJ K' base tl z (.sref K.length 0 (rows.length+1) z) (rows++[row])/\K'.length=K.length+1 /\
   ∀ j,j<K.length->j≠tl->(∀ n',v≠.sref j 0 n' z)->K'[j]?=K[j]?:=by
 have aZ:tl<K.length:=(auU.1 pj).1
 rcases h with ⟨rfl,rfl⟩|⟨l,rfl,h1,h2,h3,h4⟩
 ·refine⟨K.set tl (.bV (cs.set c (.sref K.length 0 1 z)))++[.box bE row],?_,?_,?_,ag,?_⟩
  ·unfold ud;simp only[pj,hc]
  ·grind
  ·exact .inr ⟨K.length,rfl,aZ,hb,ag,ag⟩
  ·grind
 ·have oT:l<K.length:=(auU.1 h3).1
  refine⟨(K.set l .dead).set tl (.bV (cs.set c (.sref K.length 0 (rows.length+1) z)))++[.box bE (rows.flatten++row)],?_,?_,?_,ag,?_⟩
  ·unfold ud
   have e:(Nat.beq bE bE&&Nat.beq z z&&Nat.beq rows.flatten.length (rows.length*z)&&Nat.ble rows.length 2000000&&Nat.blt tl l&&Nat.beq row.length z)=true:=by
    simp only[auT,aw3,avm,avh,kR hw,hz,avZ,awL];exact⟨hn,h1⟩
   grind
  ·grind
  ·refine .inr ⟨K.length,by rw[List.length_append];rfl,aZ,hb,?_,ag⟩
   grind
  ·grind
def lJ.zY{K:ae}{base tl z:Nat}(h:lJ K base tl z v rows)(hk:∀ l n,v=.sref l 0 n z->K'[l]?=K[l]?):lJ K' base tl z v rows:=by
 rcases h with h|⟨l,rfl,h1,h2,h3,h4⟩
 ·exact .inl h
 ·exact .inr ⟨l,rfl,h1,h2,by rw[hk l _ rfl];exact h3,h4⟩
def lJ.base{K:ae}{base aaE tl z:Nat}(h:lJ K base tl z v rows)(hb:aaE<=base):lJ K aaE tl z v rows:=by
 rcases h with h|⟨l,rfl,h1,h2,h3,h4⟩
 ·exact .inl h
 ·exact .inr ⟨l,rfl,h1,ah,h3,h4⟩
structure TB (K:ae) (base tl:Nat) (c0:List AV) (ks:List Tm) (ns:List aB):Prop where
 ex:∃ kc nc,K[tl]?=some (.bV (c0++[kc,nc]))/\lJ K base tl 8 kc (aC ks)/\lJ K base tl 1 nc (strs ns)
 six:c0.length=6
def LV{K:ae}{base tl:Nat}{m n:Nat}(h1:lJ K base tl 8 (.sref l 0 m 8) (aC ks))(h2:lJ K base tl 1 (.sref l 0 n 1) (strs ns)):False:=by
 rcases h1 with ⟨h,_⟩|⟨l1,h,_,_,h3,h4⟩
 ·cases h
 ·injection h with h;subst h
  rcases h2 with ⟨h,_⟩|⟨l2,h,_,_,k3,k4⟩
  ·cases h
  ·injection h with h;subst h
   rw[h3] at k3;injection k3 with k3
   injection k3 with _ k3
   cases ks with
   | nil=>exact h4 rfl
   | cons t r =>
    cases ns with
    | nil=>exact k4 rfl
    | cons x y =>
     simp only[aC,ai,strs,au9,avo,avU] at k3;cases k3
theorem TB.kid{K:ae}{base tl:Nat}(h:TB K base tl c0 ks ns)(t:Tm)(hn:ks.length<=2000000)(hb:base<=K.length) :
  ∃ K',ud K tl 6 8 (aK t)=some K'/\TB K' base tl c0 (ks++[t]) ns/\K'.length=K.length+1/\∀ j,j<base->j≠tl->K'[j]?=K[j]?:=by
 obtain⟨⟨kc,nc,h1,h2,h3⟩,h6⟩:=h;have hk:(c0++[kc,nc])[6]?=some kc:=by rw[List.getElem?_append_right ah,h6];rfl
 obtain⟨K',e1,e2,e3,e4,e5⟩:=h2.add h1 hk ja (by rw[cR];exact hn) (fun r hr=>by rw[j6] at hr;obtain⟨u,_,rfl⟩:=List.mem_map.1 hr;exact ja) hb
 have hs:(c0++[kc,nc]).set 6 (.sref K.length 0 ((aC ks).length+1) 8)=c0++[.sref K.length 0 ((aC ks).length+1) 8,nc]:=by
  grind
 rw[hs] at e2;have qq:tl<K.length:=(auU.1 h1).1;refine⟨K',e1,⟨⟨_,nc,e2,?_,h3.zY fun l n hv=>?_⟩,h6⟩,e4,fun j hj dp=>?_⟩
 ·grind [j6]
 ·subst hv
  rcases h3 with ⟨h,_⟩|⟨l',h,q1,q2,q3,q4⟩
  ·cases h
  ·injection h with h;subst h
   refine e5 l (auU.1 q3).1 ah fun n' hv=>?_
   subst hv;exact LV h2 (n:=(strs ns).length) (.inr ⟨l,rfl,q1,q2,q3,q4⟩)
 ·refine e5 j ah dp fun n' hv=>?_
  subst hv
  rcases h2 with ⟨h,_⟩|⟨l',h,q1,q2,q3,q4⟩
  ·cases h
  ·injection h with h;omega
theorem TB.nam{K:ae}{base tl:Nat}(h:TB K base tl c0 ks ns)(w:aB)(hn:ns.length<=2000000)(hb:base<=K.length) :
  ∃ K',ud K tl 7 1 [.str w]=some K'/\TB K' base tl c0 ks (ns++[w])/\K'.length=K.length+1/\∀ j,j<base->j≠tl->K'[j]?=K[j]?:=by
 obtain⟨⟨kc,nc,h1,h2,h3⟩,h6⟩:=h;have hk:(c0++[kc,nc])[7]?=some nc:=by rw[List.getElem?_append_right ah,h6];rfl
 obtain⟨K',e1,e2,e3,e4,e5⟩:=h3.add (row:=[.str w]) h1 hk rfl (by rw[bG];exact hn) (fun r hr=>by unfold strs at hr;obtain⟨u,_,rfl⟩:=List.mem_map.1 hr;rfl) hb
 have hs:(c0++[kc,nc]).set 7 (.sref K.length 0 ((strs ns).length+1) 1)=c0++[kc,.sref K.length 0 ((strs ns).length+1) 1]:=by
  grind
 rw[hs] at e2;have qq:tl<K.length:=(auU.1 h1).1;refine⟨K',e1,⟨⟨kc,_,e2,h2.zY fun l n hv=>?_,?_⟩,h6⟩,e4,fun j hj dp=>?_⟩
 ·subst hv
  rcases h2 with ⟨h,_⟩|⟨l',h,q1,q2,q3,q4⟩
  ·cases h
  ·injection h with h;subst h
   refine e5 l (auU.1 q3).1 ah fun n' hv=>?_
   subst hv;exact LV (m:=(aC ks).length) (.inr ⟨l,rfl,q1,q2,q3,q4⟩) h3
 ·have:strs (ns++[w])=strs ns++[[.str w]]:=by unfold strs;rw[List.map_append];rfl
  rw[this];exact e3
 ·refine e5 j ah dp fun n' hv=>?_
  subst hv
  rcases h3 with ⟨h,_⟩|⟨l',h,q1,q2,q3,q4⟩
  ·cases h
  ·injection h with h;omega
theorem TB.zY{K:ae}{base tl:Nat}(h:TB K base tl c0 ks ns)(hk:∀ j,tl<=j->K'[j]?=K[j]?):TB K' base tl c0 ks ns:=by
 obtain⟨⟨kc,nc,h1,h2,h3⟩,h6⟩:=h;refine⟨⟨kc,nc,by rw[hk tl (Nat.le_refl _)];exact h1,h2.zY fun l n hv=>?_,h3.zY fun l n hv=>?_⟩,h6⟩
 ·subst hv
  rcases h2 with ⟨h,_⟩|⟨l',h,q1,q2,q3,q4⟩
  ·cases h
  ·grind
 ·subst hv
  rcases h3 with ⟨h,_⟩|⟨l',h,q1,q2,q3,q4⟩
  ·cases h
  ·grind
structure JT (tk:List Tk) (pl base tl:Nat) (c0:List AV) (K0:ae) (b:Bool) (ns:List aB) (ks:List Tm) (s:PS) (K:ae):Prop where
 p:jn tk pl s K
 t:TB K base tl c0 ks ns
 lt:pl<tl
 tb:tl<base
 bk:base<=K.length
 b:b=true->ks≠[]
 old:∀ j,j<base->j≠tl->j≠pl->K[j]?=K0[j]?
def JT.set{tk:List Tk}{pl base tl:Nat}{s s':PS}{K:ae}(h:JT tk pl base tl c0 K0 b ns ks s K)(hl:s'.i<=tk.length):JT tk pl base tl c0 K0 b ns ks s' (aI tk pl s' K) :=
 ⟨h.p.to hl,h.t.zY fun j hj=>dV (by have:=h.lt;omega),h.lt,h.tb,by rw[bF];exact h.bk,h.b,fun j h1 h2 h3=>by rw[dV (fun e=>h3 e.symm)];exact h.old j h1 h2 h3⟩
def JT.fin{tk:List Tk}{pl base tl:Nat}{s:PS}{K:ae}(hJ:JT tk pl base tl c0 K0 true ns ks s K) : finish base Fy ⟨T,K,pl,gen⟩=some (.tuple [],some ⟨K,pl⟩):=by
 obtain⟨⟨kc,nc,h1,h2,h3⟩,h6⟩:=hJ.t;refine Ok rfl rfl (OX (tl:=tl) (awx hJ.lt) hJ.tb h1 ?_)
 rcases h2 with ⟨_,h⟩|⟨l,rfl,q1,q2,q3,q4⟩
 ·have:=hJ.b rfl
  cases ks with
  | nil=>exact absurd rfl this
  | cons a r=>rw[aC] at h;cases h
 ·cases hb:(c0++[.sref l 0 (aC ks).length 8,nc]).all (AV.bz base) with
  | false=>rfl
  | true =>
   rw[auX] at hb;have:=hb (.sref l 0 (aC ks).length 8) ag
   simp only[AV.bz,avh] at this;omega
def JT.kid{n:Nat}{tk:List Tk}{pl base tl:Nat}{s s':PS}{K:ae}{t:Tm}(h:JT tk pl base tl c0 K0 b ns ks s K)(hn:n<=1000000)(gG:ks.length<=1000000)(he:pE (az tk) n 0 s=some (t,s')) :
  ∃ K',ud (aI tk pl s' K) tl 6 8 (aK t)=some K'/\JT tk pl base tl c0 K0 true ns (ks++[t]) s' K':=by
 have hle:=(jY n 0 _ _ he).le h.p.le;have h1:=h.set hle;obtain⟨K',e1,e2,e3,e4⟩:=h1.t.kid t ah h1.bk;obtain⟨kc,m,es,Hd,cs,hA,hH⟩:=mT ja e1;have hp:=hA.pat h1.p h.lt (row:=aK t) (n':=m+1);refine⟨K',e1,⟨by rw[hH];exact hp,e2,h.lt,h.tb,by rw[e3];have:=h1.bk;omega,fun _=>ag,fun j a1 a2 a3=>by rw[e4 j a1 a2];exact h1.old j a1 a2 a3⟩⟩
def JT.nam{tk:List Tk}{pl base tl:Nat}{s:PS}{K:ae}(h:JT tk pl base tl c0 K0 b ns ks s K)(w:aB)(AN:ns.length<=1000000) :
  ∃ K',ud K tl 7 1 [.str w]=some K'/\JT tk pl base tl c0 K0 b (ns++[w]) ks s K':=by
 obtain⟨K',e1,e2,e3,e4⟩:=h.t.nam w ah h.bk;obtain⟨kc,m,es,Hd,cs,hA,hH⟩:=mT (z:=1) (row:=[.str w]) rfl e1;have hp:=hA.pat h.p h.lt (row:=[.str w]) (n':=m+1);refine⟨K',e1,⟨by rw[hH];exact hp,e2,h.lt,h.tb,by rw[e3];have:=h.bk;omega,h.b,fun j a1 a2 a3=>by rw[e4 j a1 a2];exact h.old j a1 a2 a3⟩⟩
def YU{k n:Nat}(hk:2<=k){H:ae}(h:B1 n args H x):aj (PA k n) 151 args H=some x:=by
 have ho:(PA k n).ov 151=some (lZ (B1 n)):=by
  have:Nat.ble 2 k=true:=by rw[avm];exact hk
  show (bif Nat.ble 2 k then _ else _)=_
  rw[this];rfl
 refine fZ ho (pK (fun _ hy=>Re h hy) h) ?_
 cases h;rfl
def S7{k n:Nat}(hk:2<=k){H:ae}(h:zx n args H x):aj (PA k n) 95 args H=some x:=by
 have ho:(PA k n).ov 95=some (lZ (zx n)):=by
  have:Nat.ble 2 k=true:=by rw[avm];exact hk
  show (bif Nat.ble 2 k then _ else _)=_
  rw[this];rfl
 refine fZ ho (pK (fun _ hy=>Rg h hy) h) ?_
 cases h<;>rfl
theorem UD{n:Nat}(hn:n<=1000000){tk:List Tk}{pl base tl:Nat} :
  He 2 n tk pl base 136 [.agg [.ref pl 0,.ref tl 0]] [] (uJ (pE (az tk) n 0)) (fun b ks s K=>JT tk pl base tl c0 K0 b [] ks s K) List.length where
 at':=fun _ _ _ _ h=>h.p
 set:=fun _ _ _ _ _ h hl=>h.set hl
 el:=fun b ks s K r h hz he=>by
  unfold uJ at he;simp only[auP] at he;obtain⟨⟨t,s'⟩,hq,rfl⟩:=he;obtain⟨K',e1,e2⟩:=h.kid hn hz hq;exact⟨K',Yu (k:=2) ah (xO.mk (tl:=tl) h.p hn h.lt hq e1),e2⟩
 sz:=fun ks s r he=>by
  unfold uJ at he;simp only[auP] at he
  grind
 fin:=fun _ _ _ _ _ h=>h.fin
 fc:=rfl
theorem Yv{n:Nat}(hn:n<=1000000){tk:List Tk}{pl base tl pv cv:Nat}(hv:K0[pv]?=some (.box 72 [.ref pl 0]))(hc:K0[cv]?=some (.box 1 [.func (.func 136) [.agg [.ref pl 0,.ref tl 0]] []]))(h1:pl<pv)(h2:pv<tl)(h3:tl<cv)(h4:cv<base) :
  He 2 n tk pl base 151 [] [.ref tl 0,.ref pv 0,.ref cv 0] (FD (az tk) (pE (az tk) n 0)) (fun b a s K=>JT tk pl base tl c0 K0 b a.1 a.2 s K/\a.1.length=a.2.length) (fun a=>a.2.length) where
 at':=fun _ _ _ _ h=>h.1.p
 set:=fun _ _ _ _ _ h hl=>⟨h.1.set hl,h.2⟩
 el:=fun b a s K r h hz he=>by
  obtain⟨h,hlen⟩:=h;unfold FD uJ at he;simp only[auP] at he;obtain⟨q,⟨⟨t,s'⟩,hq,rfl⟩,rfl⟩:=he;have ait:=jQ (tk:=tk) h.p.le;obtain⟨K1,e1,e2⟩:=(h.set (s':=(aL (az tk) s).2) ait).nam (aL (az tk) s).1 ah;have MD:=gA (tk:=tk) (w:=[61]) ag ait;have e3:=e2.set (s':=aY (az tk) [61] (aL (az tk) s).2) MD;obtain⟨K',e4,e5⟩:=e3.kid hn hz hq;rw[fK] at e4;refine⟨K',YU (k:=2) ah (B1.mk (tl:=tl) h.p hn ?_ ?_ h1 h2 h3 e1 hq e4),e5,?_⟩
  ·rw[h.old pv ah ah ah];exact hv
  ·rw[h.old cv ah ah ah];exact hc
  ·simp[hlen]
 sz:=fun a s r he=>by
  unfold FD uJ at he;simp only[auP] at he
  grind
 fin:=fun _ _ _ _ _ h=>h.1.fin
 fc:=rfl
def RR(K:ae)(base tl z:Nat)(v:AV)(rows:List (List AV)):Prop:=lJ K base tl z v rows\/v=.slice rows false
def Az{z:Nat} : ∀ {rows:List (List AV)},(∀ r∈rows,r.length=z)->chunks z rows.length rows.flatten=rows
 | [],_=>rfl
 | r :: q,h=>by
  have hr:=h r ag;rw[List.length_cons,avo,chunks,awn hr,awm hr,Az fun x hx=>h x (xD hx)]
def Uz(x:AV):Prop:=(∃ n,x=.int .i64 n)\/(∃ s,x=.str s)\/∃ e,x=.slice e false
def Ou{K:ae}{base tl z:Nat}(hz:0<z)(hw:∀ r∈rows,r.length=z)(hk:∀ r∈rows,∀ x∈r,Uz x)(h:RR K base tl z v rows) :
  (v=.aq/\rows=[]\/v=.slice rows false\/∃ l n,v=.sref l 0 n z/\base<=l)/\(gx K base Fp v.drop=.slice rows false\/gx K base Fp v.drop=.aq/\rows=[]):=by
 rcases h with (⟨rfl,rfl⟩|⟨l,rfl,h1,h2,h3,h4⟩)|rfl
 ·exact⟨.inl ⟨rfl,rfl⟩,.inr ⟨rfl,rfl⟩⟩
 ·refine⟨.inr (.inr ⟨l,_,rfl,h2⟩),.inl ?_⟩
  have hb:Nat.ble base l=true:=by rw[avm];exact h2
  have fq:∀ x∈rows.flatten,gx K base 2 x.drop=x/\((gx K base 2 x.drop).plain&&kI x)=true:=by
   intro x hx;obtain⟨r,hr,hx⟩:=awS.1 hx
   rcases hk r hr x hx with ⟨n,rfl⟩|⟨s,rfl⟩|⟨e,rfl⟩<;>exact⟨rfl,rfl⟩
  have anC:(rows.flatten.map fun x=>gx K base 2 x.drop)=rows.flatten:=by
   conv=>rhs;rw[<- axT rows.flatten]
   exact List.map_congr_left fun x hx=>(fq x hx).1
  have RD:(rows.flatten.all fun x=>(gx K base 2 x.drop).plain&&kI x)=true:=auX.2 fun x hx=>(fq x hx).2
  have hc:(Nat.blt 0 z&&Nat.ble (0+rows.length*z) rows.flatten.length&&(rows.flatten.all fun x=>(gx K base 2 x.drop).plain&&kI x))=true:=by
   rw[RD,kR hw]
   simp_all
  show gx K base 3 (.sref l 0 rows.length z)=_
  rw[gx];simp only[hb,cond_true,h3,auW,pJ,hc,anC,List.drop_zero,Az hw]
 ·exact⟨.inr (.inl rfl),.inl rfl⟩
def aeI : ∀ r∈aC ks,∀ x∈r,Uz x:=by
 intro r hr x hx;rw[j6] at hr;obtain⟨t,_,rfl⟩:=List.mem_map.1 hr;rw[ai] at hx;simp only[avi,avE,awk] at hx
 rcases hx with rfl|rfl|rfl|rfl|rfl|rfl|rfl|rfl
 ·exact .inl ⟨_,rfl⟩
 ·exact .inl ⟨_,rfl⟩
 ·exact .inr (.inl ⟨_,rfl⟩)
 ·exact .inr (.inl ⟨_,rfl⟩)
 ·exact .inr (.inl ⟨_,rfl⟩)
 all_goals exact .inr (.inr ⟨_,rfl⟩)
def aeH : ∀ r∈strs ns,∀ x∈r,Uz x:=by
 intro r hr x hx;unfold strs at hr;obtain⟨t,_,rfl⟩:=List.mem_map.1 hr;simp only[avi,avE,awk] at hx;subst hx;exact .inr (.inl ⟨_,rfl⟩)
def Ti{ra:Nat}(hr:fn.results=[.cell ra true 8])(h7:fn.muts.elem 777777=true)(h8:fn.muts.elem 888888=false){s:AS}{base tl g:Nat}{kd nn:Int}{a f wn:aB}{wc kc nc:AV}{wk:List Wd}
  (hT:s.T ra=.lbox g [.int .i64 kd,.int .i64 nn,.str a,.str f,.str wn,wc,kc,nc]) (hwc:wc=.aq/\wk=[]\/wc=.slice (aG wk) false) (hk:RR s.H base tl 8 kc (aC ks)) (hn:RR s.H base tl 1 nc (strs ns))
  (ho:ku base s=true) (we:s.lo<base):finish base fn s=some (.agg (aK (.mk kd nn a f wn wk ks ns)),some ⟨s.H.take base,s.lo⟩):=by
 obtain⟨k1,k2⟩:=Ou ah (fun r hr=>by rw[j6] at hr;obtain⟨u,_,rfl⟩:=List.mem_map.1 hr;exact ja) aeI hk
 obtain⟨n1',n2'⟩:=Ou ah (fun r hr=>by unfold strs at hr;obtain⟨u,_,rfl⟩:=List.mem_map.1 hr;rfl) aeH hn
 have Ww:Nat.beq s.lo base=false:=ae3 ah;have bU:ow s (.cell ra true 8)=none:=rfl;have qF:iO s (.cell ra true 8)=some (.agg [.int .i64 kd,.int .i64 nn,.str a,.str f,.str wn,wc.drop,kc.drop,nc.drop]):=by
  simp only[iO,hT];rfl
 have D7:wc.drop=wc/\wc.plain=true/\gx s.H base Fp wc=wc/\n2 wc=.slice (aG wk) false:=by
  rcases hwc with ⟨rfl,rfl⟩|rfl
  ·exact⟨rfl,rfl,rfl,rfl⟩
  ·refine⟨rfl,rfl,rfl,?_⟩
   rw[fp,YX]
 obtain⟨w1,w2,w3,w4⟩:=D7;have hnk:∀ v,(v=.slice (aC ks) false\/v=.aq/\aC ks=[])->n2 v=.slice (aC ks) false/\v.plain=true/\v.drop=v:=fun v hv=>by
  rcases hv with rfl|⟨rfl,h⟩
  ·exact⟨by rw[fp,KD],rfl,rfl⟩
  ·rw[h];exact⟨rfl,rfl,rfl⟩
 have hnn:∀ v,(v=.slice (strs ns) false\/v=.aq/\strs ns=[])->n2 v=.slice (strs ns) false/\v.plain=true/\v.drop=v:=fun v hv=>by
  rcases hv with rfl|⟨rfl,h⟩
  ·exact⟨by rw[fp,Dk],rfl,rfl⟩
  ·rw[h];exact⟨rfl,rfl,rfl⟩
 have HT:∀ v:AV,v.plain=true->v.bz base=true:=fun v hv=>by
  cases v<;>first|exact hv|(simp only[AV.plain] at hv;cases hv)
 have abc:∀ kv nv:AV,n2 kv=.slice (aC ks) false->n2 nv=.slice (strs ns) false->ng (.agg [.int .i64 kd,.int .i64 nn,.str a,.str f,.str wn,wc,kv,nv])=.agg (aK (.mk kd nn a f wn wk ks ns)):=fun kv nv e1 e2=>by
  rw[cH,aK];simp only[au9,avC,dJ,cG,w4,e1,e2]
 have hf1:∃ r,qp base fn s=some r/\rC fn r=(.agg (aK (.mk kd nn a f wn wk ks ns)),some ⟨s.H.take base,s.lo⟩):=by
  unfold qp oE;rw[h8,cond_false];simp only
  by_cases Qv:AV.bz base kc.drop=true/\AV.bz base nc.drop=true
  ·have e0:iI base fn.results s=some (.agg [.int .i64 kd,.int .i64 nn,.str a,.str f,.str wn,wc,kc.drop,nc.drop],some ⟨s.H.take base,s.lo⟩):=by
    unfold iI;rw[hr];simp only[my,bU,qF,auW,w1];have:AV.leaves base (.agg [.int .i64 kd,.int .i64 nn,.str a,.str f,.str wn,wc,kc.drop,nc.drop])=true:=by
     simp only[AV.leaves,AV.ft,List.all_cons,List.all_nil,Qv.1,Qv.2,HT wc w2,avI,Bool.and_self];rfl
    rw[this,cond_true,Ww,cond_false]
   rw[e0];refine⟨_,rfl,?_⟩;unfold rC;rw[h7,cond_true];have kk:n2 kc.drop=.slice (aC ks) false:=by
    rcases k1 with ⟨rfl,h⟩|rfl|⟨l,n,rfl,h⟩
    ·exact (hnk .aq (.inr ⟨rfl,h⟩)).1
    ·exact (hnk (.slice (aC ks) false) (.inl rfl)).1
    ·have:=Qv.1;simp only[AV.drop,AV.bz,avh] at this;omega
   have nn' : n2 nc.drop=.slice (strs ns) false:=by
    rcases n1' with ⟨rfl,h⟩|rfl|⟨l,n,rfl,h⟩
    ·exact (hnn .aq (.inr ⟨rfl,h⟩)).1
    ·exact (hnn (.slice (strs ns) false) (.inl rfl)).1
    ·have:=Qv.2;simp only[AV.drop,AV.bz,avh] at this;omega
   rw[abc _ _ kk nn']
  ·have e0:iI base fn.results s=none:=by
    unfold iI;rw[hr];simp only[my,bU,qF,auW,w1];have:AV.leaves base (.agg [.int .i64 kd,.int .i64 nn,.str a,.str f,.str wn,wc,kc.drop,nc.drop])=false:=by
     cases hb:AV.leaves base (.agg [.int .i64 kd,.int .i64 nn,.str a,.str f,.str wn,wc,kc.drop,nc.drop]) with
     | false=>rfl
     | true =>
      simp only[AV.leaves,AV.ft,List.all_cons,List.all_nil,avI,auT] at hb;exact absurd ⟨hb.2.2.2.2.2.2.1,hb.2.2.2.2.2.2.2⟩ Qv
    rw[this,cond_false]
   have e1:qA base fn.results s=none:=by unfold qA;rw[hr];rfl
   rw[e0,e1];simp only;unfold sG;rw[hr];simp only[vG,qF,au2,auW];have e2:Ms s.H base (AV.dk (.agg [.int .i64 kd,.int .i64 nn,.str a,.str f,.str wn,wc.drop,kc.drop,nc.drop]))=.agg [.int .i64 kd,.int .i64 nn,.str a,.str f,.str wn,wc,gx s.H base Fp kc.drop,gx s.H base Fp nc.drop]:=by
    have dd:∀ v:AV,v.drop.drop=v.drop:=fun v=>by cases v<;>rfl
    rw[w1];simp only[AE,au9,avC,Ms,dd,w1,w3];rfl
   rw[e2];obtain⟨p1,p2,p3⟩:=hnk _ k2;obtain⟨q1,q2,q3⟩:=hnn _ n2';have:AV.leaves base (.agg [.int .i64 kd,.int .i64 nn,.str a,.str f,.str wn,wc,gx s.H base Fp kc.drop,gx s.H base Fp nc.drop])=true:=by
    simp only[AV.leaves,AV.ft,List.all_cons,List.all_nil,HT _ p2,HT _ q2,HT wc w2,avI,Bool.and_self];rfl
   rw[this,cond_true,Ww,cond_false];refine⟨_,rfl,?_⟩;unfold rC;rw[h7,cond_true,abc _ _ p1 q1]
 obtain⟨r,e1,e2⟩:=hf1;unfold finish mc;rw[ho,cond_true,e1];simp only[au2,e2]
section
section
variable {k n:Nat}{tk:List Tk}{pl:Nat}{s0 s:PS}{H:ae}
def A7(h:jn tk pl s0 H)(hs:s.i<=tk.length)(hw:w≠[]):aj (PA k n) 24 [.ref pl 0,.str w] (aI tk pl s H)=some (.tuple [],some ⟨aI tk pl (aY (az tk) w s) H,pl⟩):=cP rfl (DX h.q h.b hw hs)
def Kj(h:jn tk pl s0 H)(hw:w≠[])(e:(pk (az tk) s==w)=true):aj (PA k n) 26 [.ref pl 0,.str w] (aI tk pl s H)=some (.bool true,some ⟨aI tk pl s.up H,pl⟩):=cP rfl (Kl h.q h.b hw e)
def Ki(h:jn tk pl s0 H)(hs:s.i<=tk.length)(e:(pk (az tk) s==w)=false):aj (PA k n) 26 [.ref pl 0,.str w] (aI tk pl s H)=some (.bool false,none):=cP rfl (Kk h.q h.b hs e)
def GD(h:jn tk pl s0 H)(hs:s.i<=tk.length):aj (PA k n) 25 [.ref pl 0] (aI tk pl s H)=some (.str (aL (az tk) s).1,some ⟨aI tk pl (aL (az tk) s).2 H,pl⟩):=cP rfl (vu h.q h.b hs)
def Og(h:jn tk pl s0 H)(hn:n<=1000000)(hs:s.i<=tk.length){t:Tm}{s':PS}(he:pE (az tk) n 0 s=some (t,s')):aj (PA k n) 59 [.ref pl 0] (aI tk pl s H)=some (.agg (aK t),some ⟨aI tk pl s' H,pl⟩):=by
 have:=Oh (k:=k) (h.to hs) hn he
 rwa [fK] at this
def WV(h:jn tk pl s0 H):(aI tk pl s H)[pl]?=some (.box 74 [.slice (tk.map gL) false,.int .i64 s.i,.bool s.bad]):=nj h.q
end
def tJ:List aB->AV
 | []=>.aq
 | a :: r=>.slice (strs (a :: r)) true
def N3{xs:List aB}{o:Bool}(h:xs.length<=1000):aF false 1 16 (.slice [] true) (.slice (strs xs) o)=some (.slice (strs xs) true):=cx (l:=[]) dw
theorem YL{n:Nat}{tk:List Tk}{pl:Nat}{s s':PS}{H:ae}{t:Tm}(h:jn tk pl s H)(hn:n<=1000000)(he:sR (az tk) n (pE (az tk) n 0) s=some (t,s')) :
  aj (PA 2 n) 137 [.ref pl 0] H=some (.agg (aK t),some ⟨aI tk pl s' H,pl⟩):=by
 unfold sR at he;simp only[auQ,auP] at he;obtain⟨⟨t1,s3⟩,h1,⟨⟨ns,ks⟩,s6⟩,h2,he⟩:=he;injection he with e1 e2
 subst e1 e2;simp only at h2 ⊢;have ij:=h.q.lt;have hq:=Vl (k:=2) (n:=n) h;have l1:=(jZ (tk:=tk) (s:=s)).le h.le;generalize aR (az tk) s=q at *;obtain⟨nm,s1⟩:=q;simp only at h1 hq l1;have D7:=A7 (k:=2) (n:=n) h l1 (w:=[40]) ag;have l2:=gA (tk:=tk) (w:=[40]) ag l1;have hx:=Og (k:=2) h hn l2 h1;have l3:=(jY n 0 _ _ h1).le l2;simp only at l3;have Qy:=A7 (k:=2) (n:=n) h l3 (w:=[41]) ag;have l4:=gA (tk:=tk) (w:=[41]) ag l3;have hw3:=A7 (k:=2) (n:=n) h l4 (w:=[123]) ag;have l5:=gA (tk:=tk) (w:=[123]) ag l4;generalize aY (az tk) [40] s1=s2 at *;generalize aY (az tk) [41] s3=s4 at *;generalize aY (az tk) [123] s4=s5 at *;have key:∃ R,aj (PA 2 n) 137 [.ref pl 0] H=some R/\R=(.agg (aK (.mk 10 0 nm [] [] [] ks ns)),some ⟨aI tk pl (aY (az tk) [125] s6) H,pl⟩):=by
  refine nz (fn:=Un) rfl rfl rfl rfl ?_;unfold Un;have et1:=ai t1;rw[et1] at hx;simp(disch:=omega)only[aO,aa,simprocAttr,hq,D7,hx,Qy,hw3,au];refine oD 0 (fun k' st=>∃ T Ly OP s1,st=⟨T,aI tk pl s1 H,pl,2⟩/\T 0=.ref pl 0/\T 2=.lbox 0 [.int .i64 0,.int .i64 0,.str [],.str [],.str [],.aq,.aq,.aq]/\T 3=.lbox 1 [.int .i64 10,.int .i64 0,.str nm,.str [],.str [],.aq,.slice (aC OP) true,tJ Ly] /\
     s1.i<=tk.length/\OP.length+k'<=1000001/\Ly.length+2*k'<=2000002/\qG (az tk) (pE (az tk) n 0) k' (Ly,OP) s1=some ((ns,ks),s6))
    (fun st=>∃ T,st=⟨T,aI tk pl s6 H,pl,2⟩/\T 0=.ref pl 0/\T 2=.lbox 0 [.int .i64 0,.int .i64 0,.str [],.str [],.str [],.aq,.aq,.aq]/\T 3=.lbox 1 [.int .i64 10,.int .i64 0,.str nm,.str [],.str [],.aq,.slice (aC ks) true,tJ ns]/\ns≠[]/\s6.i<=tk.length) (fun _=>False) ?_ ?_ (fun _ h=>h.elim) n _ ?_
  ·rintro k' st ⟨T,Ly,OP,p0,rfl,q0,q2,q3,l0,z1,z2,hm⟩
   cases k' with
   | zero=>cases hm
   | succ k' =>
   simp only[qG,auQ] at hm;obtain⟨⟨t2,p4⟩,D9,hm⟩:=hm;have ha:=GD (k:=2) (n:=n) h l0;have la:=jQ (tk:=tk) l0;have hb:=GD (k:=2) (n:=n) h la;have lb:=jQ (tk:=tk) la;have hc:=A7 (k:=2) (n:=n) h lb (w:=[45,62]) ag;have lc:=gA (tk:=tk) (w:=[45,62]) ag lb;have hd:=Og (k:=2) h hn lc D9;have ld:=(jY n 0 _ _ D9).le lc;simp only at hm ld;generalize hA:aL (az tk) p0=A0 at *;obtain⟨a,p1⟩:=A0;simp only at *;generalize hB:aL (az tk) p1=B0 at *;obtain⟨b,p2⟩:=B0;simp only at *;generalize aY (az tk) [45,62] p2=p3 at *;have h0:=WV (s:=p4) h;have et2:=ai t2;rw[et2] at hd;have ak:aF false 8 136 (.slice (aC OP) true) (.slice [[.int .i64 t2.kind,.int .i64 t2.n,.str t2.name,.str t2.field,.str t2.wn,.slice (aG t2.wk) false,.slice (aC t2.kids) false,.slice (strs t2.names) false]] true)=some (.slice (aC (OP++[t2])) true):=aaz ah;have an:∀ x y,aF false 1 16 (.slice (strs (x :: y)) true) (.slice [[.str a],[.str b]] true)=some (.slice (strs ((x :: y)++[a,b])) true)\/¬ (Ly=x :: y):=fun x y=>by
    by_cases e:Ly=x :: y
    ·left;rw[<- e];exact cx (m:=[a,b]) dw
    ·exact .inr e
   have an0:aF false 1 16 (.slice [] true) (.slice [[.str a],[.str b]] true)=some (.slice (strs [a,b]) true):=N3 (xs:=[a,b]) ag;have aq8:∀ (T' : aD),T' 0=.ref pl 0->T' 2=.lbox 0 [.int .i64 0,.int .i64 0,.str [],.str [],.str [],.aq,.aq,.aq]->T' 3=.lbox 1 [.int .i64 10,.int .i64 0,.str nm,.str [],.str [],.aq,.slice (aC (OP++[t2])) true,tJ (Ly++[a,b])]->True:=fun _ _ _ _=>trivial
   have MG:Ly++[a,b]≠[]:=ag;have nc2:tJ (Ly++[a,b])=.slice (strs (Ly++[a,b])) true:=by
    cases Ly with
    | nil=>rfl
    | cons x y=>rfl
   obtain⟨i4,b4⟩:=p4;simp only at h0 hm ld;have zk:(OP++[t2]).length=OP.length+1:=ag;have zn:(Ly++[a,b]).length=Ly.length+2:=ag;cases b4 with
   | true =>
    rw[avW,avk,cond_false] at hm;injection hm with hm
    injection hm with CP Lw
    injection CP with CP hm3
    subst CP Lw hm3;cases Ly with
    | nil =>
     simp(disch:=omega)only[aO,aa,simprocAttr,q0,q3,tJ,ha,hb,hc,hd,h0,an0,ak,gv,au,cO,cJ,avp,avd,ab];exact⟨_,rfl,nx q0,nx q2,tL,MG,ld⟩
    | cons x y =>
     have an1:=(an x y).resolve_right (fun h=>h rfl)
     simp(disch:=omega)only[aO,aa,simprocAttr,q0,q3,tJ,ha,hb,hc,hd,h0,an1,ak,gv,au,cO,cJ,avp,avd,ab];exact⟨_,rfl,nx q0,nx q2,tL,MG,ld⟩
   | false =>
    rw[av5,avv] at hm;cases e:(pk (az tk) ⟨i4,false⟩==[44]) with
    | false =>
     have hi:=Ki (k:=2) (n:=n) (s:=⟨i4,false⟩) h ld e;rw[e,cond_false] at hm;injection hm with hm
     injection hm with CP Lw
     injection CP with CP hm3
     subst CP Lw hm3;cases Ly with
     | nil =>
      simp(disch:=omega)only[aO,aa,simprocAttr,q0,q3,tJ,ha,hb,hc,hd,h0,hi,an0,ak,gv,au,cO,cJ,avp,avd,ab];exact⟨_,rfl,nx q0,nx q2,tL,MG,ld⟩
     | cons x y =>
      have an1:=(an x y).resolve_right (fun h=>h rfl)
      simp(disch:=omega)only[aO,aa,simprocAttr,q0,q3,tJ,ha,hb,hc,hd,h0,hi,an1,ak,gv,au,cO,cJ,avp,avd,ab];exact⟨_,rfl,nx q0,nx q2,tL,MG,ld⟩
    | true =>
     have hi:=Kj (k:=2) (n:=n) (s:=⟨i4,false⟩) h ag e;have le:=lk (tk:=tk) (s:=⟨i4,false⟩) (w:=[44]) ag e;rw[e,cond_true] at hm;cases Ly with
     | nil =>
      simp(disch:=omega)only[aO,aa,simprocAttr,q0,q3,tJ,ha,hb,hc,hd,h0,hi,an0,ak,gv,au,cO,cJ,avp,avd,ab];exact⟨k',ah,_,_,_,_,rfl,nx q0,nx q2,tL,le,ah,ah,hm⟩
     | cons x y =>
      have an1:=(an x y).resolve_right (fun h=>h rfl)
      simp(disch:=omega)only[aO,aa,simprocAttr,q0,q3,tJ,ha,hb,hc,hd,h0,hi,an1,ak,gv,au,cO,cJ,avp,avd,ab];exact⟨k',ah,_,_,_,_,rfl,nx q0,nx q2,tL,le,ah,ah,hm⟩
  ·rintro st ⟨T,rfl,q0,q2,q3,dp,l6⟩
   have hw:=A7 (k:=2) (n:=n) h l6 (w:=[125]) ag;have ho:=h.q.open (tk:=tk) (s:=aY (az tk) [125] s6);generalize aY (az tk) [125] s6=s7 at *;have en:tJ ns=.slice (strs ns) true:=by cases ns with|nil=>exact absurd rfl dp|cons a r=>rfl
   rw[en] at q3;simp(disch:=omega)only[aO,aa,simprocAttr,q0,q2,q3,hw,ho,au,dK,ab,cH,dJ,cG,cV,fp,KD,Dk,aK,aG]
  ·refine⟨_,[],[t1],s5,rfl,tL,tL,by simp(disch:=omega)only[aO,aa,simprocAttr,aC,ai,tJ],l5,dw,dw,h2⟩
 grind
end
def DK{l:List aB}{K:ae}(h:PW mm K) : (cI mm l b (K++[o]))[K.length]?=some o:=by
 rw[IA (by have:=h.lt;omega)];simp
theorem KS{K:ae}(h:PW mm K)(s:aB)(hs:s.length<=2000000):qP mm K 98 [.ref mm 0,.str s] (gV s) (aJ s) 3:=by
 intro l b hl;have aZ:=h.lt;have hc:=fun K=>ahA s K ah
 have w9:=pf s;obtain⟨l1,e1,t1,n1⟩:=sU h (aV s).1 ah l b (by first|exact hl|omega|(simp only[List.length_cons,List.length_nil];omega))
 unfold gV aJ;cases hf:(aV s).2.2 with
 | false =>
  rw[hf] at hc;have eo:(b || !(isWord (aV s).1&&(!false || isWord (aV s).2.1)))=(b || !isWord (aV s).1):=by cases b<;>cases isWord (aV s).1<;>rfl
  rw[eo,if_neg a8];refine⟨l1,?_,t1,ah⟩;refine cW aeF.eq_1 ?_;have ho:=h.open l1 (b || !isWord (aV s).1);generalize (b || !isWord (aV s).1)=b1 at *;simp(disch:=omega)only[aO,aa,simprocAttr,hc,e1,gk,ho,bw]
 | true =>
  rw[hf] at hc;obtain⟨l2,e2,t2,n2⟩:=A2 h [[46]] ag l1 (b || !isWord (aV s).1) ko;have es:strs [[46]]=[[.str [46]]]:=rfl;have eo:((b || !isWord (aV s).1) || !true)=(b || !isWord (aV s).1):=ag;rw[eo,es] at e2;rw[eo] at t2;simp only[List.length_cons,List.length_nil] at n2;obtain⟨l3,e3,t3,n3⟩:=sU h (aV s).2.1 ah l2 (b || !isWord (aV s).1) ah;have eo:(b || !(isWord (aV s).1&&(!true || isWord (aV s).2.1)))=((b || !isWord (aV s).1) || !isWord (aV s).2.1):=by cases b<;>cases isWord (aV s).1<;>cases isWord (aV s).2.1<;>rfl
  rw[eo,if_pos rfl];refine⟨l3,?_,fun hk=>?_,ah⟩
  ·refine cW aeF.eq_1 ?_
   have ho:=h.open l3 ((b || !isWord (aV s).1) || !isWord (aV s).2.1);generalize ((b || !isWord (aV s).1) || !isWord (aV s).2.1)=b2 at *;generalize (b || !isWord (aV s).1)=b1 at *;simp(disch:=omega)only[aO,aa,simprocAttr,hc,e1,e2,e3,gk,ho,au4,bw]
  ·grind
def Q0:List Wd->Bool
 | [k]=>bX k
 | _=>false
def Rs:List Wd->List aB
 | [k]=>[[40]]++bQ k++[[41]]
 | _=>[]
def Xh{K:ae}(h:PW mm K){ks:List Wd}{n:Nat}(hn:n<=1000)(hk:∀ k,ks=[k]->qP mm K 62 [.ref mm 0,.agg (gR k)] (bX k) (bQ k) n):qP mm K 97 [.ref mm 0,.slice (aG ks) false] (Q0 ks) (Rs ks) (n+2):=by
 intro l b hl;have aZ:=h.lt;have hlen:∀ c:Bool,((ks.length:Int)==1)=c->((((aG ks).length:Nat):Int)==1)=c:=fun c hc=>by rw[ig];exact hc
 have skip:∀ (c:Bool),((ks.length:Int)==1)=c->(b || !c)=true->(b || !Q0 ks)=true->∃ l',aj A 97 [.ref mm 0,.slice (aG ks) false] (cI mm l b K)=some (.undef,some ⟨cI mm l' (b || !Q0 ks) K,mm⟩)/\((b || !Q0 ks)=false->l'=l++Rs ks)/\l'.length<=l.length+(n+2):=by
  intro c hc h1 h2;obtain⟨l1,e1,t1,n1⟩:=Bx h c l b (by first|exact hl|omega|(simp only[List.length_cons,List.length_nil];omega))
  rw[h1] at e1;rw[h2];refine⟨l1,?_,(fun hk=>by cases hk),ah⟩
  refine cW Yo.eq_1 ?_;have h0:=fQ (l:=l1) (b:=true) h;unfold nq at h0;have ho:=h.open l1 true;simp(disch:=omega)only[aO,aa,simprocAttr,hc,ig,e1,h0,gk,ho,bw,ab]
 match ks,hk,hlen,skip with
 | [],hk,hlen,skip=>exact skip false rfl (by cases b<;>rfl) (by cases b<;>rfl)
 | x :: y :: r,hk,hlen,skip=>exact skip false dw (by cases b<;>rfl) (by cases b<;>rfl)
 | [k],hk,hlen,skip =>
  cases b with
  | true=>exact skip true rfl rfl rfl
  | false =>
   obtain⟨l1,e1,t1,n1⟩:=Bx h true l false ah;obtain⟨l2,e2,t2,n2⟩:=A2 h [[40]] ag l1 false ko;simp only[List.length_cons,List.length_nil] at n2;obtain⟨l3,e3,t3,n3⟩:=hk k rfl l2 false ah;obtain⟨l4,e4,t4,n4⟩:=A2 h [[41]] ag l3 (!bX k) ko;simp only[List.length_cons,List.length_nil] at n4;have es:∀ s:aB,strs [s]=[[.str s]]:=fun _=>rfl
   simp only[avW,awp,avP,es] at e1 e2 e3 e4 t1 t2 t3 t4 ⊢;unfold Q0 Rs;refine⟨l4,?_,fun hp=>by rw[t4 hp,t3 hp,t2 trivial,t1 trivial];simp,ah⟩
   refine cW Yo.eq_1 ?_;have h0:=fQ (l:=l1) (b:=false) h;unfold nq at h0;have ho:=h.open l4 (!bX k);rw[iu] at e3;have gb:(aG [k])[0]?=some [.str k.name,.slice (aG k.kids) false]:=by rw[ab9 (l:=[k]) (i:=0) rfl,iu]
   generalize (!bX k)=pb at *;simp(disch:=omega)only[aO,aa,simprocAttr,ig,gb,e1,e2,e3,e4,h0,gk,ho,au4,bw,ab]
theorem DZ{n:aB}{ks:List Wd}(dp:n≠cS):bQ (.mk n ks)=if (n==DI || n==uT)=true then [n] else aJ n:=by
 cases ks with
 | nil=>rw[bQ]<;>simp[]
 | cons a r=>cases r<;>rw[bQ]<;>simp[dp]
theorem xz{n:aB}{ks:List Wd}(dp:n≠cS):bX (.mk n ks)=(decide (ks.length=0)&&(n==DI || n==uT || gV n)):=by
 cases ks with
 | nil=>rw[bX];simp[dp]
 | cons a r=>cases r<;>rw[bX]<;>simp[dp]
def GS{ks:List Wd} : bX (.mk cS ks)=Q0 ks:=by
 match ks with
 | []=>rw[bX];simp[Q0]
 | [k]=>rw[bX];simp[Q0]
 | a :: b :: r=>rw[bX]<;>simp[Q0]
theorem Pl{k:Wd} : bQ (.mk cS [k])=[cS]++Rs [k]:=by rw[bQ];simp[Rs]
theorem aak:∀ (h:Nat) (w:Wd),h<=100->Fe h w->∀ (mm:Nat) (K:ae),PW mm K->qP mm K 62 [.ref mm 0,.agg (gR w)] (bX w) (bQ w) (3*h+3):=by
 have main:∀ (h:Nat) (w:Wd),h<=100->w.name.length<=1100000->∀ (mm:Nat) (K:ae),PW mm K->(w.kids.length<=1/\(0<w.kids.length->0<h))->(∀ k∈w.kids,∀ (mm:Nat) (K:ae),PW mm K->qP mm K 62 [.ref mm 0,.agg (gR k)] (bX k) (bQ k) (3*h))->qP mm K 62 [.ref mm 0,.agg (gR w)] (bX w) (bQ w) (3*h+3):=by
  intro h w hh uF mm K hP gG hk l b hl;obtain⟨n,ks⟩:=w;simp only[Wd.name,Wd.kids] at uF gG hk;rw[gR];have fN:PW mm (K++[.box 80 [.str n,.slice (aG ks) false]]):=hP.push (fun cs e=>by cases e)
  have dj:=rK (l:=l) (b:=b) hP (L:=[.box 80 [.str n,.slice (aG ks) false]]);have fO:=fun l b=>DK (l:=l) (b:=b) hP (o:=.box 80 [.str n,.slice (aG ks) false])
  have hT:=fun l b=>pQ (l:=l) (b:=b) hP (L:=[.box 80 [.str n,.slice (aG ks) false]])
  have hO:=fun l b=>hP.OW (L:=[.box 80 [.str n,.slice (aG ks) false]]) l b
  have aZ:=hP.lt;have we:decide (K.length<K.length)=false:=ag;have es:∀ s:aB,strs [s]=[[.str s]]:=fun _=>rfl
  generalize K++[.box 80 [.str n,.slice (aG ks) false]]=K1 at fN dj fO hT hO;have Ty:((ks.length:Int)==0)=decide (ks.length=0):=by
   grind
  by_cases hn:n=cS
  ·subst hn
   obtain⟨l1,e1,t1,n1⟩:=A2 fN [cS] ag l b (by first|exact hl|omega|(simp only[List.length_cons,List.length_nil];omega))
   simp only[List.length_cons,List.length_nil] at n1;rw[show (b || !true)=b by cases b<;>rfl,es] at e1
   rw[show (b || !true)=b by cases b<;>rfl] at t1
   obtain⟨l2,e2,t2,n2⟩:=Xh fN (ks:=ks) (n:=3*h) ah (fun k tF=>hk k (by rw[tF];simp) mm K1 fN) l1 b ah
   rw[GS];refine⟨l2,?_,fun hp=>?_,ah⟩
   ·refine cW Uw.eq_1 ?_
    have n1e:(cS==([73,110,116]:aB))=false:=a8;have n2e:(cS==([66,111,111,108]:aB))=false:=a8;have n3e:(cS==([76,105,115,116]:aB))=true:=a8;have ho:=hO l2 (b || !Q0 ks);generalize (b || !Q0 ks)=b2 at *;simp(disch:=omega)only[nK,cY,cb,ct,cm,gC,aP,aQ,br,aE.eval,AS.bW,↓reduceIte,Nat.reduceEqDiff,Option.isSome,Option.isNone,cond_true,cond_false,Nat.reduceBEq,Nat.reduceAdd,Nat.reduceMul,aa,cn,avs,reduceCtorEq,gr,cZ,cd,bD,bound,dc,AS.bC,aN,bI,bu,Nat.reduceLeDiff,cq,putAt,Int.reduceEq,Int.reduceLT,Int.reduceLE,Int.reduceBEq,Int.reduceBNe,Int.reduceAdd,Int.reduceNeg,Int.reduceSub,Int.reduceMul,dQ,dP,dO,dN,dM,dL,dS,dR,au,bA,au5,au7,dj,fO,e1,e2,n1e,n2e,hT,ho,au4,cond_false,cond_true,bw,ab]
   ·have hb:b=false:=by cases b<;>simp_all
    have hko:Q0 ks=true:=by cases h:Q0 ks<;>simp_all
    obtain⟨k,rfl⟩:∃ k,ks=[k]:=by
     match ks,hko with
     | [k],_=>exact⟨k,rfl⟩
     | [],h=>cases h
     | _ :: _ :: _,h=>cases h
    grind [Pl]
  ·have anI:(n==([76,105,115,116]:aB))=false:=cT hn
   obtain⟨l1,e1,t1,n1⟩:=Bx fN (decide (ks.length=0)) l b (by first|exact hl|omega|(simp only[List.length_cons,List.length_nil];omega))
   by_cases hi:n=DI\/n=uT
   ·obtain⟨l2,e2,t2,n2⟩:=A2 fN [n] ag l1 (b || !decide (ks.length=0)) ko
    simp only[List.length_cons,List.length_nil] at n2;have eo:∀ c:Bool,(c || !true)=c:=fun c=>by cases c<;>rfl
    rw[eo,es] at e2;rw[eo] at t2;have IZ:bX (.mk n ks)=decide (ks.length=0):=by
     grind [xz]
    have mO:bQ (.mk n ks)=[n]:=by rw[DZ hn,if_pos (by rcases hi with e|e<;>simp[e])]
    rw[IZ,mO];refine⟨l2,?_,fun hp=>by rw[t2 hp,t1 hp];simp,ah⟩
    refine cW Uw.eq_1 ?_;have ho:=hO l2 (b || !decide (ks.length=0));generalize (b || !decide (ks.length=0))=b2 at *;cases q1:(n==([73,110,116]:aB)) with
    | true=>simp(disch:=omega)only[nK,cY,cb,ct,cm,gC,aP,aQ,br,aE.eval,AS.bW,↓reduceIte,Nat.reduceEqDiff,Option.isSome,Option.isNone,cond_true,cond_false,Nat.reduceBEq,Nat.reduceAdd,Nat.reduceMul,aa,cn,avs,reduceCtorEq,gr,cZ,cd,bD,bound,dc,AS.bC,aN,bI,bu,Nat.reduceLeDiff,cq,putAt,Int.reduceEq,Int.reduceLT,Int.reduceLE,Int.reduceBEq,Int.reduceBNe,Int.reduceAdd,Int.reduceNeg,Int.reduceSub,Int.reduceMul,dQ,dP,dO,dN,dM,dL,dS,dR,au,bA,au5,au7,dj,fO,ig,Ty,e1,e2,q1,hT,ho,au4,cond_false,cond_true,bw,ab]
    | false =>
     have q2:(n==([66,111,111,108]:aB))=true:=by
      grind
     simp(disch:=omega)only[nK,cY,cb,ct,cm,gC,aP,aQ,br,aE.eval,AS.bW,↓reduceIte,Nat.reduceEqDiff,Option.isSome,Option.isNone,cond_true,cond_false,Nat.reduceBEq,Nat.reduceAdd,Nat.reduceMul,aa,cn,avs,reduceCtorEq,gr,cZ,cd,bD,bound,dc,AS.bC,aN,bI,bu,Nat.reduceLeDiff,cq,putAt,Int.reduceEq,Int.reduceLT,Int.reduceLE,Int.reduceBEq,Int.reduceBNe,Int.reduceAdd,Int.reduceNeg,Int.reduceSub,Int.reduceMul,dQ,dP,dO,dN,dM,dL,dS,dR,au,bA,au5,au7,dj,fO,ig,Ty,e1,e2,q1,q2,hT,ho,au4,cond_false,cond_true,bw,ab]
   ·have q1:(n==([73,110,116]:aB))=false:=by simpa using fun e=>hi (.inl e)
    have q2:(n==([66,111,111,108]:aB))=false:=by simpa using fun e=>hi (.inr e)
    obtain⟨l2,e2,t2,n2⟩:=KS fN n ah l1 (b || !decide (ks.length=0)) ah;have IZ:bX (.mk n ks)=(decide (ks.length=0)&&gV n):=by rw[xz hn,show (n==DI)=false from q1,show (n==uT)=false from q2];rfl
    have mO:bQ (.mk n ks)=aJ n:=by rw[DZ hn,if_neg (by rw[show (n==DI)=false from q1,show (n==uT)=false from q2];decide)]
    have eo:(b || !(decide (ks.length=0)&&gV n))=((b || !decide (ks.length=0)) || !gV n):=by cases b<;>cases decide (ks.length=0)<;>cases gV n<;>rfl
    rw[IZ,mO,eo];refine⟨l2,?_,fun hp=>?_,ah⟩
    ·refine cW Uw.eq_1 ?_
     have ho:=hO l2 ((b || !decide (ks.length=0)) || !gV n);generalize ((b || !decide (ks.length=0)) || !gV n)=b3 at *;generalize (b || !decide (ks.length=0))=b2 at *;simp(disch:=omega)only[nK,cY,cb,ct,cm,gC,aP,aQ,br,aE.eval,AS.bW,↓reduceIte,Nat.reduceEqDiff,Option.isSome,Option.isNone,cond_true,cond_false,Nat.reduceBEq,Nat.reduceAdd,Nat.reduceMul,aa,cn,avs,reduceCtorEq,gr,cZ,cd,bD,bound,dc,AS.bC,aN,bI,bu,Nat.reduceLeDiff,cq,putAt,Int.reduceEq,Int.reduceLT,Int.reduceLE,Int.reduceBEq,Int.reduceBNe,Int.reduceAdd,Int.reduceNeg,Int.reduceSub,Int.reduceMul,dQ,dP,dO,dN,dM,dL,dS,dR,au,bA,au5,au7,dj,fO,ig,Ty,e1,e2,q1,q2,anI,hT,ho,au4,cond_false,cond_true,bw,ab]
    ·grind
 intro h
 induction h with
 | zero =>
  intro w hh hb mm K hP;obtain⟨n,ks⟩:=w;obtain⟨h1,h2⟩:=hb;simp only[Wd.kids] at h2;subst h2;exact main 0 _ hh h1 mm K hP ⟨by simp[Wd.kids],by simp[Wd.kids]⟩ (by simp[Wd.kids])
 | succ h ih =>
  intro w hh hb mm K hP;obtain⟨n,ks⟩:=w;obtain⟨h1,h2,h3⟩:=hb;exact main (h+1) _ hh h1 mm K hP ⟨h2,ah⟩ (fun k hk=>by
   have:=ih k ah (h3 k hk)
   exact this)
def oC{K:ae}(hP:PW mm K)(t:Tm):∃ K1,PW mm K1/\(∀ l b,cI mm l b K++[.box 83 [.int .i64 t.kind,.int .i64 t.n,.str t.name,.str t.field,.str t.wn,.slice (aG t.wk) false,.slice (aC t.kids) false,.slice (strs t.names) false]]=cI mm l b K1)/\(∀ l b,(cI mm l b K1)[K.length]?=some (.box 83 [.int .i64 t.kind,.int .i64 t.n,.str t.name,.str t.field,.str t.wn,.slice (aG t.wk) false,.slice (aC t.kids) false,.slice (strs t.names) false]))/\(∀ l b,(cI mm l b K1).take K.length=cI mm l b K)/\∀ l b,l7 K.length mm (cI mm l b K1)=true :=
 ⟨K++[.box 83 [.int .i64 t.kind,.int .i64 t.n,.str t.name,.str t.field,.str t.wn,.slice (aG t.wk) false,.slice (aC t.kids) false,.slice (strs t.names) false]],hP.push (fun cs e=>by cases e),fun _ _=>rK hP,fun _ _=>DK hP,fun _ _=>pQ hP,fun l b=>hP.OW l b⟩
end Go.Proofs.YtnhpoddlmjpapaaGreatDoor
end
