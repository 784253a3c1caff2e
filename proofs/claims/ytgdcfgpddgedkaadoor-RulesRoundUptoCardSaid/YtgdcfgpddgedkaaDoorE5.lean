/-
  Equations of functions, 5: rules.
-/
import Derived.Test.YtgdcfgpddgedkaaDoorE4
set_option linter.unusedSimpArgs false
set_option linter.unusedVariables false
namespace Go.Proofs.YtgdcfgpddgedkaaDoor
open Go Go.Abs Go.Proofs

structure Rule where
  what : Str
  mod : Str
  n : Int
  who : List Int
  deriving DecidableEq

def encRule (r : Rule) : List AV := [.str r.what, .str r.mod, .int .i64 r.n, .slice (ints r.who) false]
def encRules (l : List Rule) : List (List AV) := l.map encRule

theorem rules_len {l : List Rule} : (encRules l).length = l.length := by simp [encRules]
theorem rules_at {l : List Rule} {i : Nat} {r : Rule} (h : l[i]? = some r) : (encRules l)[i]? = some (encRule r) := by simp [encRules, h]

def isWhat (s : Str) : Bool := whatsS.contains s

/-- Rising, from above 'last' to 7 at the most. -/
def incr (last : Int) : List Int → Bool
  | [] => true
  | w :: l => decide (last < w) && decide (w ≤ 7) && incr w l

def validRule (r : Rule) : Bool := isWhat r.what && (r.mod == [] || isWord r.mod) && decide (1 ≤ r.n) && decide (r.n ≤ r.who.length) && incr (-1) r.who
def validRules (l : List Rule) : Bool := l.all validRule && decide (l.length ≤ 64)

/-- Rules that fit into memory. -/
structure RuleOK (r : Rule) : Prop where
  mod : r.mod.length ≤ 4611686018427387904
  n : I64 r.n
  who : r.who.length ≤ 4611686018427387904
  whos : ∀ w ∈ r.who, I64 w

theorem what_D (s : Str) (H : AHeap) : callD A 36 [.str s] H = some (.bool (isWhat s), none) := by
  refine callD_W (fn := ir36) rfl rfl rfl ?_
  unfold ir36
  have h14 : kindsS.length = 14 := rfl
  have hw : isWhat s = (s == [97, 110, 121] || (!(s == []) && kindsS.contains s)) := by
    simp only [isWhat, whatsS, kindsS, List.contains_cons, List.contains_nil, Bool.or_false]
    cases s with
    | nil => rfl
    | cons a s =>
      simp only [show ((a :: s) == []) = false from rfl, Bool.not_false, Bool.true_and]
      generalize (a :: s == [97, 110, 121]) = b1
      generalize (a :: s == [109, 97, 107, 101]) = b2
      generalize (a :: s == [116, 121, 112, 101]) = b3
      generalize (a :: s == [98, 111, 100, 121]) = b4
      generalize (a :: s == [110, 97, 109, 101]) = b5
      generalize (a :: s == [109, 111, 118, 101]) = b6
      generalize (a :: s == [108, 97, 121, 111, 117, 116]) = b7
      cases b1 <;> cases b2 <;> cases b3 <;> cases b4 <;> cases b5 <;> cases b6 <;> cases b7 <;> rfl
  rw [hw]
  cases h1 : (s == [97, 110, 121]) with
  | true => simp (disch := omega) only [evA, argsV, argsOK, partsV, elemsV, optV, evOper, evOp, evAppend, IArg.eval, AS.putD, ↓reduceIte, Nat.reduceEqDiff, Option.isSome, Option.isNone, cond_true, cond_false, Nat.reduceBEq, Nat.reduceAdd, Nat.reduceMul, binInt, binStr, eq_self, reduceCtorEq, unAV, lenAV, convAV, sliceAV, bound, isCon, AS.spent, liveAddr, offAddr, elemsOf, Nat.reduceLeDiff, nilCmp, putAt, Int.reduceEq, Int.reduceLT, Int.reduceLE, Int.reduceBEq, Int.reduceBNe, Int.reduceAdd, Int.reduceNeg, Int.reduceSub, Int.reduceMul, h1]
  | false =>
  cases h2 : (s == []) with
  | true => simp (disch := omega) only [evA, argsV, argsOK, partsV, elemsV, optV, evOper, evOp, evAppend, IArg.eval, AS.putD, ↓reduceIte, Nat.reduceEqDiff, Option.isSome, Option.isNone, cond_true, cond_false, Nat.reduceBEq, Nat.reduceAdd, Nat.reduceMul, binInt, binStr, eq_self, reduceCtorEq, unAV, lenAV, convAV, sliceAV, bound, isCon, AS.spent, liveAddr, offAddr, elemsOf, Nat.reduceLeDiff, nilCmp, putAt, Int.reduceEq, Int.reduceLT, Int.reduceLE, Int.reduceBEq, Int.reduceBNe, Int.reduceAdd, Int.reduceNeg, Int.reduceSub, Int.reduceMul, h1, h2]
  | false => simp (disch := omega) only [evA, argsV, argsOK, partsV, elemsV, optV, evOper, evOp, evAppend, IArg.eval, AS.putD, ↓reduceIte, Nat.reduceEqDiff, Option.isSome, Option.isNone, cond_true, cond_false, Nat.reduceBEq, Nat.reduceAdd, Nat.reduceMul, binInt, binStr, eq_self, reduceCtorEq, unAV, lenAV, convAV, sliceAV, bound, isCon, AS.spent, liveAddr, offAddr, elemsOf, Nat.reduceLeDiff, nilCmp, putAt, Int.reduceEq, Int.reduceLT, Int.reduceLE, Int.reduceBEq, Int.reduceBNe, Int.reduceAdd, Int.reduceNeg, Int.reduceSub, Int.reduceMul, h1, h2, glob0, h14, contains_D kindsS s H (by omega)]

theorem incr_mem {last : Int} {l : List Int} {w : Int} {r : List Int} (h : l = w :: r) : incr last l = (decide (last < w) && decide (w ≤ 7) && incr w r) := by rw [h]; rfl

/-- The element ahead of the j-th; -1 ahead of the first. -/
def prev (l : List Int) (j : Nat) : Int := if j = 0 then -1 else l.getD (j - 1) 0

theorem validP_inner (r : Rule) (hr : RuleOK r) (H : AHeap) (a0 a7 a8 a9 : AV) (T : AFrame) (g g2 lo : Nat) (Q : IExit → AS → Prop) (h0 : T 0 = a0) (h7 : T 7 = a7) (h8 : T 8 = a8) (h9 : T 9 = a9)
    (h42 : T 42 = .slice (ints r.who) false) (h43 : T 43 = .int .i64 r.who.length) (h44 : T 44 = .int .i64 0) (h4 : T 4 = .lbox g (encRule r))
    (hx : ∀ T' g', incr (-1) r.who = true → T' 0 = a0 → T' 7 = a7 → T' 8 = a8 → T' 9 = a9 → Q (.exit 2) ⟨T', H, lo, g'⟩)
    (hret : ∀ T' g', incr (-1) r.who = false → T' 2 = .bool false → Q .ret ⟨T', H, lo, g'⟩) :
    W A (ir19.body.sub [true, false, true, false, false, true, true, false, false, true, true, true, false]) ⟨T, H, lo, g2⟩ Q := by
  unfold ir19
  simp only [ICode.sub]
  refine W_countx r.who.length 2 (fun j => HdG (fun T => T 0 = a0 ∧ T 7 = a7 ∧ T 8 = a8 ∧ T 9 = a9 ∧ T 42 = .slice (ints r.who) false ∧ T 43 = .int .i64 r.who.length ∧ T 44 = .int .i64 j ∧ T 4 = .lbox g (encRule r) ∧ -1 ≤ prev r.who j ∧ (j ≠ 0 → 0 ≤ prev r.who j) ∧ incr (-1) r.who = incr (prev r.who j) (r.who.drop j)) H lo)
    (HdG (fun T => T 0 = a0 ∧ T 7 = a7 ∧ T 8 = a8 ∧ T 9 = a9 ∧ incr (-1) r.who = true) H lo) (HdG (fun T => T 2 = .bool false ∧ incr (-1) r.who = false) H lo) ?_ ?_ ?_ 0 _ (by omega) ?_
  · rintro j st hj hst
    obtain ⟨T, g3, rfl, h0, h7, h8, h9, h42, h43, h44, h4, hp1, hp2, hc⟩ := hst.out
    obtain ⟨k1, k2, k3, k4⟩ := hr
    by_cases h : j < r.who.length
    · have hx := List.getElem?_eq_getElem h
      rw [incr_mem (List.drop_eq_getElem_cons h)] at hc
      have hI := k4 _ (List.getElem_mem h)
      have hpn : prev r.who (j + 1) = r.who[j] := by simp [prev, h]
      generalize r.who[j] = w at hc hx hI hpn
      by_cases e1 : w < 0
      · have hc' : incr (-1) r.who = false := by rw [hc, ilt_f (show w ≤ prev r.who j by omega)]; rfl
        simp (disch := omega) only [evA, argsV, argsOK, partsV, elemsV, optV, evOper, evOp, evAppend, IArg.eval, AS.putD, ↓reduceIte, Nat.reduceEqDiff, Option.isSome, Option.isNone, cond_true, cond_false, Nat.reduceBEq, Nat.reduceAdd, Nat.reduceMul, binInt, binStr, eq_self, reduceCtorEq, unAV, lenAV, convAV, sliceAV, bound, isCon, AS.spent, liveAddr, offAddr, elemsOf, Nat.reduceLeDiff, nilCmp, putAt, Int.reduceEq, Int.reduceLT, Int.reduceLE, Int.reduceBEq, Int.reduceBNe, Int.reduceAdd, Int.reduceNeg, Int.reduceSub, Int.reduceMul, ilt_t, ilt_f, ile_t, ile_f, ieq_t, ieq_f, ine_t, ine_f, h0, h7, h8, h9, h42, h43, h44, h4, ints_at hx, hc']
      by_cases e2 : 8 ≤ w
      · have hc' : incr (-1) r.who = false := by rw [hc, ile_f (show 7 < w by omega)]; simp
        simp (disch := omega) only [evA, argsV, argsOK, partsV, elemsV, optV, evOper, evOp, evAppend, IArg.eval, AS.putD, ↓reduceIte, Nat.reduceEqDiff, Option.isSome, Option.isNone, cond_true, cond_false, Nat.reduceBEq, Nat.reduceAdd, Nat.reduceMul, binInt, binStr, eq_self, reduceCtorEq, unAV, lenAV, convAV, sliceAV, bound, isCon, AS.spent, liveAddr, offAddr, elemsOf, Nat.reduceLeDiff, nilCmp, putAt, Int.reduceEq, Int.reduceLT, Int.reduceLE, Int.reduceBEq, Int.reduceBNe, Int.reduceAdd, Int.reduceNeg, Int.reduceSub, Int.reduceMul, ilt_t, ilt_f, ile_t, ile_f, ieq_t, ieq_f, ine_t, ine_f, h0, h7, h8, h9, h42, h43, h44, h4, ints_at hx, hc']
      cases hj0 : j with
      | zero =>
        subst hj0
        rw [ilt_t (show prev r.who 0 < w by simp [prev]; omega), ile_t (show w ≤ 7 by omega)] at hc
        simp (disch := omega) only [evA, argsV, argsOK, partsV, elemsV, optV, evOper, evOp, evAppend, IArg.eval, AS.putD, ↓reduceIte, Nat.reduceEqDiff, Option.isSome, Option.isNone, cond_true, cond_false, Nat.reduceBEq, Nat.reduceAdd, Nat.reduceMul, binInt, binStr, eq_self, reduceCtorEq, unAV, lenAV, convAV, sliceAV, bound, isCon, AS.spent, liveAddr, offAddr, elemsOf, Nat.reduceLeDiff, nilCmp, putAt, Int.reduceEq, Int.reduceLT, Int.reduceLE, Int.reduceBEq, Int.reduceBNe, Int.reduceAdd, Int.reduceNeg, Int.reduceSub, Int.reduceMul, ilt_t, ilt_f, ile_t, ile_f, ieq_t, ieq_f, ine_t, ine_f, h0, h7, h8, h9, h42, h43, h44, h4, ints_at hx, Int.natCast_zero]
        exact ⟨h, by rw [hpn]; omega, fun _ => by rw [hpn]; omega, by rw [hpn]; simpa using hc⟩
      | succ i =>
        subst hj0
        have hi : i < r.who.length := by omega
        have hy := List.getElem?_eq_getElem hi
        have hpy : prev r.who (i + 1) = r.who[i] := by simp [prev, hi]
        generalize r.who[i] = v at hy hpy
        by_cases e3 : w ≤ v
        · have hc' : incr (-1) r.who = false := by rw [hc, ilt_f (show w ≤ prev r.who (i + 1) by omega)]; rfl
          simp (disch := omega) only [evA, argsV, argsOK, partsV, elemsV, optV, evOper, evOp, evAppend, IArg.eval, AS.putD, ↓reduceIte, Nat.reduceEqDiff, Option.isSome, Option.isNone, cond_true, cond_false, Nat.reduceBEq, Nat.reduceAdd, Nat.reduceMul, binInt, binStr, eq_self, reduceCtorEq, unAV, lenAV, convAV, sliceAV, bound, isCon, AS.spent, liveAddr, offAddr, elemsOf, Nat.reduceLeDiff, nilCmp, putAt, Int.reduceEq, Int.reduceLT, Int.reduceLE, Int.reduceBEq, Int.reduceBNe, Int.reduceAdd, Int.reduceNeg, Int.reduceSub, Int.reduceMul, ilt_t, ilt_f, ile_t, ile_f, ieq_t, ieq_f, ine_t, ine_f, h0, h7, h8, h9, h42, h43, h44, h4, encRule, ints_at hx, hc', Int.add_sub_cancel, ints_at hy]
        · rw [ilt_t (show prev r.who (i + 1) < w by omega), ile_t (show w ≤ 7 by omega)] at hc
          simp (disch := omega) only [evA, argsV, argsOK, partsV, elemsV, optV, evOper, evOp, evAppend, IArg.eval, AS.putD, ↓reduceIte, Nat.reduceEqDiff, Option.isSome, Option.isNone, cond_true, cond_false, Nat.reduceBEq, Nat.reduceAdd, Nat.reduceMul, binInt, binStr, eq_self, reduceCtorEq, unAV, lenAV, convAV, sliceAV, bound, isCon, AS.spent, liveAddr, offAddr, elemsOf, Nat.reduceLeDiff, nilCmp, putAt, Int.reduceEq, Int.reduceLT, Int.reduceLE, Int.reduceBEq, Int.reduceBNe, Int.reduceAdd, Int.reduceNeg, Int.reduceSub, Int.reduceMul, ilt_t, ilt_f, ile_t, ile_f, ieq_t, ieq_f, ine_t, ine_f, h0, h7, h8, h9, h42, h43, h44, h4, encRule, ints_at hx, Int.add_sub_cancel, ints_at hy]
          exact ⟨h, by rw [hpn]; omega, fun _ => by rw [hpn]; omega, by rw [hpn]; simpa using hc⟩
    · have : j = r.who.length := by omega
      subst this
      rw [List.drop_length] at hc
      simp (disch := omega) only [evA, argsV, argsOK, partsV, elemsV, optV, evOper, evOp, evAppend, IArg.eval, AS.putD, ↓reduceIte, Nat.reduceEqDiff, Option.isSome, Option.isNone, cond_true, cond_false, Nat.reduceBEq, Nat.reduceAdd, Nat.reduceMul, binInt, binStr, eq_self, reduceCtorEq, unAV, lenAV, convAV, sliceAV, bound, isCon, AS.spent, liveAddr, offAddr, elemsOf, Nat.reduceLeDiff, nilCmp, putAt, Int.reduceEq, Int.reduceLT, Int.reduceLE, Int.reduceBEq, Int.reduceBNe, Int.reduceAdd, Int.reduceNeg, Int.reduceSub, Int.reduceMul, ilt_t, ilt_f, ile_t, ile_f, ieq_t, ieq_f, ine_t, ine_f, h0, h7, h8, h9, h42, h43, h44, h4, hc, incr]
  · intro st hst
    obtain ⟨T, g, rfl, h0, h7, h8, h9, hc⟩ := hst.out
    exact hx _ _ hc h0 h7 h8 h9
  · intro st hst
    obtain ⟨T, g, rfl, h2, hc⟩ := hst.out
    exact hret _ _ hc h2
  · simp (disch := omega) only [evA, argsV, argsOK, partsV, elemsV, optV, evOper, evOp, evAppend, IArg.eval, AS.putD, ↓reduceIte, Nat.reduceEqDiff, Option.isSome, Option.isNone, cond_true, cond_false, Nat.reduceBEq, Nat.reduceAdd, Nat.reduceMul, binInt, binStr, eq_self, reduceCtorEq, unAV, lenAV, convAV, sliceAV, bound, isCon, AS.spent, liveAddr, offAddr, elemsOf, Nat.reduceLeDiff, nilCmp, putAt, Int.reduceEq, Int.reduceLT, Int.reduceLE, Int.reduceBEq, Int.reduceBNe, Int.reduceAdd, Int.reduceNeg, Int.reduceSub, Int.reduceMul, h0, h7, h8, h9, h42, h43, h44, h4, List.drop_zero, Int.natCast_zero, prev]
    simp

theorem validP_D (l : List Rule) (H : AHeap) (hl : l.length ≤ 4611686018427387904) (hr : ∀ r ∈ l, RuleOK r) : callD A 19 [.slice (encRules l) false] H = some (.bool (validRules l), none) := by
  refine callD_W (fn := ir19) rfl rfl rfl ?_
  unfold ir19
  simp (disch := omega) only [evA, argsV, argsOK, partsV, elemsV, optV, evOper, evOp, evAppend, IArg.eval, AS.putD, ↓reduceIte, Nat.reduceEqDiff, Option.isSome, Option.isNone, cond_true, cond_false, Nat.reduceBEq, Nat.reduceAdd, Nat.reduceMul, binInt, binStr, eq_self, reduceCtorEq, unAV, lenAV, convAV, sliceAV, bound, isCon, AS.spent, liveAddr, offAddr, elemsOf, Nat.reduceLeDiff, nilCmp, putAt, Int.reduceEq, Int.reduceLT, Int.reduceLE, Int.reduceBEq, Int.reduceBNe, Int.reduceAdd, Int.reduceNeg, Int.reduceSub, Int.reduceMul, rules_len]
  refine W_countx l.length 0 (fun i => HdG (fun T => T 0 = .slice (encRules l) false ∧ T 7 = .slice (encRules l) false ∧ T 8 = .int .i64 l.length ∧ T 9 = .int .i64 i ∧ l.all validRule = (l.drop i).all validRule) H H.length)
    (HdG (fun T => T 0 = .slice (encRules l) false ∧ l.all validRule = true) H H.length) (HdG (fun T => T 2 = .bool false ∧ l.all validRule = false) H H.length) ?_ ?_ ?_ 0 _ (by omega) ?_
  · rintro i st hi hst
    obtain ⟨T, g, rfl, h0, h7, h8, h9, hc⟩ := hst.out
    by_cases h : i < l.length
    · have hr' := hr l[i] (List.getElem_mem h)
      have hx := List.getElem?_eq_getElem h
      rw [List.drop_eq_getElem_cons h, List.all_cons] at hc
      generalize l[i] = r at hc hx hr'
      obtain ⟨k1, k2, k3, k4⟩ := hr'
      simp only [validRule] at hc
      cases e1 : isWhat r.what with
      | false =>
        rw [e1] at hc
        simp (disch := omega) only [evA, argsV, argsOK, partsV, elemsV, optV, evOper, evOp, evAppend, IArg.eval, AS.putD, ↓reduceIte, Nat.reduceEqDiff, Option.isSome, Option.isNone, cond_true, cond_false, Nat.reduceBEq, Nat.reduceAdd, Nat.reduceMul, binInt, binStr, eq_self, reduceCtorEq, unAV, lenAV, convAV, sliceAV, bound, isCon, AS.spent, liveAddr, offAddr, elemsOf, Nat.reduceLeDiff, nilCmp, putAt, Int.reduceEq, Int.reduceLT, Int.reduceLE, Int.reduceBEq, Int.reduceBNe, Int.reduceAdd, Int.reduceNeg, Int.reduceSub, Int.reduceMul, ilt_t, ilt_f, ile_t, ile_f, ieq_t, ieq_f, ine_t, ine_f, h0, h7, h8, h9, rules_at hx, encRule, storeAV, putAt, what_D, e1]
        simpa using hc
      | true =>
      rw [e1] at hc
      cases e2 : (r.mod == [] || isWord r.mod) with
      | false =>
        rw [e2] at hc
        simp only [Bool.or_eq_false_iff] at e2
        simp (disch := omega) only [evA, argsV, argsOK, partsV, elemsV, optV, evOper, evOp, evAppend, IArg.eval, AS.putD, ↓reduceIte, Nat.reduceEqDiff, Option.isSome, Option.isNone, cond_true, cond_false, Nat.reduceBEq, Nat.reduceAdd, Nat.reduceMul, binInt, binStr, eq_self, reduceCtorEq, unAV, lenAV, convAV, sliceAV, bound, isCon, AS.spent, liveAddr, offAddr, elemsOf, Nat.reduceLeDiff, nilCmp, putAt, Int.reduceEq, Int.reduceLT, Int.reduceLE, Int.reduceBEq, Int.reduceBNe, Int.reduceAdd, Int.reduceNeg, Int.reduceSub, Int.reduceMul, ilt_t, ilt_f, ile_t, ile_f, ieq_t, ieq_f, ine_t, ine_f, h0, h7, h8, h9, rules_at hx, encRule, storeAV, putAt, what_D, e1, e2.1, wordP_D _ _ k1, e2.2]
        simpa using hc
      | true =>
      rw [e2] at hc
      simp only [Bool.true_and] at hc
      have e3 : (r.mod == []) = false → isWord r.mod = true := fun h => by rw [h] at e2; simpa using e2
      by_cases e4 : r.n < 1
      · have hc' : l.all validRule = false := by rw [hc]; simp; omega
        cases e5 : (r.mod == []) with
        | true => simp (disch := omega) only [evA, argsV, argsOK, partsV, elemsV, optV, evOper, evOp, evAppend, IArg.eval, AS.putD, ↓reduceIte, Nat.reduceEqDiff, Option.isSome, Option.isNone, cond_true, cond_false, Nat.reduceBEq, Nat.reduceAdd, Nat.reduceMul, binInt, binStr, eq_self, reduceCtorEq, unAV, lenAV, convAV, sliceAV, bound, isCon, AS.spent, liveAddr, offAddr, elemsOf, Nat.reduceLeDiff, nilCmp, putAt, Int.reduceEq, Int.reduceLT, Int.reduceLE, Int.reduceBEq, Int.reduceBNe, Int.reduceAdd, Int.reduceNeg, Int.reduceSub, Int.reduceMul, ilt_t, ilt_f, ile_t, ile_f, ieq_t, ieq_f, ine_t, ine_f, h0, h7, h8, h9, rules_at hx, encRule, storeAV, putAt, what_D, e1, e5, hc']
        | false => simp (disch := omega) only [evA, argsV, argsOK, partsV, elemsV, optV, evOper, evOp, evAppend, IArg.eval, AS.putD, ↓reduceIte, Nat.reduceEqDiff, Option.isSome, Option.isNone, cond_true, cond_false, Nat.reduceBEq, Nat.reduceAdd, Nat.reduceMul, binInt, binStr, eq_self, reduceCtorEq, unAV, lenAV, convAV, sliceAV, bound, isCon, AS.spent, liveAddr, offAddr, elemsOf, Nat.reduceLeDiff, nilCmp, putAt, Int.reduceEq, Int.reduceLT, Int.reduceLE, Int.reduceBEq, Int.reduceBNe, Int.reduceAdd, Int.reduceNeg, Int.reduceSub, Int.reduceMul, ilt_t, ilt_f, ile_t, ile_f, ieq_t, ieq_f, ine_t, ine_f, h0, h7, h8, h9, rules_at hx, encRule, storeAV, putAt, what_D, e1, e5, wordP_D _ _ k1, e3 e5, hc']
      by_cases e6 : (r.who.length : Int) < r.n
      · have hc' : l.all validRule = false := by rw [hc]; simp; omega
        cases e5 : (r.mod == []) with
        | true => simp (disch := omega) only [evA, argsV, argsOK, partsV, elemsV, optV, evOper, evOp, evAppend, IArg.eval, AS.putD, ↓reduceIte, Nat.reduceEqDiff, Option.isSome, Option.isNone, cond_true, cond_false, Nat.reduceBEq, Nat.reduceAdd, Nat.reduceMul, binInt, binStr, eq_self, reduceCtorEq, unAV, lenAV, convAV, sliceAV, bound, isCon, AS.spent, liveAddr, offAddr, elemsOf, Nat.reduceLeDiff, nilCmp, putAt, Int.reduceEq, Int.reduceLT, Int.reduceLE, Int.reduceBEq, Int.reduceBNe, Int.reduceAdd, Int.reduceNeg, Int.reduceSub, Int.reduceMul, ilt_t, ilt_f, ile_t, ile_f, ieq_t, ieq_f, ine_t, ine_f, h0, h7, h8, h9, rules_at hx, encRule, storeAV, putAt, what_D, e1, e5, hc', ints_len]
        | false => simp (disch := omega) only [evA, argsV, argsOK, partsV, elemsV, optV, evOper, evOp, evAppend, IArg.eval, AS.putD, ↓reduceIte, Nat.reduceEqDiff, Option.isSome, Option.isNone, cond_true, cond_false, Nat.reduceBEq, Nat.reduceAdd, Nat.reduceMul, binInt, binStr, eq_self, reduceCtorEq, unAV, lenAV, convAV, sliceAV, bound, isCon, AS.spent, liveAddr, offAddr, elemsOf, Nat.reduceLeDiff, nilCmp, putAt, Int.reduceEq, Int.reduceLT, Int.reduceLE, Int.reduceBEq, Int.reduceBNe, Int.reduceAdd, Int.reduceNeg, Int.reduceSub, Int.reduceMul, ilt_t, ilt_f, ile_t, ile_f, ieq_t, ieq_f, ine_t, ine_f, h0, h7, h8, h9, rules_at hx, encRule, storeAV, putAt, what_D, e1, e5, wordP_D _ _ k1, e3 e5, hc', ints_len]
      have hc2 : l.all validRule = (incr (-1) r.who && (l.drop (i + 1)).all validRule) := by rw [hc, ile_t (show 1 ≤ r.n by omega), ile_t (show r.n ≤ r.who.length by omega)]; simp only [Bool.true_and]
      cases e5 : (r.mod == []) with
      | true =>
        simp (disch := omega) only [evA, argsV, argsOK, partsV, elemsV, optV, evOper, evOp, evAppend, IArg.eval, AS.putD, ↓reduceIte, Nat.reduceEqDiff, Option.isSome, Option.isNone, cond_true, cond_false, Nat.reduceBEq, Nat.reduceAdd, Nat.reduceMul, binInt, binStr, eq_self, reduceCtorEq, unAV, lenAV, convAV, sliceAV, bound, isCon, AS.spent, liveAddr, offAddr, elemsOf, Nat.reduceLeDiff, nilCmp, putAt, Int.reduceEq, Int.reduceLT, Int.reduceLE, Int.reduceBEq, Int.reduceBNe, Int.reduceAdd, Int.reduceNeg, Int.reduceSub, Int.reduceMul, ilt_t, ilt_f, ile_t, ile_f, ieq_t, ieq_f, ine_t, ine_f, h0, h7, h8, h9, rules_at hx, encRule, storeAV, putAt, what_D, e1, e5, ints_len]
        refine validP_inner r ⟨k1, k2, k3, k4⟩ H (.slice (encRules l) false) (.slice (encRules l) false) (.int .i64 l.length) (.int .i64 i) _ g _ _ _ ?_ ?_ ?_ ?_ ?_ ?_ ?_ ?_ ?_ ?_
        all_goals first | (intro T' g' hi h0 h7 h8 h9; rw [hi, Bool.true_and] at hc2; simp (disch := omega) only [evA, argsV, argsOK, partsV, elemsV, optV, evOper, evOp, evAppend, IArg.eval, AS.putD, ↓reduceIte, Nat.reduceEqDiff, Option.isSome, Option.isNone, cond_true, cond_false, Nat.reduceBEq, Nat.reduceAdd, Nat.reduceMul, binInt, binStr, eq_self, reduceCtorEq, unAV, lenAV, convAV, sliceAV, bound, isCon, AS.spent, liveAddr, offAddr, elemsOf, Nat.reduceLeDiff, nilCmp, putAt, Int.reduceEq, Int.reduceLT, Int.reduceLE, Int.reduceBEq, Int.reduceBNe, Int.reduceAdd, Int.reduceNeg, Int.reduceSub, Int.reduceMul, ilt_t, ilt_f, ile_t, ile_f, ieq_t, ieq_f, ine_t, ine_f, h0, h7, h8, h9]; exact ⟨h, hc2⟩) | (intro T' g' hi h2; rw [hi, Bool.false_and] at hc2; simp (disch := omega) only [evA, argsV, argsOK, partsV, elemsV, optV, evOper, evOp, evAppend, IArg.eval, AS.putD, ↓reduceIte, Nat.reduceEqDiff, Option.isSome, Option.isNone, cond_true, cond_false, Nat.reduceBEq, Nat.reduceAdd, Nat.reduceMul, binInt, binStr, eq_self, reduceCtorEq, unAV, lenAV, convAV, sliceAV, bound, isCon, AS.spent, liveAddr, offAddr, elemsOf, Nat.reduceLeDiff, nilCmp, putAt, Int.reduceEq, Int.reduceLT, Int.reduceLE, Int.reduceBEq, Int.reduceBNe, Int.reduceAdd, Int.reduceNeg, Int.reduceSub, Int.reduceMul, ilt_t, ilt_f, ile_t, ile_f, ieq_t, ieq_f, ine_t, ine_f, h2, hc2]) | (simp (disch := omega) only [evA, argsV, argsOK, partsV, elemsV, optV, evOper, evOp, evAppend, IArg.eval, AS.putD, ↓reduceIte, Nat.reduceEqDiff, Option.isSome, Option.isNone, cond_true, cond_false, Nat.reduceBEq, Nat.reduceAdd, Nat.reduceMul, binInt, binStr, eq_self, reduceCtorEq, unAV, lenAV, convAV, sliceAV, bound, isCon, AS.spent, liveAddr, offAddr, elemsOf, Nat.reduceLeDiff, nilCmp, putAt, Int.reduceEq, Int.reduceLT, Int.reduceLE, Int.reduceBEq, Int.reduceBNe, Int.reduceAdd, Int.reduceNeg, Int.reduceSub, Int.reduceMul, ilt_t, ilt_f, ile_t, ile_f, ieq_t, ieq_f, ine_t, ine_f, h0, h7, h8, h9, encRule])
      | false =>
        simp (disch := omega) only [evA, argsV, argsOK, partsV, elemsV, optV, evOper, evOp, evAppend, IArg.eval, AS.putD, ↓reduceIte, Nat.reduceEqDiff, Option.isSome, Option.isNone, cond_true, cond_false, Nat.reduceBEq, Nat.reduceAdd, Nat.reduceMul, binInt, binStr, eq_self, reduceCtorEq, unAV, lenAV, convAV, sliceAV, bound, isCon, AS.spent, liveAddr, offAddr, elemsOf, Nat.reduceLeDiff, nilCmp, putAt, Int.reduceEq, Int.reduceLT, Int.reduceLE, Int.reduceBEq, Int.reduceBNe, Int.reduceAdd, Int.reduceNeg, Int.reduceSub, Int.reduceMul, ilt_t, ilt_f, ile_t, ile_f, ieq_t, ieq_f, ine_t, ine_f, h0, h7, h8, h9, rules_at hx, encRule, storeAV, putAt, what_D, e1, e5, wordP_D _ _ k1, e3 e5, ints_len]
        refine validP_inner r ⟨k1, k2, k3, k4⟩ H (.slice (encRules l) false) (.slice (encRules l) false) (.int .i64 l.length) (.int .i64 i) _ g _ _ _ ?_ ?_ ?_ ?_ ?_ ?_ ?_ ?_ ?_ ?_
        all_goals first | (intro T' g' hi h0 h7 h8 h9; rw [hi, Bool.true_and] at hc2; simp (disch := omega) only [evA, argsV, argsOK, partsV, elemsV, optV, evOper, evOp, evAppend, IArg.eval, AS.putD, ↓reduceIte, Nat.reduceEqDiff, Option.isSome, Option.isNone, cond_true, cond_false, Nat.reduceBEq, Nat.reduceAdd, Nat.reduceMul, binInt, binStr, eq_self, reduceCtorEq, unAV, lenAV, convAV, sliceAV, bound, isCon, AS.spent, liveAddr, offAddr, elemsOf, Nat.reduceLeDiff, nilCmp, putAt, Int.reduceEq, Int.reduceLT, Int.reduceLE, Int.reduceBEq, Int.reduceBNe, Int.reduceAdd, Int.reduceNeg, Int.reduceSub, Int.reduceMul, ilt_t, ilt_f, ile_t, ile_f, ieq_t, ieq_f, ine_t, ine_f, h0, h7, h8, h9]; exact ⟨h, hc2⟩) | (intro T' g' hi h2; rw [hi, Bool.false_and] at hc2; simp (disch := omega) only [evA, argsV, argsOK, partsV, elemsV, optV, evOper, evOp, evAppend, IArg.eval, AS.putD, ↓reduceIte, Nat.reduceEqDiff, Option.isSome, Option.isNone, cond_true, cond_false, Nat.reduceBEq, Nat.reduceAdd, Nat.reduceMul, binInt, binStr, eq_self, reduceCtorEq, unAV, lenAV, convAV, sliceAV, bound, isCon, AS.spent, liveAddr, offAddr, elemsOf, Nat.reduceLeDiff, nilCmp, putAt, Int.reduceEq, Int.reduceLT, Int.reduceLE, Int.reduceBEq, Int.reduceBNe, Int.reduceAdd, Int.reduceNeg, Int.reduceSub, Int.reduceMul, ilt_t, ilt_f, ile_t, ile_f, ieq_t, ieq_f, ine_t, ine_f, h2, hc2]) | (simp (disch := omega) only [evA, argsV, argsOK, partsV, elemsV, optV, evOper, evOp, evAppend, IArg.eval, AS.putD, ↓reduceIte, Nat.reduceEqDiff, Option.isSome, Option.isNone, cond_true, cond_false, Nat.reduceBEq, Nat.reduceAdd, Nat.reduceMul, binInt, binStr, eq_self, reduceCtorEq, unAV, lenAV, convAV, sliceAV, bound, isCon, AS.spent, liveAddr, offAddr, elemsOf, Nat.reduceLeDiff, nilCmp, putAt, Int.reduceEq, Int.reduceLT, Int.reduceLE, Int.reduceBEq, Int.reduceBNe, Int.reduceAdd, Int.reduceNeg, Int.reduceSub, Int.reduceMul, ilt_t, ilt_f, ile_t, ile_f, ieq_t, ieq_f, ine_t, ine_f, h0, h7, h8, h9, encRule])
    · have : i = l.length := by omega
      subst this
      simp (disch := omega) only [evA, argsV, argsOK, partsV, elemsV, optV, evOper, evOp, evAppend, IArg.eval, AS.putD, ↓reduceIte, Nat.reduceEqDiff, Option.isSome, Option.isNone, cond_true, cond_false, Nat.reduceBEq, Nat.reduceAdd, Nat.reduceMul, binInt, binStr, eq_self, reduceCtorEq, unAV, lenAV, convAV, sliceAV, bound, isCon, AS.spent, liveAddr, offAddr, elemsOf, Nat.reduceLeDiff, nilCmp, putAt, Int.reduceEq, Int.reduceLT, Int.reduceLE, Int.reduceBEq, Int.reduceBNe, Int.reduceAdd, Int.reduceNeg, Int.reduceSub, Int.reduceMul, ilt_t, ilt_f, ile_t, ile_f, ieq_t, ieq_f, ine_t, ine_f, h0, h8, h9, hc, List.drop_length, List.all_nil]
  · intro st hst
    obtain ⟨T, g, rfl, h0, hc⟩ := hst.out
    simp (disch := omega) only [evA, argsV, argsOK, partsV, elemsV, optV, evOper, evOp, evAppend, IArg.eval, AS.putD, ↓reduceIte, Nat.reduceEqDiff, Option.isSome, Option.isNone, cond_true, cond_false, Nat.reduceBEq, Nat.reduceAdd, Nat.reduceMul, binInt, binStr, eq_self, reduceCtorEq, unAV, lenAV, convAV, sliceAV, bound, isCon, AS.spent, liveAddr, offAddr, elemsOf, Nat.reduceLeDiff, nilCmp, putAt, Int.reduceEq, Int.reduceLT, Int.reduceLE, Int.reduceBEq, Int.reduceBNe, Int.reduceAdd, Int.reduceNeg, Int.reduceSub, Int.reduceMul, h0, rules_len, validRules, hc]
    by_cases h : l.length ≤ 64
    · simp [h]; omega
    · simp [h]; omega
  · intro st hst
    obtain ⟨T, g, rfl, h2, hc⟩ := hst.out
    simp (disch := omega) only [evA, argsV, argsOK, partsV, elemsV, optV, evOper, evOp, evAppend, IArg.eval, AS.putD, ↓reduceIte, Nat.reduceEqDiff, Option.isSome, Option.isNone, cond_true, cond_false, Nat.reduceBEq, Nat.reduceAdd, Nat.reduceMul, binInt, binStr, eq_self, reduceCtorEq, unAV, lenAV, convAV, sliceAV, bound, isCon, AS.spent, liveAddr, offAddr, elemsOf, Nat.reduceLeDiff, nilCmp, putAt, Int.reduceEq, Int.reduceLT, Int.reduceLE, Int.reduceBEq, Int.reduceBNe, Int.reduceAdd, Int.reduceNeg, Int.reduceSub, Int.reduceMul, h2, validRules, hc]
  · simp (disch := omega) only [evA, argsV, argsOK, partsV, elemsV, optV, evOper, evOp, evAppend, IArg.eval, AS.putD, ↓reduceIte, Nat.reduceEqDiff, Option.isSome, Option.isNone, cond_true, cond_false, Nat.reduceBEq, Nat.reduceAdd, Nat.reduceMul, binInt, binStr, eq_self, reduceCtorEq, unAV, lenAV, convAV, sliceAV, bound, isCon, AS.spent, liveAddr, offAddr, elemsOf, Nat.reduceLeDiff, nilCmp, putAt, Int.reduceEq, Int.reduceLT, Int.reduceLE, Int.reduceBEq, Int.reduceBNe, Int.reduceAdd, Int.reduceNeg, Int.reduceSub, Int.reduceMul, List.drop_zero, Int.natCast_zero]

end Go.Proofs.YtgdcfgpddgedkaaDoor
