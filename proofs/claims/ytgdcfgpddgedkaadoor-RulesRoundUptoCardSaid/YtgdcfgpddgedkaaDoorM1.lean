/-
  Equations of functions, joined: E9, E10, E11.
-/
import Derived.Test.YtgdcfgpddgedkaaDoorE8
set_option linter.unusedSimpArgs false
set_option linter.unusedVariables false
/-! Equations of functions, 9: the reference's Print. -/
namespace Go.Proofs.YtgdcfgpddgedkaaDoor
open Go Go.Abs Go.Proofs

def dig (n : Int) : Str := [UInt8.ofNat (48 + n).toNat]

theorem digit1_D (n : Int) (H : AHeap) (h0 : 0 ≤ n) (h9 : n ≤ 9) : callD A 26 [.int .i64 n] H = some (.str (dig n), none) := by
  refine callD_W (fn := ir26) rfl rfl rfl ?_
  unfold ir26
  simp (disch := omega) only [evA, argsV, argsOK, partsV, elemsV, optV, evOper, evOp, evAppend, IArg.eval, AS.putD, ↓reduceIte, Nat.reduceEqDiff, Option.isSome, Option.isNone, cond_true, cond_false, Nat.reduceBEq, Nat.reduceAdd, Nat.reduceMul, binInt, binStr, eq_self, reduceCtorEq, unAV, lenAV, convAV, sliceAV, bound, isCon, AS.spent, liveAddr, offAddr, elemsOf, Nat.reduceLeDiff, nilCmp, putAt, Int.reduceEq, Int.reduceLT, Int.reduceLE, Int.reduceBEq, Int.reduceBNe, Int.reduceAdd, Int.reduceNeg, Int.reduceSub, Int.reduceMul, wrapu8, rowsOK, byteRows, List.all_cons, List.all_nil, bytesOf, dig]

/-- The reviewers. -/
def whoR : Bool → List Int → Str
  | _, [] => []
  | true, w :: l => 32 :: dig w ++ whoR false l
  | false, w :: l => 44 :: 32 :: dig w ++ whoR false l

def printRule (r : Rule) : Str := r.what ++ (if r.mod == [] then [] else [32, 105, 110, 32] ++ r.mod) ++ [58, 32] ++ dig r.n ++ [32, 111, 102] ++ whoR true r.who ++ [10]

def printRules (l : List Rule) : Str := if validRules l then l.flatMap printRule else []

theorem what_len {s : Str} (h : isWhat s = true) : s.length ≤ 6 := by
  have hm : s ∈ whatsS := List.contains_iff_mem.1 h
  have : ∀ x ∈ whatsS, x.length ≤ 6 := by decide
  exact this s hm

theorem word_len {s : Str} (h : isWord s = true) : s.length ≤ 16 := by
  cases s with
  | nil => simp
  | cons b r =>
    simp only [isWord, Bool.and_eq_true, decide_eq_true_eq] at h
    obtain ⟨⟨hk, _⟩, ht⟩ := h
    rw [← ht]
    simp only [tokL]
    rw [if_pos (by omega)]
    split <;> omega

theorem valid_facts {r : Rule} (h : validRule r = true) : r.what.length ≤ 6 ∧ r.mod.length ≤ 16 ∧ 1 ≤ r.n ∧ r.n ≤ 8 ∧ r.who ≠ [] ∧ r.who.length ≤ 8 ∧ ∀ w ∈ r.who, 0 ≤ w ∧ w ≤ 7 := by
  simp only [validRule, Bool.and_eq_true, Bool.or_eq_true, beq_iff_eq, decide_eq_true_eq] at h
  obtain ⟨⟨⟨⟨h1, h2⟩, h3⟩, h4⟩, h5⟩ := h
  have hl := incr_len h5
  rw [if_pos (by omega)] at hl
  refine ⟨what_len h1, ?_, h3, by omega, fun e => by rw [e] at h4; simp at h4; omega, by omega, fun w hw => by have := incr_range h5 w hw; omega⟩
  rcases h2 with h2 | h2
  · rw [h2]; simp
  · exact word_len h2

theorem printR_inner (r : Rule) (l : List Rule) (i : Nat) (hg : l[i]? = some r) (hv : validRule r = true) (H : AHeap) (s0 : Str) (hs0 : s0.length ≤ 1000000) (T : AFrame) (g2 lo : Nat) (Q : IExit → AS → Prop) (h0 : T 0 = .slice (encRules l) false) (h4 : T 4 = .int .i64 i) (h5 : T 5 = .int .i64 0) (h3 : T 3 = .str s0)
    (hx : ∀ T' g', T' 0 = .slice (encRules l) false → T' 4 = .int .i64 i → T' 3 = .str (s0 ++ whoR true r.who) → Q (.exit 2) ⟨T', H, lo, g'⟩) :
    W A (ir8.body.sub [true, true, true, false, true, false, false, true, false, false, true, true, true, false, true, false]) ⟨T, H, lo, g2⟩ Q := by
  unfold ir8
  simp only [ICode.sub]
  obtain ⟨f1, f2, f3, f4, f5, f6, f7⟩ := valid_facts hv
  refine W_countx r.who.length 2 (fun k => HdG (fun T => ∃ s, T 0 = .slice (encRules l) false ∧ T 4 = .int .i64 i ∧ T 5 = .int .i64 k ∧ T 3 = .str s ∧ s.length ≤ s0.length + 3 * k ∧ s ++ whoR (decide (k = 0)) (r.who.drop k) = s0 ++ whoR true r.who) H lo)
    (HdG (fun T => T 0 = .slice (encRules l) false ∧ T 4 = .int .i64 i ∧ T 3 = .str (s0 ++ whoR true r.who)) H lo) (fun _ => False) ?_ ?_ (fun _ h => h.elim) 0 _ (by omega) ?_
  · rintro k st hk hst
    obtain ⟨T, g3, rfl, s, h0, h4, h5, h3, hs, hc⟩ := hst.out
    by_cases h : k < r.who.length
    · have hw := List.getElem?_eq_getElem h
      have hwr := f7 _ (List.getElem_mem h)
      rw [List.drop_eq_getElem_cons h] at hc
      generalize r.who[k] = w at hc hw hwr
      have hd1 : (dig w).length = 1 := rfl
      cases k with
      | zero =>
        simp (disch := omega) only [evA, argsV, argsOK, partsV, elemsV, optV, evOper, evOp, evAppend, IArg.eval, AS.putD, ↓reduceIte, Nat.reduceEqDiff, Option.isSome, Option.isNone, cond_true, cond_false, Nat.reduceBEq, Nat.reduceAdd, Nat.reduceMul, binInt, binStr, eq_self, reduceCtorEq, unAV, lenAV, convAV, sliceAV, bound, isCon, AS.spent, liveAddr, offAddr, elemsOf, Nat.reduceLeDiff, nilCmp, putAt, Int.reduceEq, Int.reduceLT, Int.reduceLE, Int.reduceBEq, Int.reduceBNe, Int.reduceAdd, Int.reduceNeg, Int.reduceSub, Int.reduceMul, ilt_t, ilt_f, ile_t, ile_f, ieq_t, ieq_f, ine_t, ine_f, h0, h4, h5, h3, rules_at hg, encRule, ints_len, ints_at hw, digit1_D, List.length_append, Int.natCast_zero]
        refine ⟨h, s ++ [32] ++ dig w, rfl, by simp [hd1]; omega, ?_⟩
        rw [← hc]; simp [whoR]
      | succ k =>
        simp (disch := omega) only [evA, argsV, argsOK, partsV, elemsV, optV, evOper, evOp, evAppend, IArg.eval, AS.putD, ↓reduceIte, Nat.reduceEqDiff, Option.isSome, Option.isNone, cond_true, cond_false, Nat.reduceBEq, Nat.reduceAdd, Nat.reduceMul, binInt, binStr, eq_self, reduceCtorEq, unAV, lenAV, convAV, sliceAV, bound, isCon, AS.spent, liveAddr, offAddr, elemsOf, Nat.reduceLeDiff, nilCmp, putAt, Int.reduceEq, Int.reduceLT, Int.reduceLE, Int.reduceBEq, Int.reduceBNe, Int.reduceAdd, Int.reduceNeg, Int.reduceSub, Int.reduceMul, ilt_t, ilt_f, ile_t, ile_f, ieq_t, ieq_f, ine_t, ine_f, h0, h4, h5, h3, rules_at hg, encRule, ints_len, ints_at hw, digit1_D, List.length_append]
        refine ⟨h, s ++ [44] ++ [32] ++ dig w, rfl, by simp [hd1]; omega, ?_⟩
        rw [← hc]; simp [whoR]
    · have : k = r.who.length := by omega
      subst this
      rw [List.drop_length] at hc
      simp (disch := omega) only [evA, argsV, argsOK, partsV, elemsV, optV, evOper, evOp, evAppend, IArg.eval, AS.putD, ↓reduceIte, Nat.reduceEqDiff, Option.isSome, Option.isNone, cond_true, cond_false, Nat.reduceBEq, Nat.reduceAdd, Nat.reduceMul, binInt, binStr, eq_self, reduceCtorEq, unAV, lenAV, convAV, sliceAV, bound, isCon, AS.spent, liveAddr, offAddr, elemsOf, Nat.reduceLeDiff, nilCmp, putAt, Int.reduceEq, Int.reduceLT, Int.reduceLE, Int.reduceBEq, Int.reduceBNe, Int.reduceAdd, Int.reduceNeg, Int.reduceSub, Int.reduceMul, ilt_t, ilt_f, ile_t, ile_f, ieq_t, ieq_f, ine_t, ine_f, h0, h4, h5, h3, rules_at hg, encRule, ints_len]
      rw [← hc]; cases (decide (r.who.length = 0)) <;> simp [whoR]
  · intro st hst
    obtain ⟨T, g, rfl, h0, h4, h3⟩ := hst.out
    exact hx _ _ h0 h4 h3
  · simp (disch := omega) only [evA, argsV, argsOK, partsV, elemsV, optV, evOper, evOp, evAppend, IArg.eval, AS.putD, ↓reduceIte, Nat.reduceEqDiff, Option.isSome, Option.isNone, cond_true, cond_false, Nat.reduceBEq, Nat.reduceAdd, Nat.reduceMul, binInt, binStr, eq_self, reduceCtorEq, unAV, lenAV, convAV, sliceAV, bound, isCon, AS.spent, liveAddr, offAddr, elemsOf, Nat.reduceLeDiff, nilCmp, putAt, Int.reduceEq, Int.reduceLT, Int.reduceLE, Int.reduceBEq, Int.reduceBNe, Int.reduceAdd, Int.reduceNeg, Int.reduceSub, Int.reduceMul, h0, h4, h5, h3, Int.natCast_zero]
    exact ⟨s0, rfl, by omega, by simp⟩

theorem printR_D (l : List Rule) (H : AHeap) (hl : l.length ≤ 4611686018427387904) (hr : ∀ r ∈ l, RuleOK r) : callD A 8 [.slice (encRules l) false] H = some (.str (printRules l), none) := by
  refine callD_W (fn := ir8) rfl rfl rfl ?_
  unfold ir8 printRules
  cases hv : validRules l with
  | false => simp (disch := omega) only [evA, argsV, argsOK, partsV, elemsV, optV, evOper, evOp, evAppend, IArg.eval, AS.putD, ↓reduceIte, Nat.reduceEqDiff, Option.isSome, Option.isNone, cond_true, cond_false, Nat.reduceBEq, Nat.reduceAdd, Nat.reduceMul, binInt, binStr, eq_self, reduceCtorEq, unAV, lenAV, convAV, sliceAV, bound, isCon, AS.spent, liveAddr, offAddr, elemsOf, Nat.reduceLeDiff, nilCmp, putAt, Int.reduceEq, Int.reduceLT, Int.reduceLE, Int.reduceBEq, Int.reduceBNe, Int.reduceAdd, Int.reduceNeg, Int.reduceSub, Int.reduceMul, validR_D l H hl hr, hv, Bool.false_eq_true, if_false]
  | true =>
  have hall : ∀ r ∈ l, validRule r = true := by
    simp only [validRules, Bool.and_eq_true, List.all_eq_true] at hv
    exact hv.1
  have h64 : l.length ≤ 64 := by
    simp only [validRules, Bool.and_eq_true, decide_eq_true_eq] at hv
    exact hv.2
  simp (disch := omega) only [evA, argsV, argsOK, partsV, elemsV, optV, evOper, evOp, evAppend, IArg.eval, AS.putD, ↓reduceIte, Nat.reduceEqDiff, Option.isSome, Option.isNone, cond_true, cond_false, Nat.reduceBEq, Nat.reduceAdd, Nat.reduceMul, binInt, binStr, eq_self, reduceCtorEq, unAV, lenAV, convAV, sliceAV, bound, isCon, AS.spent, liveAddr, offAddr, elemsOf, Nat.reduceLeDiff, nilCmp, putAt, Int.reduceEq, Int.reduceLT, Int.reduceLE, Int.reduceBEq, Int.reduceBNe, Int.reduceAdd, Int.reduceNeg, Int.reduceSub, Int.reduceMul, validR_D l H hl hr, hv, if_true]
  refine W_countx l.length 0 (fun i => HdG (fun T => ∃ s, T 0 = .slice (encRules l) false ∧ T 4 = .int .i64 i ∧ T 3 = .str s ∧ s.length ≤ 100 * i ∧ s ++ (l.drop i).flatMap printRule = l.flatMap printRule) H H.length)
    (HdG (fun T => T 3 = .str (l.flatMap printRule)) H H.length) (fun _ => False) ?_ ?_ (fun _ h => h.elim) 0 _ (by omega) ?_
  · rintro i st hi hst
    obtain ⟨T, g3, rfl, s, h0, h4, h3, hs, hc⟩ := hst.out
    by_cases h : i < l.length
    · have hg := List.getElem?_eq_getElem h
      have hv1 := hall _ (List.getElem_mem h)
      rw [List.drop_eq_getElem_cons h, List.flatMap_cons] at hc
      generalize l[i] = r at hc hg hv1
      obtain ⟨f1, f2, f3, f4, f5, f6, f7⟩ := valid_facts hv1
      have hd1 : (dig r.n).length = 1 := rfl
      have hwl : ∀ b, (whoR b r.who).length ≤ 3 * r.who.length := by
        have : ∀ (l : List Int) b, (whoR b l).length ≤ 3 * l.length := by
          intro l
          induction l with
          | nil => intro b; cases b <;> simp [whoR]
          | cons w l ih => intro b; have := ih false; cases b <;> simp [whoR, dig] <;> omega
        exact this r.who
      have hwl' := hwl true
      cases hm : (r.mod == []) with
      | true =>
        simp (disch := omega) only [evA, argsV, argsOK, partsV, elemsV, optV, evOper, evOp, evAppend, IArg.eval, AS.putD, ↓reduceIte, Nat.reduceEqDiff, Option.isSome, Option.isNone, cond_true, cond_false, Nat.reduceBEq, Nat.reduceAdd, Nat.reduceMul, binInt, binStr, eq_self, reduceCtorEq, unAV, lenAV, convAV, sliceAV, bound, isCon, AS.spent, liveAddr, offAddr, elemsOf, Nat.reduceLeDiff, nilCmp, putAt, Int.reduceEq, Int.reduceLT, Int.reduceLE, Int.reduceBEq, Int.reduceBNe, Int.reduceAdd, Int.reduceNeg, Int.reduceSub, Int.reduceMul, ilt_t, ilt_f, ile_t, ile_f, ieq_t, ieq_f, ine_t, ine_f, h0, h4, h3, rules_len, rules_at hg, encRule, hm, digit1_D, List.length_append]
        refine printR_inner r l i hg hv1 H (s ++ r.what ++ [58, 32] ++ dig r.n ++ [32, 111, 102]) (by simp [hd1]; omega) _ _ _ _ ?_ ?_ ?_ ?_ ?_
        case refine_5 =>
          intro T' g' h0 h4 h3
          simp (disch := omega) only [evA, argsV, argsOK, partsV, elemsV, optV, evOper, evOp, evAppend, IArg.eval, AS.putD, ↓reduceIte, Nat.reduceEqDiff, Option.isSome, Option.isNone, cond_true, cond_false, Nat.reduceBEq, Nat.reduceAdd, Nat.reduceMul, binInt, binStr, eq_self, reduceCtorEq, unAV, lenAV, convAV, sliceAV, bound, isCon, AS.spent, liveAddr, offAddr, elemsOf, Nat.reduceLeDiff, nilCmp, putAt, Int.reduceEq, Int.reduceLT, Int.reduceLE, Int.reduceBEq, Int.reduceBNe, Int.reduceAdd, Int.reduceNeg, Int.reduceSub, Int.reduceMul, ilt_t, ilt_f, ile_t, ile_f, ieq_t, ieq_f, ine_t, ine_f, h0, h4, h3, List.length_append, hd1]
          refine ⟨h, _, rfl, by simp [hd1]; omega, ?_⟩
          rw [← hc]; simp [printRule, hm]
        all_goals simp (disch := omega) only [evA, argsV, argsOK, partsV, elemsV, optV, evOper, evOp, evAppend, IArg.eval, AS.putD, ↓reduceIte, Nat.reduceEqDiff, Option.isSome, Option.isNone, cond_true, cond_false, Nat.reduceBEq, Nat.reduceAdd, Nat.reduceMul, binInt, binStr, eq_self, reduceCtorEq, unAV, lenAV, convAV, sliceAV, bound, isCon, AS.spent, liveAddr, offAddr, elemsOf, Nat.reduceLeDiff, nilCmp, putAt, Int.reduceEq, Int.reduceLT, Int.reduceLE, Int.reduceBEq, Int.reduceBNe, Int.reduceAdd, Int.reduceNeg, Int.reduceSub, Int.reduceMul, h0, h4, h3]
      | false =>
        simp (disch := omega) only [evA, argsV, argsOK, partsV, elemsV, optV, evOper, evOp, evAppend, IArg.eval, AS.putD, ↓reduceIte, Nat.reduceEqDiff, Option.isSome, Option.isNone, cond_true, cond_false, Nat.reduceBEq, Nat.reduceAdd, Nat.reduceMul, binInt, binStr, eq_self, reduceCtorEq, unAV, lenAV, convAV, sliceAV, bound, isCon, AS.spent, liveAddr, offAddr, elemsOf, Nat.reduceLeDiff, nilCmp, putAt, Int.reduceEq, Int.reduceLT, Int.reduceLE, Int.reduceBEq, Int.reduceBNe, Int.reduceAdd, Int.reduceNeg, Int.reduceSub, Int.reduceMul, ilt_t, ilt_f, ile_t, ile_f, ieq_t, ieq_f, ine_t, ine_f, h0, h4, h3, rules_len, rules_at hg, encRule, hm, digit1_D, List.length_append]
        refine printR_inner r l i hg hv1 H (s ++ r.what ++ [32, 105, 110, 32] ++ r.mod ++ [58, 32] ++ dig r.n ++ [32, 111, 102]) (by simp [hd1]; omega) _ _ _ _ ?_ ?_ ?_ ?_ ?_
        case refine_5 =>
          intro T' g' h0 h4 h3
          simp (disch := omega) only [evA, argsV, argsOK, partsV, elemsV, optV, evOper, evOp, evAppend, IArg.eval, AS.putD, ↓reduceIte, Nat.reduceEqDiff, Option.isSome, Option.isNone, cond_true, cond_false, Nat.reduceBEq, Nat.reduceAdd, Nat.reduceMul, binInt, binStr, eq_self, reduceCtorEq, unAV, lenAV, convAV, sliceAV, bound, isCon, AS.spent, liveAddr, offAddr, elemsOf, Nat.reduceLeDiff, nilCmp, putAt, Int.reduceEq, Int.reduceLT, Int.reduceLE, Int.reduceBEq, Int.reduceBNe, Int.reduceAdd, Int.reduceNeg, Int.reduceSub, Int.reduceMul, ilt_t, ilt_f, ile_t, ile_f, ieq_t, ieq_f, ine_t, ine_f, h0, h4, h3, List.length_append, hd1]
          refine ⟨h, _, rfl, by simp [hd1]; omega, ?_⟩
          rw [← hc]; simp [printRule, hm]
        all_goals simp (disch := omega) only [evA, argsV, argsOK, partsV, elemsV, optV, evOper, evOp, evAppend, IArg.eval, AS.putD, ↓reduceIte, Nat.reduceEqDiff, Option.isSome, Option.isNone, cond_true, cond_false, Nat.reduceBEq, Nat.reduceAdd, Nat.reduceMul, binInt, binStr, eq_self, reduceCtorEq, unAV, lenAV, convAV, sliceAV, bound, isCon, AS.spent, liveAddr, offAddr, elemsOf, Nat.reduceLeDiff, nilCmp, putAt, Int.reduceEq, Int.reduceLT, Int.reduceLE, Int.reduceBEq, Int.reduceBNe, Int.reduceAdd, Int.reduceNeg, Int.reduceSub, Int.reduceMul, h0, h4, h3]
    · have : i = l.length := by omega
      subst this
      rw [List.drop_length] at hc
      simp (disch := omega) only [evA, argsV, argsOK, partsV, elemsV, optV, evOper, evOp, evAppend, IArg.eval, AS.putD, ↓reduceIte, Nat.reduceEqDiff, Option.isSome, Option.isNone, cond_true, cond_false, Nat.reduceBEq, Nat.reduceAdd, Nat.reduceMul, binInt, binStr, eq_self, reduceCtorEq, unAV, lenAV, convAV, sliceAV, bound, isCon, AS.spent, liveAddr, offAddr, elemsOf, Nat.reduceLeDiff, nilCmp, putAt, Int.reduceEq, Int.reduceLT, Int.reduceLE, Int.reduceBEq, Int.reduceBNe, Int.reduceAdd, Int.reduceNeg, Int.reduceSub, Int.reduceMul, ilt_t, ilt_f, ile_t, ile_f, ieq_t, ieq_f, ine_t, ine_f, h0, h4, h3, rules_len]
      rw [← hc]; simp
  · intro st hst
    obtain ⟨T, g, rfl, h3⟩ := hst.out
    simp (disch := omega) only [evA, argsV, argsOK, partsV, elemsV, optV, evOper, evOp, evAppend, IArg.eval, AS.putD, ↓reduceIte, Nat.reduceEqDiff, Option.isSome, Option.isNone, cond_true, cond_false, Nat.reduceBEq, Nat.reduceAdd, Nat.reduceMul, binInt, binStr, eq_self, reduceCtorEq, unAV, lenAV, convAV, sliceAV, bound, isCon, AS.spent, liveAddr, offAddr, elemsOf, Nat.reduceLeDiff, nilCmp, putAt, Int.reduceEq, Int.reduceLT, Int.reduceLE, Int.reduceBEq, Int.reduceBNe, Int.reduceAdd, Int.reduceNeg, Int.reduceSub, Int.reduceMul, h3]
  · simp (disch := omega) only [evA, argsV, argsOK, partsV, elemsV, optV, evOper, evOp, evAppend, IArg.eval, AS.putD, ↓reduceIte, Nat.reduceEqDiff, Option.isSome, Option.isNone, cond_true, cond_false, Nat.reduceBEq, Nat.reduceAdd, Nat.reduceMul, binInt, binStr, eq_self, reduceCtorEq, unAV, lenAV, convAV, sliceAV, bound, isCon, AS.spent, liveAddr, offAddr, elemsOf, Nat.reduceLeDiff, nilCmp, putAt, Int.reduceEq, Int.reduceLT, Int.reduceLE, Int.reduceBEq, Int.reduceBNe, Int.reduceAdd, Int.reduceNeg, Int.reduceSub, Int.reduceMul, Int.natCast_zero]
    exact ⟨[], rfl, by simp, by simp⟩

end Go.Proofs.YtgdcfgpddgedkaaDoor

/-! Equations of functions, 10: strings.Builder; the program's Print. -/
namespace Go.Proofs.YtgdcfgpddgedkaaDoor
open Go Go.Abs Go.Proofs

def bytesR (l : Str) : List (List AV) := l.map fun b => [.int .u8 b.toNat]

theorem bytesR_len {l : Str} : (bytesR l).length = l.length := by simp [bytesR]
theorem bytesOf_R : ∀ l : Str, bytesOf (bytesR l) = some l
  | [] => rfl
  | b :: l => by
    have := bytesOf_R l
    simp only [bytesR] at this
    simp only [bytesR, List.map_cons, bytesOf, this, Option.map_some]
    simp
theorem byteRows_R : ∀ l : Str, byteRows (bytesR l) = true
  | [] => rfl
  | b :: l => by
    have := byteRows_R l
    simp only [byteRows, bytesR] at this
    simp only [byteRows, bytesR, List.map_cons, List.all_cons, this, Bool.and_true]
theorem byteRange_R : ∀ l : Str, byteRange (bytesR l) = true
  | [] => rfl
  | b :: l => by
    have := byteRange_R l
    simp only [byteRange, bytesR] at this
    have hb := UInt8.toNat_lt b
    simp only [byteRange, bytesR, List.map_cons, List.all_cons, this, Bool.and_true, Bool.and_eq_true, decide_eq_true_eq]
    omega
theorem bytesR_w {l : Str} : ∀ r ∈ bytesR l, r.length = 1 := fun r hr => by simp only [bytesR, List.mem_map] at hr; obtain ⟨n, _, rfl⟩ := hr; rfl

theorem app_bytes {a s : Str} (h : a.length + s.length ≤ 1000000000) : appendAV true 1 1 (.slice (bytesR a) true) (.str s) = some (.slice (bytesR (a ++ s)) true) := by
  have e : (s.map fun (b : UInt8) => [AV.int .u8 b.toNat]) = bytesR s := rfl
  simp only [appendAV, elemsOf, beq_self, cond_true, Option.bind_some, e]
  have ha : bytesR a ++ bytesR s = bytesR (a ++ s) := by simp [bytesR]
  cases s with
  | nil => simp [bytesR]
  | cons b s =>
    have hf : fitsRows 1 1 (bytesR a) (bytesR (b :: s)) = true := by
      simp only [fitsRows, headOk_of bytesR_w, bytesR_len, Nat.ble_eq_true_of_le (show (a.length + (b :: s).length) * 1 ≤ 70368744177664 by omega), Nat.ble_eq_true_of_le (show a.length + (b :: s).length ≤ 70368744177664 by omega), Bool.and_self]
    have hr : rowsOK true (bytesR a ++ bytesR (b :: s)) = true := by rw [ha]; exact byteRows_R _
    show (cond (true && fitsRows 1 1 (bytesR a) (bytesR (b :: s)) && rowsOK true (bytesR a ++ bytesR (b :: s))) (some (AV.slice (bytesR a ++ bytesR (b :: s)) true)) none) = _
    rw [hf, hr, ha]; rfl

theorem get_last {H : AHeap} {o : AObj} : (H ++ [o])[H.length]? = some o := by simp
theorem set_last {H : AHeap} {o p : AObj} : (H ++ [o]).set H.length p = H ++ [p] := by simp [List.set_append]
theorem take_last {H : AHeap} {o : AObj} : (H ++ [o]).take H.length = H := by simp
theorem take_last' {H : AHeap} {o : AObj} : (H ++ [o]).take (H.length + 1) = H ++ [o] := List.take_of_length_le (by simp)

theorem write_D (H : AHeap) (p : AV) (s t : Str) (hp : p = .nilptr ∨ p = .ref H.length 0) (hl : s.length + t.length ≤ 1000000000) : callD A 38 [.ref H.length 0, .str t] (H ++ [.box 80 [p, .slice (bytesR s) true]]) =
    some (.tuple [.int .i64 t.length, .niliface], some ⟨H ++ [.box 80 [.ref H.length 0, .slice (bytesR (s ++ t)) true]], H.length⟩) := by
  refine callD_W (fn := ir38) rfl rfl rfl ?_
  unfold ir38
  rcases hp with rfl | rfl
  · have hc : callD A 53 [.ref H.length 0] (H ++ [.box 80 [.nilptr, .slice (bytesR s) true]]) = some (.undef, some ⟨H ++ [.box 80 [.ref H.length 0, .slice (bytesR s) true]], H.length⟩) := by
      refine callD_ov (g := ovCopyCheck) rfl ?_
      simp only [ovCopyCheck, get_last, set_last]
    simp (disch := omega) only [evA, argsV, argsOK, partsV, elemsV, optV, evOper, evOp, evAppend, IArg.eval, AS.putD, ↓reduceIte, Nat.reduceEqDiff, Option.isSome, Option.isNone, cond_true, cond_false, Nat.reduceBEq, Nat.reduceAdd, Nat.reduceMul, binInt, binStr, eq_self, reduceCtorEq, unAV, lenAV, convAV, sliceAV, bound, isCon, AS.spent, liveAddr, offAddr, elemsOf, Nat.reduceLeDiff, nilCmp, putAt, Int.reduceEq, Int.reduceLT, Int.reduceLE, Int.reduceBEq, Int.reduceBNe, Int.reduceAdd, Int.reduceNeg, Int.reduceSub, Int.reduceMul, hc, List.length_append, loadAV, get_last, set_last, loadCellsAV, takenAt, List.modify_succ_cons, List.modify_zero_cons, app_bytes, storeAV, heapCell, Nat.lt_irrefl, Nat.lt_add_one, take_last']
  · have hc : callD A 53 [.ref H.length 0] (H ++ [.box 80 [.ref H.length 0, .slice (bytesR s) true]]) = some (.undef, none) := by
      refine callD_ov (g := ovCopyCheck) rfl ?_
      simp only [ovCopyCheck, get_last, beq_self, cond_true]
    simp (disch := omega) only [evA, argsV, argsOK, partsV, elemsV, optV, evOper, evOp, evAppend, IArg.eval, AS.putD, ↓reduceIte, Nat.reduceEqDiff, Option.isSome, Option.isNone, cond_true, cond_false, Nat.reduceBEq, Nat.reduceAdd, Nat.reduceMul, binInt, binStr, eq_self, reduceCtorEq, unAV, lenAV, convAV, sliceAV, bound, isCon, AS.spent, liveAddr, offAddr, elemsOf, Nat.reduceLeDiff, nilCmp, putAt, Int.reduceEq, Int.reduceLT, Int.reduceLE, Int.reduceBEq, Int.reduceBNe, Int.reduceAdd, Int.reduceNeg, Int.reduceSub, Int.reduceMul, hc, List.length_append, loadAV, get_last, set_last, loadCellsAV, takenAt, List.modify_succ_cons, List.modify_zero_cons, app_bytes, storeAV, heapCell, Nat.lt_irrefl, Nat.lt_add_one, take_last', Nat.le_refl]

theorem string_D (H : AHeap) (p : AV) (s : Str) (hl : s.length ≤ 1000000000) : callD A 40 [.ref H.length 0] (H ++ [.box 80 [p, .slice (bytesR s) true]]) = some (.str s, none) := by
  refine callD_ov (g := ovString) rfl ?_
  simp only [ovString, get_last, bytesR_len, bytesOf_R, Option.map_some, Nat.ble_eq_true_of_le (show s.length ≤ 4611686018427387904 by omega), byteRange_R, Bool.and_self, cond_true]

theorem itoa_D (n : Int) (H : AHeap) (h : I64 n) : callD A 39 [.int .i64 n] H = some (.str (itoaF n), none) := by
  refine callD_ov (g := ovItoa) rfl ?_
  obtain ⟨h1, h2⟩ := h
  simp only [ovItoa, decide_eq_true h1, decide_eq_true h2, Bool.and_self, cond_true]

theorem itoa_dig {n : Int} (h0 : 0 ≤ n) (h9 : n ≤ 9) : itoaF n = dig n := by
  obtain ⟨k, rfl⟩ := Int.eq_ofNat_of_zero_le h0
  have hk : k < 10 := by omega
  show digitsF (k + 1) k [] = _
  unfold digitsF
  rw [show Nat.blt k 10 = true by simpa [Nat.blt_eq] using hk]
  rfl

theorem printP_inner (r : Rule) (l : List Rule) (i : Nat) (hv : validRule r = true) (H : AHeap) (s0 : Str) (hs0 : s0.length ≤ 1000000) (a11 a12 : AV) (T : AFrame) (g2 : Nat) (Q : IExit → AS → Prop)
    (h3 : T 3 = .ref H.length 0) (h11 : T 11 = a11) (h12 : T 12 = a12) (h13 : T 13 = .int .i64 i) (h34 : T 34 = .slice (ints r.who) false) (h35 : T 35 = .int .i64 r.who.length) (h36 : T 36 = .int .i64 0)
    (hx : ∀ T' g', T' 3 = .ref H.length 0 → T' 11 = a11 → T' 12 = a12 → T' 13 = .int .i64 i → Q (.exit 2) ⟨T', H ++ [.box 80 [.ref H.length 0, .slice (bytesR (s0 ++ (whoR true r.who).drop 1)) true]], H.length, g'⟩) :
    W A (ir21.body.sub [true, true, true, false, true, false, false, true, true, false, false, true, true, true, true, false, true, false]) ⟨T, H ++ [.box 80 [.ref H.length 0, .slice (bytesR s0) true]], H.length, g2⟩ Q := by
  unfold ir21
  simp only [ICode.sub]
  obtain ⟨f1, f2, f3, f4, f5, f6, f7⟩ := valid_facts hv
  refine W_countx r.who.length 2 (fun k st => ∃ s : Str, HdG (fun T => T 3 = .ref H.length 0 ∧ T 11 = a11 ∧ T 12 = a12 ∧ T 13 = .int .i64 i ∧ T 34 = .slice (ints r.who) false ∧ T 35 = .int .i64 r.who.length ∧ T 36 = .int .i64 k) (H ++ [.box 80 [.ref H.length 0, .slice (bytesR s) true]]) H.length st ∧
      s.length ≤ s0.length + 3 * k ∧ s ++ (if k = 0 then (whoR true r.who).drop 1 else whoR false (r.who.drop k)) = s0 ++ (whoR true r.who).drop 1)
    (HdG (fun T => T 3 = .ref H.length 0 ∧ T 11 = a11 ∧ T 12 = a12 ∧ T 13 = .int .i64 i) (H ++ [.box 80 [.ref H.length 0, .slice (bytesR (s0 ++ (whoR true r.who).drop 1)) true]]) H.length) (fun _ => False) ?_ ?_ (fun _ h => h.elim) 0 _ (by omega) ?_
  · rintro k st hk ⟨s, hst, hs, hc⟩
    obtain ⟨T, g3, rfl, h3, h11, h12, h13, h34, h35, h36⟩ := hst.out
    by_cases h : k < r.who.length
    · have hw := List.getElem?_eq_getElem h
      have hwr := f7 _ (List.getElem_mem h)
      have hdr := List.drop_eq_getElem_cons h
      generalize r.who[k] = w at hdr hw hwr
      have hd1 : (dig w).length = 1 := rfl
      have hit : itoaF w = dig w := itoa_dig (by omega) (by omega)
      have hIt : ∀ H', callD A 39 [.int .i64 w] H' = some (.str (dig w), none) := fun H' => by rw [itoa_D w H' ⟨by omega, by omega⟩, hit]
      have wr : ∀ (s t : Str), s.length + t.length ≤ 1000000000 → callD A 38 [.ref H.length 0, .str t] (H ++ [.box 80 [.ref H.length 0, .slice (bytesR s) true]]) = some (.tuple [.int .i64 t.length, .niliface], some ⟨H ++ [.box 80 [.ref H.length 0, .slice (bytesR (s ++ t)) true]], H.length⟩) := fun s t h => write_D H _ s t (.inr rfl) h
      cases k with
      | zero =>
        simp (disch := first | omega | (simp only [List.length_append, List.length_cons, List.length_nil, List.length_drop]; omega)) only [evA, argsV, argsOK, partsV, elemsV, optV, evOper, evOp, evAppend, IArg.eval, AS.putD, ↓reduceIte, Nat.reduceEqDiff, Option.isSome, Option.isNone, cond_true, cond_false, Nat.reduceBEq, Nat.reduceAdd, Nat.reduceMul, binInt, binStr, eq_self, reduceCtorEq, unAV, lenAV, convAV, sliceAV, bound, isCon, AS.spent, liveAddr, offAddr, elemsOf, Nat.reduceLeDiff, nilCmp, putAt, Int.reduceEq, Int.reduceLT, Int.reduceLE, Int.reduceBEq, Int.reduceBNe, Int.reduceAdd, Int.reduceNeg, Int.reduceSub, Int.reduceMul, ilt_t, ilt_f, ile_t, ile_f, ieq_t, ieq_f, ine_t, ine_f, h3, h11, h12, h13, h34, h35, h36, ints_at hw, hIt, wr, List.length_append, Nat.lt_irrefl, Int.natCast_zero]
        refine ⟨h, s ++ dig w, rfl, by simp [hd1]; omega, ?_⟩
        rw [if_pos rfl] at hc
        rw [← hc]
        have e : r.who = w :: r.who.drop 1 := by rw [← hdr, List.drop_zero]
        rw [List.drop_zero] at hdr
        conv => rhs; rw [hdr]
        simp [whoR]
      | succ k =>
        simp (disch := first | omega | (simp only [List.length_append, List.length_cons, List.length_nil, List.length_drop]; omega)) only [evA, argsV, argsOK, partsV, elemsV, optV, evOper, evOp, evAppend, IArg.eval, AS.putD, ↓reduceIte, Nat.reduceEqDiff, Option.isSome, Option.isNone, cond_true, cond_false, Nat.reduceBEq, Nat.reduceAdd, Nat.reduceMul, binInt, binStr, eq_self, reduceCtorEq, unAV, lenAV, convAV, sliceAV, bound, isCon, AS.spent, liveAddr, offAddr, elemsOf, Nat.reduceLeDiff, nilCmp, putAt, Int.reduceEq, Int.reduceLT, Int.reduceLE, Int.reduceBEq, Int.reduceBNe, Int.reduceAdd, Int.reduceNeg, Int.reduceSub, Int.reduceMul, ilt_t, ilt_f, ile_t, ile_f, ieq_t, ieq_f, ine_t, ine_f, h3, h11, h12, h13, h34, h35, h36, ints_at hw, hIt, wr, List.length_append, Nat.lt_irrefl]
        refine ⟨h, s ++ [44, 32] ++ dig w, rfl, by simp [hd1]; omega, ?_⟩
        rw [if_neg (by omega), hdr] at hc
        rw [← hc]
        simp [whoR]
    · have : k = r.who.length := by omega
      subst this
      rw [if_neg (by have := List.length_pos_iff.2 f5; omega), List.drop_length] at hc
      simp (disch := omega) only [evA, argsV, argsOK, partsV, elemsV, optV, evOper, evOp, evAppend, IArg.eval, AS.putD, ↓reduceIte, Nat.reduceEqDiff, Option.isSome, Option.isNone, cond_true, cond_false, Nat.reduceBEq, Nat.reduceAdd, Nat.reduceMul, binInt, binStr, eq_self, reduceCtorEq, unAV, lenAV, convAV, sliceAV, bound, isCon, AS.spent, liveAddr, offAddr, elemsOf, Nat.reduceLeDiff, nilCmp, putAt, Int.reduceEq, Int.reduceLT, Int.reduceLE, Int.reduceBEq, Int.reduceBNe, Int.reduceAdd, Int.reduceNeg, Int.reduceSub, Int.reduceMul, ilt_t, ilt_f, ile_t, ile_f, ieq_t, ieq_f, ine_t, ine_f, h3, h11, h12, h13, h34, h35, h36]
      rw [← hc]; simp [whoR]
  · intro st hst
    obtain ⟨T, g, rfl, h3, h11, h12, h13⟩ := hst.out
    exact hx _ _ h3 h11 h12 h13
  · simp (disch := omega) only [evA, argsV, argsOK, partsV, elemsV, optV, evOper, evOp, evAppend, IArg.eval, AS.putD, ↓reduceIte, Nat.reduceEqDiff, Option.isSome, Option.isNone, cond_true, cond_false, Nat.reduceBEq, Nat.reduceAdd, Nat.reduceMul, binInt, binStr, eq_self, reduceCtorEq, unAV, lenAV, convAV, sliceAV, bound, isCon, AS.spent, liveAddr, offAddr, elemsOf, Nat.reduceLeDiff, nilCmp, putAt, Int.reduceEq, Int.reduceLT, Int.reduceLE, Int.reduceBEq, Int.reduceBNe, Int.reduceAdd, Int.reduceNeg, Int.reduceSub, Int.reduceMul, h3, h11, h12, h13, h34, h35, h36, Int.natCast_zero]
    exact ⟨s0, rfl, by omega, by simp⟩

theorem whoR_len : ∀ (l : List Int) b, (whoR b l).length ≤ 3 * l.length
  | [], b => by cases b <;> simp [whoR]
  | w :: l, b => by have := whoR_len l false; cases b <;> simp [whoR, dig] <;> omega

theorem whoR_drop {l : List Int} (h : l ≠ []) : whoR true l = 32 :: (whoR true l).drop 1 := by
  cases l with
  | nil => exact absurd rfl h
  | cons w l => simp [whoR]

theorem printP_D (l : List Rule) (H : AHeap) (hl : l.length ≤ 4611686018427387904) (hr : ∀ r ∈ l, RuleOK r) : callD A 21 [.slice (encRules l) false] H = some (.str (printRules l), none) := by
  refine callD_W (fn := ir21) rfl rfl rfl ?_
  unfold ir21 printRules
  cases hv : validRules l with
  | false => simp (disch := omega) only [evA, argsV, argsOK, partsV, elemsV, optV, evOper, evOp, evAppend, IArg.eval, AS.putD, ↓reduceIte, Nat.reduceEqDiff, Option.isSome, Option.isNone, cond_true, cond_false, Nat.reduceBEq, Nat.reduceAdd, Nat.reduceMul, binInt, binStr, eq_self, reduceCtorEq, unAV, lenAV, convAV, sliceAV, bound, isCon, AS.spent, liveAddr, offAddr, elemsOf, Nat.reduceLeDiff, nilCmp, putAt, Int.reduceEq, Int.reduceLT, Int.reduceLE, Int.reduceBEq, Int.reduceBNe, Int.reduceAdd, Int.reduceNeg, Int.reduceSub, Int.reduceMul, validP_D l H hl hr, hv, Bool.false_eq_true, if_false]
  | true =>
  have hall : ∀ r ∈ l, validRule r = true := by
    simp only [validRules, Bool.and_eq_true, List.all_eq_true] at hv
    exact hv.1
  have h64 : l.length ≤ 64 := by
    simp only [validRules, Bool.and_eq_true, decide_eq_true_eq] at hv
    exact hv.2
  simp (disch := omega) only [evA, argsV, argsOK, partsV, elemsV, optV, evOper, evOp, evAppend, IArg.eval, AS.putD, ↓reduceIte, Nat.reduceEqDiff, Option.isSome, Option.isNone, cond_true, cond_false, Nat.reduceBEq, Nat.reduceAdd, Nat.reduceMul, binInt, binStr, eq_self, reduceCtorEq, unAV, lenAV, convAV, sliceAV, bound, isCon, AS.spent, liveAddr, offAddr, elemsOf, Nat.reduceLeDiff, nilCmp, putAt, Int.reduceEq, Int.reduceLT, Int.reduceLE, Int.reduceBEq, Int.reduceBNe, Int.reduceAdd, Int.reduceNeg, Int.reduceSub, Int.reduceMul, validP_D l H hl hr, hv, if_true, rules_len, Nat.lt_irrefl]
  refine W_countx l.length 0 (fun i st => ∃ (p : AV) (s : Str), HdG (fun T => T 3 = .ref H.length 0 ∧ T 11 = .slice (encRules l) false ∧ T 12 = .int .i64 l.length ∧ T 13 = .int .i64 i) (H ++ [.box 80 [p, .slice (bytesR s) true]]) H.length st ∧
      (p = .nilptr ∨ p = .ref H.length 0) ∧ s.length ≤ 100 * i ∧ s ++ (l.drop i).flatMap printRule = l.flatMap printRule)
    (fun st => ∃ (p : AV), HdG (fun T => T 3 = .ref H.length 0) (H ++ [.box 80 [p, .slice (bytesR (l.flatMap printRule)) true]]) H.length st ∧ (l.flatMap printRule).length ≤ 6400) (fun _ => False) ?_ ?_ (fun _ h => h.elim) 0 _ (by omega) ?_
  · rintro i st hi ⟨p, s, hst, hp, hs, hc⟩
    obtain ⟨T, g3, rfl, h3, h11, h12, h13⟩ := hst.out
    by_cases h : i < l.length
    · have hg := List.getElem?_eq_getElem h
      have hv1 := hall _ (List.getElem_mem h)
      rw [List.drop_eq_getElem_cons h, List.flatMap_cons] at hc
      generalize l[i] = r at hc hg hv1
      obtain ⟨f1, f2, f3, f4, f5, f6, f7⟩ := valid_facts hv1
      have hd1 : (dig r.n).length = 1 := rfl
      have hwl := whoR_len r.who true
      have hit : itoaF r.n = dig r.n := itoa_dig (by omega) (by omega)
      have hIt : ∀ H', callD A 39 [.int .i64 r.n] H' = some (.str (dig r.n), none) := fun H' => by rw [itoa_D r.n H' ⟨by omega, by omega⟩, hit]
      have wr0 : callD A 38 [.ref H.length 0, .str r.what] (H ++ [.box 80 [p, .slice (bytesR s) true]]) = some (.tuple [.int .i64 r.what.length, .niliface], some ⟨H ++ [.box 80 [.ref H.length 0, .slice (bytesR (s ++ r.what)) true]], H.length⟩) := write_D H p s _ hp (by omega)
      have wr : ∀ (s t : Str), s.length + t.length ≤ 1000000000 → callD A 38 [.ref H.length 0, .str t] (H ++ [.box 80 [.ref H.length 0, .slice (bytesR s) true]]) = some (.tuple [.int .i64 t.length, .niliface], some ⟨H ++ [.box 80 [.ref H.length 0, .slice (bytesR (s ++ t)) true]], H.length⟩) := fun s t h => write_D H _ s t (.inr rfl) h
      cases hm : (r.mod == []) with
      | true =>
        simp (disch := first | omega | (simp only [List.length_append, List.length_cons, List.length_nil, List.length_drop]; omega)) only [evA, argsV, argsOK, partsV, elemsV, optV, evOper, evOp, evAppend, IArg.eval, AS.putD, ↓reduceIte, Nat.reduceEqDiff, Option.isSome, Option.isNone, cond_true, cond_false, Nat.reduceBEq, Nat.reduceAdd, Nat.reduceMul, binInt, binStr, eq_self, reduceCtorEq, unAV, lenAV, convAV, sliceAV, bound, isCon, AS.spent, liveAddr, offAddr, elemsOf, Nat.reduceLeDiff, nilCmp, putAt, Int.reduceEq, Int.reduceLT, Int.reduceLE, Int.reduceBEq, Int.reduceBNe, Int.reduceAdd, Int.reduceNeg, Int.reduceSub, Int.reduceMul, ilt_t, ilt_f, ile_t, ile_f, ieq_t, ieq_f, ine_t, ine_f, h3, h11, h12, h13, rules_at hg, encRule, storeAV, hm, wr0, wr, hIt, List.length_append, ints_len, Nat.lt_irrefl]
        refine printP_inner r l i hv1 H _ (by simp [hd1]; omega) (.slice (encRules l) false) (.int .i64 l.length) _ _ _ ?_ ?_ ?_ ?_ ?_ ?_ ?_ ?_
        case refine_8 =>
          intro T' g' h3 h11 h12 h13
          simp (disch := first | omega | (simp only [List.length_append, List.length_cons, List.length_nil, List.length_drop]; omega)) only [evA, argsV, argsOK, partsV, elemsV, optV, evOper, evOp, evAppend, IArg.eval, AS.putD, ↓reduceIte, Nat.reduceEqDiff, Option.isSome, Option.isNone, cond_true, cond_false, Nat.reduceBEq, Nat.reduceAdd, Nat.reduceMul, binInt, binStr, eq_self, reduceCtorEq, unAV, lenAV, convAV, sliceAV, bound, isCon, AS.spent, liveAddr, offAddr, elemsOf, Nat.reduceLeDiff, nilCmp, putAt, Int.reduceEq, Int.reduceLT, Int.reduceLE, Int.reduceBEq, Int.reduceBNe, Int.reduceAdd, Int.reduceNeg, Int.reduceSub, Int.reduceMul, ilt_t, ilt_f, ile_t, ile_f, ieq_t, ieq_f, ine_t, ine_f, h3, h11, h12, h13, wr, List.length_append, List.length_drop, hd1, Nat.lt_irrefl]
          refine ⟨h, _, _, rfl, .inr rfl, by simp [hd1]; omega, ?_⟩
          rw [← hc]
          simp only [printRule, hm, if_true]
          rw [whoR_drop f5]; simp
        all_goals simp (disch := omega) only [evA, argsV, argsOK, partsV, elemsV, optV, evOper, evOp, evAppend, IArg.eval, AS.putD, ↓reduceIte, Nat.reduceEqDiff, Option.isSome, Option.isNone, cond_true, cond_false, Nat.reduceBEq, Nat.reduceAdd, Nat.reduceMul, binInt, binStr, eq_self, reduceCtorEq, unAV, lenAV, convAV, sliceAV, bound, isCon, AS.spent, liveAddr, offAddr, elemsOf, Nat.reduceLeDiff, nilCmp, putAt, Int.reduceEq, Int.reduceLT, Int.reduceLE, Int.reduceBEq, Int.reduceBNe, Int.reduceAdd, Int.reduceNeg, Int.reduceSub, Int.reduceMul, h3, h11, h12, h13]
      | false =>
        simp (disch := first | omega | (simp only [List.length_append, List.length_cons, List.length_nil, List.length_drop]; omega)) only [evA, argsV, argsOK, partsV, elemsV, optV, evOper, evOp, evAppend, IArg.eval, AS.putD, ↓reduceIte, Nat.reduceEqDiff, Option.isSome, Option.isNone, cond_true, cond_false, Nat.reduceBEq, Nat.reduceAdd, Nat.reduceMul, binInt, binStr, eq_self, reduceCtorEq, unAV, lenAV, convAV, sliceAV, bound, isCon, AS.spent, liveAddr, offAddr, elemsOf, Nat.reduceLeDiff, nilCmp, putAt, Int.reduceEq, Int.reduceLT, Int.reduceLE, Int.reduceBEq, Int.reduceBNe, Int.reduceAdd, Int.reduceNeg, Int.reduceSub, Int.reduceMul, ilt_t, ilt_f, ile_t, ile_f, ieq_t, ieq_f, ine_t, ine_f, h3, h11, h12, h13, rules_at hg, encRule, storeAV, hm, wr0, wr, hIt, List.length_append, ints_len, Nat.lt_irrefl]
        refine printP_inner r l i hv1 H _ (by simp [hd1]; omega) (.slice (encRules l) false) (.int .i64 l.length) _ _ _ ?_ ?_ ?_ ?_ ?_ ?_ ?_ ?_
        case refine_8 =>
          intro T' g' h3 h11 h12 h13
          simp (disch := first | omega | (simp only [List.length_append, List.length_cons, List.length_nil, List.length_drop]; omega)) only [evA, argsV, argsOK, partsV, elemsV, optV, evOper, evOp, evAppend, IArg.eval, AS.putD, ↓reduceIte, Nat.reduceEqDiff, Option.isSome, Option.isNone, cond_true, cond_false, Nat.reduceBEq, Nat.reduceAdd, Nat.reduceMul, binInt, binStr, eq_self, reduceCtorEq, unAV, lenAV, convAV, sliceAV, bound, isCon, AS.spent, liveAddr, offAddr, elemsOf, Nat.reduceLeDiff, nilCmp, putAt, Int.reduceEq, Int.reduceLT, Int.reduceLE, Int.reduceBEq, Int.reduceBNe, Int.reduceAdd, Int.reduceNeg, Int.reduceSub, Int.reduceMul, ilt_t, ilt_f, ile_t, ile_f, ieq_t, ieq_f, ine_t, ine_f, h3, h11, h12, h13, wr, List.length_append, List.length_drop, hd1, Nat.lt_irrefl]
          refine ⟨h, _, _, rfl, .inr rfl, by simp [hd1]; omega, ?_⟩
          rw [← hc]
          simp only [printRule, hm, Bool.false_eq_true, if_false]
          rw [whoR_drop f5]; simp
        all_goals simp (disch := omega) only [evA, argsV, argsOK, partsV, elemsV, optV, evOper, evOp, evAppend, IArg.eval, AS.putD, ↓reduceIte, Nat.reduceEqDiff, Option.isSome, Option.isNone, cond_true, cond_false, Nat.reduceBEq, Nat.reduceAdd, Nat.reduceMul, binInt, binStr, eq_self, reduceCtorEq, unAV, lenAV, convAV, sliceAV, bound, isCon, AS.spent, liveAddr, offAddr, elemsOf, Nat.reduceLeDiff, nilCmp, putAt, Int.reduceEq, Int.reduceLT, Int.reduceLE, Int.reduceBEq, Int.reduceBNe, Int.reduceAdd, Int.reduceNeg, Int.reduceSub, Int.reduceMul, h3, h11, h12, h13]
    · have : i = l.length := by omega
      subst this
      rw [List.drop_length] at hc
      have hc' : s = l.flatMap printRule := by rw [← hc]; simp
      subst hc'
      simp (disch := omega) only [evA, argsV, argsOK, partsV, elemsV, optV, evOper, evOp, evAppend, IArg.eval, AS.putD, ↓reduceIte, Nat.reduceEqDiff, Option.isSome, Option.isNone, cond_true, cond_false, Nat.reduceBEq, Nat.reduceAdd, Nat.reduceMul, binInt, binStr, eq_self, reduceCtorEq, unAV, lenAV, convAV, sliceAV, bound, isCon, AS.spent, liveAddr, offAddr, elemsOf, Nat.reduceLeDiff, nilCmp, putAt, Int.reduceEq, Int.reduceLT, Int.reduceLE, Int.reduceBEq, Int.reduceBNe, Int.reduceAdd, Int.reduceNeg, Int.reduceSub, Int.reduceMul, ilt_t, ilt_f, ile_t, ile_f, ieq_t, ieq_f, ine_t, ine_f, h3, h11, h12, h13]
      exact ⟨p, rfl, by omega⟩
  · rintro st ⟨p, hst, hlen⟩
    obtain ⟨T, g, rfl, h3⟩ := hst.out
    simp (disch := omega) only [evA, argsV, argsOK, partsV, elemsV, optV, evOper, evOp, evAppend, IArg.eval, AS.putD, ↓reduceIte, Nat.reduceEqDiff, Option.isSome, Option.isNone, cond_true, cond_false, Nat.reduceBEq, Nat.reduceAdd, Nat.reduceMul, binInt, binStr, eq_self, reduceCtorEq, unAV, lenAV, convAV, sliceAV, bound, isCon, AS.spent, liveAddr, offAddr, elemsOf, Nat.reduceLeDiff, nilCmp, putAt, Int.reduceEq, Int.reduceLT, Int.reduceLE, Int.reduceBEq, Int.reduceBNe, Int.reduceAdd, Int.reduceNeg, Int.reduceSub, Int.reduceMul, h3, string_D]
  · simp (disch := omega) only [evA, argsV, argsOK, partsV, elemsV, optV, evOper, evOp, evAppend, IArg.eval, AS.putD, ↓reduceIte, Nat.reduceEqDiff, Option.isSome, Option.isNone, cond_true, cond_false, Nat.reduceBEq, Nat.reduceAdd, Nat.reduceMul, binInt, binStr, eq_self, reduceCtorEq, unAV, lenAV, convAV, sliceAV, bound, isCon, AS.spent, liveAddr, offAddr, elemsOf, Nat.reduceLeDiff, nilCmp, putAt, Int.reduceEq, Int.reduceLT, Int.reduceLE, Int.reduceBEq, Int.reduceBNe, Int.reduceAdd, Int.reduceNeg, Int.reduceSub, Int.reduceMul, Int.natCast_zero]
    exact ⟨.nilptr, [], rfl, .inl rfl, by simp, by simp⟩

end Go.Proofs.YtgdcfgpddgedkaaDoor

/-! Equations of functions, 11: both scanners. -/
namespace Go.Proofs.YtgdcfgpddgedkaaDoor
open Go Go.Abs Go.Proofs

theorem skipL_true : ∀ (r : Str) (j : Nat), (indexF 10 j r < 0 ∧ indexF 10 j r = -1 ∧ skipL true r = r.length) ∨ (∃ k : Nat, indexF 10 j r = ((j + k : Nat) : Int) ∧ k < r.length ∧ skipL true r = k + skipL false (r.drop k))
  | [], j => .inl ⟨by simp [indexF], by simp [indexF], rfl⟩
  | b :: r, j => by
    by_cases hb : b.toNat = 10
    · refine .inr ⟨0, ?_, by simp, ?_⟩
      · simp [indexF, hb]
      · simp [skipL, hb]
    · have h1 : skipL true (b :: r) = 1 + skipL true r := by
        simp only [skipL, if_neg hb]
        split
        · rfl
        · simp
      have h2 : indexF 10 j (b :: r) = indexF 10 (j + 1) r := by
        simp only [indexF]
        rw [decide_eq_false (by omega)]; rfl
      rw [h1, h2]
      rcases skipL_true r (j + 1) with ⟨k1, k2, k3⟩ | ⟨k, k1, k2, k3⟩
      · exact .inl ⟨k1, k2, by rw [k3, List.length_cons]; omega⟩
      · exact .inr ⟨k + 1, by rw [k1]; congr 1; omega, by simpa using k2, by rw [k3, List.drop_succ_cons]; omega⟩

theorem indexB_D (s : Str) (H : AHeap) : callD A 56 [.str s, .int .u8 10] H = some (.int .i64 (indexF 10 0 s), none) := callD_ov (g := ovIndexByte) rfl rfl

theorem blanks_D (s : Str) (H : AHeap) (hs : s.length ≤ 4611686018427387904) : callD A 43 [.str s] H = some (.int .i64 (skipL false s), none) := by
  refine callD_W (fn := ir43) rfl rfl rfl ?_
  unfold ir43
  simp (disch := omega) only [evA, argsV, argsOK, partsV, elemsV, optV, evOper, evOp, evAppend, IArg.eval, AS.putD, ↓reduceIte, Nat.reduceEqDiff, Option.isSome, Option.isNone, cond_true, cond_false, Nat.reduceBEq, Nat.reduceAdd, Nat.reduceMul, binInt, binStr, eq_self, reduceCtorEq, unAV, lenAV, convAV, sliceAV, bound, isCon, AS.spent, liveAddr, offAddr, elemsOf, Nat.reduceLeDiff, nilCmp, putAt, Int.reduceEq, Int.reduceLT, Int.reduceLE, Int.reduceBEq, Int.reduceBNe, Int.reduceAdd, Int.reduceNeg, Int.reduceSub, Int.reduceMul]
  refine W_loopm 0 (fun k => Hd (fun T => ∃ n : Nat, T 0 = .str s ∧ T 3 = .int .i64 n ∧ n ≤ s.length ∧ k = s.length - n ∧ skipL false s = n + skipL false (s.drop n)) H H.length 0)
    (Hd (fun T => T 3 = .int .i64 (skipL false s)) H H.length 0) (Hd (fun T => T 2 = .int .i64 (skipL false s)) H H.length 0) ?_ ?_ ?_ s.length _ ?_
  · rintro k st hst
    obtain ⟨T, rfl, n, h0, h3, hn, hk, hc⟩ := hst.out
    by_cases h : n < s.length
    · have hx := List.getElem?_eq_getElem h
      have hd := List.drop_eq_getElem_cons h
      generalize s[n] = b at hx hd
      rw [hd] at hc
      have hbl : b.toNat < 256 := UInt8.toNat_lt b
      by_cases b32 : b.toNat = 32
      · have e : skipL false (b :: s.drop (n + 1)) = 1 + skipL false (s.drop (n + 1)) := by simp [skipL, b32]
        rw [e] at hc
        simp (disch := omega) only [evA, argsV, argsOK, partsV, elemsV, optV, evOper, evOp, evAppend, IArg.eval, AS.putD, ↓reduceIte, Nat.reduceEqDiff, Option.isSome, Option.isNone, cond_true, cond_false, Nat.reduceBEq, Nat.reduceAdd, Nat.reduceMul, binInt, binStr, eq_self, reduceCtorEq, unAV, lenAV, convAV, sliceAV, bound, isCon, AS.spent, liveAddr, offAddr, elemsOf, Nat.reduceLeDiff, nilCmp, putAt, Int.reduceEq, Int.reduceLT, Int.reduceLE, Int.reduceBEq, Int.reduceBNe, Int.reduceAdd, Int.reduceNeg, Int.reduceSub, Int.reduceMul, ilt_t, ilt_f, ile_t, ile_f, ieq_t, ieq_f, ine_t, ine_f, h0, h3, hx]
        exact ⟨s.length - (n + 1), by omega, n + 1, by omega, by omega, rfl, by omega⟩
      by_cases b10 : b.toNat = 10
      · have e : skipL false (b :: s.drop (n + 1)) = 1 + skipL false (s.drop (n + 1)) := by simp [skipL, b10]
        rw [e] at hc
        simp (disch := omega) only [evA, argsV, argsOK, partsV, elemsV, optV, evOper, evOp, evAppend, IArg.eval, AS.putD, ↓reduceIte, Nat.reduceEqDiff, Option.isSome, Option.isNone, cond_true, cond_false, Nat.reduceBEq, Nat.reduceAdd, Nat.reduceMul, binInt, binStr, eq_self, reduceCtorEq, unAV, lenAV, convAV, sliceAV, bound, isCon, AS.spent, liveAddr, offAddr, elemsOf, Nat.reduceLeDiff, nilCmp, putAt, Int.reduceEq, Int.reduceLT, Int.reduceLE, Int.reduceBEq, Int.reduceBNe, Int.reduceAdd, Int.reduceNeg, Int.reduceSub, Int.reduceMul, ilt_t, ilt_f, ile_t, ile_f, ieq_t, ieq_f, ine_t, ine_f, h0, h3, hx]
        exact ⟨s.length - (n + 1), by omega, n + 1, by omega, by omega, rfl, by omega⟩
      by_cases b35 : b.toNat = 35
      · have e : skipL false (b :: s.drop (n + 1)) = 1 + skipL true (s.drop (n + 1)) := by simp [skipL, b35]
        rw [e] at hc
        have hi : indexF 10 0 (s.drop n) = indexF 10 1 (s.drop (n + 1)) := by
          rw [hd]; simp only [indexF]; rw [decide_eq_false (by omega)]; rfl
        have hlen : (s.drop (n + 1)).length = s.length - (n + 1) := List.length_drop ..
        rcases skipL_true (s.drop (n + 1)) 1 with ⟨k1, k2, k3⟩ | ⟨j, k1, k2, k3⟩
        · rw [k2] at hi
          rw [k3] at hc
          simp (disch := omega) only [evA, argsV, argsOK, partsV, elemsV, optV, evOper, evOp, evAppend, IArg.eval, AS.putD, ↓reduceIte, Nat.reduceEqDiff, Option.isSome, Option.isNone, cond_true, cond_false, Nat.reduceBEq, Nat.reduceAdd, Nat.reduceMul, binInt, binStr, eq_self, reduceCtorEq, unAV, lenAV, convAV, sliceAV, bound, isCon, AS.spent, liveAddr, offAddr, elemsOf, Nat.reduceLeDiff, nilCmp, putAt, Int.reduceEq, Int.reduceLT, Int.reduceLE, Int.reduceBEq, Int.reduceBNe, Int.reduceAdd, Int.reduceNeg, Int.reduceSub, Int.reduceMul, ilt_t, ilt_f, ile_t, ile_f, ieq_t, ieq_f, ine_t, ine_f, h0, h3, hx, List.take_length, indexB_D, hi]
          omega
        · rw [k1] at hi
          rw [k3, List.drop_drop] at hc
          simp (disch := omega) only [evA, argsV, argsOK, partsV, elemsV, optV, evOper, evOp, evAppend, IArg.eval, AS.putD, ↓reduceIte, Nat.reduceEqDiff, Option.isSome, Option.isNone, cond_true, cond_false, Nat.reduceBEq, Nat.reduceAdd, Nat.reduceMul, binInt, binStr, eq_self, reduceCtorEq, unAV, lenAV, convAV, sliceAV, bound, isCon, AS.spent, liveAddr, offAddr, elemsOf, Nat.reduceLeDiff, nilCmp, putAt, Int.reduceEq, Int.reduceLT, Int.reduceLE, Int.reduceBEq, Int.reduceBNe, Int.reduceAdd, Int.reduceNeg, Int.reduceSub, Int.reduceMul, ilt_t, ilt_f, ile_t, ile_f, ieq_t, ieq_f, ine_t, ine_f, h0, h3, hx, List.take_length, indexB_D, hi]
          exact ⟨s.length - (n + (1 + j)), by omega, n + (1 + j), by omega, by omega, rfl, by rw [hc, show n + 1 + j = n + (1 + j) by omega]; omega⟩
      · have e : skipL false (b :: s.drop (n + 1)) = 0 := by simp [skipL, b32, b10, b35]
        rw [e] at hc
        simp (disch := omega) only [evA, argsV, argsOK, partsV, elemsV, optV, evOper, evOp, evAppend, IArg.eval, AS.putD, ↓reduceIte, Nat.reduceEqDiff, Option.isSome, Option.isNone, cond_true, cond_false, Nat.reduceBEq, Nat.reduceAdd, Nat.reduceMul, binInt, binStr, eq_self, reduceCtorEq, unAV, lenAV, convAV, sliceAV, bound, isCon, AS.spent, liveAddr, offAddr, elemsOf, Nat.reduceLeDiff, nilCmp, putAt, Int.reduceEq, Int.reduceLT, Int.reduceLE, Int.reduceBEq, Int.reduceBNe, Int.reduceAdd, Int.reduceNeg, Int.reduceSub, Int.reduceMul, ilt_t, ilt_f, ile_t, ile_f, ieq_t, ieq_f, ine_t, ine_f, h0, h3, hx]
        omega
    · have : n = s.length := by omega
      subst this
      rw [List.drop_length] at hc
      simp only [skipL] at hc
      simp (disch := omega) only [evA, argsV, argsOK, partsV, elemsV, optV, evOper, evOp, evAppend, IArg.eval, AS.putD, ↓reduceIte, Nat.reduceEqDiff, Option.isSome, Option.isNone, cond_true, cond_false, Nat.reduceBEq, Nat.reduceAdd, Nat.reduceMul, binInt, binStr, eq_self, reduceCtorEq, unAV, lenAV, convAV, sliceAV, bound, isCon, AS.spent, liveAddr, offAddr, elemsOf, Nat.reduceLeDiff, nilCmp, putAt, Int.reduceEq, Int.reduceLT, Int.reduceLE, Int.reduceBEq, Int.reduceBNe, Int.reduceAdd, Int.reduceNeg, Int.reduceSub, Int.reduceMul, ilt_t, ilt_f, ile_t, ile_f, ieq_t, ieq_f, ine_t, ine_f, h0, h3]
      omega
  · intro st hst
    obtain ⟨T, rfl, h3⟩ := hst.out
    simp (disch := omega) only [evA, argsV, argsOK, partsV, elemsV, optV, evOper, evOp, evAppend, IArg.eval, AS.putD, ↓reduceIte, Nat.reduceEqDiff, Option.isSome, Option.isNone, cond_true, cond_false, Nat.reduceBEq, Nat.reduceAdd, Nat.reduceMul, binInt, binStr, eq_self, reduceCtorEq, unAV, lenAV, convAV, sliceAV, bound, isCon, AS.spent, liveAddr, offAddr, elemsOf, Nat.reduceLeDiff, nilCmp, putAt, Int.reduceEq, Int.reduceLT, Int.reduceLE, Int.reduceBEq, Int.reduceBNe, Int.reduceAdd, Int.reduceNeg, Int.reduceSub, Int.reduceMul, h3]
  · intro st hst
    obtain ⟨T, rfl, h2⟩ := hst.out
    simp (disch := omega) only [evA, argsV, argsOK, partsV, elemsV, optV, evOper, evOp, evAppend, IArg.eval, AS.putD, ↓reduceIte, Nat.reduceEqDiff, Option.isSome, Option.isNone, cond_true, cond_false, Nat.reduceBEq, Nat.reduceAdd, Nat.reduceMul, binInt, binStr, eq_self, reduceCtorEq, unAV, lenAV, convAV, sliceAV, bound, isCon, AS.spent, liveAddr, offAddr, elemsOf, Nat.reduceLeDiff, nilCmp, putAt, Int.reduceEq, Int.reduceLT, Int.reduceLE, Int.reduceBEq, Int.reduceBNe, Int.reduceAdd, Int.reduceNeg, Int.reduceSub, Int.reduceMul, h2]
  · simp (disch := omega) only [evA, argsV, argsOK, partsV, elemsV, optV, evOper, evOp, evAppend, IArg.eval, AS.putD, ↓reduceIte, Nat.reduceEqDiff, Option.isSome, Option.isNone, cond_true, cond_false, Nat.reduceBEq, Nat.reduceAdd, Nat.reduceMul, binInt, binStr, eq_self, reduceCtorEq, unAV, lenAV, convAV, sliceAV, bound, isCon, AS.spent, liveAddr, offAddr, elemsOf, Nat.reduceLeDiff, nilCmp, putAt, Int.reduceEq, Int.reduceLT, Int.reduceLE, Int.reduceBEq, Int.reduceBNe, Int.reduceAdd, Int.reduceNeg, Int.reduceSub, Int.reduceMul]
    exact ⟨0, by omega, by omega, by omega, by simp⟩

end Go.Proofs.YtgdcfgpddgedkaaDoor

