/-
  Equations of functions, 9: the reference's Print.
-/
import Derived.Test.YtgdcfgpddgedkaaDoorE8
set_option linter.unusedSimpArgs false
set_option linter.unusedVariables false
namespace Go.Proofs.YtgdcfgpddgedkaaDoor
open Go Go.Abs Go.Proofs

def dig (n : Int) : Str := [UInt8.ofNat (48 + n).toNat]

theorem digit1_D (n : Int) (H : AHeap) (h0 : 0 ≤ n) (h9 : n ≤ 9) : callD A 26 [.int .i64 n] H = some (.str (dig n), none) := by
  refine callD_W (fn := ir26) rfl rfl rfl ?_
  unfold ir26
  simp (disch := omega) only [evA, argsV, argsOK, partsV, elemsV, optV, evOper, evOp, evAppend, IArg.eval, AS.putD, ↓reduceIte, Nat.reduceEqDiff, Option.isSome, Option.isNone, cond_true, cond_false, Nat.reduceBEq, Nat.reduceAdd, Nat.reduceMul, binInt, binStr, eq_self, reduceCtorEq, unAV, lenAV, convAV, sliceAV, bound, isCon, AS.spent, liveAddr, offAddr, elemsOf, Nat.reduceLeDiff, nilCmp, putAt, Int.reduceEq, Int.reduceLT, Int.reduceLE, Int.reduceBEq, Int.reduceBNe, Int.reduceAdd, Int.reduceNeg, Int.reduceSub, Int.reduceMul, wrapu8, rowsOK, byteRows, List.all_cons, List.all_nil, bytesOf, dig]

/-- The reviewers. -/
def whoR : Bool → List Int → Str
  | _, [] => []
  | true, w :: l => 32 :: dig w ++ whoR false l
  | false, w :: l => 44 :: 32 :: dig w ++ whoR false l

def printRule (r : Rule) : Str := r.what ++ (if r.mod == [] then [] else [32, 105, 110, 32] ++ r.mod) ++ [58, 32] ++ dig r.n ++ [32, 111, 102] ++ whoR true r.who ++ [10]

def printRules (l : List Rule) : Str := if validRules l then l.flatMap printRule else []

theorem what_len {s : Str} (h : isWhat s = true) : s.length ≤ 6 := by
  have hm : s ∈ whatsS := List.contains_iff_mem.1 h
  have : ∀ x ∈ whatsS, x.length ≤ 6 := by decide
  exact this s hm

theorem word_len {s : Str} (h : isWord s = true) : s.length ≤ 16 := by
  cases s with
  | nil => simp
  | cons b r =>
    simp only [isWord, Bool.and_eq_true, decide_eq_true_eq] at h
    obtain ⟨⟨hk, _⟩, ht⟩ := h
    rw [← ht]
    simp only [tokL]
    rw [if_pos (by omega)]
    split <;> omega

theorem valid_facts {r : Rule} (h : validRule r = true) : r.what.length ≤ 6 ∧ r.mod.length ≤ 16 ∧ 1 ≤ r.n ∧ r.n ≤ 8 ∧ r.who ≠ [] ∧ r.who.length ≤ 8 ∧ ∀ w ∈ r.who, 0 ≤ w ∧ w ≤ 7 := by
  simp only [validRule, Bool.and_eq_true, Bool.or_eq_true, beq_iff_eq, decide_eq_true_eq] at h
  obtain ⟨⟨⟨⟨h1, h2⟩, h3⟩, h4⟩, h5⟩ := h
  have hl := incr_len h5
  rw [if_pos (by omega)] at hl
  refine ⟨what_len h1, ?_, h3, by omega, fun e => by rw [e] at h4; simp at h4; omega, by omega, fun w hw => by have := incr_range h5 w hw; omega⟩
  rcases h2 with h2 | h2
  · rw [h2]; simp
  · exact word_len h2

theorem printR_inner (r : Rule) (l : List Rule) (i : Nat) (hg : l[i]? = some r) (hv : validRule r = true) (H : AHeap) (s0 : Str) (hs0 : s0.length ≤ 1000000) (T : AFrame) (g2 lo : Nat) (Q : IExit → AS → Prop) (h0 : T 0 = .slice (encRules l) false) (h4 : T 4 = .int .i64 i) (h5 : T 5 = .int .i64 0) (h3 : T 3 = .str s0)
    (hx : ∀ T' g', T' 0 = .slice (encRules l) false → T' 4 = .int .i64 i → T' 3 = .str (s0 ++ whoR true r.who) → Q (.exit 2) ⟨T', H, lo, g'⟩) :
    W A (ir8.body.sub [true, true, true, false, true, false, false, true, false, false, true, true, true, false, true, false]) ⟨T, H, lo, g2⟩ Q := by
  unfold ir8
  simp only [ICode.sub]
  obtain ⟨f1, f2, f3, f4, f5, f6, f7⟩ := valid_facts hv
  refine W_countx r.who.length 2 (fun k => HdG (fun T => ∃ s, T 0 = .slice (encRules l) false ∧ T 4 = .int .i64 i ∧ T 5 = .int .i64 k ∧ T 3 = .str s ∧ s.length ≤ s0.length + 3 * k ∧ s ++ whoR (decide (k = 0)) (r.who.drop k) = s0 ++ whoR true r.who) H lo)
    (HdG (fun T => T 0 = .slice (encRules l) false ∧ T 4 = .int .i64 i ∧ T 3 = .str (s0 ++ whoR true r.who)) H lo) (fun _ => False) ?_ ?_ (fun _ h => h.elim) 0 _ (by omega) ?_
  · rintro k st hk hst
    obtain ⟨T, g3, rfl, s, h0, h4, h5, h3, hs, hc⟩ := hst.out
    by_cases h : k < r.who.length
    · have hw := List.getElem?_eq_getElem h
      have hwr := f7 _ (List.getElem_mem h)
      rw [List.drop_eq_getElem_cons h] at hc
      generalize r.who[k] = w at hc hw hwr
      have hd1 : (dig w).length = 1 := rfl
      cases k with
      | zero =>
        simp (disch := omega) only [evA, argsV, argsOK, partsV, elemsV, optV, evOper, evOp, evAppend, IArg.eval, AS.putD, ↓reduceIte, Nat.reduceEqDiff, Option.isSome, Option.isNone, cond_true, cond_false, Nat.reduceBEq, Nat.reduceAdd, Nat.reduceMul, binInt, binStr, eq_self, reduceCtorEq, unAV, lenAV, convAV, sliceAV, bound, isCon, AS.spent, liveAddr, offAddr, elemsOf, Nat.reduceLeDiff, nilCmp, putAt, Int.reduceEq, Int.reduceLT, Int.reduceLE, Int.reduceBEq, Int.reduceBNe, Int.reduceAdd, Int.reduceNeg, Int.reduceSub, Int.reduceMul, ilt_t, ilt_f, ile_t, ile_f, ieq_t, ieq_f, ine_t, ine_f, h0, h4, h5, h3, rules_at hg, encRule, ints_len, ints_at hw, digit1_D, List.length_append, Int.natCast_zero]
        refine ⟨h, s ++ [32] ++ dig w, rfl, by simp [hd1]; omega, ?_⟩
        rw [← hc]; simp [whoR]
      | succ k =>
        simp (disch := omega) only [evA, argsV, argsOK, partsV, elemsV, optV, evOper, evOp, evAppend, IArg.eval, AS.putD, ↓reduceIte, Nat.reduceEqDiff, Option.isSome, Option.isNone, cond_true, cond_false, Nat.reduceBEq, Nat.reduceAdd, Nat.reduceMul, binInt, binStr, eq_self, reduceCtorEq, unAV, lenAV, convAV, sliceAV, bound, isCon, AS.spent, liveAddr, offAddr, elemsOf, Nat.reduceLeDiff, nilCmp, putAt, Int.reduceEq, Int.reduceLT, Int.reduceLE, Int.reduceBEq, Int.reduceBNe, Int.reduceAdd, Int.reduceNeg, Int.reduceSub, Int.reduceMul, ilt_t, ilt_f, ile_t, ile_f, ieq_t, ieq_f, ine_t, ine_f, h0, h4, h5, h3, rules_at hg, encRule, ints_len, ints_at hw, digit1_D, List.length_append]
        refine ⟨h, s ++ [44] ++ [32] ++ dig w, rfl, by simp [hd1]; omega, ?_⟩
        rw [← hc]; simp [whoR]
    · have : k = r.who.length := by omega
      subst this
      rw [List.drop_length] at hc
      simp (disch := omega) only [evA, argsV, argsOK, partsV, elemsV, optV, evOper, evOp, evAppend, IArg.eval, AS.putD, ↓reduceIte, Nat.reduceEqDiff, Option.isSome, Option.isNone, cond_true, cond_false, Nat.reduceBEq, Nat.reduceAdd, Nat.reduceMul, binInt, binStr, eq_self, reduceCtorEq, unAV, lenAV, convAV, sliceAV, bound, isCon, AS.spent, liveAddr, offAddr, elemsOf, Nat.reduceLeDiff, nilCmp, putAt, Int.reduceEq, Int.reduceLT, Int.reduceLE, Int.reduceBEq, Int.reduceBNe, Int.reduceAdd, Int.reduceNeg, Int.reduceSub, Int.reduceMul, ilt_t, ilt_f, ile_t, ile_f, ieq_t, ieq_f, ine_t, ine_f, h0, h4, h5, h3, rules_at hg, encRule, ints_len]
      rw [← hc]; cases (decide (r.who.length = 0)) <;> simp [whoR]
  · intro st hst
    obtain ⟨T, g, rfl, h0, h4, h3⟩ := hst.out
    exact hx _ _ h0 h4 h3
  · simp (disch := omega) only [evA, argsV, argsOK, partsV, elemsV, optV, evOper, evOp, evAppend, IArg.eval, AS.putD, ↓reduceIte, Nat.reduceEqDiff, Option.isSome, Option.isNone, cond_true, cond_false, Nat.reduceBEq, Nat.reduceAdd, Nat.reduceMul, binInt, binStr, eq_self, reduceCtorEq, unAV, lenAV, convAV, sliceAV, bound, isCon, AS.spent, liveAddr, offAddr, elemsOf, Nat.reduceLeDiff, nilCmp, putAt, Int.reduceEq, Int.reduceLT, Int.reduceLE, Int.reduceBEq, Int.reduceBNe, Int.reduceAdd, Int.reduceNeg, Int.reduceSub, Int.reduceMul, h0, h4, h5, h3, Int.natCast_zero]
    exact ⟨s0, rfl, by omega, by simp⟩

theorem printR_D (l : List Rule) (H : AHeap) (hl : l.length ≤ 4611686018427387904) (hr : ∀ r ∈ l, RuleOK r) : callD A 8 [.slice (encRules l) false] H = some (.str (printRules l), none) := by
  refine callD_W (fn := ir8) rfl rfl rfl ?_
  unfold ir8 printRules
  cases hv : validRules l with
  | false => simp (disch := omega) only [evA, argsV, argsOK, partsV, elemsV, optV, evOper, evOp, evAppend, IArg.eval, AS.putD, ↓reduceIte, Nat.reduceEqDiff, Option.isSome, Option.isNone, cond_true, cond_false, Nat.reduceBEq, Nat.reduceAdd, Nat.reduceMul, binInt, binStr, eq_self, reduceCtorEq, unAV, lenAV, convAV, sliceAV, bound, isCon, AS.spent, liveAddr, offAddr, elemsOf, Nat.reduceLeDiff, nilCmp, putAt, Int.reduceEq, Int.reduceLT, Int.reduceLE, Int.reduceBEq, Int.reduceBNe, Int.reduceAdd, Int.reduceNeg, Int.reduceSub, Int.reduceMul, validR_D l H hl hr, hv, Bool.false_eq_true, if_false]
  | true =>
  have hall : ∀ r ∈ l, validRule r = true := by
    simp only [validRules, Bool.and_eq_true, List.all_eq_true] at hv
    exact hv.1
  have h64 : l.length ≤ 64 := by
    simp only [validRules, Bool.and_eq_true, decide_eq_true_eq] at hv
    exact hv.2
  simp (disch := omega) only [evA, argsV, argsOK, partsV, elemsV, optV, evOper, evOp, evAppend, IArg.eval, AS.putD, ↓reduceIte, Nat.reduceEqDiff, Option.isSome, Option.isNone, cond_true, cond_false, Nat.reduceBEq, Nat.reduceAdd, Nat.reduceMul, binInt, binStr, eq_self, reduceCtorEq, unAV, lenAV, convAV, sliceAV, bound, isCon, AS.spent, liveAddr, offAddr, elemsOf, Nat.reduceLeDiff, nilCmp, putAt, Int.reduceEq, Int.reduceLT, Int.reduceLE, Int.reduceBEq, Int.reduceBNe, Int.reduceAdd, Int.reduceNeg, Int.reduceSub, Int.reduceMul, validR_D l H hl hr, hv, if_true]
  refine W_countx l.length 0 (fun i => HdG (fun T => ∃ s, T 0 = .slice (encRules l) false ∧ T 4 = .int .i64 i ∧ T 3 = .str s ∧ s.length ≤ 100 * i ∧ s ++ (l.drop i).flatMap printRule = l.flatMap printRule) H H.length)
    (HdG (fun T => T 3 = .str (l.flatMap printRule)) H H.length) (fun _ => False) ?_ ?_ (fun _ h => h.elim) 0 _ (by omega) ?_
  · rintro i st hi hst
    obtain ⟨T, g3, rfl, s, h0, h4, h3, hs, hc⟩ := hst.out
    by_cases h : i < l.length
    · have hg := List.getElem?_eq_getElem h
      have hv1 := hall _ (List.getElem_mem h)
      rw [List.drop_eq_getElem_cons h, List.flatMap_cons] at hc
      generalize l[i] = r at hc hg hv1
      obtain ⟨f1, f2, f3, f4, f5, f6, f7⟩ := valid_facts hv1
      have hd1 : (dig r.n).length = 1 := rfl
      have hwl : ∀ b, (whoR b r.who).length ≤ 3 * r.who.length := by
        have : ∀ (l : List Int) b, (whoR b l).length ≤ 3 * l.length := by
          intro l
          induction l with
          | nil => intro b; cases b <;> simp [whoR]
          | cons w l ih => intro b; have := ih false; cases b <;> simp [whoR, dig] <;> omega
        exact this r.who
      have hwl' := hwl true
      cases hm : (r.mod == []) with
      | true =>
        simp (disch := omega) only [evA, argsV, argsOK, partsV, elemsV, optV, evOper, evOp, evAppend, IArg.eval, AS.putD, ↓reduceIte, Nat.reduceEqDiff, Option.isSome, Option.isNone, cond_true, cond_false, Nat.reduceBEq, Nat.reduceAdd, Nat.reduceMul, binInt, binStr, eq_self, reduceCtorEq, unAV, lenAV, convAV, sliceAV, bound, isCon, AS.spent, liveAddr, offAddr, elemsOf, Nat.reduceLeDiff, nilCmp, putAt, Int.reduceEq, Int.reduceLT, Int.reduceLE, Int.reduceBEq, Int.reduceBNe, Int.reduceAdd, Int.reduceNeg, Int.reduceSub, Int.reduceMul, ilt_t, ilt_f, ile_t, ile_f, ieq_t, ieq_f, ine_t, ine_f, h0, h4, h3, rules_len, rules_at hg, encRule, hm, digit1_D, List.length_append]
        refine printR_inner r l i hg hv1 H (s ++ r.what ++ [58, 32] ++ dig r.n ++ [32, 111, 102]) (by simp [hd1]; omega) _ _ _ _ ?_ ?_ ?_ ?_ ?_
        case refine_5 =>
          intro T' g' h0 h4 h3
          simp (disch := omega) only [evA, argsV, argsOK, partsV, elemsV, optV, evOper, evOp, evAppend, IArg.eval, AS.putD, ↓reduceIte, Nat.reduceEqDiff, Option.isSome, Option.isNone, cond_true, cond_false, Nat.reduceBEq, Nat.reduceAdd, Nat.reduceMul, binInt, binStr, eq_self, reduceCtorEq, unAV, lenAV, convAV, sliceAV, bound, isCon, AS.spent, liveAddr, offAddr, elemsOf, Nat.reduceLeDiff, nilCmp, putAt, Int.reduceEq, Int.reduceLT, Int.reduceLE, Int.reduceBEq, Int.reduceBNe, Int.reduceAdd, Int.reduceNeg, Int.reduceSub, Int.reduceMul, ilt_t, ilt_f, ile_t, ile_f, ieq_t, ieq_f, ine_t, ine_f, h0, h4, h3, List.length_append, hd1]
          refine ⟨h, _, rfl, by simp [hd1]; omega, ?_⟩
          rw [← hc]; simp [printRule, hm]
        all_goals simp (disch := omega) only [evA, argsV, argsOK, partsV, elemsV, optV, evOper, evOp, evAppend, IArg.eval, AS.putD, ↓reduceIte, Nat.reduceEqDiff, Option.isSome, Option.isNone, cond_true, cond_false, Nat.reduceBEq, Nat.reduceAdd, Nat.reduceMul, binInt, binStr, eq_self, reduceCtorEq, unAV, lenAV, convAV, sliceAV, bound, isCon, AS.spent, liveAddr, offAddr, elemsOf, Nat.reduceLeDiff, nilCmp, putAt, Int.reduceEq, Int.reduceLT, Int.reduceLE, Int.reduceBEq, Int.reduceBNe, Int.reduceAdd, Int.reduceNeg, Int.reduceSub, Int.reduceMul, h0, h4, h3]
      | false =>
        simp (disch := omega) only [evA, argsV, argsOK, partsV, elemsV, optV, evOper, evOp, evAppend, IArg.eval, AS.putD, ↓reduceIte, Nat.reduceEqDiff, Option.isSome, Option.isNone, cond_true, cond_false, Nat.reduceBEq, Nat.reduceAdd, Nat.reduceMul, binInt, binStr, eq_self, reduceCtorEq, unAV, lenAV, convAV, sliceAV, bound, isCon, AS.spent, liveAddr, offAddr, elemsOf, Nat.reduceLeDiff, nilCmp, putAt, Int.reduceEq, Int.reduceLT, Int.reduceLE, Int.reduceBEq, Int.reduceBNe, Int.reduceAdd, Int.reduceNeg, Int.reduceSub, Int.reduceMul, ilt_t, ilt_f, ile_t, ile_f, ieq_t, ieq_f, ine_t, ine_f, h0, h4, h3, rules_len, rules_at hg, encRule, hm, digit1_D, List.length_append]
        refine printR_inner r l i hg hv1 H (s ++ r.what ++ [32, 105, 110, 32] ++ r.mod ++ [58, 32] ++ dig r.n ++ [32, 111, 102]) (by simp [hd1]; omega) _ _ _ _ ?_ ?_ ?_ ?_ ?_
        case refine_5 =>
          intro T' g' h0 h4 h3
          simp (disch := omega) only [evA, argsV, argsOK, partsV, elemsV, optV, evOper, evOp, evAppend, IArg.eval, AS.putD, ↓reduceIte, Nat.reduceEqDiff, Option.isSome, Option.isNone, cond_true, cond_false, Nat.reduceBEq, Nat.reduceAdd, Nat.reduceMul, binInt, binStr, eq_self, reduceCtorEq, unAV, lenAV, convAV, sliceAV, bound, isCon, AS.spent, liveAddr, offAddr, elemsOf, Nat.reduceLeDiff, nilCmp, putAt, Int.reduceEq, Int.reduceLT, Int.reduceLE, Int.reduceBEq, Int.reduceBNe, Int.reduceAdd, Int.reduceNeg, Int.reduceSub, Int.reduceMul, ilt_t, ilt_f, ile_t, ile_f, ieq_t, ieq_f, ine_t, ine_f, h0, h4, h3, List.length_append, hd1]
          refine ⟨h, _, rfl, by simp [hd1]; omega, ?_⟩
          rw [← hc]; simp [printRule, hm]
        all_goals simp (disch := omega) only [evA, argsV, argsOK, partsV, elemsV, optV, evOper, evOp, evAppend, IArg.eval, AS.putD, ↓reduceIte, Nat.reduceEqDiff, Option.isSome, Option.isNone, cond_true, cond_false, Nat.reduceBEq, Nat.reduceAdd, Nat.reduceMul, binInt, binStr, eq_self, reduceCtorEq, unAV, lenAV, convAV, sliceAV, bound, isCon, AS.spent, liveAddr, offAddr, elemsOf, Nat.reduceLeDiff, nilCmp, putAt, Int.reduceEq, Int.reduceLT, Int.reduceLE, Int.reduceBEq, Int.reduceBNe, Int.reduceAdd, Int.reduceNeg, Int.reduceSub, Int.reduceMul, h0, h4, h3]
    · have : i = l.length := by omega
      subst this
      rw [List.drop_length] at hc
      simp (disch := omega) only [evA, argsV, argsOK, partsV, elemsV, optV, evOper, evOp, evAppend, IArg.eval, AS.putD, ↓reduceIte, Nat.reduceEqDiff, Option.isSome, Option.isNone, cond_true, cond_false, Nat.reduceBEq, Nat.reduceAdd, Nat.reduceMul, binInt, binStr, eq_self, reduceCtorEq, unAV, lenAV, convAV, sliceAV, bound, isCon, AS.spent, liveAddr, offAddr, elemsOf, Nat.reduceLeDiff, nilCmp, putAt, Int.reduceEq, Int.reduceLT, Int.reduceLE, Int.reduceBEq, Int.reduceBNe, Int.reduceAdd, Int.reduceNeg, Int.reduceSub, Int.reduceMul, ilt_t, ilt_f, ile_t, ile_f, ieq_t, ieq_f, ine_t, ine_f, h0, h4, h3, rules_len]
      rw [← hc]; simp
  · intro st hst
    obtain ⟨T, g, rfl, h3⟩ := hst.out
    simp (disch := omega) only [evA, argsV, argsOK, partsV, elemsV, optV, evOper, evOp, evAppend, IArg.eval, AS.putD, ↓reduceIte, Nat.reduceEqDiff, Option.isSome, Option.isNone, cond_true, cond_false, Nat.reduceBEq, Nat.reduceAdd, Nat.reduceMul, binInt, binStr, eq_self, reduceCtorEq, unAV, lenAV, convAV, sliceAV, bound, isCon, AS.spent, liveAddr, offAddr, elemsOf, Nat.reduceLeDiff, nilCmp, putAt, Int.reduceEq, Int.reduceLT, Int.reduceLE, Int.reduceBEq, Int.reduceBNe, Int.reduceAdd, Int.reduceNeg, Int.reduceSub, Int.reduceMul, h3]
  · simp (disch := omega) only [evA, argsV, argsOK, partsV, elemsV, optV, evOper, evOp, evAppend, IArg.eval, AS.putD, ↓reduceIte, Nat.reduceEqDiff, Option.isSome, Option.isNone, cond_true, cond_false, Nat.reduceBEq, Nat.reduceAdd, Nat.reduceMul, binInt, binStr, eq_self, reduceCtorEq, unAV, lenAV, convAV, sliceAV, bound, isCon, AS.spent, liveAddr, offAddr, elemsOf, Nat.reduceLeDiff, nilCmp, putAt, Int.reduceEq, Int.reduceLT, Int.reduceLE, Int.reduceBEq, Int.reduceBNe, Int.reduceAdd, Int.reduceNeg, Int.reduceSub, Int.reduceMul, Int.natCast_zero]
    exact ⟨[], rfl, by simp, by simp⟩

end Go.Proofs.YtgdcfgpddgedkaaDoor
