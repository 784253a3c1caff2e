/-
  Equations of functions, 4: the program's tokens and words.
-/
import Derived.Test.YtgdcfgpddgedkaaDoorE3
set_option linter.unusedSimpArgs false
set_option linter.unusedVariables false
namespace Go.Proofs.YtgdcfgpddgedkaaDoor
open Go Go.Abs Go.Proofs

theorem glob0 : A.glob 0 = kindsS.map .str := rfl
theorem glob1 : A.glob 1 = keywordsS.map .str := rfl
theorem glob2 : A.glob 2 = [.func (.func 52) [] [], .func (.func 108) [] [], .func (.func 109) [] [], .func (.func 109) [] []] := rfl
theorem glob3 : A.glob 3 = signsS.map .str := rfl

theorem kind_letter {c : UInt8} : isLetter c = decide (kindOf c = 1) := by
  unfold kindOf
  cases h : isLetter c <;> cases h2 : isDigit c <;> simp

theorem kind_digit {c : UInt8} : isDigit c = decide (kindOf c = 2) := by
  unfold kindOf
  cases h : isLetter c <;> cases h2 : isDigit c <;> simp
  simp only [isLetter, isDigit, Bool.or_eq_true, Bool.and_eq_true, decide_eq_true_eq] at h h2
  omega

/-- The length of the sign that a text begins with. -/
def signLen (s : Str) : List Str → Nat
  | [] => 0
  | x :: r => if x.isPrefixOf s then x.length else signLen s r

theorem signLen_ones {b : UInt8} {r : Str} : ∀ l : Str, signLen (b :: r) (l.map fun x => [x]) = if l.contains b = true then 1 else 0
  | [] => rfl
  | x :: l => by
    simp only [List.map_cons, signLen, List.isPrefixOf, List.isPrefixOf_nil_left, Bool.and_true, List.contains_cons, Bool.or_eq_true, signLen_ones l, List.length_cons, List.length_nil]
    by_cases h : x = b
    · subst h; simp
    · have h1 : (x == b) = false := by simpa using h
      have h2 : (b == x) = false := by simpa using fun e => h e.symm
      simp [h1, h2]

theorem signLen_tok {b : UInt8} {r : Str} (h : kindOf b = 0) : signLen (b :: r) signsS = tokL (b :: r) := by
  simp only [tokL]
  rw [if_neg (by omega)]
  have hs1 : isSign [b] = signs1.contains b := by unfold isSign; simp
  rw [hs1]
  have two : (1 ≤ r.length ∧ isSign ((b :: r).take 2) = true) ↔ ([61, 61].isPrefixOf (b :: r) = true ∨ [45, 62].isPrefixOf (b :: r) = true) := by
    cases r with
    | nil => simp [List.isPrefixOf]
    | cons c r' =>
      simp only [List.take_succ_cons, List.take_zero, isSign, List.isPrefixOf, List.length_cons, List.length_nil]
      simp
      constructor
      · rintro (⟨rfl, rfl⟩ | ⟨rfl, rfl⟩) <;> simp
      · rintro (⟨rfl, rfl⟩ | ⟨rfl, rfl⟩) <;> simp
  have e : signsS = [61, 61] :: [45, 62] :: (signs1.map fun x => [x]) := rfl
  rw [e]
  simp only [signLen, signLen_ones]
  by_cases h2 : [61, 61].isPrefixOf (b :: r) = true
  · rw [if_pos h2, if_pos (two.2 (.inl h2))]; rfl
  rw [if_neg h2]
  by_cases h3 : [45, 62].isPrefixOf (b :: r) = true
  · rw [if_pos h3, if_pos (two.2 (.inr h3))]; rfl
  rw [if_neg h3, if_neg (fun h => (two.1 h).elim h2 h3)]

theorem token_D (s : Str) (H : AHeap) (h0' : s ≠ []) (hs : s.length ≤ 4611686018427387904) : callD A 44 [.str s] H = some (.int .i64 (tokL s), none) := by
  refine callD_W (fn := ir44) rfl rfl rfl ?_
  unfold ir44
  obtain ⟨b, r, hs'⟩ : ∃ b r, s = b :: r := by cases s with | nil => exact absurd rfl h0' | cons b r => exact ⟨b, r, rfl⟩
  have hb : s[0]? = some b := by rw [hs']; rfl
  have hd : s.drop 1 = r := by rw [hs']; rfl
  simp (disch := omega) only [evA, argsV, argsOK, partsV, elemsV, optV, evOper, evOp, evAppend, IArg.eval, AS.putD, ↓reduceIte, Nat.reduceEqDiff, Option.isSome, Option.isNone, cond_true, cond_false, Nat.reduceBEq, Nat.reduceAdd, Nat.reduceMul, binInt, binStr, eq_self, reduceCtorEq, unAV, lenAV, convAV, sliceAV, bound, isCon, AS.spent, liveAddr, offAddr, elemsOf, Nat.reduceLeDiff, nilCmp, putAt, Int.reduceEq, Int.reduceLT, Int.reduceLE, Int.reduceBEq, Int.reduceBNe, Int.reduceAdd, Int.reduceNeg, Int.reduceSub, Int.reduceMul, glob2]
  cases hl : isLetter b with
  | true =>
    have hk : kindOf b = 1 := by rw [kind_letter] at hl; simpa using hl
    refine W_unroll ?_
    simp (disch := omega) only [evA, argsV, argsOK, partsV, elemsV, optV, evOper, evOp, evAppend, IArg.eval, AS.putD, ↓reduceIte, Nat.reduceEqDiff, Option.isSome, Option.isNone, cond_true, cond_false, Nat.reduceBEq, Nat.reduceAdd, Nat.reduceMul, binInt, binStr, eq_self, reduceCtorEq, unAV, lenAV, convAV, sliceAV, bound, isCon, AS.spent, liveAddr, offAddr, elemsOf, Nat.reduceLeDiff, nilCmp, putAt, Int.reduceEq, Int.reduceLT, Int.reduceLE, Int.reduceBEq, Int.reduceBNe, Int.reduceAdd, Int.reduceNeg, Int.reduceSub, Int.reduceMul, storeAV, putAt, hb, letter_D, hl]
    refine W_countx s.length 2 (fun i => Hd (fun T => T 0 = .str s ∧ T 4 = .lbox 0 [.func (.func 52) [] [], .func (.func 108) [] []] ∧ T 5 = .int .i64 i ∧ 1 ≤ i ∧ 1 + wordRun 1 r = i + wordRun 1 (s.drop i)) H H.length 1)
      (Hd (fun T => T 5 = .int .i64 ((1 + wordRun 1 r : Nat) : Int)) H H.length 1) (fun _ => False) ?_ ?_ (fun _ h => h.elim) 1 _ (by rw [hs']; simp) ?_
    · rintro i st hi hst
      obtain ⟨T, rfl, h0, h4, h5, hi1, hc⟩ := hst.out
      by_cases h : i < s.length
      · rw [List.drop_eq_getElem_cons h] at hc
        have hi2 : s[i]? = some s[i] := List.getElem?_eq_getElem h
        generalize s[i] = c at hc hi2
        simp only [wordRun, and_true] at hc
        have he : (isLetter c || isDigit c) = decide (kindOf c = 2 ∨ kindOf c = 1) := by rw [kind_letter, kind_digit]; by_cases e1 : kindOf c = 1 <;> by_cases e2 : kindOf c = 2 <;> simp [e1, e2]
        by_cases he2 : kindOf c = 2 ∨ kindOf c = 1
        · rw [if_pos he2] at hc
          simp (disch := omega) only [evA, argsV, argsOK, partsV, elemsV, optV, evOper, evOp, evAppend, IArg.eval, AS.putD, ↓reduceIte, Nat.reduceEqDiff, Option.isSome, Option.isNone, cond_true, cond_false, Nat.reduceBEq, Nat.reduceAdd, Nat.reduceMul, binInt, binStr, eq_self, reduceCtorEq, unAV, lenAV, convAV, sliceAV, bound, isCon, AS.spent, liveAddr, offAddr, elemsOf, Nat.reduceLeDiff, nilCmp, putAt, Int.reduceEq, Int.reduceLT, Int.reduceLE, Int.reduceBEq, Int.reduceBNe, Int.reduceAdd, Int.reduceNeg, Int.reduceSub, Int.reduceMul, ilt_t, ilt_f, ile_t, ile_f, ieq_t, ieq_f, ine_t, ine_f, h0, h4, h5, hi2, either_D, he, he2]
          omega
        · rw [if_neg he2] at hc
          simp (disch := omega) only [evA, argsV, argsOK, partsV, elemsV, optV, evOper, evOp, evAppend, IArg.eval, AS.putD, ↓reduceIte, Nat.reduceEqDiff, Option.isSome, Option.isNone, cond_true, cond_false, Nat.reduceBEq, Nat.reduceAdd, Nat.reduceMul, binInt, binStr, eq_self, reduceCtorEq, unAV, lenAV, convAV, sliceAV, bound, isCon, AS.spent, liveAddr, offAddr, elemsOf, Nat.reduceLeDiff, nilCmp, putAt, Int.reduceEq, Int.reduceLT, Int.reduceLE, Int.reduceBEq, Int.reduceBNe, Int.reduceAdd, Int.reduceNeg, Int.reduceSub, Int.reduceMul, ilt_t, ilt_f, ile_t, ile_f, ieq_t, ieq_f, ine_t, ine_f, h0, h4, h5, hi2, either_D, he, he2]
          omega
      · have : i = s.length := by omega
        subst this
        rw [List.drop_length] at hc
        simp only [wordRun] at hc
        simp (disch := omega) only [evA, argsV, argsOK, partsV, elemsV, optV, evOper, evOp, evAppend, IArg.eval, AS.putD, ↓reduceIte, Nat.reduceEqDiff, Option.isSome, Option.isNone, cond_true, cond_false, Nat.reduceBEq, Nat.reduceAdd, Nat.reduceMul, binInt, binStr, eq_self, reduceCtorEq, unAV, lenAV, convAV, sliceAV, bound, isCon, AS.spent, liveAddr, offAddr, elemsOf, Nat.reduceLeDiff, nilCmp, putAt, Int.reduceEq, Int.reduceLT, Int.reduceLE, Int.reduceBEq, Int.reduceBNe, Int.reduceAdd, Int.reduceNeg, Int.reduceSub, Int.reduceMul, ilt_t, ilt_f, ile_t, ile_f, ieq_t, ieq_f, ine_t, ine_f, h0, h4, h5]
        omega
    · intro st hst
      obtain ⟨T, rfl, h5⟩ := hst.out
      have ht : tokL s = if 16 < 1 + wordRun 1 r then 0 else 1 + wordRun 1 r := by rw [hs']; simp only [tokL, hk, if_pos (show (0 : Int) < 1 by omega)]
      by_cases h16 : 16 < 1 + wordRun 1 r
      · rw [if_pos h16] at ht
        simp (disch := omega) only [evA, argsV, argsOK, partsV, elemsV, optV, evOper, evOp, evAppend, IArg.eval, AS.putD, ↓reduceIte, Nat.reduceEqDiff, Option.isSome, Option.isNone, cond_true, cond_false, Nat.reduceBEq, Nat.reduceAdd, Nat.reduceMul, binInt, binStr, eq_self, reduceCtorEq, unAV, lenAV, convAV, sliceAV, bound, isCon, AS.spent, liveAddr, offAddr, elemsOf, Nat.reduceLeDiff, nilCmp, putAt, Int.reduceEq, Int.reduceLT, Int.reduceLE, Int.reduceBEq, Int.reduceBNe, Int.reduceAdd, Int.reduceNeg, Int.reduceSub, Int.reduceMul, ilt_t, ilt_f, ile_t, ile_f, ieq_t, ieq_f, ine_t, ine_f, h5, ht]
      · rw [if_neg h16] at ht
        simp (disch := omega) only [evA, argsV, argsOK, partsV, elemsV, optV, evOper, evOp, evAppend, IArg.eval, AS.putD, ↓reduceIte, Nat.reduceEqDiff, Option.isSome, Option.isNone, cond_true, cond_false, Nat.reduceBEq, Nat.reduceAdd, Nat.reduceMul, binInt, binStr, eq_self, reduceCtorEq, unAV, lenAV, convAV, sliceAV, bound, isCon, AS.spent, liveAddr, offAddr, elemsOf, Nat.reduceLeDiff, nilCmp, putAt, Int.reduceEq, Int.reduceLT, Int.reduceLE, Int.reduceBEq, Int.reduceBNe, Int.reduceAdd, Int.reduceNeg, Int.reduceSub, Int.reduceMul, ilt_t, ilt_f, ile_t, ile_f, ieq_t, ieq_f, ine_t, ine_f, h5, ht]
    · simp (disch := omega) only [evA, argsV, argsOK, partsV, elemsV, optV, evOper, evOp, evAppend, IArg.eval, AS.putD, ↓reduceIte, Nat.reduceEqDiff, Option.isSome, Option.isNone, cond_true, cond_false, Nat.reduceBEq, Nat.reduceAdd, Nat.reduceMul, binInt, binStr, eq_self, reduceCtorEq, unAV, lenAV, convAV, sliceAV, bound, isCon, AS.spent, liveAddr, offAddr, elemsOf, Nat.reduceLeDiff, nilCmp, putAt, Int.reduceEq, Int.reduceLT, Int.reduceLE, Int.reduceBEq, Int.reduceBNe, Int.reduceAdd, Int.reduceNeg, Int.reduceSub, Int.reduceMul, hd]
  | false =>
    refine W_unroll ?_
    simp (disch := omega) only [evA, argsV, argsOK, partsV, elemsV, optV, evOper, evOp, evAppend, IArg.eval, AS.putD, ↓reduceIte, Nat.reduceEqDiff, Option.isSome, Option.isNone, cond_true, cond_false, Nat.reduceBEq, Nat.reduceAdd, Nat.reduceMul, binInt, binStr, eq_self, reduceCtorEq, unAV, lenAV, convAV, sliceAV, bound, isCon, AS.spent, liveAddr, offAddr, elemsOf, Nat.reduceLeDiff, nilCmp, putAt, Int.reduceEq, Int.reduceLT, Int.reduceLE, Int.reduceBEq, Int.reduceBNe, Int.reduceAdd, Int.reduceNeg, Int.reduceSub, Int.reduceMul, storeAV, putAt, hb, letter_D, hl]
    refine W_unroll ?_
    cases hl2 : isDigit b with
    | true =>
      have hk : kindOf b = 2 := by rw [kind_digit] at hl2; simpa using hl2
      simp (disch := omega) only [evA, argsV, argsOK, partsV, elemsV, optV, evOper, evOp, evAppend, IArg.eval, AS.putD, ↓reduceIte, Nat.reduceEqDiff, Option.isSome, Option.isNone, cond_true, cond_false, Nat.reduceBEq, Nat.reduceAdd, Nat.reduceMul, binInt, binStr, eq_self, reduceCtorEq, unAV, lenAV, convAV, sliceAV, bound, isCon, AS.spent, liveAddr, offAddr, elemsOf, Nat.reduceLeDiff, nilCmp, putAt, Int.reduceEq, Int.reduceLT, Int.reduceLE, Int.reduceBEq, Int.reduceBNe, Int.reduceAdd, Int.reduceNeg, Int.reduceSub, Int.reduceMul, storeAV, putAt, hb, digit_D, hl2]
      refine W_countx s.length 2 (fun i => Hd (fun T => T 0 = .str s ∧ T 4 = .lbox 1 [.func (.func 109) [] [], .func (.func 109) [] []] ∧ T 5 = .int .i64 i ∧ 1 ≤ i ∧ 1 + wordRun 2 r = i + wordRun 2 (s.drop i)) H H.length 2)
        (Hd (fun T => T 5 = .int .i64 ((1 + wordRun 2 r : Nat) : Int)) H H.length 2) (fun _ => False) ?_ ?_ (fun _ h => h.elim) 1 _ (by rw [hs']; simp) ?_
      · rintro i st hi hst
        obtain ⟨T, rfl, h0, h4, h5, hi1, hc⟩ := hst.out
        by_cases h : i < s.length
        · rw [List.drop_eq_getElem_cons h] at hc
          have hi2 : s[i]? = some s[i] := List.getElem?_eq_getElem h
          generalize s[i] = c at hc hi2
          simp only [wordRun, show ((2 : Int) = 1) = False by simp, and_false, or_false] at hc
          have he : isDigit c = decide (kindOf c = 2) := kind_digit
          by_cases he2 : kindOf c = 2
          · rw [if_pos he2] at hc
            simp (disch := omega) only [evA, argsV, argsOK, partsV, elemsV, optV, evOper, evOp, evAppend, IArg.eval, AS.putD, ↓reduceIte, Nat.reduceEqDiff, Option.isSome, Option.isNone, cond_true, cond_false, Nat.reduceBEq, Nat.reduceAdd, Nat.reduceMul, binInt, binStr, eq_self, reduceCtorEq, unAV, lenAV, convAV, sliceAV, bound, isCon, AS.spent, liveAddr, offAddr, elemsOf, Nat.reduceLeDiff, nilCmp, putAt, Int.reduceEq, Int.reduceLT, Int.reduceLE, Int.reduceBEq, Int.reduceBNe, Int.reduceAdd, Int.reduceNeg, Int.reduceSub, Int.reduceMul, ilt_t, ilt_f, ile_t, ile_f, ieq_t, ieq_f, ine_t, ine_f, h0, h4, h5, hi2, digit_D, he, he2]
            omega
          · rw [if_neg he2] at hc
            simp (disch := omega) only [evA, argsV, argsOK, partsV, elemsV, optV, evOper, evOp, evAppend, IArg.eval, AS.putD, ↓reduceIte, Nat.reduceEqDiff, Option.isSome, Option.isNone, cond_true, cond_false, Nat.reduceBEq, Nat.reduceAdd, Nat.reduceMul, binInt, binStr, eq_self, reduceCtorEq, unAV, lenAV, convAV, sliceAV, bound, isCon, AS.spent, liveAddr, offAddr, elemsOf, Nat.reduceLeDiff, nilCmp, putAt, Int.reduceEq, Int.reduceLT, Int.reduceLE, Int.reduceBEq, Int.reduceBNe, Int.reduceAdd, Int.reduceNeg, Int.reduceSub, Int.reduceMul, ilt_t, ilt_f, ile_t, ile_f, ieq_t, ieq_f, ine_t, ine_f, h0, h4, h5, hi2, digit_D, he, he2]
            omega
        · have : i = s.length := by omega
          subst this
          rw [List.drop_length] at hc
          simp only [wordRun] at hc
          simp (disch := omega) only [evA, argsV, argsOK, partsV, elemsV, optV, evOper, evOp, evAppend, IArg.eval, AS.putD, ↓reduceIte, Nat.reduceEqDiff, Option.isSome, Option.isNone, cond_true, cond_false, Nat.reduceBEq, Nat.reduceAdd, Nat.reduceMul, binInt, binStr, eq_self, reduceCtorEq, unAV, lenAV, convAV, sliceAV, bound, isCon, AS.spent, liveAddr, offAddr, elemsOf, Nat.reduceLeDiff, nilCmp, putAt, Int.reduceEq, Int.reduceLT, Int.reduceLE, Int.reduceBEq, Int.reduceBNe, Int.reduceAdd, Int.reduceNeg, Int.reduceSub, Int.reduceMul, ilt_t, ilt_f, ile_t, ile_f, ieq_t, ieq_f, ine_t, ine_f, h0, h4, h5]
          omega
      · intro st hst
        obtain ⟨T, rfl, h5⟩ := hst.out
        have ht : tokL s = if 16 < 1 + wordRun 2 r then 0 else 1 + wordRun 2 r := by rw [hs']; simp only [tokL, hk, if_pos (show (0 : Int) < 2 by omega)]
        by_cases h16 : 16 < 1 + wordRun 2 r
        · rw [if_pos h16] at ht
          simp (disch := omega) only [evA, argsV, argsOK, partsV, elemsV, optV, evOper, evOp, evAppend, IArg.eval, AS.putD, ↓reduceIte, Nat.reduceEqDiff, Option.isSome, Option.isNone, cond_true, cond_false, Nat.reduceBEq, Nat.reduceAdd, Nat.reduceMul, binInt, binStr, eq_self, reduceCtorEq, unAV, lenAV, convAV, sliceAV, bound, isCon, AS.spent, liveAddr, offAddr, elemsOf, Nat.reduceLeDiff, nilCmp, putAt, Int.reduceEq, Int.reduceLT, Int.reduceLE, Int.reduceBEq, Int.reduceBNe, Int.reduceAdd, Int.reduceNeg, Int.reduceSub, Int.reduceMul, ilt_t, ilt_f, ile_t, ile_f, ieq_t, ieq_f, ine_t, ine_f, h5, ht]
        · rw [if_neg h16] at ht
          simp (disch := omega) only [evA, argsV, argsOK, partsV, elemsV, optV, evOper, evOp, evAppend, IArg.eval, AS.putD, ↓reduceIte, Nat.reduceEqDiff, Option.isSome, Option.isNone, cond_true, cond_false, Nat.reduceBEq, Nat.reduceAdd, Nat.reduceMul, binInt, binStr, eq_self, reduceCtorEq, unAV, lenAV, convAV, sliceAV, bound, isCon, AS.spent, liveAddr, offAddr, elemsOf, Nat.reduceLeDiff, nilCmp, putAt, Int.reduceEq, Int.reduceLT, Int.reduceLE, Int.reduceBEq, Int.reduceBNe, Int.reduceAdd, Int.reduceNeg, Int.reduceSub, Int.reduceMul, ilt_t, ilt_f, ile_t, ile_f, ieq_t, ieq_f, ine_t, ine_f, h5, ht]
      · simp (disch := omega) only [evA, argsV, argsOK, partsV, elemsV, optV, evOper, evOp, evAppend, IArg.eval, AS.putD, ↓reduceIte, Nat.reduceEqDiff, Option.isSome, Option.isNone, cond_true, cond_false, Nat.reduceBEq, Nat.reduceAdd, Nat.reduceMul, binInt, binStr, eq_self, reduceCtorEq, unAV, lenAV, convAV, sliceAV, bound, isCon, AS.spent, liveAddr, offAddr, elemsOf, Nat.reduceLeDiff, nilCmp, putAt, Int.reduceEq, Int.reduceLT, Int.reduceLE, Int.reduceBEq, Int.reduceBNe, Int.reduceAdd, Int.reduceNeg, Int.reduceSub, Int.reduceMul, hd]
    | false =>
      have hk : kindOf b = 0 := by unfold kindOf; rw [hl, hl2]; rfl
      simp (disch := omega) only [evA, argsV, argsOK, partsV, elemsV, optV, evOper, evOp, evAppend, IArg.eval, AS.putD, ↓reduceIte, Nat.reduceEqDiff, Option.isSome, Option.isNone, cond_true, cond_false, Nat.reduceBEq, Nat.reduceAdd, Nat.reduceMul, binInt, binStr, eq_self, reduceCtorEq, unAV, lenAV, convAV, sliceAV, bound, isCon, AS.spent, liveAddr, offAddr, elemsOf, Nat.reduceLeDiff, nilCmp, putAt, Int.reduceEq, Int.reduceLT, Int.reduceLE, Int.reduceBEq, Int.reduceBNe, Int.reduceAdd, Int.reduceNeg, Int.reduceSub, Int.reduceMul, storeAV, putAt, hb, digit_D, hl2]
      refine W_unroll ?_
      simp (disch := omega) only [evA, argsV, argsOK, partsV, elemsV, optV, evOper, evOp, evAppend, IArg.eval, AS.putD, ↓reduceIte, Nat.reduceEqDiff, Option.isSome, Option.isNone, cond_true, cond_false, Nat.reduceBEq, Nat.reduceAdd, Nat.reduceMul, binInt, binStr, eq_self, reduceCtorEq, unAV, lenAV, convAV, sliceAV, bound, isCon, AS.spent, liveAddr, offAddr, elemsOf, Nat.reduceLeDiff, nilCmp, putAt, Int.reduceEq, Int.reduceLT, Int.reduceLE, Int.reduceBEq, Int.reduceBNe, Int.reduceAdd, Int.reduceNeg, Int.reduceSub, Int.reduceMul, glob3]
      refine so_of (.agg (signsS.map .str)) (by kernel_rfl) rfl ?_
      simp (disch := omega) only [evA, argsV, argsOK, partsV, elemsV, optV, evOper, evOp, evAppend, IArg.eval, AS.putD, ↓reduceIte, Nat.reduceEqDiff, Option.isSome, Option.isNone, cond_true, cond_false, Nat.reduceBEq, Nat.reduceAdd, Nat.reduceMul, binInt, binStr, eq_self, reduceCtorEq, unAV, lenAV, convAV, sliceAV, bound, isCon, AS.spent, liveAddr, offAddr, elemsOf, Nat.reduceLeDiff, nilCmp, putAt, Int.reduceEq, Int.reduceLT, Int.reduceLE, Int.reduceBEq, Int.reduceBNe, Int.reduceAdd, Int.reduceNeg, Int.reduceSub, Int.reduceMul]
      have hsig : signLen s signsS = tokL s := by rw [hs']; exact signLen_tok hk
      have h18 : signsS.length = 18 := rfl
      refine W_countx 18 4 (fun i => Hd (fun T => T 0 = .str s ∧ T 36 = .agg (signsS.map .str) ∧ T 37 = .int .i64 i ∧ tokL s = signLen s (signsS.drop i)) H H.length 2)
        (Hd (fun T => tokL s = 0) H H.length 2) (Hd (fun T => T 2 = .int .i64 (tokL s)) H H.length 2) ?_ ?_ ?_ 0 _ (by omega) ?_
      · rintro i st hi hst
        obtain ⟨T, rfl, h0, h36, h37, hc⟩ := hst.out
        by_cases h : i < 18
        · have hi' : i < signsS.length := by rw [h18]; exact h
          have hx : (signsS.map AV.str)[i]? = some (.str signsS[i]) := by rw [List.getElem?_map, List.getElem?_eq_getElem hi']; rfl
          rw [List.drop_eq_getElem_cons hi'] at hc
          simp only [signLen] at hc
          generalize signsS[i] = x at hc hx
          cases hp : x.isPrefixOf s with
          | true =>
            rw [if_pos hp] at hc
            simp (disch := omega) only [evA, argsV, argsOK, partsV, elemsV, optV, evOper, evOp, evAppend, IArg.eval, AS.putD, ↓reduceIte, Nat.reduceEqDiff, Option.isSome, Option.isNone, cond_true, cond_false, Nat.reduceBEq, Nat.reduceAdd, Nat.reduceMul, binInt, binStr, eq_self, reduceCtorEq, unAV, lenAV, convAV, sliceAV, bound, isCon, AS.spent, liveAddr, offAddr, elemsOf, Nat.reduceLeDiff, nilCmp, putAt, Int.reduceEq, Int.reduceLT, Int.reduceLE, Int.reduceBEq, Int.reduceBNe, Int.reduceAdd, Int.reduceNeg, Int.reduceSub, Int.reduceMul, ilt_t, ilt_f, ile_t, ile_f, ieq_t, ieq_f, ine_t, ine_f, h0, h36, h37, Nat.mul_one, hx, hasPrefix_D, hp]
            omega
          | false =>
            rw [if_neg (by simp [hp])] at hc
            simp (disch := omega) only [evA, argsV, argsOK, partsV, elemsV, optV, evOper, evOp, evAppend, IArg.eval, AS.putD, ↓reduceIte, Nat.reduceEqDiff, Option.isSome, Option.isNone, cond_true, cond_false, Nat.reduceBEq, Nat.reduceAdd, Nat.reduceMul, binInt, binStr, eq_self, reduceCtorEq, unAV, lenAV, convAV, sliceAV, bound, isCon, AS.spent, liveAddr, offAddr, elemsOf, Nat.reduceLeDiff, nilCmp, putAt, Int.reduceEq, Int.reduceLT, Int.reduceLE, Int.reduceBEq, Int.reduceBNe, Int.reduceAdd, Int.reduceNeg, Int.reduceSub, Int.reduceMul, ilt_t, ilt_f, ile_t, ile_f, ieq_t, ieq_f, ine_t, ine_f, h0, h36, h37, Nat.mul_one, hx, hasPrefix_D, hp]
            exact ⟨h, hc⟩
        · have : i = 18 := by omega
          subst this
          rw [show signsS.drop 18 = [] from rfl] at hc
          simp only [signLen] at hc
          simp (disch := omega) only [evA, argsV, argsOK, partsV, elemsV, optV, evOper, evOp, evAppend, IArg.eval, AS.putD, ↓reduceIte, Nat.reduceEqDiff, Option.isSome, Option.isNone, cond_true, cond_false, Nat.reduceBEq, Nat.reduceAdd, Nat.reduceMul, binInt, binStr, eq_self, reduceCtorEq, unAV, lenAV, convAV, sliceAV, bound, isCon, AS.spent, liveAddr, offAddr, elemsOf, Nat.reduceLeDiff, nilCmp, putAt, Int.reduceEq, Int.reduceLT, Int.reduceLE, Int.reduceBEq, Int.reduceBNe, Int.reduceAdd, Int.reduceNeg, Int.reduceSub, Int.reduceMul, ilt_t, ilt_f, ile_t, ile_f, ieq_t, ieq_f, ine_t, ine_f, h37, hc]
      · intro st hst
        obtain ⟨T, rfl, hc⟩ := hst.out
        simp (disch := omega) only [evA, argsV, argsOK, partsV, elemsV, optV, evOper, evOp, evAppend, IArg.eval, AS.putD, ↓reduceIte, Nat.reduceEqDiff, Option.isSome, Option.isNone, cond_true, cond_false, Nat.reduceBEq, Nat.reduceAdd, Nat.reduceMul, binInt, binStr, eq_self, reduceCtorEq, unAV, lenAV, convAV, sliceAV, bound, isCon, AS.spent, liveAddr, offAddr, elemsOf, Nat.reduceLeDiff, nilCmp, putAt, Int.reduceEq, Int.reduceLT, Int.reduceLE, Int.reduceBEq, Int.reduceBNe, Int.reduceAdd, Int.reduceNeg, Int.reduceSub, Int.reduceMul, hc]
      · intro st hst
        obtain ⟨T, rfl, hc⟩ := hst.out
        simp (disch := omega) only [evA, argsV, argsOK, partsV, elemsV, optV, evOper, evOp, evAppend, IArg.eval, AS.putD, ↓reduceIte, Nat.reduceEqDiff, Option.isSome, Option.isNone, cond_true, cond_false, Nat.reduceBEq, Nat.reduceAdd, Nat.reduceMul, binInt, binStr, eq_self, reduceCtorEq, unAV, lenAV, convAV, sliceAV, bound, isCon, AS.spent, liveAddr, offAddr, elemsOf, Nat.reduceLeDiff, nilCmp, putAt, Int.reduceEq, Int.reduceLT, Int.reduceLE, Int.reduceBEq, Int.reduceBNe, Int.reduceAdd, Int.reduceNeg, Int.reduceSub, Int.reduceMul, hc]
      · simp (disch := omega) only [evA, argsV, argsOK, partsV, elemsV, optV, evOper, evOp, evAppend, IArg.eval, AS.putD, ↓reduceIte, Nat.reduceEqDiff, Option.isSome, Option.isNone, cond_true, cond_false, Nat.reduceBEq, Nat.reduceAdd, Nat.reduceMul, binInt, binStr, eq_self, reduceCtorEq, unAV, lenAV, convAV, sliceAV, bound, isCon, AS.spent, liveAddr, offAddr, elemsOf, Nat.reduceLeDiff, nilCmp, putAt, Int.reduceEq, Int.reduceLT, Int.reduceLE, Int.reduceBEq, Int.reduceBNe, Int.reduceAdd, Int.reduceNeg, Int.reduceSub, Int.reduceMul, hsig]

theorem wordP_D (s : Str) (H : AHeap) (hs : s.length ≤ 4611686018427387904) : callD A 37 [.str s] H = some (.bool (isWord s), none) := by
  refine callD_W (fn := ir37) rfl rfl rfl ?_
  unfold ir37
  cases hs' : s with
  | nil => simp (disch := omega) only [evA, argsV, argsOK, partsV, elemsV, optV, evOper, evOp, evAppend, IArg.eval, AS.putD, ↓reduceIte, Nat.reduceEqDiff, Option.isSome, Option.isNone, cond_true, cond_false, Nat.reduceBEq, Nat.reduceAdd, Nat.reduceMul, binInt, binStr, eq_self, reduceCtorEq, unAV, lenAV, convAV, sliceAV, bound, isCon, AS.spent, liveAddr, offAddr, elemsOf, Nat.reduceLeDiff, nilCmp, putAt, Int.reduceEq, Int.reduceLT, Int.reduceLE, Int.reduceBEq, Int.reduceBNe, Int.reduceAdd, Int.reduceNeg, Int.reduceSub, Int.reduceMul, isWord, bne_self_eq_false]
  | cons b r =>
  rw [← hs']
  have hne : s ≠ [] := by rw [hs']; simp
  have hl : (s == []) = false := by simpa using hne
  have h27 : keywordsS.length = 27 := rfl
  have hb : s[0]? = some b := by rw [hs']; rfl
  have hw : isWord s = (decide (kindOf b = 1) && !keywordsS.contains s && decide (tokL s = s.length)) := by rw [hs']; rfl
  have hk := kind_letter (c := b)
  rw [hw]
  by_cases hk1 : kindOf b = 1
  · by_cases ht : tokL s = s.length
    · simp (disch := omega) only [evA, argsV, argsOK, partsV, elemsV, optV, evOper, evOp, evAppend, IArg.eval, AS.putD, ↓reduceIte, Nat.reduceEqDiff, Option.isSome, Option.isNone, cond_true, cond_false, Nat.reduceBEq, Nat.reduceAdd, Nat.reduceMul, binInt, binStr, eq_self, reduceCtorEq, unAV, lenAV, convAV, sliceAV, bound, isCon, AS.spent, liveAddr, offAddr, elemsOf, Nat.reduceLeDiff, nilCmp, putAt, Int.reduceEq, Int.reduceLT, Int.reduceLE, Int.reduceBEq, Int.reduceBNe, Int.reduceAdd, Int.reduceNeg, Int.reduceSub, Int.reduceMul, ilt_t, ilt_f, ile_t, ile_f, ieq_t, ieq_f, ine_t, ine_f, hl, hb, letter_D, hk, hk1, token_D s H hne hs, ht, glob1, h27, contains_D keywordsS s H (by omega)]
    · simp (disch := omega) only [evA, argsV, argsOK, partsV, elemsV, optV, evOper, evOp, evAppend, IArg.eval, AS.putD, ↓reduceIte, Nat.reduceEqDiff, Option.isSome, Option.isNone, cond_true, cond_false, Nat.reduceBEq, Nat.reduceAdd, Nat.reduceMul, binInt, binStr, eq_self, reduceCtorEq, unAV, lenAV, convAV, sliceAV, bound, isCon, AS.spent, liveAddr, offAddr, elemsOf, Nat.reduceLeDiff, nilCmp, putAt, Int.reduceEq, Int.reduceLT, Int.reduceLE, Int.reduceBEq, Int.reduceBNe, Int.reduceAdd, Int.reduceNeg, Int.reduceSub, Int.reduceMul, ilt_t, ilt_f, ile_t, ile_f, ieq_t, ieq_f, ine_t, ine_f, hl, hb, letter_D, hk, hk1, token_D s H hne hs, ht]
  · simp (disch := omega) only [evA, argsV, argsOK, partsV, elemsV, optV, evOper, evOp, evAppend, IArg.eval, AS.putD, ↓reduceIte, Nat.reduceEqDiff, Option.isSome, Option.isNone, cond_true, cond_false, Nat.reduceBEq, Nat.reduceAdd, Nat.reduceMul, binInt, binStr, eq_self, reduceCtorEq, unAV, lenAV, convAV, sliceAV, bound, isCon, AS.spent, liveAddr, offAddr, elemsOf, Nat.reduceLeDiff, nilCmp, putAt, Int.reduceEq, Int.reduceLT, Int.reduceLE, Int.reduceBEq, Int.reduceBNe, Int.reduceAdd, Int.reduceNeg, Int.reduceSub, Int.reduceMul, ilt_t, ilt_f, ile_t, ile_f, ieq_t, ieq_f, ine_t, ine_f, hl, hb, letter_D, hk, hk1]

end Go.Proofs.YtgdcfgpddgedkaaDoor
