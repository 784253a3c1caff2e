/-
  Equations of functions, 3: the end of a token, words.
-/
import Derived.Test.YtgdcfgpddgedkaaDoorE2
set_option linter.unusedSimpArgs false
set_option linter.unusedVariables false
namespace Go.Proofs.YtgdcfgpddgedkaaDoor
open Go Go.Abs Go.Proofs

/-- How many bytes go on a word (k = 1) or number. -/
def wordRun (k : Int) : Str → Nat
  | [] => 0
  | c :: r => if kindOf c = 2 ∨ kindOf c = 1 ∧ k = 1 then 1 + wordRun k r else 0

theorem wordRun_le (k : Int) : ∀ s : Str, wordRun k s ≤ s.length
  | [] => Nat.le_refl _
  | c :: r => by
    have := wordRun_le k r
    simp only [wordRun, List.length_cons]
    split <;> omega

/-- The length of the token that a text begins with; 0: none. -/
def tokL : Str → Nat
  | [] => 0
  | b :: r => if 0 < kindOf b then (if 16 < 1 + wordRun (kindOf b) r then 0 else 1 + wordRun (kindOf b) r)
    else if 1 ≤ r.length ∧ isSign ((b :: r).take 2) = true then 2 else if isSign [b] = true then 1 else 0

theorem tokL_le : ∀ s : Str, tokL s ≤ s.length
  | [] => Nat.le_refl _
  | b :: r => by
    have := wordRun_le (kindOf b) r
    simp only [tokL, List.length_cons]
    split
    · split <;> omega
    · split
      · omega
      · split <;> omega

theorem kindOf_cases (c : UInt8) : kindOf c = 0 ∨ kindOf c = 1 ∨ kindOf c = 2 := by
  unfold kindOf
  split
  · exact .inr (.inl rfl)
  · split
    · exact .inr (.inr rfl)
    · exact .inl rfl

theorem end_D (s : Str) (at' : Nat) (H : AHeap) (hat : at' < s.length) (hs : s.length ≤ 4611686018427387904) :
    callD A 29 [.str s, .int .i64 at'] H = some (.int .i64 (if tokL (s.drop at') = 0 then -1 else ((at' + tokL (s.drop at') : Nat) : Int)), none) := by
  refine callD_W (fn := ir29) rfl rfl rfl ?_
  unfold ir29
  have hd := List.drop_eq_getElem_cons hat
  generalize hb : s[at'] = b at hd
  have hb2 : s[at']? = some b := by rw [List.getElem?_eq_getElem hat, hb]
  simp (disch := omega) only [evA, argsV, argsOK, partsV, elemsV, optV, evOper, evOp, evAppend, IArg.eval, AS.putD, ↓reduceIte, Nat.reduceEqDiff, Option.isSome, Option.isNone, cond_true, cond_false, Nat.reduceBEq, Nat.reduceAdd, Nat.reduceMul, binInt, binStr, eq_self, reduceCtorEq, unAV, lenAV, convAV, sliceAV, bound, isCon, AS.spent, liveAddr, offAddr, elemsOf, Nat.reduceLeDiff, nilCmp, putAt, Int.reduceEq, Int.reduceLT, Int.reduceLE, Int.reduceBEq, Int.reduceBNe, Int.reduceAdd, Int.reduceNeg, Int.reduceSub, Int.reduceMul, hb2, kind_D]
  refine condW_dec ?_ ?_ <;> intro hk
  · have htok : tokL (s.drop at') = if 16 < 1 + wordRun (kindOf b) (s.drop (at' + 1)) then 0 else 1 + wordRun (kindOf b) (s.drop (at' + 1)) := by
      rw [hd]; simp only [tokL, if_pos hk]
    simp (disch := omega) only [evA, argsV, argsOK, partsV, elemsV, optV, evOper, evOp, evAppend, IArg.eval, AS.putD, ↓reduceIte, Nat.reduceEqDiff, Option.isSome, Option.isNone, cond_true, cond_false, Nat.reduceBEq, Nat.reduceAdd, Nat.reduceMul, binInt, binStr, eq_self, reduceCtorEq, unAV, lenAV, convAV, sliceAV, bound, isCon, AS.spent, liveAddr, offAddr, elemsOf, Nat.reduceLeDiff, nilCmp, putAt, Int.reduceEq, Int.reduceLT, Int.reduceLE, Int.reduceBEq, Int.reduceBNe, Int.reduceAdd, Int.reduceNeg, Int.reduceSub, Int.reduceMul]
    refine W_countx s.length 0 (fun i => Hd (fun T => T 0 = .str s ∧ T 1 = .int .i64 at' ∧ T 5 = .int .i64 (kindOf b) ∧ T 6 = .int .i64 i ∧ at' + 1 + wordRun (kindOf b) (s.drop (at' + 1)) = i + wordRun (kindOf b) (s.drop i)) H H.length 0)
      (Hd (fun T => T 1 = .int .i64 at' ∧ T 6 = .int .i64 ((at' + 1 + wordRun (kindOf b) (s.drop (at' + 1)) : Nat) : Int)) H H.length 0) (fun _ => False) ?_ ?_ (fun _ h => h.elim) (at' + 1) _ (by omega) ?_
    · rintro i st hi hst
      obtain ⟨T, rfl, h0, h1, h5, h6, hc⟩ := hst.out
      by_cases h : (i : Int) < s.length
      · have hi' : i < s.length := by omega
        rw [List.drop_eq_getElem_cons hi'] at hc
        simp only [wordRun] at hc
        have hi2 : s[i]? = some s[i] := List.getElem?_eq_getElem hi'
        generalize s[i] = c at hc hi2
        by_cases k2 : kindOf c = 2
        · rw [if_pos (.inl k2)] at hc
          simp (disch := omega) only [evA, argsV, argsOK, partsV, elemsV, optV, evOper, evOp, evAppend, IArg.eval, AS.putD, ↓reduceIte, Nat.reduceEqDiff, Option.isSome, Option.isNone, cond_true, cond_false, Nat.reduceBEq, Nat.reduceAdd, Nat.reduceMul, binInt, binStr, eq_self, reduceCtorEq, unAV, lenAV, convAV, sliceAV, bound, isCon, AS.spent, liveAddr, offAddr, elemsOf, Nat.reduceLeDiff, nilCmp, putAt, Int.reduceEq, Int.reduceLT, Int.reduceLE, Int.reduceBEq, Int.reduceBNe, Int.reduceAdd, Int.reduceNeg, Int.reduceSub, Int.reduceMul, h0, h1, h5, h6, h, hi2, kind_D, k2]
          omega
        by_cases k1 : kindOf c = 1
        · by_cases kb : kindOf b = 1
          · rw [if_pos (.inr ⟨k1, kb⟩)] at hc
            rw [kb] at h5 hc ⊢
            simp (disch := omega) only [evA, argsV, argsOK, partsV, elemsV, optV, evOper, evOp, evAppend, IArg.eval, AS.putD, ↓reduceIte, Nat.reduceEqDiff, Option.isSome, Option.isNone, cond_true, cond_false, Nat.reduceBEq, Nat.reduceAdd, Nat.reduceMul, binInt, binStr, eq_self, reduceCtorEq, unAV, lenAV, convAV, sliceAV, bound, isCon, AS.spent, liveAddr, offAddr, elemsOf, Nat.reduceLeDiff, nilCmp, putAt, Int.reduceEq, Int.reduceLT, Int.reduceLE, Int.reduceBEq, Int.reduceBNe, Int.reduceAdd, Int.reduceNeg, Int.reduceSub, Int.reduceMul, h0, h1, h5, h6, h, hi2, kind_D, k1, kb, Int.reduceBEq]
            omega
          · rw [if_neg (by simp [k1, kb])] at hc
            simp (disch := omega) only [evA, argsV, argsOK, partsV, elemsV, optV, evOper, evOp, evAppend, IArg.eval, AS.putD, ↓reduceIte, Nat.reduceEqDiff, Option.isSome, Option.isNone, cond_true, cond_false, Nat.reduceBEq, Nat.reduceAdd, Nat.reduceMul, binInt, binStr, eq_self, reduceCtorEq, unAV, lenAV, convAV, sliceAV, bound, isCon, AS.spent, liveAddr, offAddr, elemsOf, Nat.reduceLeDiff, nilCmp, putAt, Int.reduceEq, Int.reduceLT, Int.reduceLE, Int.reduceBEq, Int.reduceBNe, Int.reduceAdd, Int.reduceNeg, Int.reduceSub, Int.reduceMul, h0, h1, h5, h6, h, hi2, kind_D, k1, Int.reduceBEq, show (kindOf b == 1) = false by simpa using kb]
            omega
        · have k0 : kindOf c = 0 := by rcases kindOf_cases c with h | h | h <;> simp_all
          rw [if_neg (by simp [k0])] at hc
          simp (disch := omega) only [evA, argsV, argsOK, partsV, elemsV, optV, evOper, evOp, evAppend, IArg.eval, AS.putD, ↓reduceIte, Nat.reduceEqDiff, Option.isSome, Option.isNone, cond_true, cond_false, Nat.reduceBEq, Nat.reduceAdd, Nat.reduceMul, binInt, binStr, eq_self, reduceCtorEq, unAV, lenAV, convAV, sliceAV, bound, isCon, AS.spent, liveAddr, offAddr, elemsOf, Nat.reduceLeDiff, nilCmp, putAt, Int.reduceEq, Int.reduceLT, Int.reduceLE, Int.reduceBEq, Int.reduceBNe, Int.reduceAdd, Int.reduceNeg, Int.reduceSub, Int.reduceMul, h0, h1, h5, h6, h, hi2, kind_D, k0, Int.reduceBEq]
          omega
      · have : i = s.length := by omega
        subst this
        rw [List.drop_length] at hc
        simp only [wordRun] at hc
        simp (disch := omega) only [evA, argsV, argsOK, partsV, elemsV, optV, evOper, evOp, evAppend, IArg.eval, AS.putD, ↓reduceIte, Nat.reduceEqDiff, Option.isSome, Option.isNone, cond_true, cond_false, Nat.reduceBEq, Nat.reduceAdd, Nat.reduceMul, binInt, binStr, eq_self, reduceCtorEq, unAV, lenAV, convAV, sliceAV, bound, isCon, AS.spent, liveAddr, offAddr, elemsOf, Nat.reduceLeDiff, nilCmp, putAt, Int.reduceEq, Int.reduceLT, Int.reduceLE, Int.reduceBEq, Int.reduceBNe, Int.reduceAdd, Int.reduceNeg, Int.reduceSub, Int.reduceMul, h0, h1, h6, h]
        omega
    · intro st hst
      obtain ⟨T, rfl, h1, h6⟩ := hst.out
      have hle := wordRun_le (kindOf b) (s.drop (at' + 1))
      rw [List.length_drop] at hle
      rw [htok]
      generalize wordRun (kindOf b) (s.drop (at' + 1)) = w at h6 hle
      simp (disch := omega) only [evA, argsV, argsOK, partsV, elemsV, optV, evOper, evOp, evAppend, IArg.eval, AS.putD, ↓reduceIte, Nat.reduceEqDiff, Option.isSome, Option.isNone, cond_true, cond_false, Nat.reduceBEq, Nat.reduceAdd, Nat.reduceMul, binInt, binStr, eq_self, reduceCtorEq, unAV, lenAV, convAV, sliceAV, bound, isCon, AS.spent, liveAddr, offAddr, elemsOf, Nat.reduceLeDiff, nilCmp, putAt, Int.reduceEq, Int.reduceLT, Int.reduceLE, Int.reduceBEq, Int.reduceBNe, Int.reduceAdd, Int.reduceNeg, Int.reduceSub, Int.reduceMul, h1, h6]
      refine condW_dec ?_ ?_ <;> intro h16
      · simp (disch := omega) only [evA, argsV, argsOK, partsV, elemsV, optV, evOper, evOp, evAppend, IArg.eval, AS.putD, ↓reduceIte, Nat.reduceEqDiff, Option.isSome, Option.isNone, cond_true, cond_false, Nat.reduceBEq, Nat.reduceAdd, Nat.reduceMul, binInt, binStr, eq_self, reduceCtorEq, unAV, lenAV, convAV, sliceAV, bound, isCon, AS.spent, liveAddr, offAddr, elemsOf, Nat.reduceLeDiff, nilCmp, putAt, Int.reduceEq, Int.reduceLT, Int.reduceLE, Int.reduceBEq, Int.reduceBNe, Int.reduceAdd, Int.reduceNeg, Int.reduceSub, Int.reduceMul, if_pos (show 16 < 1 + w by omega)]
      · simp (disch := omega) only [evA, argsV, argsOK, partsV, elemsV, optV, evOper, evOp, evAppend, IArg.eval, AS.putD, ↓reduceIte, Nat.reduceEqDiff, Option.isSome, Option.isNone, cond_true, cond_false, Nat.reduceBEq, Nat.reduceAdd, Nat.reduceMul, binInt, binStr, eq_self, reduceCtorEq, unAV, lenAV, convAV, sliceAV, bound, isCon, AS.spent, liveAddr, offAddr, elemsOf, Nat.reduceLeDiff, nilCmp, putAt, Int.reduceEq, Int.reduceLT, Int.reduceLE, Int.reduceBEq, Int.reduceBNe, Int.reduceAdd, Int.reduceNeg, Int.reduceSub, Int.reduceMul, if_neg (show ¬ 16 < 1 + w by omega), h6, if_neg (show ¬ 1 + w = 0 by omega)]
        omega
    · simp (disch := omega) only [evA, argsV, argsOK, partsV, elemsV, optV, evOper, evOp, evAppend, IArg.eval, AS.putD, ↓reduceIte, Nat.reduceEqDiff, Option.isSome, Option.isNone, cond_true, cond_false, Nat.reduceBEq, Nat.reduceAdd, Nat.reduceMul, binInt, binStr, eq_self, reduceCtorEq, unAV, lenAV, convAV, sliceAV, bound, isCon, AS.spent, liveAddr, offAddr, elemsOf, Nat.reduceLeDiff, nilCmp, putAt, Int.reduceEq, Int.reduceLT, Int.reduceLE, Int.reduceBEq, Int.reduceBNe, Int.reduceAdd, Int.reduceNeg, Int.reduceSub, Int.reduceMul]
  · have htok : tokL (s.drop at') = if 1 ≤ (s.drop (at' + 1)).length ∧ isSign ((b :: s.drop (at' + 1)).take 2) = true then 2 else if isSign [b] = true then 1 else 0 := by
      rw [hd]; simp only [tokL, if_neg hk]
    have e1 : List.drop at' (List.take (at' + 1) s) = [b] := by
      rw [List.drop_take, hd]; simp
    have e2 : List.drop at' (List.take (at' + 2) s) = (b :: s.drop (at' + 1)).take 2 := by
      rw [List.drop_take, hd]; simp
    generalize (b :: s.drop (at' + 1)).take 2 = two at e2 htok
    have e3 : (s.drop (at' + 1)).length = s.length - (at' + 1) := List.length_drop ..
    rw [htok, e3]
    by_cases h2 : (at' : Int) + 1 < s.length
    · cases hs2 : isSign two with
      | true =>
        simp (disch := omega) only [evA, argsV, argsOK, partsV, elemsV, optV, evOper, evOp, evAppend, IArg.eval, AS.putD, ↓reduceIte, Nat.reduceEqDiff, Option.isSome, Option.isNone, cond_true, cond_false, Nat.reduceBEq, Nat.reduceAdd, Nat.reduceMul, binInt, binStr, eq_self, reduceCtorEq, unAV, lenAV, convAV, sliceAV, bound, isCon, AS.spent, liveAddr, offAddr, elemsOf, Nat.reduceLeDiff, nilCmp, putAt, Int.reduceEq, Int.reduceLT, Int.reduceLE, Int.reduceBEq, Int.reduceBNe, Int.reduceAdd, Int.reduceNeg, Int.reduceSub, Int.reduceMul, h2, e2, sign_D, hs2, if_pos (show 1 ≤ s.length - (at' + 1) ∧ True from ⟨by omega, trivial⟩)]
        rw [if_pos (show 1 ≤ s.length - (at' + 1) by omega)]
        rw [if_neg (by omega)]; rfl
      | false =>
        cases hs1 : isSign [b] <;>
        simp (disch := omega) only [evA, argsV, argsOK, partsV, elemsV, optV, evOper, evOp, evAppend, IArg.eval, AS.putD, ↓reduceIte, Nat.reduceEqDiff, Option.isSome, Option.isNone, cond_true, cond_false, Nat.reduceBEq, Nat.reduceAdd, Nat.reduceMul, binInt, binStr, eq_self, reduceCtorEq, unAV, lenAV, convAV, sliceAV, bound, isCon, AS.spent, liveAddr, offAddr, elemsOf, Nat.reduceLeDiff, nilCmp, putAt, Int.reduceEq, Int.reduceLT, Int.reduceLE, Int.reduceBEq, Int.reduceBNe, Int.reduceAdd, Int.reduceNeg, Int.reduceSub, Int.reduceMul, h2, e2, e1, sign_D, hs2, hs1, Bool.false_eq_true, and_false, if_false, if_true] <;> rfl
    · have hn : ¬ 1 ≤ s.length - (at' + 1) := by omega
      cases hs1 : isSign [b] <;>
      simp (disch := omega) only [evA, argsV, argsOK, partsV, elemsV, optV, evOper, evOp, evAppend, IArg.eval, AS.putD, ↓reduceIte, Nat.reduceEqDiff, Option.isSome, Option.isNone, cond_true, cond_false, Nat.reduceBEq, Nat.reduceAdd, Nat.reduceMul, binInt, binStr, eq_self, reduceCtorEq, unAV, lenAV, convAV, sliceAV, bound, isCon, AS.spent, liveAddr, offAddr, elemsOf, Nat.reduceLeDiff, nilCmp, putAt, Int.reduceEq, Int.reduceLT, Int.reduceLE, Int.reduceBEq, Int.reduceBNe, Int.reduceAdd, Int.reduceNeg, Int.reduceSub, Int.reduceMul, h2, e1, sign_D, hs1, hn, false_and, Bool.false_eq_true, if_false, if_true] <;> rfl

theorem keywords_D (H : AHeap) : callD A 50 [] H = some (.slice (strs keywordsS) true, none) := by
  refine callD_W (fn := ir50) rfl rfl rfl ?_
  unfold ir50
  simp only [x_seq, x_region, r_movc, so_slice, x_nil, x_normal, r_mkslice]
  refine so_of (.slice (strs keywordsS) true) (by kernel_rfl) rfl ?_
  simp (disch := omega) only [evA, argsV, argsOK, partsV, elemsV, optV, evOper, evOp, evAppend, IArg.eval, AS.putD, ↓reduceIte, Nat.reduceEqDiff, Option.isSome, Option.isNone, cond_true, cond_false, Nat.reduceBEq, Nat.reduceAdd, Nat.reduceMul, binInt, binStr, eq_self, reduceCtorEq, unAV, lenAV, convAV, sliceAV, bound, isCon, AS.spent, liveAddr, offAddr, elemsOf, Nat.reduceLeDiff, nilCmp, putAt, Int.reduceEq, Int.reduceLT, Int.reduceLE, Int.reduceBEq, Int.reduceBNe, Int.reduceAdd, Int.reduceNeg, Int.reduceSub, Int.reduceMul]

def whatsS : List Str := [[110, 97, 109, 101], [109, 111, 118, 101], [116, 121, 112, 101], [98, 111, 100, 121], [108, 97, 121, 111, 117, 116], [109, 97, 107, 101], [97, 110, 121]]

theorem whats_D (H : AHeap) : callD A 27 [] H = some (.slice (strs whatsS) true, none) := by
  refine callD_W (fn := ir27) rfl rfl rfl ?_
  unfold ir27
  simp only [x_seq, x_region, r_movc, so_slice, x_nil, x_normal, r_mkslice]
  refine so_of (.slice (strs whatsS) true) (by kernel_rfl) rfl ?_
  simp (disch := omega) only [evA, argsV, argsOK, partsV, elemsV, optV, evOper, evOp, evAppend, IArg.eval, AS.putD, ↓reduceIte, Nat.reduceEqDiff, Option.isSome, Option.isNone, cond_true, cond_false, Nat.reduceBEq, Nat.reduceAdd, Nat.reduceMul, binInt, binStr, eq_self, reduceCtorEq, unAV, lenAV, convAV, sliceAV, bound, isCon, AS.spent, liveAddr, offAddr, elemsOf, Nat.reduceLeDiff, nilCmp, putAt, Int.reduceEq, Int.reduceLT, Int.reduceLE, Int.reduceBEq, Int.reduceBNe, Int.reduceAdd, Int.reduceNeg, Int.reduceSub, Int.reduceMul]

/-- A word and no keyword. -/
def isWord (s : Str) : Bool := match s with
  | [] => false
  | b :: _ => decide (kindOf b = 1) && !keywordsS.contains s && decide (tokL s = s.length)

theorem tokL_pos {s : Str} (h : tokL s = s.length) (hs : s ≠ []) : tokL s ≠ 0 := by
  rw [h]; simpa using hs

theorem wordR_D (s : Str) (H : AHeap) (hs : s.length ≤ 4611686018427387904) : callD A 32 [.str s] H = some (.bool (isWord s), none) := by
  refine callD_W (fn := ir32) rfl rfl rfl ?_
  unfold ir32
  cases hs' : s with
  | nil => simp (disch := omega) only [evA, argsV, argsOK, partsV, elemsV, optV, evOper, evOp, evAppend, IArg.eval, AS.putD, ↓reduceIte, Nat.reduceEqDiff, Option.isSome, Option.isNone, cond_true, cond_false, Nat.reduceBEq, Nat.reduceAdd, Nat.reduceMul, binInt, binStr, eq_self, reduceCtorEq, unAV, lenAV, convAV, sliceAV, bound, isCon, AS.spent, liveAddr, offAddr, elemsOf, Nat.reduceLeDiff, nilCmp, putAt, Int.reduceEq, Int.reduceLT, Int.reduceLE, Int.reduceBEq, Int.reduceBNe, Int.reduceAdd, Int.reduceNeg, Int.reduceSub, Int.reduceMul, isWord]
  | cons b r =>
  rw [← hs']
  have hl : ((s.length : Int) == 0) = false := by rw [hs']; simp; omega
  have hb : s[0]? = some b := by rw [hs']; rfl
  by_cases hk : kindOf b = 1
  · simp (disch := omega) only [evA, argsV, argsOK, partsV, elemsV, optV, evOper, evOp, evAppend, IArg.eval, AS.putD, ↓reduceIte, Nat.reduceEqDiff, Option.isSome, Option.isNone, cond_true, cond_false, Nat.reduceBEq, Nat.reduceAdd, Nat.reduceMul, binInt, binStr, eq_self, reduceCtorEq, unAV, lenAV, convAV, sliceAV, bound, isCon, AS.spent, liveAddr, offAddr, elemsOf, Nat.reduceLeDiff, nilCmp, putAt, Int.reduceEq, Int.reduceLT, Int.reduceLE, Int.reduceBEq, Int.reduceBNe, Int.reduceAdd, Int.reduceNeg, Int.reduceSub, Int.reduceMul, hl, hb, kind_D, hk, bne_self_eq_false, keywords_D]
    have h27 : keywordsS.length = 27 := rfl
    refine W_countx 27 0 (fun i => Hd (fun T => T 0 = .str s ∧ T 3 = .slice (strs keywordsS) true ∧ T 4 = .int .i64 i ∧ keywordsS.contains s = (keywordsS.drop i).contains s) H H.length 0)
      (Hd (fun T => T 0 = .str s ∧ keywordsS.contains s = false) H H.length 0) (Hd (fun T => T 2 = .bool false ∧ keywordsS.contains s = true) H H.length 0) ?_ ?_ ?_ 0 _ (by omega) ?_
    · rintro i st hi hst
      obtain ⟨T, rfl, h0, h3, h4, hc⟩ := hst.out
      simp (disch := omega) only [evA, argsV, argsOK, partsV, elemsV, optV, evOper, evOp, evAppend, IArg.eval, AS.putD, ↓reduceIte, Nat.reduceEqDiff, Option.isSome, Option.isNone, cond_true, cond_false, Nat.reduceBEq, Nat.reduceAdd, Nat.reduceMul, binInt, binStr, eq_self, reduceCtorEq, unAV, lenAV, convAV, sliceAV, bound, isCon, AS.spent, liveAddr, offAddr, elemsOf, Nat.reduceLeDiff, nilCmp, putAt, Int.reduceEq, Int.reduceLT, Int.reduceLE, Int.reduceBEq, Int.reduceBNe, Int.reduceAdd, Int.reduceNeg, Int.reduceSub, Int.reduceMul, h0, h3, h4, strs_len, h27]
      refine condW_dec ?_ ?_ <;> intro h
      · have hi' : i < keywordsS.length := by rw [h27]; omega
        simp (disch := omega) only [evA, argsV, argsOK, partsV, elemsV, optV, evOper, evOp, evAppend, IArg.eval, AS.putD, ↓reduceIte, Nat.reduceEqDiff, Option.isSome, Option.isNone, cond_true, cond_false, Nat.reduceBEq, Nat.reduceAdd, Nat.reduceMul, binInt, binStr, eq_self, reduceCtorEq, unAV, lenAV, convAV, sliceAV, bound, isCon, AS.spent, liveAddr, offAddr, elemsOf, Nat.reduceLeDiff, nilCmp, putAt, Int.reduceEq, Int.reduceLT, Int.reduceLE, Int.reduceBEq, Int.reduceBNe, Int.reduceAdd, Int.reduceNeg, Int.reduceSub, Int.reduceMul, h0, h3, h4, strs_at (List.getElem?_eq_getElem hi')]
        refine condW_split ?_ ?_ <;> intro hb
        · simp (disch := omega) only [evA, argsV, argsOK, partsV, elemsV, optV, evOper, evOp, evAppend, IArg.eval, AS.putD, ↓reduceIte, Nat.reduceEqDiff, Option.isSome, Option.isNone, cond_true, cond_false, Nat.reduceBEq, Nat.reduceAdd, Nat.reduceMul, binInt, binStr, eq_self, reduceCtorEq, unAV, lenAV, convAV, sliceAV, bound, isCon, AS.spent, liveAddr, offAddr, elemsOf, Nat.reduceLeDiff, nilCmp, putAt, Int.reduceEq, Int.reduceLT, Int.reduceLE, Int.reduceBEq, Int.reduceBNe, Int.reduceAdd, Int.reduceNeg, Int.reduceSub, Int.reduceMul, hc, List.drop_eq_getElem_cons hi', List.contains_cons, show (s == keywordsS[i]) = true by rw [beq_iff_eq] at hb ⊢; exact hb.symm]
        · simp (disch := omega) only [evA, argsV, argsOK, partsV, elemsV, optV, evOper, evOp, evAppend, IArg.eval, AS.putD, ↓reduceIte, Nat.reduceEqDiff, Option.isSome, Option.isNone, cond_true, cond_false, Nat.reduceBEq, Nat.reduceAdd, Nat.reduceMul, binInt, binStr, eq_self, reduceCtorEq, unAV, lenAV, convAV, sliceAV, bound, isCon, AS.spent, liveAddr, offAddr, elemsOf, Nat.reduceLeDiff, nilCmp, putAt, Int.reduceEq, Int.reduceLT, Int.reduceLE, Int.reduceBEq, Int.reduceBNe, Int.reduceAdd, Int.reduceNeg, Int.reduceSub, Int.reduceMul, h0, h3, h4]
          exact ⟨by omega, by rw [hc, List.drop_eq_getElem_cons hi', List.contains_cons, show (s == keywordsS[i]) = false by rw [beq_eq_false_iff_ne] at hb ⊢; exact hb.symm, Bool.false_or]⟩
      · have : i = 27 := by omega
        subst this
        rw [show keywordsS.drop 27 = [] from rfl] at hc
        simp (disch := omega) only [evA, argsV, argsOK, partsV, elemsV, optV, evOper, evOp, evAppend, IArg.eval, AS.putD, ↓reduceIte, Nat.reduceEqDiff, Option.isSome, Option.isNone, cond_true, cond_false, Nat.reduceBEq, Nat.reduceAdd, Nat.reduceMul, binInt, binStr, eq_self, reduceCtorEq, unAV, lenAV, convAV, sliceAV, bound, isCon, AS.spent, liveAddr, offAddr, elemsOf, Nat.reduceLeDiff, nilCmp, putAt, Int.reduceEq, Int.reduceLT, Int.reduceLE, Int.reduceBEq, Int.reduceBNe, Int.reduceAdd, Int.reduceNeg, Int.reduceSub, Int.reduceMul, h0, hc, List.contains_nil]
    · intro st hst
      obtain ⟨T, rfl, h0, hc⟩ := hst.out
      have e1 := end_D s 0 H (by rw [hs']; simp) hs
      rw [List.drop_zero] at e1
      rw [Int.natCast_zero] at e1
      simp (disch := omega) only [evA, argsV, argsOK, partsV, elemsV, optV, evOper, evOp, evAppend, IArg.eval, AS.putD, ↓reduceIte, Nat.reduceEqDiff, Option.isSome, Option.isNone, cond_true, cond_false, Nat.reduceBEq, Nat.reduceAdd, Nat.reduceMul, binInt, binStr, eq_self, reduceCtorEq, unAV, lenAV, convAV, sliceAV, bound, isCon, AS.spent, liveAddr, offAddr, elemsOf, Nat.reduceLeDiff, nilCmp, putAt, Int.reduceEq, Int.reduceLT, Int.reduceLE, Int.reduceBEq, Int.reduceBNe, Int.reduceAdd, Int.reduceNeg, Int.reduceSub, Int.reduceMul, h0, e1]
      have hw : isWord s = decide (tokL s = s.length) := by rw [hs'] at hc ⊢; simp only [isWord, hk, hc, decide_true, Bool.not_false, Bool.true_and]
      rw [hw]
      have hne : s.length ≠ 0 := by rw [hs']; simp
      by_cases h0' : tokL s = 0
      · rw [if_pos h0', h0']; exact beq_dec (by omega)
      · rw [if_neg h0']; exact beq_dec (by omega)
    · intro st hst
      obtain ⟨T, rfl, h2, hc⟩ := hst.out
      have hw : isWord s = false := by rw [hs'] at hc ⊢; simp only [isWord, hc, Bool.not_true, Bool.and_false, Bool.false_and]
      simp (disch := omega) only [evA, argsV, argsOK, partsV, elemsV, optV, evOper, evOp, evAppend, IArg.eval, AS.putD, ↓reduceIte, Nat.reduceEqDiff, Option.isSome, Option.isNone, cond_true, cond_false, Nat.reduceBEq, Nat.reduceAdd, Nat.reduceMul, binInt, binStr, eq_self, reduceCtorEq, unAV, lenAV, convAV, sliceAV, bound, isCon, AS.spent, liveAddr, offAddr, elemsOf, Nat.reduceLeDiff, nilCmp, putAt, Int.reduceEq, Int.reduceLT, Int.reduceLE, Int.reduceBEq, Int.reduceBNe, Int.reduceAdd, Int.reduceNeg, Int.reduceSub, Int.reduceMul, h2, hw]
    · simp (disch := omega) only [evA, argsV, argsOK, partsV, elemsV, optV, evOper, evOp, evAppend, IArg.eval, AS.putD, ↓reduceIte, Nat.reduceEqDiff, Option.isSome, Option.isNone, cond_true, cond_false, Nat.reduceBEq, Nat.reduceAdd, Nat.reduceMul, binInt, binStr, eq_self, reduceCtorEq, unAV, lenAV, convAV, sliceAV, bound, isCon, AS.spent, liveAddr, offAddr, elemsOf, Nat.reduceLeDiff, nilCmp, putAt, Int.reduceEq, Int.reduceLT, Int.reduceLE, Int.reduceBEq, Int.reduceBNe, Int.reduceAdd, Int.reduceNeg, Int.reduceSub, Int.reduceMul, List.drop_zero, Int.natCast_zero]
  · have hw : isWord s = false := by rw [hs']; simp only [isWord, hk, decide_false, Bool.false_and]
    simp (disch := omega) only [evA, argsV, argsOK, partsV, elemsV, optV, evOper, evOp, evAppend, IArg.eval, AS.putD, ↓reduceIte, Nat.reduceEqDiff, Option.isSome, Option.isNone, cond_true, cond_false, Nat.reduceBEq, Nat.reduceAdd, Nat.reduceMul, binInt, binStr, eq_self, reduceCtorEq, unAV, lenAV, convAV, sliceAV, bound, isCon, AS.spent, liveAddr, offAddr, elemsOf, Nat.reduceLeDiff, nilCmp, putAt, Int.reduceEq, Int.reduceLT, Int.reduceLE, Int.reduceBEq, Int.reduceBNe, Int.reduceAdd, Int.reduceNeg, Int.reduceSub, Int.reduceMul, hl, hb, kind_D, show (kindOf b != 1) = true by simpa using hk, hw]

end Go.Proofs.YtgdcfgpddgedkaaDoor
