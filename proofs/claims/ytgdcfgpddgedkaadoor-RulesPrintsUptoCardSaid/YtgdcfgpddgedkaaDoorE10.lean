/-
  Equations of functions, 10: strings.Builder; the program's Print.
-/
import Derived.Test.YtgdcfgpddgedkaaDoorE9
set_option linter.unusedSimpArgs false
set_option linter.unusedVariables false
namespace Go.Proofs.YtgdcfgpddgedkaaDoor
open Go Go.Abs Go.Proofs

def bytesR (l : Str) : List (List AV) := l.map fun b => [.int .u8 b.toNat]

theorem bytesR_len {l : Str} : (bytesR l).length = l.length := by simp [bytesR]
theorem bytesOf_R : ∀ l : Str, bytesOf (bytesR l) = some l
  | [] => rfl
  | b :: l => by
    have := bytesOf_R l
    simp only [bytesR] at this
    simp only [bytesR, List.map_cons, bytesOf, this, Option.map_some]
    simp
theorem byteRows_R : ∀ l : Str, byteRows (bytesR l) = true
  | [] => rfl
  | b :: l => by
    have := byteRows_R l
    simp only [byteRows, bytesR] at this
    simp only [byteRows, bytesR, List.map_cons, List.all_cons, this, Bool.and_true]
theorem byteRange_R : ∀ l : Str, byteRange (bytesR l) = true
  | [] => rfl
  | b :: l => by
    have := byteRange_R l
    simp only [byteRange, bytesR] at this
    have hb := UInt8.toNat_lt b
    simp only [byteRange, bytesR, List.map_cons, List.all_cons, this, Bool.and_true, Bool.and_eq_true, decide_eq_true_eq]
    omega
theorem bytesR_w {l : Str} : ∀ r ∈ bytesR l, r.length = 1 := fun r hr => by simp only [bytesR, List.mem_map] at hr; obtain ⟨n, _, rfl⟩ := hr; rfl

theorem app_bytes {a s : Str} (h : a.length + s.length ≤ 1000000000) : appendAV true 1 1 (.slice (bytesR a) true) (.str s) = some (.slice (bytesR (a ++ s)) true) := by
  have e : (s.map fun (b : UInt8) => [AV.int .u8 b.toNat]) = bytesR s := rfl
  simp only [appendAV, elemsOf, beq_self, cond_true, Option.bind_some, e]
  have ha : bytesR a ++ bytesR s = bytesR (a ++ s) := by simp [bytesR]
  cases s with
  | nil => simp [bytesR]
  | cons b s =>
    have hf : fitsRows 1 1 (bytesR a) (bytesR (b :: s)) = true := by
      simp only [fitsRows, headOk_of bytesR_w, bytesR_len, Nat.ble_eq_true_of_le (show (a.length + (b :: s).length) * 1 ≤ 70368744177664 by omega), Nat.ble_eq_true_of_le (show a.length + (b :: s).length ≤ 70368744177664 by omega), Bool.and_self]
    have hr : rowsOK true (bytesR a ++ bytesR (b :: s)) = true := by rw [ha]; exact byteRows_R _
    show (cond (true && fitsRows 1 1 (bytesR a) (bytesR (b :: s)) && rowsOK true (bytesR a ++ bytesR (b :: s))) (some (AV.slice (bytesR a ++ bytesR (b :: s)) true)) none) = _
    rw [hf, hr, ha]; rfl

theorem get_last {H : AHeap} {o : AObj} : (H ++ [o])[H.length]? = some o := by simp
theorem set_last {H : AHeap} {o p : AObj} : (H ++ [o]).set H.length p = H ++ [p] := by simp [List.set_append]
theorem take_last {H : AHeap} {o : AObj} : (H ++ [o]).take H.length = H := by simp
theorem take_last' {H : AHeap} {o : AObj} : (H ++ [o]).take (H.length + 1) = H ++ [o] := List.take_of_length_le (by simp)

theorem write_D (H : AHeap) (p : AV) (s t : Str) (hp : p = .nilptr ∨ p = .ref H.length 0) (hl : s.length + t.length ≤ 1000000000) : callD A 38 [.ref H.length 0, .str t] (H ++ [.box 80 [p, .slice (bytesR s) true]]) =
    some (.tuple [.int .i64 t.length, .niliface], some ⟨H ++ [.box 80 [.ref H.length 0, .slice (bytesR (s ++ t)) true]], H.length⟩) := by
  refine callD_W (fn := ir38) rfl rfl rfl ?_
  unfold ir38
  rcases hp with rfl | rfl
  · have hc : callD A 53 [.ref H.length 0] (H ++ [.box 80 [.nilptr, .slice (bytesR s) true]]) = some (.undef, some ⟨H ++ [.box 80 [.ref H.length 0, .slice (bytesR s) true]], H.length⟩) := by
      refine callD_ov (g := ovCopyCheck) rfl ?_
      simp only [ovCopyCheck, get_last, set_last]
    simp (disch := omega) only [evA, argsV, argsOK, partsV, elemsV, optV, evOper, evOp, evAppend, IArg.eval, AS.putD, ↓reduceIte, Nat.reduceEqDiff, Option.isSome, Option.isNone, cond_true, cond_false, Nat.reduceBEq, Nat.reduceAdd, Nat.reduceMul, binInt, binStr, eq_self, reduceCtorEq, unAV, lenAV, convAV, sliceAV, bound, isCon, AS.spent, liveAddr, offAddr, elemsOf, Nat.reduceLeDiff, nilCmp, putAt, Int.reduceEq, Int.reduceLT, Int.reduceLE, Int.reduceBEq, Int.reduceBNe, Int.reduceAdd, Int.reduceNeg, Int.reduceSub, Int.reduceMul, hc, List.length_append, loadAV, get_last, set_last, loadCellsAV, takenAt, List.modify_succ_cons, List.modify_zero_cons, app_bytes, storeAV, heapCell, Nat.lt_irrefl, Nat.lt_add_one, take_last']
  · have hc : callD A 53 [.ref H.length 0] (H ++ [.box 80 [.ref H.length 0, .slice (bytesR s) true]]) = some (.undef, none) := by
      refine callD_ov (g := ovCopyCheck) rfl ?_
      simp only [ovCopyCheck, get_last, beq_self, cond_true]
    simp (disch := omega) only [evA, argsV, argsOK, partsV, elemsV, optV, evOper, evOp, evAppend, IArg.eval, AS.putD, ↓reduceIte, Nat.reduceEqDiff, Option.isSome, Option.isNone, cond_true, cond_false, Nat.reduceBEq, Nat.reduceAdd, Nat.reduceMul, binInt, binStr, eq_self, reduceCtorEq, unAV, lenAV, convAV, sliceAV, bound, isCon, AS.spent, liveAddr, offAddr, elemsOf, Nat.reduceLeDiff, nilCmp, putAt, Int.reduceEq, Int.reduceLT, Int.reduceLE, Int.reduceBEq, Int.reduceBNe, Int.reduceAdd, Int.reduceNeg, Int.reduceSub, Int.reduceMul, hc, List.length_append, loadAV, get_last, set_last, loadCellsAV, takenAt, List.modify_succ_cons, List.modify_zero_cons, app_bytes, storeAV, heapCell, Nat.lt_irrefl, Nat.lt_add_one, take_last', Nat.le_refl]

theorem string_D (H : AHeap) (p : AV) (s : Str) (hl : s.length ≤ 1000000000) : callD A 40 [.ref H.length 0] (H ++ [.box 80 [p, .slice (bytesR s) true]]) = some (.str s, none) := by
  refine callD_ov (g := ovString) rfl ?_
  simp only [ovString, get_last, bytesR_len, bytesOf_R, Option.map_some, Nat.ble_eq_true_of_le (show s.length ≤ 4611686018427387904 by omega), byteRange_R, Bool.and_self, cond_true]

theorem itoa_D (n : Int) (H : AHeap) (h : I64 n) : callD A 39 [.int .i64 n] H = some (.str (itoaF n), none) := by
  refine callD_ov (g := ovItoa) rfl ?_
  obtain ⟨h1, h2⟩ := h
  simp only [ovItoa, decide_eq_true h1, decide_eq_true h2, Bool.and_self, cond_true]

theorem itoa_dig {n : Int} (h0 : 0 ≤ n) (h9 : n ≤ 9) : itoaF n = dig n := by
  obtain ⟨k, rfl⟩ := Int.eq_ofNat_of_zero_le h0
  have hk : k < 10 := by omega
  show digitsF (k + 1) k [] = _
  unfold digitsF
  rw [show Nat.blt k 10 = true by simpa [Nat.blt_eq] using hk]
  rfl

theorem printP_inner (r : Rule) (l : List Rule) (i : Nat) (hv : validRule r = true) (H : AHeap) (s0 : Str) (hs0 : s0.length ≤ 1000000) (a11 a12 : AV) (T : AFrame) (g2 : Nat) (Q : IExit → AS → Prop)
    (h3 : T 3 = .ref H.length 0) (h11 : T 11 = a11) (h12 : T 12 = a12) (h13 : T 13 = .int .i64 i) (h34 : T 34 = .slice (ints r.who) false) (h35 : T 35 = .int .i64 r.who.length) (h36 : T 36 = .int .i64 0)
    (hx : ∀ T' g', T' 3 = .ref H.length 0 → T' 11 = a11 → T' 12 = a12 → T' 13 = .int .i64 i → Q (.exit 2) ⟨T', H ++ [.box 80 [.ref H.length 0, .slice (bytesR (s0 ++ (whoR true r.who).drop 1)) true]], H.length, g'⟩) :
    W A (ir21.body.sub [true, true, true, false, true, false, false, true, true, false, false, true, true, true, true, false, true, false]) ⟨T, H ++ [.box 80 [.ref H.length 0, .slice (bytesR s0) true]], H.length, g2⟩ Q := by
  unfold ir21
  simp only [ICode.sub]
  obtain ⟨f1, f2, f3, f4, f5, f6, f7⟩ := valid_facts hv
  refine W_countx r.who.length 2 (fun k st => ∃ s : Str, HdG (fun T => T 3 = .ref H.length 0 ∧ T 11 = a11 ∧ T 12 = a12 ∧ T 13 = .int .i64 i ∧ T 34 = .slice (ints r.who) false ∧ T 35 = .int .i64 r.who.length ∧ T 36 = .int .i64 k) (H ++ [.box 80 [.ref H.length 0, .slice (bytesR s) true]]) H.length st ∧
      s.length ≤ s0.length + 3 * k ∧ s ++ (if k = 0 then (whoR true r.who).drop 1 else whoR false (r.who.drop k)) = s0 ++ (whoR true r.who).drop 1)
    (HdG (fun T => T 3 = .ref H.length 0 ∧ T 11 = a11 ∧ T 12 = a12 ∧ T 13 = .int .i64 i) (H ++ [.box 80 [.ref H.length 0, .slice (bytesR (s0 ++ (whoR true r.who).drop 1)) true]]) H.length) (fun _ => False) ?_ ?_ (fun _ h => h.elim) 0 _ (by omega) ?_
  · rintro k st hk ⟨s, hst, hs, hc⟩
    obtain ⟨T, g3, rfl, h3, h11, h12, h13, h34, h35, h36⟩ := hst.out
    by_cases h : k < r.who.length
    · have hw := List.getElem?_eq_getElem h
      have hwr := f7 _ (List.getElem_mem h)
      have hdr := List.drop_eq_getElem_cons h
      generalize r.who[k] = w at hdr hw hwr
      have hd1 : (dig w).length = 1 := rfl
      have hit : itoaF w = dig w := itoa_dig (by omega) (by omega)
      have hIt : ∀ H', callD A 39 [.int .i64 w] H' = some (.str (dig w), none) := fun H' => by rw [itoa_D w H' ⟨by omega, by omega⟩, hit]
      have wr : ∀ (s t : Str), s.length + t.length ≤ 1000000000 → callD A 38 [.ref H.length 0, .str t] (H ++ [.box 80 [.ref H.length 0, .slice (bytesR s) true]]) = some (.tuple [.int .i64 t.length, .niliface], some ⟨H ++ [.box 80 [.ref H.length 0, .slice (bytesR (s ++ t)) true]], H.length⟩) := fun s t h => write_D H _ s t (.inr rfl) h
      cases k with
      | zero =>
        simp (disch := first | omega | (simp only [List.length_append, List.length_cons, List.length_nil, List.length_drop]; omega)) only [evA, argsV, argsOK, partsV, elemsV, optV, evOper, evOp, evAppend, IArg.eval, AS.putD, ↓reduceIte, Nat.reduceEqDiff, Option.isSome, Option.isNone, cond_true, cond_false, Nat.reduceBEq, Nat.reduceAdd, Nat.reduceMul, binInt, binStr, eq_self, reduceCtorEq, unAV, lenAV, convAV, sliceAV, bound, isCon, AS.spent, liveAddr, offAddr, elemsOf, Nat.reduceLeDiff, nilCmp, putAt, Int.reduceEq, Int.reduceLT, Int.reduceLE, Int.reduceBEq, Int.reduceBNe, Int.reduceAdd, Int.reduceNeg, Int.reduceSub, Int.reduceMul, ilt_t, ilt_f, ile_t, ile_f, ieq_t, ieq_f, ine_t, ine_f, h3, h11, h12, h13, h34, h35, h36, ints_at hw, hIt, wr, List.length_append, Nat.lt_irrefl, Int.natCast_zero]
        refine ⟨h, s ++ dig w, rfl, by simp [hd1]; omega, ?_⟩
        rw [if_pos rfl] at hc
        rw [← hc]
        have e : r.who = w :: r.who.drop 1 := by rw [← hdr, List.drop_zero]
        rw [List.drop_zero] at hdr
        conv => rhs; rw [hdr]
        simp [whoR]
      | succ k =>
        simp (disch := first | omega | (simp only [List.length_append, List.length_cons, List.length_nil, List.length_drop]; omega)) only [evA, argsV, argsOK, partsV, elemsV, optV, evOper, evOp, evAppend, IArg.eval, AS.putD, ↓reduceIte, Nat.reduceEqDiff, Option.isSome, Option.isNone, cond_true, cond_false, Nat.reduceBEq, Nat.reduceAdd, Nat.reduceMul, binInt, binStr, eq_self, reduceCtorEq, unAV, lenAV, convAV, sliceAV, bound, isCon, AS.spent, liveAddr, offAddr, elemsOf, Nat.reduceLeDiff, nilCmp, putAt, Int.reduceEq, Int.reduceLT, Int.reduceLE, Int.reduceBEq, Int.reduceBNe, Int.reduceAdd, Int.reduceNeg, Int.reduceSub, Int.reduceMul, ilt_t, ilt_f, ile_t, ile_f, ieq_t, ieq_f, ine_t, ine_f, h3, h11, h12, h13, h34, h35, h36, ints_at hw, hIt, wr, List.length_append, Nat.lt_irrefl]
        refine ⟨h, s ++ [44, 32] ++ dig w, rfl, by simp [hd1]; omega, ?_⟩
        rw [if_neg (by omega), hdr] at hc
        rw [← hc]
        simp [whoR]
    · have : k = r.who.length := by omega
      subst this
      rw [if_neg (by have := List.length_pos_iff.2 f5; omega), List.drop_length] at hc
      simp (disch := omega) only [evA, argsV, argsOK, partsV, elemsV, optV, evOper, evOp, evAppend, IArg.eval, AS.putD, ↓reduceIte, Nat.reduceEqDiff, Option.isSome, Option.isNone, cond_true, cond_false, Nat.reduceBEq, Nat.reduceAdd, Nat.reduceMul, binInt, binStr, eq_self, reduceCtorEq, unAV, lenAV, convAV, sliceAV, bound, isCon, AS.spent, liveAddr, offAddr, elemsOf, Nat.reduceLeDiff, nilCmp, putAt, Int.reduceEq, Int.reduceLT, Int.reduceLE, Int.reduceBEq, Int.reduceBNe, Int.reduceAdd, Int.reduceNeg, Int.reduceSub, Int.reduceMul, ilt_t, ilt_f, ile_t, ile_f, ieq_t, ieq_f, ine_t, ine_f, h3, h11, h12, h13, h34, h35, h36]
      rw [← hc]; simp [whoR]
  · intro st hst
    obtain ⟨T, g, rfl, h3, h11, h12, h13⟩ := hst.out
    exact hx _ _ h3 h11 h12 h13
  · simp (disch := omega) only [evA, argsV, argsOK, partsV, elemsV, optV, evOper, evOp, evAppend, IArg.eval, AS.putD, ↓reduceIte, Nat.reduceEqDiff, Option.isSome, Option.isNone, cond_true, cond_false, Nat.reduceBEq, Nat.reduceAdd, Nat.reduceMul, binInt, binStr, eq_self, reduceCtorEq, unAV, lenAV, convAV, sliceAV, bound, isCon, AS.spent, liveAddr, offAddr, elemsOf, Nat.reduceLeDiff, nilCmp, putAt, Int.reduceEq, Int.reduceLT, Int.reduceLE, Int.reduceBEq, Int.reduceBNe, Int.reduceAdd, Int.reduceNeg, Int.reduceSub, Int.reduceMul, h3, h11, h12, h13, h34, h35, h36, Int.natCast_zero]
    exact ⟨s0, rfl, by omega, by simp⟩

theorem whoR_len : ∀ (l : List Int) b, (whoR b l).length ≤ 3 * l.length
  | [], b => by cases b <;> simp [whoR]
  | w :: l, b => by have := whoR_len l false; cases b <;> simp [whoR, dig] <;> omega

theorem whoR_drop {l : List Int} (h : l ≠ []) : whoR true l = 32 :: (whoR true l).drop 1 := by
  cases l with
  | nil => exact absurd rfl h
  | cons w l => simp [whoR]

theorem printP_D (l : List Rule) (H : AHeap) (hl : l.length ≤ 4611686018427387904) (hr : ∀ r ∈ l, RuleOK r) : callD A 21 [.slice (encRules l) false] H = some (.str (printRules l), none) := by
  refine callD_W (fn := ir21) rfl rfl rfl ?_
  unfold ir21 printRules
  cases hv : validRules l with
  | false => simp (disch := omega) only [evA, argsV, argsOK, partsV, elemsV, optV, evOper, evOp, evAppend, IArg.eval, AS.putD, ↓reduceIte, Nat.reduceEqDiff, Option.isSome, Option.isNone, cond_true, cond_false, Nat.reduceBEq, Nat.reduceAdd, Nat.reduceMul, binInt, binStr, eq_self, reduceCtorEq, unAV, lenAV, convAV, sliceAV, bound, isCon, AS.spent, liveAddr, offAddr, elemsOf, Nat.reduceLeDiff, nilCmp, putAt, Int.reduceEq, Int.reduceLT, Int.reduceLE, Int.reduceBEq, Int.reduceBNe, Int.reduceAdd, Int.reduceNeg, Int.reduceSub, Int.reduceMul, validP_D l H hl hr, hv, Bool.false_eq_true, if_false]
  | true =>
  have hall : ∀ r ∈ l, validRule r = true := by
    simp only [validRules, Bool.and_eq_true, List.all_eq_true] at hv
    exact hv.1
  have h64 : l.length ≤ 64 := by
    simp only [validRules, Bool.and_eq_true, decide_eq_true_eq] at hv
    exact hv.2
  simp (disch := omega) only [evA, argsV, argsOK, partsV, elemsV, optV, evOper, evOp, evAppend, IArg.eval, AS.putD, ↓reduceIte, Nat.reduceEqDiff, Option.isSome, Option.isNone, cond_true, cond_false, Nat.reduceBEq, Nat.reduceAdd, Nat.reduceMul, binInt, binStr, eq_self, reduceCtorEq, unAV, lenAV, convAV, sliceAV, bound, isCon, AS.spent, liveAddr, offAddr, elemsOf, Nat.reduceLeDiff, nilCmp, putAt, Int.reduceEq, Int.reduceLT, Int.reduceLE, Int.reduceBEq, Int.reduceBNe, Int.reduceAdd, Int.reduceNeg, Int.reduceSub, Int.reduceMul, validP_D l H hl hr, hv, if_true, rules_len, Nat.lt_irrefl]
  refine W_countx l.length 0 (fun i st => ∃ (p : AV) (s : Str), HdG (fun T => T 3 = .ref H.length 0 ∧ T 11 = .slice (encRules l) false ∧ T 12 = .int .i64 l.length ∧ T 13 = .int .i64 i) (H ++ [.box 80 [p, .slice (bytesR s) true]]) H.length st ∧
      (p = .nilptr ∨ p = .ref H.length 0) ∧ s.length ≤ 100 * i ∧ s ++ (l.drop i).flatMap printRule = l.flatMap printRule)
    (fun st => ∃ (p : AV), HdG (fun T => T 3 = .ref H.length 0) (H ++ [.box 80 [p, .slice (bytesR (l.flatMap printRule)) true]]) H.length st ∧ (l.flatMap printRule).length ≤ 6400) (fun _ => False) ?_ ?_ (fun _ h => h.elim) 0 _ (by omega) ?_
  · rintro i st hi ⟨p, s, hst, hp, hs, hc⟩
    obtain ⟨T, g3, rfl, h3, h11, h12, h13⟩ := hst.out
    by_cases h : i < l.length
    · have hg := List.getElem?_eq_getElem h
      have hv1 := hall _ (List.getElem_mem h)
      rw [List.drop_eq_getElem_cons h, List.flatMap_cons] at hc
      generalize l[i] = r at hc hg hv1
      obtain ⟨f1, f2, f3, f4, f5, f6, f7⟩ := valid_facts hv1
      have hd1 : (dig r.n).length = 1 := rfl
      have hwl := whoR_len r.who true
      have hit : itoaF r.n = dig r.n := itoa_dig (by omega) (by omega)
      have hIt : ∀ H', callD A 39 [.int .i64 r.n] H' = some (.str (dig r.n), none) := fun H' => by rw [itoa_D r.n H' ⟨by omega, by omega⟩, hit]
      have wr0 : callD A 38 [.ref H.length 0, .str r.what] (H ++ [.box 80 [p, .slice (bytesR s) true]]) = some (.tuple [.int .i64 r.what.length, .niliface], some ⟨H ++ [.box 80 [.ref H.length 0, .slice (bytesR (s ++ r.what)) true]], H.length⟩) := write_D H p s _ hp (by omega)
      have wr : ∀ (s t : Str), s.length + t.length ≤ 1000000000 → callD A 38 [.ref H.length 0, .str t] (H ++ [.box 80 [.ref H.length 0, .slice (bytesR s) true]]) = some (.tuple [.int .i64 t.length, .niliface], some ⟨H ++ [.box 80 [.ref H.length 0, .slice (bytesR (s ++ t)) true]], H.length⟩) := fun s t h => write_D H _ s t (.inr rfl) h
      cases hm : (r.mod == []) with
      | true =>
        simp (disch := first | omega | (simp only [List.length_append, List.length_cons, List.length_nil, List.length_drop]; omega)) only [evA, argsV, argsOK, partsV, elemsV, optV, evOper, evOp, evAppend, IArg.eval, AS.putD, ↓reduceIte, Nat.reduceEqDiff, Option.isSome, Option.isNone, cond_true, cond_false, Nat.reduceBEq, Nat.reduceAdd, Nat.reduceMul, binInt, binStr, eq_self, reduceCtorEq, unAV, lenAV, convAV, sliceAV, bound, isCon, AS.spent, liveAddr, offAddr, elemsOf, Nat.reduceLeDiff, nilCmp, putAt, Int.reduceEq, Int.reduceLT, Int.reduceLE, Int.reduceBEq, Int.reduceBNe, Int.reduceAdd, Int.reduceNeg, Int.reduceSub, Int.reduceMul, ilt_t, ilt_f, ile_t, ile_f, ieq_t, ieq_f, ine_t, ine_f, h3, h11, h12, h13, rules_at hg, encRule, storeAV, hm, wr0, wr, hIt, List.length_append, ints_len, Nat.lt_irrefl]
        refine printP_inner r l i hv1 H _ (by simp [hd1]; omega) (.slice (encRules l) false) (.int .i64 l.length) _ _ _ ?_ ?_ ?_ ?_ ?_ ?_ ?_ ?_
        case refine_8 =>
          intro T' g' h3 h11 h12 h13
          simp (disch := first | omega | (simp only [List.length_append, List.length_cons, List.length_nil, List.length_drop]; omega)) only [evA, argsV, argsOK, partsV, elemsV, optV, evOper, evOp, evAppend, IArg.eval, AS.putD, ↓reduceIte, Nat.reduceEqDiff, Option.isSome, Option.isNone, cond_true, cond_false, Nat.reduceBEq, Nat.reduceAdd, Nat.reduceMul, binInt, binStr, eq_self, reduceCtorEq, unAV, lenAV, convAV, sliceAV, bound, isCon, AS.spent, liveAddr, offAddr, elemsOf, Nat.reduceLeDiff, nilCmp, putAt, Int.reduceEq, Int.reduceLT, Int.reduceLE, Int.reduceBEq, Int.reduceBNe, Int.reduceAdd, Int.reduceNeg, Int.reduceSub, Int.reduceMul, ilt_t, ilt_f, ile_t, ile_f, ieq_t, ieq_f, ine_t, ine_f, h3, h11, h12, h13, wr, List.length_append, List.length_drop, hd1, Nat.lt_irrefl]
          refine ⟨h, _, _, rfl, .inr rfl, by simp [hd1]; omega, ?_⟩
          rw [← hc]
          simp only [printRule, hm, if_true]
          rw [whoR_drop f5]; simp
        all_goals simp (disch := omega) only [evA, argsV, argsOK, partsV, elemsV, optV, evOper, evOp, evAppend, IArg.eval, AS.putD, ↓reduceIte, Nat.reduceEqDiff, Option.isSome, Option.isNone, cond_true, cond_false, Nat.reduceBEq, Nat.reduceAdd, Nat.reduceMul, binInt, binStr, eq_self, reduceCtorEq, unAV, lenAV, convAV, sliceAV, bound, isCon, AS.spent, liveAddr, offAddr, elemsOf, Nat.reduceLeDiff, nilCmp, putAt, Int.reduceEq, Int.reduceLT, Int.reduceLE, Int.reduceBEq, Int.reduceBNe, Int.reduceAdd, Int.reduceNeg, Int.reduceSub, Int.reduceMul, h3, h11, h12, h13]
      | false =>
        simp (disch := first | omega | (simp only [List.length_append, List.length_cons, List.length_nil, List.length_drop]; omega)) only [evA, argsV, argsOK, partsV, elemsV, optV, evOper, evOp, evAppend, IArg.eval, AS.putD, ↓reduceIte, Nat.reduceEqDiff, Option.isSome, Option.isNone, cond_true, cond_false, Nat.reduceBEq, Nat.reduceAdd, Nat.reduceMul, binInt, binStr, eq_self, reduceCtorEq, unAV, lenAV, convAV, sliceAV, bound, isCon, AS.spent, liveAddr, offAddr, elemsOf, Nat.reduceLeDiff, nilCmp, putAt, Int.reduceEq, Int.reduceLT, Int.reduceLE, Int.reduceBEq, Int.reduceBNe, Int.reduceAdd, Int.reduceNeg, Int.reduceSub, Int.reduceMul, ilt_t, ilt_f, ile_t, ile_f, ieq_t, ieq_f, ine_t, ine_f, h3, h11, h12, h13, rules_at hg, encRule, storeAV, hm, wr0, wr, hIt, List.length_append, ints_len, Nat.lt_irrefl]
        refine printP_inner r l i hv1 H _ (by simp [hd1]; omega) (.slice (encRules l) false) (.int .i64 l.length) _ _ _ ?_ ?_ ?_ ?_ ?_ ?_ ?_ ?_
        case refine_8 =>
          intro T' g' h3 h11 h12 h13
          simp (disch := first | omega | (simp only [List.length_append, List.length_cons, List.length_nil, List.length_drop]; omega)) only [evA, argsV, argsOK, partsV, elemsV, optV, evOper, evOp, evAppend, IArg.eval, AS.putD, ↓reduceIte, Nat.reduceEqDiff, Option.isSome, Option.isNone, cond_true, cond_false, Nat.reduceBEq, Nat.reduceAdd, Nat.reduceMul, binInt, binStr, eq_self, reduceCtorEq, unAV, lenAV, convAV, sliceAV, bound, isCon, AS.spent, liveAddr, offAddr, elemsOf, Nat.reduceLeDiff, nilCmp, putAt, Int.reduceEq, Int.reduceLT, Int.reduceLE, Int.reduceBEq, Int.reduceBNe, Int.reduceAdd, Int.reduceNeg, Int.reduceSub, Int.reduceMul, ilt_t, ilt_f, ile_t, ile_f, ieq_t, ieq_f, ine_t, ine_f, h3, h11, h12, h13, wr, List.length_append, List.length_drop, hd1, Nat.lt_irrefl]
          refine ⟨h, _, _, rfl, .inr rfl, by simp [hd1]; omega, ?_⟩
          rw [← hc]
          simp only [printRule, hm, Bool.false_eq_true, if_false]
          rw [whoR_drop f5]; simp
        all_goals simp (disch := omega) only [evA, argsV, argsOK, partsV, elemsV, optV, evOper, evOp, evAppend, IArg.eval, AS.putD, ↓reduceIte, Nat.reduceEqDiff, Option.isSome, Option.isNone, cond_true, cond_false, Nat.reduceBEq, Nat.reduceAdd, Nat.reduceMul, binInt, binStr, eq_self, reduceCtorEq, unAV, lenAV, convAV, sliceAV, bound, isCon, AS.spent, liveAddr, offAddr, elemsOf, Nat.reduceLeDiff, nilCmp, putAt, Int.reduceEq, Int.reduceLT, Int.reduceLE, Int.reduceBEq, Int.reduceBNe, Int.reduceAdd, Int.reduceNeg, Int.reduceSub, Int.reduceMul, h3, h11, h12, h13]
    · have : i = l.length := by omega
      subst this
      rw [List.drop_length] at hc
      have hc' : s = l.flatMap printRule := by rw [← hc]; simp
      subst hc'
      simp (disch := omega) only [evA, argsV, argsOK, partsV, elemsV, optV, evOper, evOp, evAppend, IArg.eval, AS.putD, ↓reduceIte, Nat.reduceEqDiff, Option.isSome, Option.isNone, cond_true, cond_false, Nat.reduceBEq, Nat.reduceAdd, Nat.reduceMul, binInt, binStr, eq_self, reduceCtorEq, unAV, lenAV, convAV, sliceAV, bound, isCon, AS.spent, liveAddr, offAddr, elemsOf, Nat.reduceLeDiff, nilCmp, putAt, Int.reduceEq, Int.reduceLT, Int.reduceLE, Int.reduceBEq, Int.reduceBNe, Int.reduceAdd, Int.reduceNeg, Int.reduceSub, Int.reduceMul, ilt_t, ilt_f, ile_t, ile_f, ieq_t, ieq_f, ine_t, ine_f, h3, h11, h12, h13]
      exact ⟨p, rfl, by omega⟩
  · rintro st ⟨p, hst, hlen⟩
    obtain ⟨T, g, rfl, h3⟩ := hst.out
    simp (disch := omega) only [evA, argsV, argsOK, partsV, elemsV, optV, evOper, evOp, evAppend, IArg.eval, AS.putD, ↓reduceIte, Nat.reduceEqDiff, Option.isSome, Option.isNone, cond_true, cond_false, Nat.reduceBEq, Nat.reduceAdd, Nat.reduceMul, binInt, binStr, eq_self, reduceCtorEq, unAV, lenAV, convAV, sliceAV, bound, isCon, AS.spent, liveAddr, offAddr, elemsOf, Nat.reduceLeDiff, nilCmp, putAt, Int.reduceEq, Int.reduceLT, Int.reduceLE, Int.reduceBEq, Int.reduceBNe, Int.reduceAdd, Int.reduceNeg, Int.reduceSub, Int.reduceMul, h3, string_D]
  · simp (disch := omega) only [evA, argsV, argsOK, partsV, elemsV, optV, evOper, evOp, evAppend, IArg.eval, AS.putD, ↓reduceIte, Nat.reduceEqDiff, Option.isSome, Option.isNone, cond_true, cond_false, Nat.reduceBEq, Nat.reduceAdd, Nat.reduceMul, binInt, binStr, eq_self, reduceCtorEq, unAV, lenAV, convAV, sliceAV, bound, isCon, AS.spent, liveAddr, offAddr, elemsOf, Nat.reduceLeDiff, nilCmp, putAt, Int.reduceEq, Int.reduceLT, Int.reduceLE, Int.reduceBEq, Int.reduceBNe, Int.reduceAdd, Int.reduceNeg, Int.reduceSub, Int.reduceMul, Int.natCast_zero]
    exact ⟨.nilptr, [], rfl, .inl rfl, by simp, by simp⟩

end Go.Proofs.YtgdcfgpddgedkaaDoor
