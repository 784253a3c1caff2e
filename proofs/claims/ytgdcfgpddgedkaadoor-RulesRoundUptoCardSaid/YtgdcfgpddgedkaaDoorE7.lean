/-
  Equations of functions, 7: the generator of rules.
-/
import Derived.Test.YtgdcfgpddgedkaaDoorE6
set_option linter.unusedSimpArgs false
set_option linter.unusedVariables false
namespace Go.Proofs.YtgdcfgpddgedkaaDoor
open Go Go.Abs Go.Proofs

theorem around_range {n k : Int} (hk : 0 < k) : 0 ≤ around n k ∧ around n k < k := by
  unfold around
  have h : ∀ m : Int, 0 ≤ m → 0 ≤ m.tmod k ∧ m.tmod k < k := fun m hm => ⟨Int.tmod_nonneg _ hm, Int.tmod_lt_of_pos _ hk⟩
  split
  · exact h _ (by omega)
  · exact h _ (by omega)

theorem atZ_range {l : List Int} {i k : Int} (hk : 0 < k) : 0 ≤ atZ l i k ∧ atZ l i k < k := by
  unfold atZ
  split
  · omega
  · exact around_range hk

theorem rules_rows {l : List Rule} : RowsB 4 (encRules l) :=
  ⟨fun r hr => by simp only [encRules, List.mem_map] at hr; obtain ⟨n, _, rfl⟩ := hr; rfl, nb_all fun r hr => by simp only [encRules, List.mem_map] at hr; obtain ⟨n, _, rfl⟩ := hr; rfl⟩
theorem rules_nb {l : List Rule} : nb (encRules l) = true := rules_rows.2
theorem app_rules {l m : List Rule} {o : Bool} (h : l.length + m.length ≤ 1099511627776) : appendAV false 4 64 (.slice (encRules l) true) (.slice (encRules m) o) = some (.slice (encRules (l ++ m)) true) := by
  rw [app_ok rules_rows rules_rows (by rw [rules_len, rules_len]; omega) (by rw [rules_len, rules_len]; omega)]; simp [encRules]
theorem app_rule {l : List Rule} {a b : Str} {n : Int} {w : List Int} {o : Bool} (h : l.length ≤ 1099511627775) :
    appendAV false 4 64 (.slice (encRules l) true) (.slice [[.str a, .str b, .int .i64 n, .slice (ints w) false]] o) = some (.slice (encRules (l ++ [⟨a, b, n, w⟩])) true) := app_rules (m := [⟨a, b, n, w⟩]) (by simp; omega)

theorem incr_append {w : Int} (hw : w ≤ 7) : ∀ {l : List Int} {last : Int}, incr last l = true → (∀ x ∈ l, x < w) → last < w → incr last (l ++ [w]) = true
  | [], last, _, _, h => by simp [incr, h, hw]
  | x :: l, last, hi, hl, h => by
    simp only [incr, Bool.and_eq_true, decide_eq_true_eq, List.cons_append] at hi ⊢
    exact ⟨hi.1, incr_append hw hi.2 (fun y hy => hl y (List.mem_cons_of_mem _ hy)) (hl x (List.mem_cons_self ..))⟩

theorem incr_len : ∀ {l : List Int} {last : Int}, incr last l = true → (l.length : Int) ≤ if last ≤ 7 then 7 - last else 0
  | [], last, _ => by simp; split <;> omega
  | x :: l, last, h => by
    simp only [incr, Bool.and_eq_true, decide_eq_true_eq] at h
    have := incr_len h.2
    rw [if_pos h.1.2] at this
    rw [if_pos (by omega)]
    simp only [List.length_cons]; omega

theorem incr_range : ∀ {l : List Int} {last : Int}, incr last l = true → ∀ w ∈ l, last < w ∧ w ≤ 7
  | x :: l, last, h, w, hw => by
    simp only [incr, Bool.and_eq_true, decide_eq_true_eq] at h
    rcases List.mem_cons.1 hw with rfl | hw
    · exact h.1
    · have := incr_range h.2 w hw
      omega

/-- What the generator makes. -/
structure GenRule (names : List Str) (r : Rule) : Prop where
  what : isWhat r.what = true
  mod : r.mod = [] ∨ r.mod ∈ names
  n1 : 1 ≤ r.n
  n2 : r.n ≤ r.who.length
  who : incr (-1) r.who = true

theorem GenRule.ok {names : List Str} {r : Rule} (h : GenRule names r) (hn : ∀ m ∈ names, m.length ≤ 4611686018427387904) : RuleOK r := by
  have h1 := incr_len h.who
  rw [if_pos (by omega)] at h1
  refine ⟨?_, by have := h.n1; have := h.n2; constructor <;> omega, by omega, fun w hw => by have := incr_range h.who w hw; constructor <;> omega⟩
  rcases h.mod with e | e
  · rw [e]; simp
  · exact hn _ e

theorem GenRule.valid {names : List Str} {r : Rule} (h : GenRule names r) (hn : ∀ m ∈ names, isWord m = true) : validRule r = true := by
  unfold validRule
  rw [h.what, h.who, ile_t h.n1, ile_t h.n2]
  rcases h.mod with e | e
  · simp [e]
  · simp [hn _ e]

theorem rules_inner (H : AHeap) (a0 a1 a7 a8 a9 : AV) (what mod : Str) (bits : Int) (h1 : 1 ≤ bits) (h2 : bits ≤ 255) (T : AFrame) (g g2 lo : Nat) (Q : IExit → AS → Prop) (h0 : T 0 = a0) (h1' : T 1 = a1) (h7 : T 7 = a7) (h8 : T 8 = a8) (h9 : T 9 = a9)
    (h10 : T 10 = .lbox g [.str what, .str mod, .int .i64 0, .slice [] true]) (h12 : T 12 = .int .i64 bits) (h13 : T 13 = .int .i64 0)
    (hx : ∀ T' g' who, incr (-1) who = true → who ≠ [] → T' 0 = a0 → T' 1 = a1 → T' 7 = a7 → T' 8 = a8 → T' 9 = a9 → T' 10 = .lbox g [.str what, .str mod, .int .i64 0, .slice (ints who) true] → Q (.exit 2) ⟨T', H, lo, g'⟩) :
    W A (ir9.body.sub [true, true, true, false, true, false, false, true, false, false, true, true, true, true, false, true, false]) ⟨T, H, lo, g2⟩ Q := by
  unfold ir9
  simp only [ICode.sub]
  refine W_countx 8 2 (fun j => HdG (fun T => ∃ who b, T 0 = a0 ∧ T 1 = a1 ∧ T 7 = a7 ∧ T 8 = a8 ∧ T 9 = a9 ∧ T 10 = .lbox g [.str what, .str mod, .int .i64 0, .slice (ints who) true] ∧ T 12 = .int .i64 b ∧ T 13 = .int .i64 j ∧
      0 ≤ b ∧ b * 2 ^ j ≤ 255 ∧ (who = [] → 0 < b) ∧ incr (-1) who = true ∧ (∀ x ∈ who, x < j)) H lo)
    (HdG (fun T => ∃ who, T 0 = a0 ∧ T 1 = a1 ∧ T 7 = a7 ∧ T 8 = a8 ∧ T 9 = a9 ∧ T 10 = .lbox g [.str what, .str mod, .int .i64 0, .slice (ints who) true] ∧ incr (-1) who = true ∧ who ≠ []) H lo) (fun _ => False) ?_ ?_ (fun _ h => h.elim) 0 _ (by omega) ?_
  · rintro j st hj hst
    obtain ⟨T, g3, rfl, who, b, h0, h1, h7, h8, h9, h10, h12, h13, hb0, hb1, hb2, hi, hm⟩ := hst.out
    by_cases h : j < 8
    · have hlen := incr_len hi
      rw [if_pos (by omega)] at hlen
      have hb255 : b ≤ 255 := by
        have : (1 : Int) ≤ 2 ^ j := by exact_mod_cast Nat.one_le_two_pow
        have := Int.mul_le_mul_of_nonneg_left this hb0
        rw [Int.mul_one] at this
        omega
      have hq : b.tdiv 2 = b / 2 := Int.tdiv_eq_ediv_of_nonneg hb0
      have hr : b.tmod 2 = b % 2 := Int.tmod_eq_emod_of_nonneg hb0
      have hpow : (b / 2) * 2 ^ (j + 1) ≤ 255 := by
        have : (2 : Int) ^ (j + 1) = 2 * 2 ^ j := by rw [Int.pow_succ, Int.mul_comm]
        rw [this, ← Int.mul_assoc]
        have h2 : b / 2 * 2 ≤ b := by omega
        have h3 : (0 : Int) ≤ 2 ^ j := Int.le_of_lt (Int.pow_pos (by omega))
        exact Int.le_trans (Int.mul_le_mul_of_nonneg_right h2 h3) hb1
      by_cases hodd : b % 2 = 1
      · simp (disch := omega) only [evA, argsV, argsOK, partsV, elemsV, optV, evOper, evOp, evAppend, IArg.eval, AS.putD, ↓reduceIte, Nat.reduceEqDiff, Option.isSome, Option.isNone, cond_true, cond_false, Nat.reduceBEq, Nat.reduceAdd, Nat.reduceMul, binInt, binStr, eq_self, reduceCtorEq, unAV, lenAV, convAV, sliceAV, bound, isCon, AS.spent, liveAddr, offAddr, elemsOf, Nat.reduceLeDiff, nilCmp, putAt, Int.reduceEq, Int.reduceLT, Int.reduceLE, Int.reduceBEq, Int.reduceBNe, Int.reduceAdd, Int.reduceNeg, Int.reduceSub, Int.reduceMul, ilt_t, ilt_f, ile_t, ile_f, ieq_t, ieq_f, ine_t, ine_f, h0, h1, h7, h8, h9, h10, h12, h13, hr, hodd, loadAV, takenAt, List.modify_succ_cons, List.modify_zero_cons, loadCellsAV, storeAV, hq]
        refine ⟨h, who ++ [(j : Int)], b / 2, rfl, rfl, by omega, hpow, fun e => by simp at e, incr_append (by omega) hi hm (by omega), fun x hx => ?_⟩
        rcases List.mem_append.1 hx with hx | hx
        · have := hm x hx; omega
        · rw [List.mem_singleton.1 hx]; omega
      · simp (disch := omega) only [evA, argsV, argsOK, partsV, elemsV, optV, evOper, evOp, evAppend, IArg.eval, AS.putD, ↓reduceIte, Nat.reduceEqDiff, Option.isSome, Option.isNone, cond_true, cond_false, Nat.reduceBEq, Nat.reduceAdd, Nat.reduceMul, binInt, binStr, eq_self, reduceCtorEq, unAV, lenAV, convAV, sliceAV, bound, isCon, AS.spent, liveAddr, offAddr, elemsOf, Nat.reduceLeDiff, nilCmp, putAt, Int.reduceEq, Int.reduceLT, Int.reduceLE, Int.reduceBEq, Int.reduceBNe, Int.reduceAdd, Int.reduceNeg, Int.reduceSub, Int.reduceMul, ilt_t, ilt_f, ile_t, ile_f, ieq_t, ieq_f, ine_t, ine_f, h0, h1, h7, h8, h9, h10, h12, h13, hr, hq]
        refine ⟨h, who, b / 2, rfl, rfl, by omega, hpow, fun e => ?_, hi, fun x hx => ?_⟩
        · have := hb2 e; omega
        · have := hm x hx; omega
    · have : j = 8 := by omega
      subst this
      simp (disch := omega) only [evA, argsV, argsOK, partsV, elemsV, optV, evOper, evOp, evAppend, IArg.eval, AS.putD, ↓reduceIte, Nat.reduceEqDiff, Option.isSome, Option.isNone, cond_true, cond_false, Nat.reduceBEq, Nat.reduceAdd, Nat.reduceMul, binInt, binStr, eq_self, reduceCtorEq, unAV, lenAV, convAV, sliceAV, bound, isCon, AS.spent, liveAddr, offAddr, elemsOf, Nat.reduceLeDiff, nilCmp, putAt, Int.reduceEq, Int.reduceLT, Int.reduceLE, Int.reduceBEq, Int.reduceBNe, Int.reduceAdd, Int.reduceNeg, Int.reduceSub, Int.reduceMul, ilt_t, ilt_f, ile_t, ile_f, ieq_t, ieq_f, ine_t, ine_f, h0, h1, h7, h8, h9, h10, h12, h13]
      exact ⟨who, rfl, hi, fun e => by have := hb2 e; omega⟩
  · intro st hst
    obtain ⟨T, g, rfl, who, h0, h1, h7, h8, h9, h10, hi, hne⟩ := hst.out
    exact hx _ _ who hi hne h0 h1 h7 h8 h9 h10
  · simp (disch := omega) only [evA, argsV, argsOK, partsV, elemsV, optV, evOper, evOp, evAppend, IArg.eval, AS.putD, ↓reduceIte, Nat.reduceEqDiff, Option.isSome, Option.isNone, cond_true, cond_false, Nat.reduceBEq, Nat.reduceAdd, Nat.reduceMul, binInt, binStr, eq_self, reduceCtorEq, unAV, lenAV, convAV, sliceAV, bound, isCon, AS.spent, liveAddr, offAddr, elemsOf, Nat.reduceLeDiff, nilCmp, putAt, Int.reduceEq, Int.reduceLT, Int.reduceLE, Int.reduceBEq, Int.reduceBNe, Int.reduceAdd, Int.reduceNeg, Int.reduceSub, Int.reduceMul, h0, h1', h7, h8, h9, h10, h12, h13, Int.natCast_zero]
    exact ⟨[], bits, rfl, rfl, by omega, by omega, fun _ => by omega, rfl, fun x hx => by simp at hx⟩

theorem rules_D (l : List Int) (names : List Str) (most : Int) (H : AHeap) (hl : ∀ n ∈ l, I64 n) (hn : names.length ≤ 1000000) (hm0 : 0 ≤ most) (hm1 : most ≤ 1000000) :
    ∃ r, callD A 9 [.slice (ints l) false, .slice (strs names) false, .int .i64 most] H = some r ∧ ∃ x : List Rule, r = (.slice (encRules x) false, none) ∧ (x.length : Int) ≤ most ∧ ∀ r ∈ x, GenRule names r := by
  refine callD_WP (fn := ir9) rfl rfl rfl ?_
  unfold ir9
  have hn0 := atZ_range (l := l) (i := 0) (k := most + 1) (by omega)
  have h7' : whatsS.length = 7 := rfl
  simp (disch := omega) only [evA, argsV, argsOK, partsV, elemsV, optV, evOper, evOp, evAppend, IArg.eval, AS.putD, ↓reduceIte, Nat.reduceEqDiff, Option.isSome, Option.isNone, cond_true, cond_false, Nat.reduceBEq, Nat.reduceAdd, Nat.reduceMul, binInt, binStr, eq_self, reduceCtorEq, unAV, lenAV, convAV, sliceAV, bound, isCon, AS.spent, liveAddr, offAddr, elemsOf, Nat.reduceLeDiff, nilCmp, putAt, Int.reduceEq, Int.reduceLT, Int.reduceLE, Int.reduceBEq, Int.reduceBNe, Int.reduceAdd, Int.reduceNeg, Int.reduceSub, Int.reduceMul, at_D l _ _ H hl (show 0 < most + 1 by omega)]
  generalize atZ l 0 (most + 1) = n at hn0
  refine W_countx n.toNat 0 (fun i => HdG (fun T => ∃ x : List Rule, T 0 = .slice (ints l) false ∧ T 1 = .slice (strs names) false ∧ T 7 = .slice (encRules x) true ∧ T 8 = .int .i64 n ∧ T 9 = .int .i64 i ∧ x.length = i ∧ ∀ r ∈ x, GenRule names r) H H.length)
    (HdG (fun T => ∃ x : List Rule, T 7 = .slice (encRules x) true ∧ x.length = n.toNat ∧ ∀ r ∈ x, GenRule names r) H H.length) (fun _ => False) ?_ ?_ (fun _ h => h.elim) 0 _ (by omega) ?_
  · rintro i st hi hst
    obtain ⟨T, g, rfl, x, h0, h1, h7, h8, h9, hxl, hx⟩ := hst.out
    by_cases h : i < n.toNat
    · have r1 := atZ_range (l := l) (i := 1 + i) (k := 7) (by omega)
      have r2 := atZ_range (l := l) (i := 9 + i) (k := 2 * names.length + 1) (by omega)
      have r3 := atZ_range (l := l) (i := 17 + i) (k := 255) (by omega)
      have g1 : (strs whatsS)[(atZ l (1 + i) 7).toNat]? = some [.str (whatsS.getD (atZ l (1 + i) 7).toNat [])] := by
        rw [strs_get, List.getD_eq_getElem?_getD]
        have : (atZ l (1 + i) 7).toNat < whatsS.length := by omega
        rw [List.getElem?_eq_getElem this]; rfl
      have g1w : isWhat (whatsS.getD (atZ l (1 + i) 7).toNat []) = true := by
        have : (atZ l (1 + i) 7).toNat < whatsS.length := by omega
        rw [List.getD_eq_getElem?_getD, List.getElem?_eq_getElem this]
        unfold isWhat
        exact List.contains_iff_mem.2 (List.getElem_mem this)
      generalize whatsS.getD (atZ l (1 + i) 7).toNat [] = what at g1 g1w
      by_cases hk : atZ l (9 + i) (2 * names.length + 1) < names.length
      · have hlt : (atZ l (9 + i) (2 * names.length + 1)).toNat < names.length := by omega
        have g2 := strs_at (List.getElem?_eq_getElem hlt)
        have hmem := List.getElem_mem hlt
        generalize names[(atZ l (9 + i) (2 * names.length + 1)).toNat] = mod at g2 hmem
        simp (disch := omega) only [evA, argsV, argsOK, partsV, elemsV, optV, evOper, evOp, evAppend, IArg.eval, AS.putD, ↓reduceIte, Nat.reduceEqDiff, Option.isSome, Option.isNone, cond_true, cond_false, Nat.reduceBEq, Nat.reduceAdd, Nat.reduceMul, binInt, binStr, eq_self, reduceCtorEq, unAV, lenAV, convAV, sliceAV, bound, isCon, AS.spent, liveAddr, offAddr, elemsOf, Nat.reduceLeDiff, nilCmp, putAt, Int.reduceEq, Int.reduceLT, Int.reduceLE, Int.reduceBEq, Int.reduceBNe, Int.reduceAdd, Int.reduceNeg, Int.reduceSub, Int.reduceMul, ilt_t, ilt_f, ile_t, ile_f, ieq_t, ieq_f, ine_t, ine_f, h0, h1, h7, h8, h9, whats_D, at_D l _ _ H hl, asNat_of, g1, storeAV, strs_len, g2]
        refine rules_inner H (.slice (ints l) false) (.slice (strs names) false) (.slice (encRules x) true) (.int .i64 n) (.int .i64 i) what mod (1 + atZ l (17 + i) 255) (by omega) (by omega) _ g _ _ _ ?_ ?_ ?_ ?_ ?_ ?_ ?_ ?_ ?_
        case refine_9 =>
          intro T' g' who hi hne h0 h1 h7 h8 h9 h10
          have hw : 0 < who.length := List.length_pos_iff.2 hne
          have hwl := incr_len hi
          rw [if_pos (by omega)] at hwl
          have r4 := atZ_range (l := l) (i := 25 + i) (k := who.length) (by omega)
          simp (disch := omega) only [evA, argsV, argsOK, partsV, elemsV, optV, evOper, evOp, evAppend, IArg.eval, AS.putD, ↓reduceIte, Nat.reduceEqDiff, Option.isSome, Option.isNone, cond_true, cond_false, Nat.reduceBEq, Nat.reduceAdd, Nat.reduceMul, binInt, binStr, eq_self, reduceCtorEq, unAV, lenAV, convAV, sliceAV, bound, isCon, AS.spent, liveAddr, offAddr, elemsOf, Nat.reduceLeDiff, nilCmp, putAt, Int.reduceEq, Int.reduceLT, Int.reduceLE, Int.reduceBEq, Int.reduceBNe, Int.reduceAdd, Int.reduceNeg, Int.reduceSub, Int.reduceMul, h0, h1, h7, h8, h9, h10, at_D l _ _ H hl, ints_len, storeAV, app_rule]
          refine ⟨h, x ++ [⟨what, mod, 1 + atZ l (25 + i) who.length, who⟩], rfl, by simp [hxl], fun r hr => ?_⟩
          rcases List.mem_append.1 hr with hr | hr
          · exact hx r hr
          · rw [List.mem_singleton.1 hr]
            exact ⟨g1w, .inr hmem, by simp only; omega, by simp only; omega, hi⟩
        all_goals simp (disch := omega) only [evA, argsV, argsOK, partsV, elemsV, optV, evOper, evOp, evAppend, IArg.eval, AS.putD, ↓reduceIte, Nat.reduceEqDiff, Option.isSome, Option.isNone, cond_true, cond_false, Nat.reduceBEq, Nat.reduceAdd, Nat.reduceMul, binInt, binStr, eq_self, reduceCtorEq, unAV, lenAV, convAV, sliceAV, bound, isCon, AS.spent, liveAddr, offAddr, elemsOf, Nat.reduceLeDiff, nilCmp, putAt, Int.reduceEq, Int.reduceLT, Int.reduceLE, Int.reduceBEq, Int.reduceBNe, Int.reduceAdd, Int.reduceNeg, Int.reduceSub, Int.reduceMul, h0, h1, h7, h8, h9]
      · simp (disch := omega) only [evA, argsV, argsOK, partsV, elemsV, optV, evOper, evOp, evAppend, IArg.eval, AS.putD, ↓reduceIte, Nat.reduceEqDiff, Option.isSome, Option.isNone, cond_true, cond_false, Nat.reduceBEq, Nat.reduceAdd, Nat.reduceMul, binInt, binStr, eq_self, reduceCtorEq, unAV, lenAV, convAV, sliceAV, bound, isCon, AS.spent, liveAddr, offAddr, elemsOf, Nat.reduceLeDiff, nilCmp, putAt, Int.reduceEq, Int.reduceLT, Int.reduceLE, Int.reduceBEq, Int.reduceBNe, Int.reduceAdd, Int.reduceNeg, Int.reduceSub, Int.reduceMul, ilt_t, ilt_f, ile_t, ile_f, ieq_t, ieq_f, ine_t, ine_f, h0, h1, h7, h8, h9, whats_D, at_D l _ _ H hl, asNat_of, g1, storeAV, strs_len]
        refine rules_inner H (.slice (ints l) false) (.slice (strs names) false) (.slice (encRules x) true) (.int .i64 n) (.int .i64 i) what [] (1 + atZ l (17 + i) 255) (by omega) (by omega) _ g _ _ _ ?_ ?_ ?_ ?_ ?_ ?_ ?_ ?_ ?_
        case refine_9 =>
          intro T' g' who hi hne h0 h1 h7 h8 h9 h10
          have hw : 0 < who.length := List.length_pos_iff.2 hne
          have hwl := incr_len hi
          rw [if_pos (by omega)] at hwl
          have r4 := atZ_range (l := l) (i := 25 + i) (k := who.length) (by omega)
          simp (disch := omega) only [evA, argsV, argsOK, partsV, elemsV, optV, evOper, evOp, evAppend, IArg.eval, AS.putD, ↓reduceIte, Nat.reduceEqDiff, Option.isSome, Option.isNone, cond_true, cond_false, Nat.reduceBEq, Nat.reduceAdd, Nat.reduceMul, binInt, binStr, eq_self, reduceCtorEq, unAV, lenAV, convAV, sliceAV, bound, isCon, AS.spent, liveAddr, offAddr, elemsOf, Nat.reduceLeDiff, nilCmp, putAt, Int.reduceEq, Int.reduceLT, Int.reduceLE, Int.reduceBEq, Int.reduceBNe, Int.reduceAdd, Int.reduceNeg, Int.reduceSub, Int.reduceMul, h0, h1, h7, h8, h9, h10, at_D l _ _ H hl, ints_len, storeAV, app_rule]
          refine ⟨h, x ++ [⟨what, [], 1 + atZ l (25 + i) who.length, who⟩], rfl, by simp [hxl], fun r hr => ?_⟩
          rcases List.mem_append.1 hr with hr | hr
          · exact hx r hr
          · rw [List.mem_singleton.1 hr]
            exact ⟨g1w, .inl rfl, by simp only; omega, by simp only; omega, hi⟩
        all_goals simp (disch := omega) only [evA, argsV, argsOK, partsV, elemsV, optV, evOper, evOp, evAppend, IArg.eval, AS.putD, ↓reduceIte, Nat.reduceEqDiff, Option.isSome, Option.isNone, cond_true, cond_false, Nat.reduceBEq, Nat.reduceAdd, Nat.reduceMul, binInt, binStr, eq_self, reduceCtorEq, unAV, lenAV, convAV, sliceAV, bound, isCon, AS.spent, liveAddr, offAddr, elemsOf, Nat.reduceLeDiff, nilCmp, putAt, Int.reduceEq, Int.reduceLT, Int.reduceLE, Int.reduceBEq, Int.reduceBNe, Int.reduceAdd, Int.reduceNeg, Int.reduceSub, Int.reduceMul, h0, h1, h7, h8, h9]
    · have : i = n.toNat := by omega
      subst this
      simp (disch := omega) only [evA, argsV, argsOK, partsV, elemsV, optV, evOper, evOp, evAppend, IArg.eval, AS.putD, ↓reduceIte, Nat.reduceEqDiff, Option.isSome, Option.isNone, cond_true, cond_false, Nat.reduceBEq, Nat.reduceAdd, Nat.reduceMul, binInt, binStr, eq_self, reduceCtorEq, unAV, lenAV, convAV, sliceAV, bound, isCon, AS.spent, liveAddr, offAddr, elemsOf, Nat.reduceLeDiff, nilCmp, putAt, Int.reduceEq, Int.reduceLT, Int.reduceLE, Int.reduceBEq, Int.reduceBNe, Int.reduceAdd, Int.reduceNeg, Int.reduceSub, Int.reduceMul, ilt_t, ilt_f, ile_t, ile_f, ieq_t, ieq_f, ine_t, ine_f, h0, h1, h7, h8, h9]
      exact ⟨x, rfl, hxl, hx⟩
  · intro st hst
    obtain ⟨T, g, rfl, x, h7, hxl, hx⟩ := hst.out
    simp (disch := omega) only [evA, argsV, argsOK, partsV, elemsV, optV, evOper, evOp, evAppend, IArg.eval, AS.putD, ↓reduceIte, Nat.reduceEqDiff, Option.isSome, Option.isNone, cond_true, cond_false, Nat.reduceBEq, Nat.reduceAdd, Nat.reduceMul, binInt, binStr, eq_self, reduceCtorEq, unAV, lenAV, convAV, sliceAV, bound, isCon, AS.spent, liveAddr, offAddr, elemsOf, Nat.reduceLeDiff, nilCmp, putAt, Int.reduceEq, Int.reduceLT, Int.reduceLE, Int.reduceBEq, Int.reduceBNe, Int.reduceAdd, Int.reduceNeg, Int.reduceSub, Int.reduceMul, h7]
    exact ⟨x, rfl, by omega, hx⟩
  · simp (disch := omega) only [evA, argsV, argsOK, partsV, elemsV, optV, evOper, evOp, evAppend, IArg.eval, AS.putD, ↓reduceIte, Nat.reduceEqDiff, Option.isSome, Option.isNone, cond_true, cond_false, Nat.reduceBEq, Nat.reduceAdd, Nat.reduceMul, binInt, binStr, eq_self, reduceCtorEq, unAV, lenAV, convAV, sliceAV, bound, isCon, AS.spent, liveAddr, offAddr, elemsOf, Nat.reduceLeDiff, nilCmp, putAt, Int.reduceEq, Int.reduceLT, Int.reduceLE, Int.reduceBEq, Int.reduceBNe, Int.reduceAdd, Int.reduceNeg, Int.reduceSub, Int.reduceMul, Int.natCast_zero]
    exact ⟨[], rfl, rfl, fun r hr => by simp at hr⟩

end Go.Proofs.YtgdcfgpddgedkaaDoor
