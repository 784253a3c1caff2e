/-
  Equations of functions, 8: rules with one thing changed.
-/
import Derived.Test.YtgdcfgpddgedkaaDoorE7
set_option linter.unusedSimpArgs false
set_option linter.unusedVariables false
namespace Go.Proofs.YtgdcfgpddgedkaaDoor
open Go Go.Abs Go.Proofs

/-- Rules with at most so many reviewers each. -/
def RulesB (b : Nat) (x : List Rule) : Prop := ∀ r ∈ x, RuleOK r ∧ r.who.length ≤ b

theorem RulesB.set {b : Nat} {x : List Rule} {i : Nat} {r : Rule} (h : RulesB b x) (hr : RuleOK r ∧ r.who.length ≤ b) : RulesB b (x.set i r) := by
  intro q hq
  rcases List.mem_or_eq_of_mem_set hq with hq | rfl
  · exact h q hq
  · exact hr

theorem RulesB.append {b : Nat} {x : List Rule} {r : Rule} (h : RulesB b x) (hr : RuleOK r ∧ r.who.length ≤ b) : RulesB b (x ++ [r]) := by
  intro q hq
  rcases List.mem_append.1 hq with hq | hq
  · exact h q hq
  · rw [List.mem_singleton.1 hq]; exact hr

theorem RulesB.mono {b c : Nat} {x : List Rule} (h : RulesB b x) (hb : b ≤ c) : RulesB c x := fun r hr => ⟨(h r hr).1, Nat.le_trans (h r hr).2 hb⟩

theorem rules_set {x : List Rule} {i : Nat} {r : Rule} : (encRules x).set i (encRule r) = encRules (x.set i r) := by simp [encRules, List.map_set]

theorem rules_set' {x : List Rule} {i : Nat} {a b : Str} {n : Int} {w : List Int} : (encRules x).set i [.str a, .str b, .int .i64 n, .slice (ints w) false] = encRules (x.set i ⟨a, b, n, w⟩) := rules_set (r := ⟨a, b, n, w⟩)

theorem rules_set0 {x : List Rule} {i : Nat} {a b : Str} {n : Int} : (encRules x).set i [.str a, .str b, .int .i64 n, .slice [] false] = encRules (x.set i ⟨a, b, n, []⟩) := rules_set (r := ⟨a, b, n, []⟩)

theorem fits_rules {x : List Rule} (h : x.length ≤ 1000000000) : fitsRows 4 64 [] (encRules x) = true := fits_ok ⟨fun r h => by simp at h, rfl⟩ rules_rows (by rw [rules_len]; simp only [List.length_nil]; omega) (by rw [rules_len]; simp only [List.length_nil]; omega)

theorem spoilt_D (x : List Rule) (at' how by' : Int) (H : AHeap) (B : Nat) (hB : B ≤ 1000000) (hx : RulesB B x) (hl : x.length ≤ 1000000) (h1 : I64 at') (h2 : I64 how) (h3 : I64 by') :
    ∃ r, callD A 18 [.slice (encRules x) false, .int .i64 at', .int .i64 how, .int .i64 by'] H = some r ∧ ∃ y : List Rule, r = (.slice (encRules y) true, none) ∧ y.length ≤ x.length + 70 ∧ RulesB (B + 1) y := by
  refine callD_WP (fn := ir18) rfl rfl rfl ?_
  unfold ir18
  by_cases hx0 : x.length = 0
  · obtain rfl : x = [] := List.length_eq_zero_iff.1 hx0
    simp (disch := omega) only [evA, argsV, argsOK, partsV, elemsV, optV, evOper, evOp, evAppend, IArg.eval, AS.putD, ↓reduceIte, Nat.reduceEqDiff, Option.isSome, Option.isNone, cond_true, cond_false, Nat.reduceBEq, Nat.reduceAdd, Nat.reduceMul, binInt, binStr, eq_self, reduceCtorEq, unAV, lenAV, convAV, sliceAV, bound, isCon, AS.spent, liveAddr, offAddr, elemsOf, Nat.reduceLeDiff, nilCmp, putAt, Int.reduceEq, Int.reduceLT, Int.reduceLE, Int.reduceBEq, Int.reduceBNe, Int.reduceAdd, Int.reduceNeg, Int.reduceSub, Int.reduceMul, ilt_t, ilt_f, ile_t, ile_f, ieq_t, ieq_f, ine_t, ine_f, List.isEmpty_nil, fits_rules, rules_len]
    exact ⟨[⟨[97, 110, 121], [], by', []⟩], rfl, by simp, fun r hr => by rw [List.mem_singleton.1 hr]; exact ⟨⟨by simp, h3, by simp, fun w hw => by simp at hw⟩, by simp⟩⟩
  have hk := around_range (n := at') (k := x.length) (by omega)
  have ha : callD A 11 [.int .i64 at', .int .i64 (x.length : Int)] H = some (.int .i64 (around at' x.length), none) := around_D _ _ H h1 (by omega)
  have hlt : (around at' x.length).toNat < x.length := by omega
  have hg := List.getElem?_eq_getElem hlt
  have hr := hx _ (List.getElem_mem hlt)
  generalize hkk : around at' (x.length : Int) = k at ha hk hlt hg hr
  generalize x[k.toNat] = r at hg hr
  obtain ⟨⟨m1, m2, m3, m4⟩, m5⟩ := hr
  have hh := around_range (n := how) (k := 8) (by omega)
  have hxb : RulesB (B + 1) x := hx.mono (by omega)
  have wI : ∀ (a b : Int), 0 < b → b ≤ 1000 → I64 (around a b) := fun a b h h' => by have := around_range (n := a) h; constructor <;> omega
  have put : ∀ r' : Rule, RuleOK r' → r'.who.length ≤ B + 1 → (x.set k.toNat r').length ≤ x.length + 70 ∧ RulesB (B + 1) (x.set k.toNat r') := fun r' h h' => ⟨by simp, hxb.set ⟨h, h'⟩⟩
  rcases (show around how 8 = 0 ∨ around how 8 = 1 ∨ around how 8 = 2 ∨ around how 8 = 3 ∨ around how 8 = 4 ∨ around how 8 = 5 ∨ around how 8 = 6 ∨ around how 8 = 7 by omega) with hb | hb | hb | hb | hb | hb | hb | hb
  · have h4 := around_range (n := by') (k := 4) (by omega)
    rcases (show around by' 4 = 0 ∨ around by' 4 = 1 ∨ around by' 4 = 2 ∨ around by' 4 = 3 by omega) with e | e | e | e <;>
    (simp (disch := omega) only [evA, argsV, argsOK, partsV, elemsV, optV, evOper, evOp, evAppend, IArg.eval, AS.putD, ↓reduceIte, Nat.reduceEqDiff, Option.isSome, Option.isNone, cond_true, cond_false, Nat.reduceBEq, Nat.reduceAdd, Nat.reduceMul, binInt, binStr, eq_self, reduceCtorEq, unAV, lenAV, convAV, sliceAV, bound, isCon, AS.spent, liveAddr, offAddr, elemsOf, Nat.reduceLeDiff, nilCmp, putAt, Int.reduceEq, Int.reduceLT, Int.reduceLE, Int.reduceBEq, Int.reduceBNe, Int.reduceAdd, Int.reduceNeg, Int.reduceSub, Int.reduceMul, ilt_t, ilt_f, ile_t, ile_f, ieq_t, ieq_f, ine_t, ine_f, List.isEmpty_nil, fits_rules, rules_len, ha, hb, asNat_of, rules_at hg, encRule, around_D _ _ H h2, around_D _ _ H h3, storeAV, rules_set', rules_nb, ints_len, e]
     exact ⟨_, rfl, put _ ⟨m1, m2, m3, m4⟩ (by simp only; omega)⟩)
  · have h4 := around_range (n := by') (k := 5) (by omega)
    rcases (show around by' 5 = 0 ∨ around by' 5 = 1 ∨ around by' 5 = 2 ∨ around by' 5 = 3 ∨ around by' 5 = 4 by omega) with e | e | e | e | e <;>
    (simp (disch := omega) only [evA, argsV, argsOK, partsV, elemsV, optV, evOper, evOp, evAppend, IArg.eval, AS.putD, ↓reduceIte, Nat.reduceEqDiff, Option.isSome, Option.isNone, cond_true, cond_false, Nat.reduceBEq, Nat.reduceAdd, Nat.reduceMul, binInt, binStr, eq_self, reduceCtorEq, unAV, lenAV, convAV, sliceAV, bound, isCon, AS.spent, liveAddr, offAddr, elemsOf, Nat.reduceLeDiff, nilCmp, putAt, Int.reduceEq, Int.reduceLT, Int.reduceLE, Int.reduceBEq, Int.reduceBNe, Int.reduceAdd, Int.reduceNeg, Int.reduceSub, Int.reduceMul, ilt_t, ilt_f, ile_t, ile_f, ieq_t, ieq_f, ine_t, ine_f, List.isEmpty_nil, fits_rules, rules_len, ha, hb, asNat_of, rules_at hg, encRule, around_D _ _ H h2, around_D _ _ H h3, storeAV, rules_set', rules_nb, ints_len, e]
     exact ⟨_, rfl, put _ ⟨by simp, m2, m3, m4⟩ (by simp only; omega)⟩)
  · simp (disch := omega) only [evA, argsV, argsOK, partsV, elemsV, optV, evOper, evOp, evAppend, IArg.eval, AS.putD, ↓reduceIte, Nat.reduceEqDiff, Option.isSome, Option.isNone, cond_true, cond_false, Nat.reduceBEq, Nat.reduceAdd, Nat.reduceMul, binInt, binStr, eq_self, reduceCtorEq, unAV, lenAV, convAV, sliceAV, bound, isCon, AS.spent, liveAddr, offAddr, elemsOf, Nat.reduceLeDiff, nilCmp, putAt, Int.reduceEq, Int.reduceLT, Int.reduceLE, Int.reduceBEq, Int.reduceBNe, Int.reduceAdd, Int.reduceNeg, Int.reduceSub, Int.reduceMul, ilt_t, ilt_f, ile_t, ile_f, ieq_t, ieq_f, ine_t, ine_f, List.isEmpty_nil, fits_rules, rules_len, ha, hb, asNat_of, rules_at hg, encRule, around_D _ _ H h2, around_D _ _ H h3, storeAV, rules_set', rules_set0, rules_nb, ints_len]
    exact ⟨_, rfl, put _ ⟨m1, h3, m3, m4⟩ (by simp only; omega)⟩
  · have h4 := around_range (n := by') (k := 2) (by omega)
    simp (disch := omega) only [evA, argsV, argsOK, partsV, elemsV, optV, evOper, evOp, evAppend, IArg.eval, AS.putD, ↓reduceIte, Nat.reduceEqDiff, Option.isSome, Option.isNone, cond_true, cond_false, Nat.reduceBEq, Nat.reduceAdd, Nat.reduceMul, binInt, binStr, eq_self, reduceCtorEq, unAV, lenAV, convAV, sliceAV, bound, isCon, AS.spent, liveAddr, offAddr, elemsOf, Nat.reduceLeDiff, nilCmp, putAt, Int.reduceEq, Int.reduceLT, Int.reduceLE, Int.reduceBEq, Int.reduceBNe, Int.reduceAdd, Int.reduceNeg, Int.reduceSub, Int.reduceMul, ilt_t, ilt_f, ile_t, ile_f, ieq_t, ieq_f, ine_t, ine_f, List.isEmpty_nil, fits_rules, rules_len, ha, hb, asNat_of, rules_at hg, encRule, around_D _ _ H h2, around_D _ _ H h3, storeAV, rules_set', rules_set0, rules_nb, ints_len]
    exact ⟨_, rfl, put _ ⟨m1, ⟨by simp only; omega, by simp only; omega⟩, m3, m4⟩ (by simp only; omega)⟩
  · have h4 := around_range (n := by') (k := 10) (by omega)
    simp (disch := omega) only [evA, argsV, argsOK, partsV, elemsV, optV, evOper, evOp, evAppend, IArg.eval, AS.putD, ↓reduceIte, Nat.reduceEqDiff, Option.isSome, Option.isNone, cond_true, cond_false, Nat.reduceBEq, Nat.reduceAdd, Nat.reduceMul, binInt, binStr, eq_self, reduceCtorEq, unAV, lenAV, convAV, sliceAV, bound, isCon, AS.spent, liveAddr, offAddr, elemsOf, Nat.reduceLeDiff, nilCmp, putAt, Int.reduceEq, Int.reduceLT, Int.reduceLE, Int.reduceBEq, Int.reduceBNe, Int.reduceAdd, Int.reduceNeg, Int.reduceSub, Int.reduceMul, ilt_t, ilt_f, ile_t, ile_f, ieq_t, ieq_f, ine_t, ine_f, List.isEmpty_nil, fits_rules, rules_len, ha, hb, asNat_of, rules_at hg, encRule, around_D _ _ H h2, around_D _ _ H h3, storeAV, rules_set', rules_set0, rules_nb, ints_len]
    refine ⟨_, rfl, put _ ⟨m1, m2, by simp; omega, fun w hw => ?_⟩ (by simp; omega)⟩
    rcases List.mem_append.1 hw with hw | hw
    · exact m4 w hw
    · rw [List.mem_singleton.1 hw]; exact wI _ _ (by omega) (by omega)
  · have h4 := around_range (n := by') (k := 4) (by omega)
    simp (disch := omega) only [evA, argsV, argsOK, partsV, elemsV, optV, evOper, evOp, evAppend, IArg.eval, AS.putD, ↓reduceIte, Nat.reduceEqDiff, Option.isSome, Option.isNone, cond_true, cond_false, Nat.reduceBEq, Nat.reduceAdd, Nat.reduceMul, binInt, binStr, eq_self, reduceCtorEq, unAV, lenAV, convAV, sliceAV, bound, isCon, AS.spent, liveAddr, offAddr, elemsOf, Nat.reduceLeDiff, nilCmp, putAt, Int.reduceEq, Int.reduceLT, Int.reduceLE, Int.reduceBEq, Int.reduceBNe, Int.reduceAdd, Int.reduceNeg, Int.reduceSub, Int.reduceMul, ilt_t, ilt_f, ile_t, ile_f, ieq_t, ieq_f, ine_t, ine_f, List.isEmpty_nil, fits_rules, rules_len, ha, hb, asNat_of, rules_at hg, encRule, around_D _ _ H h2, around_D _ _ H h3, storeAV, rules_set', rules_set0, rules_nb, ints_len]
    refine ⟨_, rfl, put _ ⟨m1, m2, by simp; omega, fun w hw => ?_⟩ (by simp; omega)⟩
    rcases List.mem_cons.1 hw with rfl | hw
    · constructor <;> omega
    · exact m4 w hw
  · have h4 := around_range (n := by') (k := 3) (by omega)
    have hg0 : x[0]? = some x[0] := List.getElem?_eq_getElem (by omega)
    have hr0 := hxb _ (List.getElem_mem (show 0 < x.length by omega))
    generalize x[0] = r0 at hg0 hr0
    simp (disch := omega) only [evA, argsV, argsOK, partsV, elemsV, optV, evOper, evOp, evAppend, IArg.eval, AS.putD, ↓reduceIte, Nat.reduceEqDiff, Option.isSome, Option.isNone, cond_true, cond_false, Nat.reduceBEq, Nat.reduceAdd, Nat.reduceMul, binInt, binStr, eq_self, reduceCtorEq, unAV, lenAV, convAV, sliceAV, bound, isCon, AS.spent, liveAddr, offAddr, elemsOf, Nat.reduceLeDiff, nilCmp, putAt, Int.reduceEq, Int.reduceLT, Int.reduceLE, Int.reduceBEq, Int.reduceBNe, Int.reduceAdd, Int.reduceNeg, Int.reduceSub, Int.reduceMul, ilt_t, ilt_f, ile_t, ile_f, ieq_t, ieq_f, ine_t, ine_f, List.isEmpty_nil, fits_rules, rules_len, ha, hb, asNat_of, rules_at hg, encRule, around_D _ _ H h2, around_D _ _ H h3, storeAV, rules_set', rules_nb, ints_len]
    refine W_loopm 1 (fun k => HdG (fun T => ∃ g y, T 0 = .slice (encRules x) false ∧ T 3 = .int .i64 by' ∧ T 9 = .lsl g (encRules y) ∧ y.length ≤ x.length + 70 ∧ RulesB (B + 1) y ∧ k = 66 - y.length) H H.length)
      (HdG (fun T => ∃ g y, T 9 = .lsl g (encRules y) ∧ y.length ≤ x.length + 70 ∧ RulesB (B + 1) y) H H.length) (fun _ => False) ?_ ?_ (fun _ h => h.elim) (66 - x.length) _ ?_
    · rintro j st hst
      obtain ⟨T, g3, rfl, g, y, q0, q3, q9, hyl, hy, hj⟩ := hst.out
      by_cases h : (y.length : Int) < 63 + around by' 3
      · simp (disch := omega) only [evA, argsV, argsOK, partsV, elemsV, optV, evOper, evOp, evAppend, IArg.eval, AS.putD, ↓reduceIte, Nat.reduceEqDiff, Option.isSome, Option.isNone, cond_true, cond_false, Nat.reduceBEq, Nat.reduceAdd, Nat.reduceMul, binInt, binStr, eq_self, reduceCtorEq, unAV, lenAV, convAV, sliceAV, bound, isCon, AS.spent, liveAddr, offAddr, elemsOf, Nat.reduceLeDiff, nilCmp, putAt, Int.reduceEq, Int.reduceLT, Int.reduceLE, Int.reduceBEq, Int.reduceBNe, Int.reduceAdd, Int.reduceNeg, Int.reduceSub, Int.reduceMul, ilt_t, ilt_f, ile_t, ile_f, ieq_t, ieq_f, ine_t, ine_f, q0, q3, q9, rules_len, around_D _ _ H h3, rules_at hg0, encRule, elemsOf]
        have hf : fitsRows 4 64 (encRules y) [[.str r0.what, .str r0.mod, .int .i64 r0.n, .slice (ints r0.who) false]] = true := fits_ok rules_rows (rules_rows (l := [r0])) (by rw [rules_len]; simp only [List.length_cons, List.length_nil]; omega) (by rw [rules_len]; simp only [List.length_cons, List.length_nil]; omega)
        simp (disch := omega) only [evA, argsV, argsOK, partsV, elemsV, optV, evOper, evOp, evAppend, IArg.eval, AS.putD, ↓reduceIte, Nat.reduceEqDiff, Option.isSome, Option.isNone, cond_true, cond_false, Nat.reduceBEq, Nat.reduceAdd, Nat.reduceMul, binInt, binStr, eq_self, reduceCtorEq, unAV, lenAV, convAV, sliceAV, bound, isCon, AS.spent, liveAddr, offAddr, elemsOf, Nat.reduceLeDiff, nilCmp, putAt, Int.reduceEq, Int.reduceLT, Int.reduceLE, Int.reduceBEq, Int.reduceBNe, Int.reduceAdd, Int.reduceNeg, Int.reduceSub, Int.reduceMul, ilt_t, ilt_f, ile_t, ile_f, ieq_t, ieq_f, ine_t, ine_f, hf, q0, q3]
        refine ⟨66 - (y.length + 1), by omega, g3 + 1 + 1, y ++ [r0], ?_, by simp; omega, hy.append hr0, by simp⟩
        simp [encRules, encRule]
      · simp (disch := omega) only [evA, argsV, argsOK, partsV, elemsV, optV, evOper, evOp, evAppend, IArg.eval, AS.putD, ↓reduceIte, Nat.reduceEqDiff, Option.isSome, Option.isNone, cond_true, cond_false, Nat.reduceBEq, Nat.reduceAdd, Nat.reduceMul, binInt, binStr, eq_self, reduceCtorEq, unAV, lenAV, convAV, sliceAV, bound, isCon, AS.spent, liveAddr, offAddr, elemsOf, Nat.reduceLeDiff, nilCmp, putAt, Int.reduceEq, Int.reduceLT, Int.reduceLE, Int.reduceBEq, Int.reduceBNe, Int.reduceAdd, Int.reduceNeg, Int.reduceSub, Int.reduceMul, ilt_t, ilt_f, ile_t, ile_f, ieq_t, ieq_f, ine_t, ine_f, q0, q3, q9, rules_len, around_D _ _ H h3]
        exact ⟨g, y, rfl, hyl, hy⟩
    · intro st hst
      obtain ⟨T, g3, rfl, g, y, q9, hyl, hy⟩ := hst.out
      simp (disch := omega) only [evA, argsV, argsOK, partsV, elemsV, optV, evOper, evOp, evAppend, IArg.eval, AS.putD, ↓reduceIte, Nat.reduceEqDiff, Option.isSome, Option.isNone, cond_true, cond_false, Nat.reduceBEq, Nat.reduceAdd, Nat.reduceMul, binInt, binStr, eq_self, reduceCtorEq, unAV, lenAV, convAV, sliceAV, bound, isCon, AS.spent, liveAddr, offAddr, elemsOf, Nat.reduceLeDiff, nilCmp, putAt, Int.reduceEq, Int.reduceLT, Int.reduceLE, Int.reduceBEq, Int.reduceBNe, Int.reduceAdd, Int.reduceNeg, Int.reduceSub, Int.reduceMul, q9, rules_nb]
      exact ⟨_, rfl, hyl, hy⟩
    · simp (disch := omega) only [evA, argsV, argsOK, partsV, elemsV, optV, evOper, evOp, evAppend, IArg.eval, AS.putD, ↓reduceIte, Nat.reduceEqDiff, Option.isSome, Option.isNone, cond_true, cond_false, Nat.reduceBEq, Nat.reduceAdd, Nat.reduceMul, binInt, binStr, eq_self, reduceCtorEq, unAV, lenAV, convAV, sliceAV, bound, isCon, AS.spent, liveAddr, offAddr, elemsOf, Nat.reduceLeDiff, nilCmp, putAt, Int.reduceEq, Int.reduceLT, Int.reduceLE, Int.reduceBEq, Int.reduceBNe, Int.reduceAdd, Int.reduceNeg, Int.reduceSub, Int.reduceMul]
      exact ⟨_, x, rfl, by omega, hxb, rfl⟩
  · simp (disch := omega) only [evA, argsV, argsOK, partsV, elemsV, optV, evOper, evOp, evAppend, IArg.eval, AS.putD, ↓reduceIte, Nat.reduceEqDiff, Option.isSome, Option.isNone, cond_true, cond_false, Nat.reduceBEq, Nat.reduceAdd, Nat.reduceMul, binInt, binStr, eq_self, reduceCtorEq, unAV, lenAV, convAV, sliceAV, bound, isCon, AS.spent, liveAddr, offAddr, elemsOf, Nat.reduceLeDiff, nilCmp, putAt, Int.reduceEq, Int.reduceLT, Int.reduceLE, Int.reduceBEq, Int.reduceBNe, Int.reduceAdd, Int.reduceNeg, Int.reduceSub, Int.reduceMul, ilt_t, ilt_f, ile_t, ile_f, ieq_t, ieq_f, ine_t, ine_f, List.isEmpty_nil, fits_rules, rules_len, ha, hb, asNat_of, rules_at hg, encRule, around_D _ _ H h2, around_D _ _ H h3, storeAV, rules_set', rules_set0, rules_nb, ints_len]
    exact ⟨_, rfl, put ⟨r.what, r.mod, r.n, []⟩ ⟨m1, m2, by simp, fun w hw => by simp at hw⟩ (by simp)⟩

end Go.Proofs.YtgdcfgpddgedkaaDoor
