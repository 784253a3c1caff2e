/-
  RulesPrints runs to true.
-/
import Derived.Test.YtgdcfgpddgedkaaDoorE10
set_option linter.unusedSimpArgs false
set_option linter.unusedVariables false
namespace Go.Proofs.YtgdcfgpddgedkaaDoor
open Go Go.Abs Go.Proofs

theorem lives_D : callD A 17 [] [] = some (.bool true, none) := callD_eq.2 ⟨200, lives_run⟩

def encLL (l : List (List Rule)) : List (List AV) := l.map fun x => [.slice (encRules x) false]
theorem ll_len {l : List (List Rule)} : (encLL l).length = l.length := by simp [encLL]
theorem ll_at {l : List (List Rule)} {i : Nat} {x : List Rule} (h : l[i]? = some x) : (encLL l)[i]? = some [.slice (encRules x) false] := by simp [encLL, h]
theorem app_rules0 {m : List Rule} {o : Bool} (h : m.length ≤ 1099511627776) : appendAV false 4 64 (.slice [] true) (.slice (encRules m) o) = some (.slice (encRules m) true) := app_rules (l := []) (by simpa using h)

theorem app_rule1 {l : List Rule} {a b : Str} {n k : Int} {o : Bool} (h : l.length ≤ 1099511627775) :
    appendAV false 4 64 (.slice (encRules l) true) (.slice [[.str a, .str b, .int .i64 n, .slice [[.int .i64 k]] false]] o) = some (.slice (encRules (l ++ [⟨a, b, n, [k]⟩])) true) := app_rule (w := [k]) h

theorem mill_words : ∀ m ∈ ([[109, 105, 108, 108], [109, 49]] : List Str), isWord m = true := by decide

theorem mill_lens : ∀ m ∈ ([[109, 105, 108, 108], [109, 49]] : List Str), m.length ≤ 4611686018427387904 := by decide

theorem gen_B {names : List Str} {x : List Rule} (hn : ∀ m ∈ names, m.length ≤ 4611686018427387904) (h : ∀ r ∈ x, GenRule names r) : RulesB 8 x := fun r hr => by
  have h1 := incr_len (h r hr).who
  rw [if_pos (by omega)] at h1
  exact ⟨(h r hr).ok hn, by omega⟩

theorem law4 (l : List Int) (at' how by' : Int) (m : Str) (hl : ∀ n ∈ l, I64 n) (h1 : I64 at') (h2 : I64 how) (h3 : I64 by') (hm : m.length ≤ 1048576) :
    callD A 4 [.slice (ints l) false, .int .i64 at', .int .i64 how, .int .i64 by', .str m] [] = some (.bool true, none) := by
  obtain ⟨_, e1, x, rfl, hx1, hx2⟩ := rules_D l [[109, 105, 108, 108], [109, 49]] 5 [] hl (by simp) (by omega) (by omega)
  have hxB := gen_B mill_lens hx2
  obtain ⟨_, e2, one, rfl, ho1, ho2⟩ := spoilt_D x at' how by' [] 8 (by omega) hxB (by omega) h1 h2 h3
  have hq : I64 (how.tdiv 8) := by
    have e : how.tdiv 8 = if 0 ≤ how then how / 8 else -((-how) / 8) := by
      split
      · rename_i h; exact Int.tdiv_eq_ediv_of_nonneg h
      · rename_i h
        have : how = -(-how) := by omega
        rw [this, Int.neg_tdiv, Int.tdiv_eq_ediv_of_nonneg (by omega), Int.neg_neg]
    rw [e]
    split <;> constructor <;> omega
  obtain ⟨_, e3, two, rfl, ht1, ht2⟩ := spoilt_D one by' (how.tdiv 8) at' [] 9 (by omega) ho2 (by omega) h3 hq h1
  have hs : strs [[109, 105, 108, 108], [109, 49]] = [[.str [109, 105, 108, 108]], [.str [109, 49]]] := rfl
  rw [hs] at e1
  refine callD_W (fn := ir4) rfl rfl rfl ?_
  unfold ir4
  simp (disch := omega) only [evA, argsV, argsOK, partsV, elemsV, optV, evOper, evOp, evAppend, IArg.eval, AS.putD, ↓reduceIte, Nat.reduceEqDiff, Option.isSome, Option.isNone, cond_true, cond_false, Nat.reduceBEq, Nat.reduceAdd, Nat.reduceMul, binInt, binStr, eq_self, reduceCtorEq, unAV, lenAV, convAV, sliceAV, bound, isCon, AS.spent, liveAddr, offAddr, elemsOf, Nat.reduceLeDiff, nilCmp, putAt, Int.reduceEq, Int.reduceLT, Int.reduceLE, Int.reduceBEq, Int.reduceBNe, Int.reduceAdd, Int.reduceNeg, Int.reduceSub, Int.reduceMul, e1, e2, e3, IntWalk.i64_quo', app_rules0, app_rule1]
  have hok : ∀ (L : List (List Rule)), (∀ y ∈ L, RulesB 10 y ∧ y.length ≤ 1000) → L.length = 5 → ∀ (T : AFrame), T 14 = .slice (encLL L) true → T 15 = .int .i64 0 → ∀ Q : IExit → AS → Prop, (∀ T', Q (.exit 0) ⟨T', [], 0, 0⟩) → W A (ir4.body.sub [true, true, true, true, true, false, true, false]) ⟨T, [], 0, 0⟩ Q := by
    intro L hL h5 T h14 h15 Q hQ
    unfold ir4
    simp only [ICode.sub]
    refine W_countx 5 0 (fun i => Hd (fun T => T 14 = .slice (encLL L) true ∧ T 15 = .int .i64 i) [] 0 0) (Hd (fun T => True) [] 0 0) (fun _ => False) ?_ ?_ (fun _ h => h.elim) 0 _ (by omega) ?_
    · rintro i st hi hst
      obtain ⟨T, rfl, h14, h15⟩ := hst.out
      by_cases h : i < L.length
      · have hg := List.getElem?_eq_getElem h
        have hy := hL _ (List.getElem_mem h)
        generalize L[i] = y at hg hy
        obtain ⟨hy1, hy2⟩ := hy
        have hr : ∀ r ∈ y, RuleOK r := fun r hr => (hy1 r hr).1
        simp (disch := omega) only [evA, argsV, argsOK, partsV, elemsV, optV, evOper, evOp, evAppend, IArg.eval, AS.putD, ↓reduceIte, Nat.reduceEqDiff, Option.isSome, Option.isNone, cond_true, cond_false, Nat.reduceBEq, Nat.reduceAdd, Nat.reduceMul, binInt, binStr, eq_self, reduceCtorEq, unAV, lenAV, convAV, sliceAV, bound, isCon, AS.spent, liveAddr, offAddr, elemsOf, Nat.reduceLeDiff, nilCmp, putAt, Int.reduceEq, Int.reduceLT, Int.reduceLE, Int.reduceBEq, Int.reduceBNe, Int.reduceAdd, Int.reduceNeg, Int.reduceSub, Int.reduceMul, ilt_t, ilt_f, ile_t, ile_f, ieq_t, ieq_f, ine_t, ine_f, h14, h15, ll_len, ll_at hg, validP_D y [] (by omega) hr, validR_D y [] (by omega) hr, printP_D y [] (by omega) hr, printR_D y [] (by omega) hr]
        omega
      · have : i = 5 := by omega
        subst this
        simp (disch := omega) only [evA, argsV, argsOK, partsV, elemsV, optV, evOper, evOp, evAppend, IArg.eval, AS.putD, ↓reduceIte, Nat.reduceEqDiff, Option.isSome, Option.isNone, cond_true, cond_false, Nat.reduceBEq, Nat.reduceAdd, Nat.reduceMul, binInt, binStr, eq_self, reduceCtorEq, unAV, lenAV, convAV, sliceAV, bound, isCon, AS.spent, liveAddr, offAddr, elemsOf, Nat.reduceLeDiff, nilCmp, putAt, Int.reduceEq, Int.reduceLT, Int.reduceLE, Int.reduceBEq, Int.reduceBNe, Int.reduceAdd, Int.reduceNeg, Int.reduceSub, Int.reduceMul, ilt_t, ilt_f, ile_t, ile_f, ieq_t, ieq_f, ine_t, ine_f, h14, h15, ll_len]
    · intro st hst
      obtain ⟨T, rfl, _⟩ := hst.out
      exact hQ T
    · simp (disch := omega) only [evA, argsV, argsOK, partsV, elemsV, optV, evOper, evOp, evAppend, IArg.eval, AS.putD, ↓reduceIte, Nat.reduceEqDiff, Option.isSome, Option.isNone, cond_true, cond_false, Nat.reduceBEq, Nat.reduceAdd, Nat.reduceMul, binInt, binStr, eq_self, reduceCtorEq, unAV, lenAV, convAV, sliceAV, bound, isCon, AS.spent, liveAddr, offAddr, elemsOf, Nat.reduceLeDiff, nilCmp, putAt, Int.reduceEq, Int.reduceLT, Int.reduceLE, Int.reduceBEq, Int.reduceBNe, Int.reduceAdd, Int.reduceNeg, Int.reduceSub, Int.reduceMul, h14, h15, Int.natCast_zero]
  refine hok [x, one, two, x ++ [⟨[97, 110, 121], m, 1, [7]⟩], []] ?_ rfl _ ?_ ?_ _ ?_
  · intro y hy
    simp only [List.mem_cons, List.not_mem_nil, or_false] at hy
    rcases hy with rfl | rfl | rfl | rfl | rfl
    · exact ⟨hxB.mono (by omega), by omega⟩
    · exact ⟨ho2.mono (by omega), by omega⟩
    · exact ⟨ht2, by omega⟩
    · refine ⟨(hxB.mono (by omega)).append ⟨⟨by simp only; omega, by constructor <;> simp, by simp, fun w hw => ?_⟩, by simp⟩, by simp; omega⟩
      rw [List.mem_singleton.1 hw]; constructor <;> omega
    · exact ⟨fun r hr => by simp at hr, by simp⟩
  · simp (disch := omega) only [evA, argsV, argsOK, partsV, elemsV, optV, evOper, evOp, evAppend, IArg.eval, AS.putD, ↓reduceIte, Nat.reduceEqDiff, Option.isSome, Option.isNone, cond_true, cond_false, Nat.reduceBEq, Nat.reduceAdd, Nat.reduceMul, binInt, binStr, eq_self, reduceCtorEq, unAV, lenAV, convAV, sliceAV, bound, isCon, AS.spent, liveAddr, offAddr, elemsOf, Nat.reduceLeDiff, nilCmp, putAt, Int.reduceEq, Int.reduceLT, Int.reduceLE, Int.reduceBEq, Int.reduceBNe, Int.reduceAdd, Int.reduceNeg, Int.reduceSub, Int.reduceMul]; rfl
  · simp (disch := omega) only [evA, argsV, argsOK, partsV, elemsV, optV, evOper, evOp, evAppend, IArg.eval, AS.putD, ↓reduceIte, Nat.reduceEqDiff, Option.isSome, Option.isNone, cond_true, cond_false, Nat.reduceBEq, Nat.reduceAdd, Nat.reduceMul, binInt, binStr, eq_self, reduceCtorEq, unAV, lenAV, convAV, sliceAV, bound, isCon, AS.spent, liveAddr, offAddr, elemsOf, Nat.reduceLeDiff, nilCmp, putAt, Int.reduceEq, Int.reduceLT, Int.reduceLE, Int.reduceBEq, Int.reduceBNe, Int.reduceAdd, Int.reduceNeg, Int.reduceSub, Int.reduceMul]
  · intro T'
    simp (disch := omega) only [evA, argsV, argsOK, partsV, elemsV, optV, evOper, evOp, evAppend, IArg.eval, AS.putD, ↓reduceIte, Nat.reduceEqDiff, Option.isSome, Option.isNone, cond_true, cond_false, Nat.reduceBEq, Nat.reduceAdd, Nat.reduceMul, binInt, binStr, eq_self, reduceCtorEq, unAV, lenAV, convAV, sliceAV, bound, isCon, AS.spent, liveAddr, offAddr, elemsOf, Nat.reduceLeDiff, nilCmp, putAt, Int.reduceEq, Int.reduceLT, Int.reduceLE, Int.reduceBEq, Int.reduceBNe, Int.reduceAdd, Int.reduceNeg, Int.reduceSub, Int.reduceMul, lives_D]

end Go.Proofs.YtgdcfgpddgedkaaDoor
