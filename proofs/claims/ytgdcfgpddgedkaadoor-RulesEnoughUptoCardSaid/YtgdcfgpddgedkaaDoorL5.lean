/-
  RulesEnough runs to true.
-/
import Derived.Test.YtgdcfgpddgedkaaDoorE12
set_option linter.unusedSimpArgs false
set_option linter.unusedVariables false
namespace Go.Proofs.YtgdcfgpddgedkaaDoor
open Go Go.Abs Go.Proofs

theorem around64 {n k : Int} (h0 : 0 < k) (h1 : k ≤ 1000) : I64 (around n k) := by
  have := around_range (n := n) h0
  constructor <;> omega

theorem some_loop (H : AHeap) (who : List Int) (hw : ∀ n ∈ who, I64 n) (a1 a3 a4 a11 : AV) (T : AFrame) (g lo : Nat) (Q : IExit → AS → Prop)
    (h1 : T 1 = a1) (h2 : T 2 = .slice (ints who) false) (h3 : T 3 = a3) (h4 : T 4 = a4) (h11 : T 11 = a11) (h12 : T 12 = .slice [] true) (h13 : T 13 = .int .i64 0)
    (hx : ∀ T' sm, sm.length ≤ 12 → (∀ n ∈ sm, I64 n) → T' 1 = a1 → T' 2 = .slice (ints who) false → T' 3 = a3 → T' 4 = a4 → T' 11 = a11 → T' 12 = .slice (ints sm) true → Q (.exit 0) ⟨T', H, lo, g⟩) :
    W A (ir5.body.sub [true, true, true, false, true, false]) ⟨T, H, lo, g⟩ Q := by
  unfold ir5
  simp only [ICode.sub]
  refine W_countx 12 0 (fun k => Hd (fun T => ∃ sm, T 1 = a1 ∧ T 2 = .slice (ints who) false ∧ T 3 = a3 ∧ T 4 = a4 ∧ T 11 = a11 ∧ T 12 = .slice (ints sm) true ∧ T 13 = .int .i64 k ∧ sm.length = k ∧ ∀ n ∈ sm, I64 n) H lo g)
    (Hd (fun T => ∃ sm, T 1 = a1 ∧ T 2 = .slice (ints who) false ∧ T 3 = a3 ∧ T 4 = a4 ∧ T 11 = a11 ∧ T 12 = .slice (ints sm) true ∧ sm.length ≤ 12 ∧ ∀ n ∈ sm, I64 n) H lo g) (fun _ => False) ?_ ?_ (fun _ h => h.elim) 0 _ (by omega) ?_
  · rintro k st hk hst
    obtain ⟨T, rfl, sm, h1, h2, h3, h4, h11, h12, h13, hl, hs⟩ := hst.out
    by_cases ha : k < who.length
    · by_cases hb : k < 12
      · have hg := ints_at (List.getElem?_eq_getElem ha)
        have h64 := hw _ (List.getElem_mem ha)
        generalize who[k] = w at hg h64
        have hr := around64 (n := w) (k := 9) (by omega) (by omega)
        simp (disch := omega) only [evA, argsV, argsOK, partsV, elemsV, optV, evOper, evOp, evAppend, IArg.eval, AS.putD, ↓reduceIte, Nat.reduceEqDiff, Option.isSome, Option.isNone, cond_true, cond_false, Nat.reduceBEq, Nat.reduceAdd, Nat.reduceMul, binInt, binStr, eq_self, reduceCtorEq, unAV, lenAV, convAV, sliceAV, bound, isCon, AS.spent, liveAddr, offAddr, elemsOf, Nat.reduceLeDiff, nilCmp, putAt, Int.reduceEq, Int.reduceLT, Int.reduceLE, Int.reduceBEq, Int.reduceBNe, Int.reduceAdd, Int.reduceNeg, Int.reduceSub, Int.reduceMul, ilt_t, ilt_f, ile_t, ile_f, ieq_t, ieq_f, ine_t, ine_f, h1, h2, h3, h4, h11, h12, h13, ints_len, hg, around_D w 9 H h64 (by omega)]
        refine ⟨hb, sm ++ [around w 9], rfl, by simp [hl], fun n hn => ?_⟩
        rcases List.mem_append.1 hn with hn | hn
        · exact hs n hn
        · rw [List.mem_singleton.1 hn]; exact hr
      · simp (disch := omega) only [evA, argsV, argsOK, partsV, elemsV, optV, evOper, evOp, evAppend, IArg.eval, AS.putD, ↓reduceIte, Nat.reduceEqDiff, Option.isSome, Option.isNone, cond_true, cond_false, Nat.reduceBEq, Nat.reduceAdd, Nat.reduceMul, binInt, binStr, eq_self, reduceCtorEq, unAV, lenAV, convAV, sliceAV, bound, isCon, AS.spent, liveAddr, offAddr, elemsOf, Nat.reduceLeDiff, nilCmp, putAt, Int.reduceEq, Int.reduceLT, Int.reduceLE, Int.reduceBEq, Int.reduceBNe, Int.reduceAdd, Int.reduceNeg, Int.reduceSub, Int.reduceMul, ilt_t, ilt_f, ile_t, ile_f, ieq_t, ieq_f, ine_t, ine_f, h1, h2, h3, h4, h11, h12, h13, ints_len]
        exact ⟨sm, rfl, by omega, hs⟩
    · simp (disch := omega) only [evA, argsV, argsOK, partsV, elemsV, optV, evOper, evOp, evAppend, IArg.eval, AS.putD, ↓reduceIte, Nat.reduceEqDiff, Option.isSome, Option.isNone, cond_true, cond_false, Nat.reduceBEq, Nat.reduceAdd, Nat.reduceMul, binInt, binStr, eq_self, reduceCtorEq, unAV, lenAV, convAV, sliceAV, bound, isCon, AS.spent, liveAddr, offAddr, elemsOf, Nat.reduceLeDiff, nilCmp, putAt, Int.reduceEq, Int.reduceLT, Int.reduceLE, Int.reduceBEq, Int.reduceBNe, Int.reduceAdd, Int.reduceNeg, Int.reduceSub, Int.reduceMul, ilt_t, ilt_f, ile_t, ile_f, ieq_t, ieq_f, ine_t, ine_f, h1, h2, h3, h4, h11, h12, h13, ints_len]
      exact ⟨sm, rfl, by omega, hs⟩
  · intro st hst
    obtain ⟨T, rfl, sm, h1, h2, h3, h4, h11, h12, hl, hs⟩ := hst.out
    exact hx _ sm hl hs h1 h2 h3 h4 h11 h12
  · simp (disch := omega) only [evA, argsV, argsOK, partsV, elemsV, optV, evOper, evOp, evAppend, IArg.eval, AS.putD, ↓reduceIte, Nat.reduceEqDiff, Option.isSome, Option.isNone, cond_true, cond_false, Nat.reduceBEq, Nat.reduceAdd, Nat.reduceMul, binInt, binStr, eq_self, reduceCtorEq, unAV, lenAV, convAV, sliceAV, bound, isCon, AS.spent, liveAddr, offAddr, elemsOf, Nat.reduceLeDiff, nilCmp, putAt, Int.reduceEq, Int.reduceLT, Int.reduceLE, Int.reduceBEq, Int.reduceBNe, Int.reduceAdd, Int.reduceNeg, Int.reduceSub, Int.reduceMul, h1, h2, h3, h4, h11, h12, h13, Int.natCast_zero]
    exact ⟨[], rfl, rfl, fun n h => by simp at h⟩

theorem enough_loop (L : List (List Rule)) (hL : ∀ y ∈ L, RulesB 10 y ∧ y.length ≤ 1000) (hLl : L.length ≤ 1000) (au : List Int) (h2l : au.length = 2) (sm who : List Int) (hsl : sm.length ≤ 1000000000) (hsm : ∀ n ∈ sm, I64 n) (hwl : who.length ≤ 1000000000) (hwm : ∀ n ∈ who, I64 n) (o : Bool)
    (T : AFrame) (Q : IExit → AS → Prop) (h2 : T 2 = .slice (ints who) false) (h12 : T 12 = .slice (ints sm) true) (h14 : T 14 = .slice (encLL L) false) (h15 : T 15 = .slice (ints au) o) (h16 : T 16 = .int .i64 0) (hQ : ∀ T', Q (.exit 2) ⟨T', [], 0, 0⟩) :
    W A (ir5.body.sub [true, true, true, true, true, true, false, true, false]) ⟨T, [], 0, 0⟩ Q := by
  unfold ir5
  simp only [ICode.sub]
  refine W_countx L.length 2 (fun i => Hd (fun T => T 2 = .slice (ints who) false ∧ T 12 = .slice (ints sm) true ∧ T 14 = .slice (encLL L) false ∧ T 15 = .slice (ints au) o ∧ T 16 = .int .i64 i) [] 0 0) (Hd (fun T => True) [] 0 0) (fun _ => False) ?_ ?_ (fun _ h => h.elim) 0 _ (by omega) ?_
  · rintro i st hi hst
    obtain ⟨T, rfl, h2, h12, h14, h15, h16⟩ := hst.out
    by_cases h : i < L.length
    · have hg := ll_at (List.getElem?_eq_getElem h)
      have hy := hL _ (List.getElem_mem h)
      generalize L[i] = y at hg hy
      obtain ⟨hy1, hy2⟩ := hy
      have hr : ∀ r ∈ y, RuleOK r := fun r hr => (hy1 r hr).1
      simp (disch := omega) only [evA, argsV, argsOK, partsV, elemsV, optV, evOper, evOp, evAppend, IArg.eval, AS.putD, ↓reduceIte, Nat.reduceEqDiff, Option.isSome, Option.isNone, cond_true, cond_false, Nat.reduceBEq, Nat.reduceAdd, Nat.reduceMul, binInt, binStr, eq_self, reduceCtorEq, unAV, lenAV, convAV, sliceAV, bound, isCon, AS.spent, liveAddr, offAddr, elemsOf, Nat.reduceLeDiff, nilCmp, putAt, Int.reduceEq, Int.reduceLT, Int.reduceLE, Int.reduceBEq, Int.reduceBNe, Int.reduceAdd, Int.reduceNeg, Int.reduceSub, Int.reduceMul, ilt_t, ilt_f, ile_t, ile_f, ieq_t, ieq_f, ine_t, ine_f, h2, h12, h14, h15, h16, ll_len]
      refine W_countx 2 4 (fun k => Hd (fun T => T 2 = .slice (ints who) false ∧ T 12 = .slice (ints sm) true ∧ T 14 = .slice (encLL L) false ∧ T 15 = .slice (ints au) o ∧ T 16 = .int .i64 i ∧ T 17 = .int .i64 k) [] 0 0)
        (Hd (fun T => T 2 = .slice (ints who) false ∧ T 12 = .slice (ints sm) true ∧ T 14 = .slice (encLL L) false ∧ T 15 = .slice (ints au) o ∧ T 16 = .int .i64 i) [] 0 0) (fun _ => False) ?_ ?_ (fun _ h => h.elim) 0 _ (by omega) ?_
      · rintro k st hk hst
        obtain ⟨T, rfl, h2, h12, h14, h15, h16, h17⟩ := hst.out
        by_cases hk2 : k < 2
        · have ha := ints_at (List.getElem?_eq_getElem (show k < au.length by omega))
          generalize au[k] = a at ha
          have p1 := enoughP_D y a sm [] (by omega) hr (by omega) hsm
          have p2 := enoughR_D y a sm [] (by omega) hr (by omega)
          have p3 := enoughP_D y a who [] (by omega) hr (by omega) hwm
          have p4 := enoughR_D y a who [] (by omega) hr (by omega)
          simp (disch := omega) only [evA, argsV, argsOK, partsV, elemsV, optV, evOper, evOp, evAppend, IArg.eval, AS.putD, ↓reduceIte, Nat.reduceEqDiff, Option.isSome, Option.isNone, cond_true, cond_false, Nat.reduceBEq, Nat.reduceAdd, Nat.reduceMul, binInt, binStr, eq_self, reduceCtorEq, unAV, lenAV, convAV, sliceAV, bound, isCon, AS.spent, liveAddr, offAddr, elemsOf, Nat.reduceLeDiff, nilCmp, putAt, Int.reduceEq, Int.reduceLT, Int.reduceLE, Int.reduceBEq, Int.reduceBNe, Int.reduceAdd, Int.reduceNeg, Int.reduceSub, Int.reduceMul, ilt_t, ilt_f, ile_t, ile_f, ieq_t, ieq_f, ine_t, ine_f, h2, h12, h14, h15, h16, h17, ll_len, ints_len, hg, ha, p1, p2, p3, p4, bne_self_eq_false]
          omega
        · have : k = 2 := by omega
          subst this
          simp (disch := omega) only [evA, argsV, argsOK, partsV, elemsV, optV, evOper, evOp, evAppend, IArg.eval, AS.putD, ↓reduceIte, Nat.reduceEqDiff, Option.isSome, Option.isNone, cond_true, cond_false, Nat.reduceBEq, Nat.reduceAdd, Nat.reduceMul, binInt, binStr, eq_self, reduceCtorEq, unAV, lenAV, convAV, sliceAV, bound, isCon, AS.spent, liveAddr, offAddr, elemsOf, Nat.reduceLeDiff, nilCmp, putAt, Int.reduceEq, Int.reduceLT, Int.reduceLE, Int.reduceBEq, Int.reduceBNe, Int.reduceAdd, Int.reduceNeg, Int.reduceSub, Int.reduceMul, ilt_t, ilt_f, ile_t, ile_f, ieq_t, ieq_f, ine_t, ine_f, h2, h12, h14, h15, h16, h17]
      · intro st hst
        obtain ⟨T, rfl, h2, h12, h14, h15, h16⟩ := hst.out
        simp (disch := omega) only [evA, argsV, argsOK, partsV, elemsV, optV, evOper, evOp, evAppend, IArg.eval, AS.putD, ↓reduceIte, Nat.reduceEqDiff, Option.isSome, Option.isNone, cond_true, cond_false, Nat.reduceBEq, Nat.reduceAdd, Nat.reduceMul, binInt, binStr, eq_self, reduceCtorEq, unAV, lenAV, convAV, sliceAV, bound, isCon, AS.spent, liveAddr, offAddr, elemsOf, Nat.reduceLeDiff, nilCmp, putAt, Int.reduceEq, Int.reduceLT, Int.reduceLE, Int.reduceBEq, Int.reduceBNe, Int.reduceAdd, Int.reduceNeg, Int.reduceSub, Int.reduceMul, h2, h12, h14, h15, h16]
        exact h
      · simp (disch := omega) only [evA, argsV, argsOK, partsV, elemsV, optV, evOper, evOp, evAppend, IArg.eval, AS.putD, ↓reduceIte, Nat.reduceEqDiff, Option.isSome, Option.isNone, cond_true, cond_false, Nat.reduceBEq, Nat.reduceAdd, Nat.reduceMul, binInt, binStr, eq_self, reduceCtorEq, unAV, lenAV, convAV, sliceAV, bound, isCon, AS.spent, liveAddr, offAddr, elemsOf, Nat.reduceLeDiff, nilCmp, putAt, Int.reduceEq, Int.reduceLT, Int.reduceLE, Int.reduceBEq, Int.reduceBNe, Int.reduceAdd, Int.reduceNeg, Int.reduceSub, Int.reduceMul, h2, h12, h14, h15, h16, Int.natCast_zero]
    · have : i = L.length := by omega
      subst this
      simp (disch := omega) only [evA, argsV, argsOK, partsV, elemsV, optV, evOper, evOp, evAppend, IArg.eval, AS.putD, ↓reduceIte, Nat.reduceEqDiff, Option.isSome, Option.isNone, cond_true, cond_false, Nat.reduceBEq, Nat.reduceAdd, Nat.reduceMul, binInt, binStr, eq_self, reduceCtorEq, unAV, lenAV, convAV, sliceAV, bound, isCon, AS.spent, liveAddr, offAddr, elemsOf, Nat.reduceLeDiff, nilCmp, putAt, Int.reduceEq, Int.reduceLT, Int.reduceLE, Int.reduceBEq, Int.reduceBNe, Int.reduceAdd, Int.reduceNeg, Int.reduceSub, Int.reduceMul, ilt_t, ilt_f, ile_t, ile_f, ieq_t, ieq_f, ine_t, ine_f, h2, h12, h14, h15, h16, ll_len]
  · intro st hst
    obtain ⟨T, rfl, _⟩ := hst.out
    exact hQ T
  · simp (disch := omega) only [evA, argsV, argsOK, partsV, elemsV, optV, evOper, evOp, evAppend, IArg.eval, AS.putD, ↓reduceIte, Nat.reduceEqDiff, Option.isSome, Option.isNone, cond_true, cond_false, Nat.reduceBEq, Nat.reduceAdd, Nat.reduceMul, binInt, binStr, eq_self, reduceCtorEq, unAV, lenAV, convAV, sliceAV, bound, isCon, AS.spent, liveAddr, offAddr, elemsOf, Nat.reduceLeDiff, nilCmp, putAt, Int.reduceEq, Int.reduceLT, Int.reduceLE, Int.reduceBEq, Int.reduceBNe, Int.reduceAdd, Int.reduceNeg, Int.reduceSub, Int.reduceMul, h2, h12, h14, h15, h16, Int.natCast_zero]

theorem law5 (l : List Int) (author : Int) (who : List Int) (at' how : Int) (hl : ∀ n ∈ l, I64 n) (_ : l.length ≤ 1048576) (h1 : I64 author) (hw : ∀ n ∈ who, I64 n) (hwl : who.length ≤ 1048576) (h3 : I64 at') (h4 : I64 how) :
    callD A 5 [.slice (ints l) false, .int .i64 author, .slice (ints who) false, .int .i64 at', .int .i64 how] [] = some (.bool true, none) := by
  obtain ⟨_, e1, x, rfl, hx1, hx2⟩ := rules_D l [] 4 [] hl (by simp) (by omega) (by omega)
  have hxB := gen_B (by simp) hx2
  obtain ⟨_, e2, one, rfl, ho1, ho2⟩ := spoilt_D x at' how author [] 8 (by omega) hxB (by omega) h3 h4 h1
  have hs : strs [] = [] := rfl
  rw [hs] at e1
  refine callD_W (fn := ir5) rfl rfl rfl ?_
  unfold ir5
  simp (disch := omega) only [evA, argsV, argsOK, partsV, elemsV, optV, evOper, evOp, evAppend, IArg.eval, AS.putD, ↓reduceIte, Nat.reduceEqDiff, Option.isSome, Option.isNone, cond_true, cond_false, Nat.reduceBEq, Nat.reduceAdd, Nat.reduceMul, binInt, binStr, eq_self, reduceCtorEq, unAV, lenAV, convAV, sliceAV, bound, isCon, AS.spent, liveAddr, offAddr, elemsOf, Nat.reduceLeDiff, nilCmp, putAt, Int.reduceEq, Int.reduceLT, Int.reduceLE, Int.reduceBEq, Int.reduceBNe, Int.reduceAdd, Int.reduceNeg, Int.reduceSub, Int.reduceMul, e1]
  refine some_loop [] who hw (.int .i64 author) (.int .i64 at') (.int .i64 how) (.slice (encRules x) false) _ 0 _ _ ?_ ?_ ?_ ?_ ?_ ?_ ?_ ?_
  case refine_8 =>
    intro T sm hsl hsm h1' h2 h3' h4' h11 h12
    have hd : (x.length : Int).tdiv 2 = ((x.length / 2 : Nat) : Int) := by rw [Int.tdiv_eq_ediv_of_nonneg (by omega)]; omega
    have hk : (encRules x).take (x.length / 2) = encRules (x.take (x.length / 2)) := by simp [encRules]
    simp (disch := omega) only [evA, argsV, argsOK, partsV, elemsV, optV, evOper, evOp, evAppend, IArg.eval, AS.putD, ↓reduceIte, Nat.reduceEqDiff, Option.isSome, Option.isNone, cond_true, cond_false, Nat.reduceBEq, Nat.reduceAdd, Nat.reduceMul, binInt, binStr, eq_self, reduceCtorEq, unAV, lenAV, convAV, sliceAV, bound, isCon, AS.spent, liveAddr, offAddr, elemsOf, Nat.reduceLeDiff, nilCmp, putAt, Int.reduceEq, Int.reduceLT, Int.reduceLE, Int.reduceBEq, Int.reduceBNe, Int.reduceAdd, Int.reduceNeg, Int.reduceSub, Int.reduceMul, h1', h2, h3', h4', h11, h12, e2, rules_len, IntWalk.i64_quo', hd, hk, around_D author 8 [] h1 (by omega)]
    refine enough_loop [x, one, x.take (x.length / 2), []] ?_ (by simp) [author, around author 8] rfl sm who (by omega) hsm (by omega) hw true _ _ ?_ ?_ ?_ ?_ ?_ ?_
    · intro y hy
      simp only [List.mem_cons, List.not_mem_nil, or_false] at hy
      rcases hy with rfl | rfl | rfl | rfl
      · exact ⟨hxB.mono (by omega), by omega⟩
      · exact ⟨ho2.mono (by omega), by omega⟩
      · exact ⟨fun r hr => (hxB.mono (show 8 ≤ 10 by omega)) r (List.mem_of_mem_take hr), by rw [List.length_take]; omega⟩
      · exact ⟨fun r hr => by simp at hr, by simp⟩
    all_goals first
      | (intro T'; simp (disch := omega) only [evA, argsV, argsOK, partsV, elemsV, optV, evOper, evOp, evAppend, IArg.eval, AS.putD, ↓reduceIte, Nat.reduceEqDiff, Option.isSome, Option.isNone, cond_true, cond_false, Nat.reduceBEq, Nat.reduceAdd, Nat.reduceMul, binInt, binStr, eq_self, reduceCtorEq, unAV, lenAV, convAV, sliceAV, bound, isCon, AS.spent, liveAddr, offAddr, elemsOf, Nat.reduceLeDiff, nilCmp, putAt, Int.reduceEq, Int.reduceLT, Int.reduceLE, Int.reduceBEq, Int.reduceBNe, Int.reduceAdd, Int.reduceNeg, Int.reduceSub, Int.reduceMul, lives_D]; done)
      | (simp (disch := omega) only [evA, argsV, argsOK, partsV, elemsV, optV, evOper, evOp, evAppend, IArg.eval, AS.putD, ↓reduceIte, Nat.reduceEqDiff, Option.isSome, Option.isNone, cond_true, cond_false, Nat.reduceBEq, Nat.reduceAdd, Nat.reduceMul, binInt, binStr, eq_self, reduceCtorEq, unAV, lenAV, convAV, sliceAV, bound, isCon, AS.spent, liveAddr, offAddr, elemsOf, Nat.reduceLeDiff, nilCmp, putAt, Int.reduceEq, Int.reduceLT, Int.reduceLE, Int.reduceBEq, Int.reduceBNe, Int.reduceAdd, Int.reduceNeg, Int.reduceSub, Int.reduceMul, h1', h2, h3', h4', h11, h12]; done)
      | (simp (disch := omega) only [evA, argsV, argsOK, partsV, elemsV, optV, evOper, evOp, evAppend, IArg.eval, AS.putD, ↓reduceIte, Nat.reduceEqDiff, Option.isSome, Option.isNone, cond_true, cond_false, Nat.reduceBEq, Nat.reduceAdd, Nat.reduceMul, binInt, binStr, eq_self, reduceCtorEq, unAV, lenAV, convAV, sliceAV, bound, isCon, AS.spent, liveAddr, offAddr, elemsOf, Nat.reduceLeDiff, nilCmp, putAt, Int.reduceEq, Int.reduceLT, Int.reduceLE, Int.reduceBEq, Int.reduceBNe, Int.reduceAdd, Int.reduceNeg, Int.reduceSub, Int.reduceMul, h1', h2, h3', h4', h11, h12]; rfl)
  all_goals simp (disch := omega) only [evA, argsV, argsOK, partsV, elemsV, optV, evOper, evOp, evAppend, IArg.eval, AS.putD, ↓reduceIte, Nat.reduceEqDiff, Option.isSome, Option.isNone, cond_true, cond_false, Nat.reduceBEq, Nat.reduceAdd, Nat.reduceMul, binInt, binStr, eq_self, reduceCtorEq, unAV, lenAV, convAV, sliceAV, bound, isCon, AS.spent, liveAddr, offAddr, elemsOf, Nat.reduceLeDiff, nilCmp, putAt, Int.reduceEq, Int.reduceLT, Int.reduceLE, Int.reduceBEq, Int.reduceBNe, Int.reduceAdd, Int.reduceNeg, Int.reduceSub, Int.reduceMul]

end Go.Proofs.YtgdcfgpddgedkaaDoor
