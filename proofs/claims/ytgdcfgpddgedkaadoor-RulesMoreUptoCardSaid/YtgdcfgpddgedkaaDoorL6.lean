/-
  RulesMore runs to true.
-/
import Derived.Test.YtgdcfgpddgedkaaDoorE12
set_option linter.unusedSimpArgs false
set_option linter.unusedVariables false
namespace Go.Proofs.YtgdcfgpddgedkaaDoor
open Go Go.Abs Go.Proofs

/-! ### the plain law -/

theorem met_ex (author : Int) (rwho ws : List Int) : Met author rwho ws ((others author ws).filter fun x => rwho.elem x) := by
  refine ⟨(nodup_others' author ws).filter _, fun x => ?_⟩
  rw [List.mem_filter, mem_others']
  simp only [List.elem_eq_mem, decide_eq_true_eq]
  constructor
  · rintro ⟨⟨b, a⟩, c⟩; exact ⟨a, b, c⟩
  · rintro ⟨a, b, c⟩; exact ⟨⟨b, a⟩, c⟩

theorem Met.congr {author : Int} {rwho ws ws' met : List Int} (h : Met author rwho ws met) (he : ∀ x, x ≠ author → (x ∈ ws ↔ x ∈ ws')) : Met author rwho ws' met :=
  ⟨h.nodup, fun x => by
    rw [h.mem x]
    constructor
    · rintro ⟨a, b, c⟩; exact ⟨(he x b).1 a, b, c⟩
    · rintro ⟨a, b, c⟩; exact ⟨(he x b).2 a, b, c⟩⟩

theorem nMet_congr {author : Int} {rwho ws ws' : List Int} (he : ∀ x, x ≠ author → (x ∈ ws ↔ x ∈ ws')) : nMet author rwho ws = nMet author rwho ws' := by
  rw [← (met_ex author rwho ws).len, ← ((met_ex author rwho ws).congr he).len]

theorem nMet_more (author : Int) (rwho ws : List Int) (w : Int) : nMet author rwho ws ≤ nMet author rwho (ws ++ [w]) := by
  have hm := met_ex author rwho ws
  generalize (others author ws).filter (fun x => rwho.elem x) = met at hm
  by_cases h : (w ≠ author ∧ w ∈ rwho) ∧ w ∉ met
  · rw [← hm.len, ← (hm.add h.1.1 h.1.2 h.2).len]
    simp
  · have h' : ¬ (w ≠ author ∧ w ∈ rwho) ∨ w ∈ met := by
      by_cases h1 : w ≠ author ∧ w ∈ rwho
      · exact .inr (Classical.byContradiction fun h2 => h ⟨h1, h2⟩)
      · exact .inl h1
    rw [← hm.len, ← (hm.same h').len]
    exact Nat.le_refl _

theorem enough_congr {l : List Rule} {author : Int} {ws ws' : List Int} (he : ∀ x, x ≠ author → (x ∈ ws ↔ x ∈ ws')) : enoughB l author ws = enoughB l author ws' := by
  unfold enoughB
  congr 1
  funext r
  rw [nMet_congr he]

theorem enough_more {l : List Rule} {author : Int} {ws : List Int} {w : Int} (h : enoughB l author ws = true) : enoughB l author (ws ++ [w]) = true := by
  unfold enoughB at h ⊢
  rw [List.all_eq_true] at h ⊢
  intro r hr
  have := of_decide_eq_true (h r hr)
  have h2 := nMet_more author r.who ws w
  exact decide_eq_true (by omega)

theorem enough_app {l m : List Rule} {author : Int} {ws : List Int} : enoughB (l ++ m) author ws = (enoughB l author ws && enoughB m author ws) := List.all_append ..

/-! ### the run -/

theorem around64' {n k : Int} (h0 : 0 < k) (h1 : k ≤ 1000) : I64 (around n k) := by
  have := around_range (n := n) h0
  constructor <;> omega

theorem app_cons2 {m : List Int} {n k : Int} {o : Bool} (h : m.length ≤ 1099511627774) : appendAV false 1 8 (.slice [[.int .i64 n], [.int .i64 k]] true) (.slice (ints m) o) = some (.slice (ints (n :: k :: m)) true) :=
  app_ints (l := [n, k]) (m := m) (by simp only [List.length_cons, List.length_nil]; omega)

theorem more_loop (H : AHeap) (who : List Int) (hw : ∀ n ∈ who, I64 n) (a4 a11 a12 a13 : AV) (T : AFrame) (g lo : Nat) (Q : IExit → AS → Prop)
    (h3 : T 3 = .slice (ints who) false) (h4 : T 4 = a4) (h11 : T 11 = a11) (h12 : T 12 = a12) (h13 : T 13 = a13) (h14 : T 14 = .slice [] true) (h15 : T 15 = .slice [] true) (h16 : T 16 = .int .i64 0)
    (hx : ∀ T' sm bk, sm.length ≤ 10 → bk.length ≤ 20 → (∀ n ∈ sm, I64 n) → (∀ n, n ∈ bk ↔ n ∈ sm) → T' 4 = a4 → T' 11 = a11 → T' 12 = a12 → T' 13 = a13 → T' 14 = .slice (ints sm) true → T' 15 = .slice (ints bk) true → Q (.exit 0) ⟨T', H, lo, g⟩) :
    W A (ir6.body.sub [true, true, true, true, true, true, false, true, false]) ⟨T, H, lo, g⟩ Q := by
  unfold ir6
  simp only [ICode.sub]
  refine W_countx 10 0 (fun k => Hd (fun T => ∃ sm bk, T 3 = .slice (ints who) false ∧ T 4 = a4 ∧ T 11 = a11 ∧ T 12 = a12 ∧ T 13 = a13 ∧ T 14 = .slice (ints sm) true ∧ T 15 = .slice (ints bk) true ∧ T 16 = .int .i64 k ∧ sm.length = k ∧ bk.length = 2 * k ∧ (∀ n ∈ sm, I64 n) ∧ ∀ n, n ∈ bk ↔ n ∈ sm) H lo g)
    (Hd (fun T => ∃ sm bk, T 4 = a4 ∧ T 11 = a11 ∧ T 12 = a12 ∧ T 13 = a13 ∧ T 14 = .slice (ints sm) true ∧ T 15 = .slice (ints bk) true ∧ sm.length ≤ 10 ∧ bk.length ≤ 20 ∧ (∀ n ∈ sm, I64 n) ∧ ∀ n, n ∈ bk ↔ n ∈ sm) H lo g) (fun _ => False) ?_ ?_ (fun _ h => h.elim) 0 _ (by omega) ?_
  · rintro k st hk hst
    obtain ⟨T, rfl, sm, bk, h3, h4, h11, h12, h13, h14, h15, h16, hl, hbl, hs, hbk⟩ := hst.out
    by_cases ha : k < who.length
    · by_cases hb : k < 10
      · have hg := ints_at (List.getElem?_eq_getElem ha)
        have h64 := hw _ (List.getElem_mem ha)
        generalize who[k] = w at hg h64
        have hr := around64' (n := w) (k := 8) (by omega) (by omega)
        simp (disch := omega) only [evA, argsV, argsOK, partsV, elemsV, optV, evOper, evOp, evAppend, IArg.eval, AS.putD, ↓reduceIte, Nat.reduceEqDiff, Option.isSome, Option.isNone, cond_true, cond_false, Nat.reduceBEq, Nat.reduceAdd, Nat.reduceMul, binInt, binStr, eq_self, reduceCtorEq, unAV, lenAV, convAV, sliceAV, bound, isCon, AS.spent, liveAddr, offAddr, elemsOf, Nat.reduceLeDiff, nilCmp, putAt, Int.reduceEq, Int.reduceLT, Int.reduceLE, Int.reduceBEq, Int.reduceBNe, Int.reduceAdd, Int.reduceNeg, Int.reduceSub, Int.reduceMul, ilt_t, ilt_f, ile_t, ile_f, ieq_t, ieq_f, ine_t, ine_f, h3, h4, h11, h12, h13, h14, h15, h16, ints_len, hg, around_D w 8 H h64 (by omega), app_cons2]
        refine ⟨hb, sm ++ [around w 8], around w 8 :: around w 8 :: bk, rfl, rfl, by simp [hl], by simp [hbl]; omega, fun n hn => ?_, fun n => ?_⟩
        · rcases List.mem_append.1 hn with hn | hn
          · exact hs n hn
          · rw [List.mem_singleton.1 hn]; exact hr
        · simp only [List.mem_cons, List.mem_append, List.not_mem_nil, or_false, hbk n]
          constructor
          · rintro (h | h | h)
            · exact .inr h
            · exact .inr h
            · exact .inl h
          · rintro (h | h)
            · exact .inr (.inr h)
            · exact .inl h
      · simp (disch := omega) only [evA, argsV, argsOK, partsV, elemsV, optV, evOper, evOp, evAppend, IArg.eval, AS.putD, ↓reduceIte, Nat.reduceEqDiff, Option.isSome, Option.isNone, cond_true, cond_false, Nat.reduceBEq, Nat.reduceAdd, Nat.reduceMul, binInt, binStr, eq_self, reduceCtorEq, unAV, lenAV, convAV, sliceAV, bound, isCon, AS.spent, liveAddr, offAddr, elemsOf, Nat.reduceLeDiff, nilCmp, putAt, Int.reduceEq, Int.reduceLT, Int.reduceLE, Int.reduceBEq, Int.reduceBNe, Int.reduceAdd, Int.reduceNeg, Int.reduceSub, Int.reduceMul, ilt_t, ilt_f, ile_t, ile_f, ieq_t, ieq_f, ine_t, ine_f, h3, h4, h11, h12, h13, h14, h15, h16, ints_len]
        exact ⟨sm, bk, rfl, rfl, by omega, by omega, hs, hbk⟩
    · simp (disch := omega) only [evA, argsV, argsOK, partsV, elemsV, optV, evOper, evOp, evAppend, IArg.eval, AS.putD, ↓reduceIte, Nat.reduceEqDiff, Option.isSome, Option.isNone, cond_true, cond_false, Nat.reduceBEq, Nat.reduceAdd, Nat.reduceMul, binInt, binStr, eq_self, reduceCtorEq, unAV, lenAV, convAV, sliceAV, bound, isCon, AS.spent, liveAddr, offAddr, elemsOf, Nat.reduceLeDiff, nilCmp, putAt, Int.reduceEq, Int.reduceLT, Int.reduceLE, Int.reduceBEq, Int.reduceBNe, Int.reduceAdd, Int.reduceNeg, Int.reduceSub, Int.reduceMul, ilt_t, ilt_f, ile_t, ile_f, ieq_t, ieq_f, ine_t, ine_f, h3, h4, h11, h12, h13, h14, h15, h16, ints_len]
      exact ⟨sm, bk, rfl, rfl, by omega, by omega, hs, hbk⟩
  · intro st hst
    obtain ⟨T, rfl, sm, bk, h4, h11, h12, h13, h14, h15, hl, hbl, hs, hbk⟩ := hst.out
    exact hx _ sm bk hl hbl hs hbk h4 h11 h12 h13 h14 h15
  · simp (disch := omega) only [evA, argsV, argsOK, partsV, elemsV, optV, evOper, evOp, evAppend, IArg.eval, AS.putD, ↓reduceIte, Nat.reduceEqDiff, Option.isSome, Option.isNone, cond_true, cond_false, Nat.reduceBEq, Nat.reduceAdd, Nat.reduceMul, binInt, binStr, eq_self, reduceCtorEq, unAV, lenAV, convAV, sliceAV, bound, isCon, AS.spent, liveAddr, offAddr, elemsOf, Nat.reduceLeDiff, nilCmp, putAt, Int.reduceEq, Int.reduceLT, Int.reduceLE, Int.reduceBEq, Int.reduceBNe, Int.reduceAdd, Int.reduceNeg, Int.reduceSub, Int.reduceMul, h3, h4, h11, h12, h13, h14, h15, h16, Int.natCast_zero]
    exact ⟨[], [], rfl, rfl, rfl, rfl, fun n h => by simp at h, fun n => Iff.rfl⟩

theorem law6 (l m : List Int) (author : Int) (who : List Int) (other : Int) (hl : ∀ n ∈ l, I64 n) (_ : l.length ≤ 1048576) (hm : ∀ n ∈ m, I64 n) (_ : m.length ≤ 1048576) (h1 : I64 author) (hw : ∀ n ∈ who, I64 n) (hwl : who.length ≤ 1048576) (h3 : I64 other) :
    callD A 6 [.slice (ints l) false, .slice (ints m) false, .int .i64 author, .slice (ints who) false, .int .i64 other] [] = some (.bool true, none) := by
  obtain ⟨_, e1, x, rfl, hx1, hx2⟩ := rules_D l [] 3 [] hl (by simp) (by omega) (by omega)
  obtain ⟨_, e2, y, rfl, hy1, hy2⟩ := rules_D m [] 3 [] hm (by simp) (by omega) (by omega)
  have hxB := gen_B (by simp) hx2
  have hyB := gen_B (by simp) hy2
  have hs : strs [] = [] := rfl
  rw [hs] at e1 e2
  have ha := around64' (n := author) (k := 8) (by omega) (by omega)
  have hb := around64' (n := other) (k := 8) (by omega) (by omega)
  have ra := around_D author 8 [] h1 (by omega)
  have rb := around_D other 8 [] h3 (by omega)
  refine callD_W (fn := ir6) rfl rfl rfl ?_
  unfold ir6
  simp (disch := omega) only [evA, argsV, argsOK, partsV, elemsV, optV, evOper, evOp, evAppend, IArg.eval, AS.putD, ↓reduceIte, Nat.reduceEqDiff, Option.isSome, Option.isNone, cond_true, cond_false, Nat.reduceBEq, Nat.reduceAdd, Nat.reduceMul, binInt, binStr, eq_self, reduceCtorEq, unAV, lenAV, convAV, sliceAV, bound, isCon, AS.spent, liveAddr, offAddr, elemsOf, Nat.reduceLeDiff, nilCmp, putAt, Int.reduceEq, Int.reduceLT, Int.reduceLE, Int.reduceBEq, Int.reduceBNe, Int.reduceAdd, Int.reduceNeg, Int.reduceSub, Int.reduceMul, e1, e2, ra]
  generalize around author 8 = a at ha
  generalize around other 8 = b at hb rb
  refine more_loop [] who hw (.int .i64 other) (.slice (encRules x) false) (.slice (encRules y) false) (.int .i64 a) _ 0 _ _ ?_ ?_ ?_ ?_ ?_ ?_ ?_ ?_ ?_
  case refine_9 =>
    intro T sm bk hsl hbl hsm hbk h4 h11 h12 h13 h14 h15
    have hxr : ∀ r ∈ x, RuleOK r := fun r hr => (hxB r hr).1
    have hyr : ∀ r ∈ y, RuleOK r := fun r hr => (hyB r hr).1
    have i64a : ∀ {c : Int}, I64 c → ∀ n ∈ sm ++ [c], I64 n := fun hc n hn => by
      rcases List.mem_append.1 hn with hn | hn
      · exact hsm n hn
      · rw [List.mem_singleton.1 hn]; exact hc
    have i64b : ∀ n ∈ bk, I64 n := fun n hn => hsm n ((hbk n).1 hn)
    have hc : ∀ r ∈ x ++ y, RuleOK r := fun r hr => by
      rcases List.mem_append.1 hr with hr | hr
      · exact hxr r hr
      · exact hyr r hr
    have hd : ∀ r ∈ y ++ x, RuleOK r := fun r hr => by
      rcases List.mem_append.1 hr with hr | hr
      · exact hyr r hr
      · exact hxr r hr
    have l1 : (sm ++ [b]).length ≤ 4611686018427387904 := by simp; omega
    have l2 : (sm ++ [a]).length ≤ 4611686018427387904 := by simp; omega
    have l3 : (x ++ y).length ≤ 4611686018427387904 := by simp; omega
    have l4 : (y ++ x).length ≤ 4611686018427387904 := by simp; omega
    have p1 := enoughP_D x a sm [] (by omega) hxr (by omega) hsm
    have p2 := enoughP_D x a (sm ++ [b]) [] (by omega) hxr l1 (i64a hb)
    have p3 := enoughP_D x a (sm ++ [a]) [] (by omega) hxr l2 (i64a ha)
    have p4 := enoughP_D x a bk [] (by omega) hxr (by omega) i64b
    have p5 := enoughP_D (x ++ y) a sm [] l3 hc (by omega) hsm
    have p6 := enoughP_D y a sm [] (by omega) hyr (by omega) hsm
    have p7 := enoughP_D (y ++ x) a bk [] l4 hd (by omega) i64b
    have q2 : enoughB x a sm = true → enoughB x a (sm ++ [b]) = true := fun h => enough_more h
    have q3 : enoughB x a (sm ++ [a]) = enoughB x a sm := enough_congr fun z hz => by simp [hz]
    have q4 : enoughB x a bk = enoughB x a sm := enough_congr fun z hz => hbk z
    have q5 : enoughB y a bk = enoughB y a sm := enough_congr fun z hz => hbk z
    rw [q3] at p3
    rw [q4] at p4
    rw [enough_app] at p5
    rw [enough_app, q4, q5] at p7
    generalize enoughB x a sm = bx at p1 p3 p4 p5 p7 q2
    generalize enoughB y a sm = bz at p5 p6 p7
    have a1 := app_rules (l := x) (m := y) (o := false) (by omega)
    have a2 := app_rules (l := y) (m := x) (o := false) (by omega)
    cases bx
    · cases bz <;> simp (disch := omega) only [evA, argsV, argsOK, partsV, elemsV, optV, evOper, evOp, evAppend, IArg.eval, AS.putD, ↓reduceIte, Nat.reduceEqDiff, Option.isSome, Option.isNone, cond_true, cond_false, Nat.reduceBEq, Nat.reduceAdd, Nat.reduceMul, binInt, binStr, eq_self, reduceCtorEq, unAV, lenAV, convAV, sliceAV, bound, isCon, AS.spent, liveAddr, offAddr, elemsOf, Nat.reduceLeDiff, nilCmp, putAt, Int.reduceEq, Int.reduceLT, Int.reduceLE, Int.reduceBEq, Int.reduceBNe, Int.reduceAdd, Int.reduceNeg, Int.reduceSub, Int.reduceMul, ilt_t, ilt_f, ile_t, ile_f, ieq_t, ieq_f, ine_t, ine_f, h4, h11, h12, h13, h14, h15, app_rules0, a1, a2, rb, p1, p2, p3, p4, p5, p6, p7, lives_D, bne_self_eq_false]
    · rw [q2 rfl] at p2
      cases bz <;> simp (disch := omega) only [evA, argsV, argsOK, partsV, elemsV, optV, evOper, evOp, evAppend, IArg.eval, AS.putD, ↓reduceIte, Nat.reduceEqDiff, Option.isSome, Option.isNone, cond_true, cond_false, Nat.reduceBEq, Nat.reduceAdd, Nat.reduceMul, binInt, binStr, eq_self, reduceCtorEq, unAV, lenAV, convAV, sliceAV, bound, isCon, AS.spent, liveAddr, offAddr, elemsOf, Nat.reduceLeDiff, nilCmp, putAt, Int.reduceEq, Int.reduceLT, Int.reduceLE, Int.reduceBEq, Int.reduceBNe, Int.reduceAdd, Int.reduceNeg, Int.reduceSub, Int.reduceMul, ilt_t, ilt_f, ile_t, ile_f, ieq_t, ieq_f, ine_t, ine_f, h4, h11, h12, h13, h14, h15, app_rules0, a1, a2, rb, p1, p2, p3, p4, p5, p6, p7, lives_D, bne_self_eq_false]
  all_goals simp (disch := omega) only [evA, argsV, argsOK, partsV, elemsV, optV, evOper, evOp, evAppend, IArg.eval, AS.putD, ↓reduceIte, Nat.reduceEqDiff, Option.isSome, Option.isNone, cond_true, cond_false, Nat.reduceBEq, Nat.reduceAdd, Nat.reduceMul, binInt, binStr, eq_self, reduceCtorEq, unAV, lenAV, convAV, sliceAV, bound, isCon, AS.spent, liveAddr, offAddr, elemsOf, Nat.reduceLeDiff, nilCmp, putAt, Int.reduceEq, Int.reduceLT, Int.reduceLE, Int.reduceBEq, Int.reduceBNe, Int.reduceAdd, Int.reduceNeg, Int.reduceSub, Int.reduceMul]

end Go.Proofs.YtgdcfgpddgedkaaDoor
