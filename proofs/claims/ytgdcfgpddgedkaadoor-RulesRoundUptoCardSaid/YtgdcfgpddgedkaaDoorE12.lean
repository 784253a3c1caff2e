/-
  Equations of functions, 12: Enough, in the package and in the reference.
-/
import Derived.Test.YtgdcfgpddgedkaaDoorE8
set_option linter.unusedSimpArgs false
set_option linter.unusedVariables false
namespace Go.Proofs.YtgdcfgpddgedkaaDoor
open Go Go.Abs Go.Proofs

/-! ### lists without repetitions -/

/-- Who of these has approved, each once. -/
structure Met (author : Int) (rwho ws met : List Int) : Prop where
  nodup : met.Nodup
  mem : ∀ x, x ∈ met ↔ x ∈ ws ∧ x ≠ author ∧ x ∈ rwho

theorem mem_others' (author x : Int) : ∀ l, x ∈ others author l ↔ x ≠ author ∧ x ∈ l
  | [] => by simp [others]
  | y :: r => by
    unfold others
    have ih := mem_others' author x r
    by_cases h : y = author
    · simp only [h, decide_true, Bool.true_or, cond_true, ih, List.mem_cons]
      constructor
      · rintro ⟨a, b⟩; exact ⟨a, .inr b⟩
      · rintro ⟨a, b | b⟩
        · exact absurd b a
        · exact ⟨a, b⟩
    · by_cases hm : y ∈ r
      · have he : r.elem y = true := by simpa using hm
        simp only [he, Bool.or_true, cond_true, ih, List.mem_cons]
        constructor
        · rintro ⟨a, b⟩; exact ⟨a, .inr b⟩
        · rintro ⟨a, b | b⟩
          · subst b; exact ⟨a, hm⟩
          · exact ⟨a, b⟩
      · have he : r.elem y = false := by simpa using hm
        simp only [he, h, decide_false, Bool.or_false, cond_false, List.mem_cons, ih]
        constructor
        · rintro (rfl | ⟨a, b⟩)
          · exact ⟨h, .inl rfl⟩
          · exact ⟨a, .inr b⟩
        · rintro ⟨a, b | b⟩
          · exact .inl b
          · exact .inr ⟨a, b⟩

theorem nodup_others' (author : Int) : ∀ l, (others author l).Nodup
  | [] => by simp [others]
  | y :: r => by
    unfold others
    by_cases h : (decide (y = author) || r.elem y) = true
    · rw [h, cond_true]; exact nodup_others' author r
    · have h' : (decide (y = author) || r.elem y) = false := by simpa using h
      rw [h', cond_false, List.nodup_cons]
      refine ⟨fun hm => ?_, nodup_others' author r⟩
      have := ((mem_others' author y r).1 hm).2
      simp [this] at h

/-- How many they are. -/
def nMet (author : Int) (rwho ws : List Int) : Nat := ((others author ws).filter fun x => rwho.elem x).length

theorem Met.len {author : Int} {rwho ws met : List Int} (h : Met author rwho ws met) : met.length = nMet author rwho ws := by
  refine ((List.perm_ext_iff_of_nodup h.nodup ((nodup_others' author ws).filter _)).2 fun x => ?_).length_eq
  rw [h.mem x, List.mem_filter, mem_others']
  simp only [List.elem_eq_mem, decide_eq_true_eq]
  constructor
  · rintro ⟨a, b, c⟩; exact ⟨⟨b, a⟩, c⟩
  · rintro ⟨⟨b, a⟩, c⟩; exact ⟨a, b, c⟩

theorem others_len' (author : Int) : ∀ l, (others author l).length ≤ l.length
  | [] => by simp [others]
  | y :: r => by
    unfold others
    have := others_len' author r
    cases (decide (y = author) || r.elem y) <;> simp <;> omega

theorem Met.le {author : Int} {rwho ws met : List Int} (h : Met author rwho ws met) : met.length ≤ ws.length := by
  rw [h.len]
  exact Nat.le_trans (List.length_filter_le _ _) (others_len' author ws)

theorem Met.nil {author : Int} {rwho : List Int} : Met author rwho [] [] := ⟨List.nodup_nil, fun x => by simp⟩

theorem Met.add {author : Int} {rwho ws met : List Int} {w : Int} (h : Met author rwho ws met) (h1 : w ≠ author) (h2 : w ∈ rwho) (h3 : w ∉ met) : Met author rwho (ws ++ [w]) (met ++ [w]) := by
  refine ⟨?_, fun x => ?_⟩
  · rw [List.nodup_append]
    refine ⟨h.nodup, by simp, fun a ha b hb => ?_⟩
    rw [List.mem_singleton] at hb
    subst hb
    exact fun e => h3 (e ▸ ha)
  · simp only [List.mem_append, List.mem_singleton, h.mem x]
    constructor
    · rintro (⟨a, b, c⟩ | rfl)
      · exact ⟨.inl a, b, c⟩
      · exact ⟨.inr rfl, h1, h2⟩
    · rintro ⟨a | a, b, c⟩
      · exact .inl ⟨a, b, c⟩
      · exact .inr a

theorem Met.same {author : Int} {rwho ws met : List Int} {w : Int} (h : Met author rwho ws met) (h1 : ¬ (w ≠ author ∧ w ∈ rwho) ∨ w ∈ met) : Met author rwho (ws ++ [w]) met := by
  refine ⟨h.nodup, fun x => ?_⟩
  rw [h.mem x]
  simp only [List.mem_append, List.mem_singleton]
  constructor
  · rintro ⟨a, b, c⟩; exact ⟨.inl a, b, c⟩
  · rintro ⟨a | rfl, b, c⟩
    · exact ⟨a, b, c⟩
    · rcases h1 with h1 | h1
      · exact absurd ⟨b, c⟩ h1
      · exact ⟨((h.mem x).1 h1).1, b, c⟩

/-! ### the specification -/

def enoughB (l : List Rule) (author : Int) (who : List Int) : Bool := l.all fun r => decide (r.n ≤ (nMet author r.who who : Int))

theorem intsOf_ints : ∀ l : List Int, intsOf (ints l) = some l
  | [] => rfl
  | x :: l => by
    have : ints (x :: l) = [.int .i64 x] :: ints l := rfl
    rw [this]
    unfold intsOf
    rw [intsOf_ints l]
    rfl

theorem ruleOf_enc (r : Rule) (h : r.who.length ≤ 4611686018427387904) : ruleOf (encRule r) = some (r.n, r.who) := by
  show ((intsOf (ints r.who)).bind fun xs => cond (Nat.ble xs.length 4611686018427387904) (some (r.n, xs)) none) = _
  have hb : Nat.ble r.who.length 4611686018427387904 = true := by simpa [Nat.ble_eq] using h
  rw [intsOf_ints]
  simp [hb]

theorem rulesOf_enc : ∀ l : List Rule, (∀ r ∈ l, RuleOK r) → rulesOf (encRules l) = some (l.map fun r => (r.n, r.who))
  | [], _ => rfl
  | r :: l, h => by
    have : encRules (r :: l) = encRule r :: encRules l := rfl
    rw [this]
    simp only [rulesOf, ruleOf_enc r (h r List.mem_cons_self).who, rulesOf_enc l fun r hr => h r (List.mem_cons_of_mem _ hr), Option.bind_some, Option.map_some, List.map_cons]

theorem enoughP_D (l : List Rule) (author : Int) (who : List Int) (H : AHeap) (hl : l.length ≤ 4611686018427387904) (hr : ∀ r ∈ l, RuleOK r) (hw : who.length ≤ 4611686018427387904) (hi : ∀ w ∈ who, I64 w) :
    callD A 22 [.slice (encRules l) false, .int .i64 author, .slice (ints who) false] H = some (.bool (enoughB l author who), none) := by
  refine callD_ov (g := ovEnough) rfl ?_
  unfold ovEnough
  simp only [intsOf_ints, rulesOf_enc l hr, Option.bind_some]
  have h1 : Nat.ble who.length 4611686018427387904 = true := by simpa [Nat.ble_eq] using hw
  have h2 : Nat.ble (l.map fun r => (r.n, r.who)).length 4611686018427387904 = true := by simpa [Nat.ble_eq] using hl
  have h3 : all64 who = true := List.all_eq_true.2 fun w h => by
    obtain ⟨a, b⟩ := hi w h
    simp only [Bool.and_eq_true, decide_eq_true_eq]
    omega
  rw [h1, h2, h3]
  simp only [Bool.and_true, cond_true, List.all_map]
  rfl

/-! ### the reference's -/

theorem enoughR_inner (l : List Rule) (r : Rule) (i : Nat) (author : Int) (who : List Int) (H : AHeap) (hg : (encRules l)[i]? = some (encRule r)) (hrw : r.who.length ≤ 4611686018427387904) (hw : who.length ≤ 1000000000)
    (T : AFrame) (g lo : Nat) (Q : IExit → AS → Prop) (h0 : T 0 = .slice (encRules l) false) (h1 : T 1 = .int .i64 author) (h2 : T 2 = .slice (ints who) false) (h7 : T 7 = .int .i64 i) (h8 : T 8 = .slice [] true) (h9 : T 9 = .int .i64 0)
    (hx : ∀ T' met, Met author r.who who met → T' 0 = .slice (encRules l) false → T' 1 = .int .i64 author → T' 2 = .slice (ints who) false → T' 7 = .int .i64 i → T' 8 = .slice (ints met) true → Q (.exit 2) ⟨T', H, lo, g⟩) :
    W A (ir23.body.sub [true, false, true, false, false, true, false, false, true, false, true, false]) ⟨T, H, lo, g⟩ Q := by
  unfold ir23
  simp only [ICode.sub]
  refine W_countx who.length 2 (fun k => Hd (fun T => ∃ met, T 0 = .slice (encRules l) false ∧ T 1 = .int .i64 author ∧ T 2 = .slice (ints who) false ∧ T 7 = .int .i64 i ∧ T 8 = .slice (ints met) true ∧ T 9 = .int .i64 k ∧ Met author r.who (who.take k) met) H lo g)
    (Hd (fun T => ∃ met, T 0 = .slice (encRules l) false ∧ T 1 = .int .i64 author ∧ T 2 = .slice (ints who) false ∧ T 7 = .int .i64 i ∧ T 8 = .slice (ints met) true ∧ Met author r.who who met) H lo g) (fun _ => False) ?_ ?_ (fun _ h => h.elim) 0 _ (by omega) ?_
  · rintro k st hk hst
    obtain ⟨T, rfl, met, h0, h1, h2, h7, h8, h9, hm⟩ := hst.out
    by_cases h : k < who.length
    · have hgk := ints_at (List.getElem?_eq_getElem h)
      have hml := hm.le
      rw [List.length_take] at hml
      have htk : who.take (k + 1) = who.take k ++ [who[k]] := by rw [List.take_add_one]; simp [h]
      rw [htk]
      generalize who[k] = w at hgk
      have hin := in_D r.who w H (by omega)
      have hme := in_D met w H (by omega)
      by_cases ha : w = author
      · subst ha
        simp (disch := omega) only [evA, argsV, argsOK, partsV, elemsV, optV, evOper, evOp, evAppend, IArg.eval, AS.putD, ↓reduceIte, Nat.reduceEqDiff, Option.isSome, Option.isNone, cond_true, cond_false, Nat.reduceBEq, Nat.reduceAdd, Nat.reduceMul, binInt, binStr, eq_self, reduceCtorEq, unAV, lenAV, convAV, sliceAV, bound, isCon, AS.spent, liveAddr, offAddr, elemsOf, Nat.reduceLeDiff, nilCmp, putAt, Int.reduceEq, Int.reduceLT, Int.reduceLE, Int.reduceBEq, Int.reduceBNe, Int.reduceAdd, Int.reduceNeg, Int.reduceSub, Int.reduceMul, ilt_t, ilt_f, ile_t, ile_f, ieq_t, ieq_f, ine_t, ine_f, h0, h1, h2, h7, h8, h9, ints_len, hgk]
        exact ⟨h, met, rfl, hm.same (.inl fun e => e.1 rfl)⟩
      · by_cases hb : w ∈ r.who
        · have hb' : r.who.contains w = true := by simpa using hb
          by_cases hc : w ∈ met
          · have hc' : met.contains w = true := by simpa using hc
            simp (disch := omega) only [evA, argsV, argsOK, partsV, elemsV, optV, evOper, evOp, evAppend, IArg.eval, AS.putD, ↓reduceIte, Nat.reduceEqDiff, Option.isSome, Option.isNone, cond_true, cond_false, Nat.reduceBEq, Nat.reduceAdd, Nat.reduceMul, binInt, binStr, eq_self, reduceCtorEq, unAV, lenAV, convAV, sliceAV, bound, isCon, AS.spent, liveAddr, offAddr, elemsOf, Nat.reduceLeDiff, nilCmp, putAt, Int.reduceEq, Int.reduceLT, Int.reduceLE, Int.reduceBEq, Int.reduceBNe, Int.reduceAdd, Int.reduceNeg, Int.reduceSub, Int.reduceMul, ilt_t, ilt_f, ile_t, ile_f, ieq_t, ieq_f, ine_t, ine_f, h0, h1, h2, h7, h8, h9, ints_len, hgk, ha, hg, encRule, hin, hb', hme, hc']
            exact ⟨h, met, rfl, hm.same (.inr hc)⟩
          · have hc' : met.contains w = false := by simpa using hc
            simp (disch := omega) only [evA, argsV, argsOK, partsV, elemsV, optV, evOper, evOp, evAppend, IArg.eval, AS.putD, ↓reduceIte, Nat.reduceEqDiff, Option.isSome, Option.isNone, cond_true, cond_false, Nat.reduceBEq, Nat.reduceAdd, Nat.reduceMul, binInt, binStr, eq_self, reduceCtorEq, unAV, lenAV, convAV, sliceAV, bound, isCon, AS.spent, liveAddr, offAddr, elemsOf, Nat.reduceLeDiff, nilCmp, putAt, Int.reduceEq, Int.reduceLT, Int.reduceLE, Int.reduceBEq, Int.reduceBNe, Int.reduceAdd, Int.reduceNeg, Int.reduceSub, Int.reduceMul, ilt_t, ilt_f, ile_t, ile_f, ieq_t, ieq_f, ine_t, ine_f, h0, h1, h2, h7, h8, h9, ints_len, hgk, ha, hg, encRule, hin, hb', hme, hc']
            exact ⟨h, met ++ [w], rfl, hm.add ha hb hc⟩
        · have hb' : r.who.contains w = false := by simpa using hb
          simp (disch := omega) only [evA, argsV, argsOK, partsV, elemsV, optV, evOper, evOp, evAppend, IArg.eval, AS.putD, ↓reduceIte, Nat.reduceEqDiff, Option.isSome, Option.isNone, cond_true, cond_false, Nat.reduceBEq, Nat.reduceAdd, Nat.reduceMul, binInt, binStr, eq_self, reduceCtorEq, unAV, lenAV, convAV, sliceAV, bound, isCon, AS.spent, liveAddr, offAddr, elemsOf, Nat.reduceLeDiff, nilCmp, putAt, Int.reduceEq, Int.reduceLT, Int.reduceLE, Int.reduceBEq, Int.reduceBNe, Int.reduceAdd, Int.reduceNeg, Int.reduceSub, Int.reduceMul, ilt_t, ilt_f, ile_t, ile_f, ieq_t, ieq_f, ine_t, ine_f, h0, h1, h2, h7, h8, h9, ints_len, hgk, ha, hg, encRule, hin, hb']
          exact ⟨h, met, rfl, hm.same (.inl fun e => hb e.2)⟩
    · have : k = who.length := by omega
      subst this
      simp (disch := omega) only [evA, argsV, argsOK, partsV, elemsV, optV, evOper, evOp, evAppend, IArg.eval, AS.putD, ↓reduceIte, Nat.reduceEqDiff, Option.isSome, Option.isNone, cond_true, cond_false, Nat.reduceBEq, Nat.reduceAdd, Nat.reduceMul, binInt, binStr, eq_self, reduceCtorEq, unAV, lenAV, convAV, sliceAV, bound, isCon, AS.spent, liveAddr, offAddr, elemsOf, Nat.reduceLeDiff, nilCmp, putAt, Int.reduceEq, Int.reduceLT, Int.reduceLE, Int.reduceBEq, Int.reduceBNe, Int.reduceAdd, Int.reduceNeg, Int.reduceSub, Int.reduceMul, ilt_t, ilt_f, ile_t, ile_f, ieq_t, ieq_f, ine_t, ine_f, h0, h1, h2, h7, h8, h9, ints_len]
      rw [List.take_length] at hm
      exact ⟨met, rfl, hm⟩
  · intro st hst
    obtain ⟨T, rfl, met, h0, h1, h2, h7, h8, hm⟩ := hst.out
    exact hx _ met hm h0 h1 h2 h7 h8
  · simp (disch := omega) only [evA, argsV, argsOK, partsV, elemsV, optV, evOper, evOp, evAppend, IArg.eval, AS.putD, ↓reduceIte, Nat.reduceEqDiff, Option.isSome, Option.isNone, cond_true, cond_false, Nat.reduceBEq, Nat.reduceAdd, Nat.reduceMul, binInt, binStr, eq_self, reduceCtorEq, unAV, lenAV, convAV, sliceAV, bound, isCon, AS.spent, liveAddr, offAddr, elemsOf, Nat.reduceLeDiff, nilCmp, putAt, Int.reduceEq, Int.reduceLT, Int.reduceLE, Int.reduceBEq, Int.reduceBNe, Int.reduceAdd, Int.reduceNeg, Int.reduceSub, Int.reduceMul, h0, h1, h2, h7, h8, h9, Int.natCast_zero]
    exact ⟨[], rfl, Met.nil⟩

theorem enoughR_D (l : List Rule) (author : Int) (who : List Int) (H : AHeap) (hl : l.length ≤ 4611686018427387904) (hr : ∀ r ∈ l, RuleOK r) (hw : who.length ≤ 1000000000) :
    callD A 23 [.slice (encRules l) false, .int .i64 author, .slice (ints who) false] H = some (.bool (enoughB l author who), none) := by
  refine callD_W (fn := ir23) rfl rfl rfl ?_
  unfold ir23
  simp (disch := omega) only [evA, argsV, argsOK, partsV, elemsV, optV, evOper, evOp, evAppend, IArg.eval, AS.putD, ↓reduceIte, Nat.reduceEqDiff, Option.isSome, Option.isNone, cond_true, cond_false, Nat.reduceBEq, Nat.reduceAdd, Nat.reduceMul, binInt, binStr, eq_self, reduceCtorEq, unAV, lenAV, convAV, sliceAV, bound, isCon, AS.spent, liveAddr, offAddr, elemsOf, Nat.reduceLeDiff, nilCmp, putAt, Int.reduceEq, Int.reduceLT, Int.reduceLE, Int.reduceBEq, Int.reduceBNe, Int.reduceAdd, Int.reduceNeg, Int.reduceSub, Int.reduceMul]
  refine W_count l.length (fun i => HdG (fun T => T 0 = .slice (encRules l) false ∧ T 1 = .int .i64 author ∧ T 2 = .slice (ints who) false ∧ T 7 = .int .i64 i ∧ enoughB l author who = enoughB (l.drop i) author who) H H.length) ?_ 0 _ (Nat.zero_le _) ?_
  · rintro i st hi hst
    obtain ⟨T, g, rfl, h0, h1, h2, h7, hc⟩ := hst.out
    by_cases h : i < l.length
    · have hg := rules_at (List.getElem?_eq_getElem h)
      have hrk := hr _ (List.getElem_mem h)
      rw [List.drop_eq_getElem_cons h] at hc
      generalize l[i] = r at hg hrk hc
      simp (disch := omega) only [evA, argsV, argsOK, partsV, elemsV, optV, evOper, evOp, evAppend, IArg.eval, AS.putD, ↓reduceIte, Nat.reduceEqDiff, Option.isSome, Option.isNone, cond_true, cond_false, Nat.reduceBEq, Nat.reduceAdd, Nat.reduceMul, binInt, binStr, eq_self, reduceCtorEq, unAV, lenAV, convAV, sliceAV, bound, isCon, AS.spent, liveAddr, offAddr, elemsOf, Nat.reduceLeDiff, nilCmp, putAt, Int.reduceEq, Int.reduceLT, Int.reduceLE, Int.reduceBEq, Int.reduceBNe, Int.reduceAdd, Int.reduceNeg, Int.reduceSub, Int.reduceMul, ilt_t, ilt_f, ile_t, ile_f, ieq_t, ieq_f, ine_t, ine_f, h0, h1, h2, h7, rules_len]
      refine enoughR_inner l r i author who H hg hrk.who hw _ g _ _ ?_ ?_ ?_ ?_ ?_ ?_ ?_
      case refine_7 =>
        intro T' met hm h0 h1 h2 h7 h8
        have hml := hm.le
        have hn := hm.len
        by_cases hlt : (met.length : Int) < r.n
        · have hf : enoughB l author who = false := by
            rw [hc]
            unfold enoughB
            rw [List.all_cons, ← hn]
            have : decide (r.n ≤ (met.length : Int)) = false := by simpa using hlt
            rw [this, Bool.false_and]
          simp (disch := omega) only [evA, argsV, argsOK, partsV, elemsV, optV, evOper, evOp, evAppend, IArg.eval, AS.putD, ↓reduceIte, Nat.reduceEqDiff, Option.isSome, Option.isNone, cond_true, cond_false, Nat.reduceBEq, Nat.reduceAdd, Nat.reduceMul, binInt, binStr, eq_self, reduceCtorEq, unAV, lenAV, convAV, sliceAV, bound, isCon, AS.spent, liveAddr, offAddr, elemsOf, Nat.reduceLeDiff, nilCmp, putAt, Int.reduceEq, Int.reduceLT, Int.reduceLE, Int.reduceBEq, Int.reduceBNe, Int.reduceAdd, Int.reduceNeg, Int.reduceSub, Int.reduceMul, ilt_t, ilt_f, ile_t, ile_f, ieq_t, ieq_f, ine_t, ine_f, h0, h1, h2, h7, h8, ints_len, hg, encRule, hf]
        · have ht : enoughB l author who = enoughB (l.drop (i + 1)) author who := by
            rw [hc]
            unfold enoughB
            rw [List.all_cons, ← hn]
            have : decide (r.n ≤ (met.length : Int)) = true := by simp; omega
            rw [this, Bool.true_and]
          simp (disch := omega) only [evA, argsV, argsOK, partsV, elemsV, optV, evOper, evOp, evAppend, IArg.eval, AS.putD, ↓reduceIte, Nat.reduceEqDiff, Option.isSome, Option.isNone, cond_true, cond_false, Nat.reduceBEq, Nat.reduceAdd, Nat.reduceMul, binInt, binStr, eq_self, reduceCtorEq, unAV, lenAV, convAV, sliceAV, bound, isCon, AS.spent, liveAddr, offAddr, elemsOf, Nat.reduceLeDiff, nilCmp, putAt, Int.reduceEq, Int.reduceLT, Int.reduceLE, Int.reduceBEq, Int.reduceBNe, Int.reduceAdd, Int.reduceNeg, Int.reduceSub, Int.reduceMul, ilt_t, ilt_f, ile_t, ile_f, ieq_t, ieq_f, ine_t, ine_f, h0, h1, h2, h7, h8, ints_len, hg, encRule]
          exact ⟨h, ht⟩
      all_goals simp (disch := omega) only [evA, argsV, argsOK, partsV, elemsV, optV, evOper, evOp, evAppend, IArg.eval, AS.putD, ↓reduceIte, Nat.reduceEqDiff, Option.isSome, Option.isNone, cond_true, cond_false, Nat.reduceBEq, Nat.reduceAdd, Nat.reduceMul, binInt, binStr, eq_self, reduceCtorEq, unAV, lenAV, convAV, sliceAV, bound, isCon, AS.spent, liveAddr, offAddr, elemsOf, Nat.reduceLeDiff, nilCmp, putAt, Int.reduceEq, Int.reduceLT, Int.reduceLE, Int.reduceBEq, Int.reduceBNe, Int.reduceAdd, Int.reduceNeg, Int.reduceSub, Int.reduceMul, h0, h1, h2, h7]
    · have : i = l.length := by omega
      subst this
      have he : enoughB l author who = true := by rw [hc, List.drop_length]; rfl
      simp (disch := omega) only [evA, argsV, argsOK, partsV, elemsV, optV, evOper, evOp, evAppend, IArg.eval, AS.putD, ↓reduceIte, Nat.reduceEqDiff, Option.isSome, Option.isNone, cond_true, cond_false, Nat.reduceBEq, Nat.reduceAdd, Nat.reduceMul, binInt, binStr, eq_self, reduceCtorEq, unAV, lenAV, convAV, sliceAV, bound, isCon, AS.spent, liveAddr, offAddr, elemsOf, Nat.reduceLeDiff, nilCmp, putAt, Int.reduceEq, Int.reduceLT, Int.reduceLE, Int.reduceBEq, Int.reduceBNe, Int.reduceAdd, Int.reduceNeg, Int.reduceSub, Int.reduceMul, ilt_t, ilt_f, ile_t, ile_f, ieq_t, ieq_f, ine_t, ine_f, h0, h1, h2, h7, rules_len, he]
  · simp (disch := omega) only [evA, argsV, argsOK, partsV, elemsV, optV, evOper, evOp, evAppend, IArg.eval, AS.putD, ↓reduceIte, Nat.reduceEqDiff, Option.isSome, Option.isNone, cond_true, cond_false, Nat.reduceBEq, Nat.reduceAdd, Nat.reduceMul, binInt, binStr, eq_self, reduceCtorEq, unAV, lenAV, convAV, sliceAV, bound, isCon, AS.spent, liveAddr, offAddr, elemsOf, Nat.reduceLeDiff, nilCmp, putAt, Int.reduceEq, Int.reduceLT, Int.reduceLE, Int.reduceBEq, Int.reduceBNe, Int.reduceAdd, Int.reduceNeg, Int.reduceSub, Int.reduceMul, List.drop_zero, Int.natCast_zero]

/-! ### for the laws -/

theorem lives_D : callD A 17 [] [] = some (.bool true, none) := callD_eq.2 ⟨200, lives_run⟩

def encLL (l : List (List Rule)) : List (List AV) := l.map fun x => [.slice (encRules x) false]
theorem ll_len {l : List (List Rule)} : (encLL l).length = l.length := by simp [encLL]
theorem ll_at {l : List (List Rule)} {i : Nat} {x : List Rule} (h : l[i]? = some x) : (encLL l)[i]? = some [.slice (encRules x) false] := by simp [encLL, h]
theorem app_rules0 {m : List Rule} {o : Bool} (h : m.length ≤ 1099511627776) : appendAV false 4 64 (.slice [] true) (.slice (encRules m) o) = some (.slice (encRules m) true) := app_rules (l := []) (by simpa using h)

theorem app_rule1 {l : List Rule} {a b : Str} {n k : Int} {o : Bool} (h : l.length ≤ 1099511627775) :
    appendAV false 4 64 (.slice (encRules l) true) (.slice [[.str a, .str b, .int .i64 n, .slice [[.int .i64 k]] false]] o) = some (.slice (encRules (l ++ [⟨a, b, n, [k]⟩])) true) := app_rule (w := [k]) h

theorem mill_words : ∀ m ∈ ([[109, 105, 108, 108], [109, 49]] : List Str), isWord m = true := by decide

theorem mill_lens : ∀ m ∈ ([[109, 105, 108, 108], [109, 49]] : List Str), m.length ≤ 4611686018427387904 := by decide

theorem gen_B {names : List Str} {x : List Rule} (hn : ∀ m ∈ names, m.length ≤ 4611686018427387904) (h : ∀ r ∈ x, GenRule names r) : RulesB 8 x := fun r hr => by
  have h1 := incr_len (h r hr).who
  rw [if_pos (by omega)] at h1
  exact ⟨(h r hr).ok hn, by omega⟩

end Go.Proofs.YtgdcfgpddgedkaaDoor
