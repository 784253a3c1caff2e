/-
  Equations of functions, joined: E21, E22, E23, L3.
-/
import Derived.Test.YtgdcfgpddgedkaaDoorM2
set_option linter.unusedSimpArgs false
set_option linter.unusedVariables false
/-! Equations of functions, 21: the reference's Parse, its loop. -/
namespace Go.Proofs.YtgdcfgpddgedkaaDoor
open Go Go.Abs Go.Proofs

/-- The states' names. -/
theorem stB : ((((((((([119, 104, 97, 116] : Str) == [109, 111, 114, 101]) = false) ∧
  ((([119, 104, 97, 116] : Str) == [119, 104, 97, 116]) = true)) ∧
  (((([119, 104, 97, 116] : Str) == [105, 110]) = false) ∧
  ((([119, 104, 97, 116] : Str) == [110, 97, 109, 101]) = false))) ∧
  ((((([119, 104, 97, 116] : Str) == [99, 111, 108, 111, 110]) = false) ∧
  ((([119, 104, 97, 116] : Str) == [99, 111, 117, 110, 116]) = false)) ∧
  (((([119, 104, 97, 116] : Str) == [111, 102]) = false) ∧
  ((([119, 104, 97, 116] : Str) == [119, 104, 111]) = false)))) ∧
  (((((([105, 110] : Str) == [109, 111, 114, 101]) = false) ∧
  ((([105, 110] : Str) == [119, 104, 97, 116]) = false)) ∧
  (((([105, 110] : Str) == [105, 110]) = true) ∧
  ((([105, 110] : Str) == [110, 97, 109, 101]) = false))) ∧
  ((((([105, 110] : Str) == [99, 111, 108, 111, 110]) = false) ∧
  ((([105, 110] : Str) == [99, 111, 117, 110, 116]) = false)) ∧
  (((([105, 110] : Str) == [111, 102]) = false) ∧
  ((([105, 110] : Str) == [119, 104, 111]) = false))))) ∧
  ((((((([110, 97, 109, 101] : Str) == [109, 111, 114, 101]) = false) ∧
  ((([110, 97, 109, 101] : Str) == [119, 104, 97, 116]) = false)) ∧
  (((([110, 97, 109, 101] : Str) == [105, 110]) = false) ∧
  ((([110, 97, 109, 101] : Str) == [110, 97, 109, 101]) = true))) ∧
  ((((([110, 97, 109, 101] : Str) == [99, 111, 108, 111, 110]) = false) ∧
  ((([110, 97, 109, 101] : Str) == [99, 111, 117, 110, 116]) = false)) ∧
  (((([110, 97, 109, 101] : Str) == [111, 102]) = false) ∧
  ((([110, 97, 109, 101] : Str) == [119, 104, 111]) = false)))) ∧
  (((((([99, 111, 108, 111, 110] : Str) == [109, 111, 114, 101]) = false) ∧
  ((([99, 111, 108, 111, 110] : Str) == [119, 104, 97, 116]) = false)) ∧
  (((([99, 111, 108, 111, 110] : Str) == [105, 110]) = false) ∧
  ((([99, 111, 108, 111, 110] : Str) == [110, 97, 109, 101]) = false))) ∧
  ((((([99, 111, 108, 111, 110] : Str) == [99, 111, 108, 111, 110]) = true) ∧
  ((([99, 111, 108, 111, 110] : Str) == [99, 111, 117, 110, 116]) = false)) ∧
  (((([99, 111, 108, 111, 110] : Str) == [111, 102]) = false) ∧
  ((([99, 111, 108, 111, 110] : Str) == [119, 104, 111]) = false)))))) ∧
  (((((((([99, 111, 117, 110, 116] : Str) == [109, 111, 114, 101]) = false) ∧
  ((([99, 111, 117, 110, 116] : Str) == [119, 104, 97, 116]) = false)) ∧
  (((([99, 111, 117, 110, 116] : Str) == [105, 110]) = false) ∧
  ((([99, 111, 117, 110, 116] : Str) == [110, 97, 109, 101]) = false))) ∧
  ((((([99, 111, 117, 110, 116] : Str) == [99, 111, 108, 111, 110]) = false) ∧
  ((([99, 111, 117, 110, 116] : Str) == [99, 111, 117, 110, 116]) = true)) ∧
  (((([99, 111, 117, 110, 116] : Str) == [111, 102]) = false) ∧
  ((([99, 111, 117, 110, 116] : Str) == [119, 104, 111]) = false)))) ∧
  (((((([111, 102] : Str) == [109, 111, 114, 101]) = false) ∧
  ((([111, 102] : Str) == [119, 104, 97, 116]) = false)) ∧
  (((([111, 102] : Str) == [105, 110]) = false) ∧
  ((([111, 102] : Str) == [110, 97, 109, 101]) = false))) ∧
  ((((([111, 102] : Str) == [99, 111, 108, 111, 110]) = false) ∧
  ((([111, 102] : Str) == [99, 111, 117, 110, 116]) = false)) ∧
  (((([111, 102] : Str) == [111, 102]) = true) ∧
  ((([111, 102] : Str) == [119, 104, 111]) = false))))) ∧
  ((((((([119, 104, 111] : Str) == [109, 111, 114, 101]) = false) ∧
  ((([119, 104, 111] : Str) == [119, 104, 97, 116]) = false)) ∧
  (((([119, 104, 111] : Str) == [105, 110]) = false) ∧
  ((([119, 104, 111] : Str) == [110, 97, 109, 101]) = false))) ∧
  ((((([119, 104, 111] : Str) == [99, 111, 108, 111, 110]) = false) ∧
  ((([119, 104, 111] : Str) == [99, 111, 117, 110, 116]) = false)) ∧
  (((([119, 104, 111] : Str) == [111, 102]) = false) ∧
  ((([119, 104, 111] : Str) == [119, 104, 111]) = true)))) ∧
  (((((([109, 111, 114, 101] : Str) == [109, 111, 114, 101]) = true) ∧
  ((([109, 111, 114, 101] : Str) == [119, 104, 97, 116]) = false)) ∧
  (((([109, 111, 114, 101] : Str) == [105, 110]) = false) ∧
  ((([109, 111, 114, 101] : Str) == [110, 97, 109, 101]) = false))) ∧
  ((((([109, 111, 114, 101] : Str) == [99, 111, 108, 111, 110]) = false) ∧
  ((([109, 111, 114, 101] : Str) == [99, 111, 117, 110, 116]) = false)) ∧
  (((([109, 111, 114, 101] : Str) == [111, 102]) = false) ∧
  ((([109, 111, 114, 101] : Str) == [119, 104, 111]) = false))))))) := by decide

/-- Who has been named. -/
structure WhoOK (who : List Int) (least : Int) : Prop where
  last : (who = [] ∧ least = 0) ∨ (∃ x, who[who.length - 1]? = some x ∧ who ≠ [] ∧ least = x + 1)
  r0 : 0 ≤ least
  r8 : least ≤ 8
  all : ∀ x ∈ who, I64 x

theorem WhoOK.nil : WhoOK [] 0 := ⟨.inl ⟨rfl, rfl⟩, by omega, by omega, fun x h => by simp at h⟩
theorem WhoOK.snoc {who : List Int} {least v : Int} (h : WhoOK who least) (h0 : least ≤ v) (h7 : v ≤ 7) : WhoOK (who ++ [v]) (v + 1) :=
  ⟨.inr ⟨v, by simp, by simp, rfl⟩, by have := h.r0; omega, by omega, fun x hx => by
    rcases List.mem_append.1 hx with hx | hx
    · exact h.all x hx
    · rw [List.mem_singleton.1 hx]; have := h.r0; constructor <;> omega⟩

def St.early : St → Bool
  | .inn | .name | .colon | .count | .off => true
  | _ => false

structure RInv (L : List Tok) (i : Nat) (S : St) (out : List Rule) (w m : Str) (n : Int) (who : List Int) (least : Int) : Prop where
  cont : parseG [] L = Cont S out w m n who least (L.drop i)
  hout : out.length ≤ i
  hwho : who.length ≤ i
  hn : I64 n
  ok : WhoOK who least
  ws : ∀ r ∈ out, r.who.length ≤ 8192
  early : S.early = true → who = [] ∧ least = 0
  mod : S = .inn → m = []
  n64 : out.length ≤ 64
  n63 : S ≠ .what → out.length ≤ 63

set_option maxRecDepth 100000 in
set_option maxHeartbeats 8000000 in
theorem parseR_loop (H : AHeap) (L : List Tok) (hL : TL L) (s : Str) (T : AFrame) (g g8 lo : Nat) (Q : IExit → AS → Prop)
    (h0 : T 0 = .str s) (h4 : T 4 = .slice (encToks L) false) (h6 : T 6 = .int .i64 0) (h7 : T 7 = .slice [] true) (h8 : T 8 = .lbox g8 [.str [], .str [], .int .i64 0, .slice [] true]) (h9 : T 9 = .str St.what.s) (h10 : T 10 = .int .i64 0)
    (hx : ∀ T' g' S out w m n who least, RInv L L.length S out w m n who least → T' 0 = .str s → T' 7 = .slice (encRules out) true → T' 8 = .lbox g8 [.str w, .str m, .int .i64 n, .slice (ints who) true] → T' 9 = .str S.s → Q (.exit 0) ⟨T', H, lo, g'⟩)
    (hv : ∀ T' g' o, T' 2 = .slice (encRules (finS s L (parseG [] L)).1) o → T' 3 = .int .i64 (finS s L (parseG [] L)).2 → Q .ret ⟨T', H, lo, g'⟩) :
    W A (ir15.body.sub [true, true, true, true, true, true, true, false, true, false]) ⟨T, H, lo, g⟩ Q := by
  unfold ir15
  simp only [ICode.sub]
  have hll := hL.len
  refine W_countx L.length 0 (fun i st => ∃ S out w m n who least, HdG (fun T => T 0 = .str s ∧ T 4 = .slice (encToks L) false ∧ T 6 = .int .i64 (offs (L.take i)) ∧ T 7 = .slice (encRules out) true ∧ T 8 = .lbox g8 [.str w, .str m, .int .i64 n, .slice (ints who) true] ∧ T 9 = .str (St.s S) ∧ T 10 = .int .i64 i) H lo st ∧ RInv L i S out w m n who least)
    (fun st => ∃ S out w m n who least, HdG (fun T => T 0 = .str s ∧ T 7 = .slice (encRules out) true ∧ T 8 = .lbox g8 [.str w, .str m, .int .i64 n, .slice (ints who) true] ∧ T 9 = .str (St.s S)) H lo st ∧ RInv L L.length S out w m n who least)
    (fun st => HdG (fun T => ∃ o, T 2 = .slice (encRules (finS s L (parseG [] L)).1) o ∧ T 3 = .int .i64 (finS s L (parseG [] L)).2) H lo st) ?_ ?_ ?_ 0 _ (by omega) ?_
  · rintro i st hi ⟨S, out, w, m, n, who, least, hst, hI⟩
    obtain ⟨T, g4, rfl, h0, h4, h6, h7, h8, h9, h10⟩ := hst.out
    by_cases h : i < L.length
    · have hg := toks_at (List.getElem?_eq_getElem h)
      have h1 := hL.text _ (List.getElem_mem h)
      have h2 := hL.before _ (List.getElem_mem h)
      have ht : L.take (i + 1) = L.take i ++ [L[i]] := by rw [List.take_add_one]; simp [h]
      have hr := offs_range (L.take i) fun t ht => ⟨(hL.text t (List.mem_of_mem_take ht)).2, hL.before t (List.mem_of_mem_take ht)⟩
      rw [List.length_take] at hr
      have hc := hI.cont
      rw [List.drop_eq_getElem_cons h] at hc
      have hfin : parseG [] L = (none, L[i] :: L.drop (i + 1)) → finS s L (parseG [] L) = ([], offs (L.take i) + L[i].before.length) := fun e => by
        rw [e]
        have : L.length - (L[i] :: L.drop (i + 1)).length = i := by rw [List.length_cons, List.length_drop]; omega
        simp only [finS, this]
      rw [ht, offs_snoc]
      generalize offs (L.take i) = a at h6 hr hfin
      obtain ⟨t, ht'⟩ : ∃ t, L[i] = t := ⟨_, rfl⟩
      rw [ht'] at hg h1 h2 hc hfin ⊢
      clear ht'
      have ho := hI.hout
      have hw := hI.hwho
      have hno : I64 (numOf t.text) := by have := numOf_range t.text; constructor <;> omega
      cases S with
      | inn =>
        have h9' : T 9 = .str [105, 110] := h9
        obtain ⟨hwn, hln⟩ := hI.early rfl
        have hmn := hI.mod rfl
        have hn63 := hI.n63 (by simp)
        subst hwn hln hmn
        rw [cont_in] at hc
        by_cases hin : t.text = [105, 110]
        · have q1 : (t.text == [105, 110]) = true := by simp [hin]
          rw [if_pos hin] at hc
          simp (disch := omega) only [evA, argsV, argsOK, partsV, elemsV, optV, evOper, evOp, evAppend, IArg.eval, AS.putD, ↓reduceIte, Nat.reduceEqDiff, Option.isSome, Option.isNone, cond_true, cond_false, Nat.reduceBEq, Nat.reduceAdd, Nat.reduceMul, binInt, binStr, eq_self, reduceCtorEq, unAV, lenAV, convAV, sliceAV, bound, isCon, AS.spent, liveAddr, offAddr, elemsOf, Nat.reduceLeDiff, nilCmp, putAt, Int.reduceEq, Int.reduceLT, Int.reduceLE, Int.reduceBEq, Int.reduceBNe, Int.reduceAdd, Int.reduceNeg, Int.reduceSub, Int.reduceMul, ilt_t, ilt_f, ile_t, ile_f, ieq_t, ieq_f, ine_t, ine_f, stB, h0, h4, h6, h7, h8, h9', h10, toks_len, hg, encTok, storeAV, loadAV, loadCellsAV, takenAt, List.modify_succ_cons, List.modify_zero_cons, ints_len, rules_len, q1]
          exact ⟨h, .name, out, w, [], n, [], 0, ⟨by omega, rfl, rfl, rfl⟩, ⟨hc, by omega, by omega, hI.hn, hI.ok, hI.ws, fun _ => ⟨rfl, rfl⟩, (fun e => by cases e), hI.n64, fun _ => hn63⟩⟩
        · have q1 : (t.text == [105, 110]) = false := by simpa using hin
          rw [if_neg hin] at hc
          by_cases hco : t.text = [58]
          · have q2 : (t.text == [58]) = true := by simp [hco]
            rw [if_pos hco] at hc
            simp (disch := omega) only [evA, argsV, argsOK, partsV, elemsV, optV, evOper, evOp, evAppend, IArg.eval, AS.putD, ↓reduceIte, Nat.reduceEqDiff, Option.isSome, Option.isNone, cond_true, cond_false, Nat.reduceBEq, Nat.reduceAdd, Nat.reduceMul, binInt, binStr, eq_self, reduceCtorEq, unAV, lenAV, convAV, sliceAV, bound, isCon, AS.spent, liveAddr, offAddr, elemsOf, Nat.reduceLeDiff, nilCmp, putAt, Int.reduceEq, Int.reduceLT, Int.reduceLE, Int.reduceBEq, Int.reduceBNe, Int.reduceAdd, Int.reduceNeg, Int.reduceSub, Int.reduceMul, ilt_t, ilt_f, ile_t, ile_f, ieq_t, ieq_f, ine_t, ine_f, stB, h0, h4, h6, h7, h8, h9', h10, toks_len, hg, encTok, storeAV, loadAV, loadCellsAV, takenAt, List.modify_succ_cons, List.modify_zero_cons, ints_len, rules_len, q1, q2]
            exact ⟨h, .count, out, w, [], n, [], 0, ⟨by omega, rfl, rfl, rfl⟩, ⟨hc, by omega, by omega, hI.hn, hI.ok, hI.ws, fun _ => ⟨rfl, rfl⟩, (fun e => by cases e), hI.n64, fun _ => hn63⟩⟩
          · have q2 : (t.text == [58]) = false := by simpa using hco
            rw [if_neg hco] at hc
            rw [hfin hc]
            simp (disch := omega) only [evA, argsV, argsOK, partsV, elemsV, optV, evOper, evOp, evAppend, IArg.eval, AS.putD, ↓reduceIte, Nat.reduceEqDiff, Option.isSome, Option.isNone, cond_true, cond_false, Nat.reduceBEq, Nat.reduceAdd, Nat.reduceMul, binInt, binStr, eq_self, reduceCtorEq, unAV, lenAV, convAV, sliceAV, bound, isCon, AS.spent, liveAddr, offAddr, elemsOf, Nat.reduceLeDiff, nilCmp, putAt, Int.reduceEq, Int.reduceLT, Int.reduceLE, Int.reduceBEq, Int.reduceBNe, Int.reduceAdd, Int.reduceNeg, Int.reduceSub, Int.reduceMul, ilt_t, ilt_f, ile_t, ile_f, ieq_t, ieq_f, ine_t, ine_f, stB, h0, h4, h6, h7, h8, h9', h10, toks_len, hg, encTok, storeAV, loadAV, loadCellsAV, takenAt, List.modify_succ_cons, List.modify_zero_cons, ints_len, rules_len, q1, q2]
            exact ⟨true, rfl, rfl⟩
      | name =>
        have h9' : T 9 = .str [110, 97, 109, 101] := h9
        obtain ⟨hwn, hln⟩ := hI.early rfl
        have hn63 := hI.n63 (by simp)
        subst hwn hln
        rw [cont_name] at hc
        have hwd := wordR_D t.text H (by omega)
        by_cases hok : isWord t.text = true
        · rw [if_pos hok] at hc
          rw [hok] at hwd
          simp (disch := omega) only [evA, argsV, argsOK, partsV, elemsV, optV, evOper, evOp, evAppend, IArg.eval, AS.putD, ↓reduceIte, Nat.reduceEqDiff, Option.isSome, Option.isNone, cond_true, cond_false, Nat.reduceBEq, Nat.reduceAdd, Nat.reduceMul, binInt, binStr, eq_self, reduceCtorEq, unAV, lenAV, convAV, sliceAV, bound, isCon, AS.spent, liveAddr, offAddr, elemsOf, Nat.reduceLeDiff, nilCmp, putAt, Int.reduceEq, Int.reduceLT, Int.reduceLE, Int.reduceBEq, Int.reduceBNe, Int.reduceAdd, Int.reduceNeg, Int.reduceSub, Int.reduceMul, ilt_t, ilt_f, ile_t, ile_f, ieq_t, ieq_f, ine_t, ine_f, stB, h0, h4, h6, h7, h8, h9', h10, toks_len, hg, encTok, storeAV, loadAV, loadCellsAV, takenAt, List.modify_succ_cons, List.modify_zero_cons, ints_len, rules_len, hwd]
          exact ⟨h, .colon, out, w, t.text, n, [], 0, ⟨by omega, rfl, rfl, rfl⟩, ⟨hc, by omega, by omega, hI.hn, hI.ok, hI.ws, fun _ => ⟨rfl, rfl⟩, (fun e => by cases e), hI.n64, fun _ => hn63⟩⟩
        · rw [if_neg hok] at hc
          have hok' : isWord t.text = false := by simpa using hok
          rw [hok'] at hwd
          rw [hfin hc]
          simp (disch := omega) only [evA, argsV, argsOK, partsV, elemsV, optV, evOper, evOp, evAppend, IArg.eval, AS.putD, ↓reduceIte, Nat.reduceEqDiff, Option.isSome, Option.isNone, cond_true, cond_false, Nat.reduceBEq, Nat.reduceAdd, Nat.reduceMul, binInt, binStr, eq_self, reduceCtorEq, unAV, lenAV, convAV, sliceAV, bound, isCon, AS.spent, liveAddr, offAddr, elemsOf, Nat.reduceLeDiff, nilCmp, putAt, Int.reduceEq, Int.reduceLT, Int.reduceLE, Int.reduceBEq, Int.reduceBNe, Int.reduceAdd, Int.reduceNeg, Int.reduceSub, Int.reduceMul, ilt_t, ilt_f, ile_t, ile_f, ieq_t, ieq_f, ine_t, ine_f, stB, h0, h4, h6, h7, h8, h9', h10, toks_len, hg, encTok, storeAV, loadAV, loadCellsAV, takenAt, List.modify_succ_cons, List.modify_zero_cons, ints_len, rules_len, hwd]
          exact ⟨true, rfl, rfl⟩
      | colon =>
        have h9' : T 9 = .str [99, 111, 108, 111, 110] := h9
        obtain ⟨hwn, hln⟩ := hI.early rfl
        have hn63 := hI.n63 (by simp)
        subst hwn hln
        rw [cont_colon] at hc
        by_cases hok : t.text = [58]
        · rw [if_pos hok] at hc
          have q : (t.text == [58]) = true := by simp [hok]
          simp (disch := omega) only [evA, argsV, argsOK, partsV, elemsV, optV, evOper, evOp, evAppend, IArg.eval, AS.putD, ↓reduceIte, Nat.reduceEqDiff, Option.isSome, Option.isNone, cond_true, cond_false, Nat.reduceBEq, Nat.reduceAdd, Nat.reduceMul, binInt, binStr, eq_self, reduceCtorEq, unAV, lenAV, convAV, sliceAV, bound, isCon, AS.spent, liveAddr, offAddr, elemsOf, Nat.reduceLeDiff, nilCmp, putAt, Int.reduceEq, Int.reduceLT, Int.reduceLE, Int.reduceBEq, Int.reduceBNe, Int.reduceAdd, Int.reduceNeg, Int.reduceSub, Int.reduceMul, ilt_t, ilt_f, ile_t, ile_f, ieq_t, ieq_f, ine_t, ine_f, stB, h0, h4, h6, h7, h8, h9', h10, toks_len, hg, encTok, storeAV, loadAV, loadCellsAV, takenAt, List.modify_succ_cons, List.modify_zero_cons, ints_len, rules_len, q]
          exact ⟨h, .count, out, w, m, n, [], 0, ⟨by omega, rfl, rfl, rfl⟩, ⟨hc, by omega, by omega, hI.hn, hI.ok, hI.ws, fun _ => ⟨rfl, rfl⟩, (fun e => by cases e), hI.n64, fun _ => hn63⟩⟩
        · rw [if_neg hok] at hc
          have q : (t.text == [58]) = false := by simpa using hok
          rw [hfin hc]
          simp (disch := omega) only [evA, argsV, argsOK, partsV, elemsV, optV, evOper, evOp, evAppend, IArg.eval, AS.putD, ↓reduceIte, Nat.reduceEqDiff, Option.isSome, Option.isNone, cond_true, cond_false, Nat.reduceBEq, Nat.reduceAdd, Nat.reduceMul, binInt, binStr, eq_self, reduceCtorEq, unAV, lenAV, convAV, sliceAV, bound, isCon, AS.spent, liveAddr, offAddr, elemsOf, Nat.reduceLeDiff, nilCmp, putAt, Int.reduceEq, Int.reduceLT, Int.reduceLE, Int.reduceBEq, Int.reduceBNe, Int.reduceAdd, Int.reduceNeg, Int.reduceSub, Int.reduceMul, ilt_t, ilt_f, ile_t, ile_f, ieq_t, ieq_f, ine_t, ine_f, stB, h0, h4, h6, h7, h8, h9', h10, toks_len, hg, encTok, storeAV, loadAV, loadCellsAV, takenAt, List.modify_succ_cons, List.modify_zero_cons, ints_len, rules_len, q]
          exact ⟨true, rfl, rfl⟩
      | off =>
        have h9' : T 9 = .str [111, 102] := h9
        obtain ⟨hwn, hln⟩ := hI.early rfl
        have hn63 := hI.n63 (by simp)
        subst hwn hln
        rw [cont_off] at hc
        by_cases hok : t.text = [111, 102]
        · rw [if_pos hok] at hc
          have q : (t.text == [111, 102]) = true := by simp [hok]
          simp (disch := omega) only [evA, argsV, argsOK, partsV, elemsV, optV, evOper, evOp, evAppend, IArg.eval, AS.putD, ↓reduceIte, Nat.reduceEqDiff, Option.isSome, Option.isNone, cond_true, cond_false, Nat.reduceBEq, Nat.reduceAdd, Nat.reduceMul, binInt, binStr, eq_self, reduceCtorEq, unAV, lenAV, convAV, sliceAV, bound, isCon, AS.spent, liveAddr, offAddr, elemsOf, Nat.reduceLeDiff, nilCmp, putAt, Int.reduceEq, Int.reduceLT, Int.reduceLE, Int.reduceBEq, Int.reduceBNe, Int.reduceAdd, Int.reduceNeg, Int.reduceSub, Int.reduceMul, ilt_t, ilt_f, ile_t, ile_f, ieq_t, ieq_f, ine_t, ine_f, stB, h0, h4, h6, h7, h8, h9', h10, toks_len, hg, encTok, storeAV, loadAV, loadCellsAV, takenAt, List.modify_succ_cons, List.modify_zero_cons, ints_len, rules_len, q]
          exact ⟨h, .who, out, w, m, n, [], 0, ⟨by omega, rfl, rfl, rfl⟩, ⟨hc, by omega, by omega, hI.hn, hI.ok, hI.ws, (fun e => by cases e), (fun e => by cases e), hI.n64, fun _ => hn63⟩⟩
        · rw [if_neg hok] at hc
          have q : (t.text == [111, 102]) = false := by simpa using hok
          rw [hfin hc]
          simp (disch := omega) only [evA, argsV, argsOK, partsV, elemsV, optV, evOper, evOp, evAppend, IArg.eval, AS.putD, ↓reduceIte, Nat.reduceEqDiff, Option.isSome, Option.isNone, cond_true, cond_false, Nat.reduceBEq, Nat.reduceAdd, Nat.reduceMul, binInt, binStr, eq_self, reduceCtorEq, unAV, lenAV, convAV, sliceAV, bound, isCon, AS.spent, liveAddr, offAddr, elemsOf, Nat.reduceLeDiff, nilCmp, putAt, Int.reduceEq, Int.reduceLT, Int.reduceLE, Int.reduceBEq, Int.reduceBNe, Int.reduceAdd, Int.reduceNeg, Int.reduceSub, Int.reduceMul, ilt_t, ilt_f, ile_t, ile_f, ieq_t, ieq_f, ine_t, ine_f, stB, h0, h4, h6, h7, h8, h9', h10, toks_len, hg, encTok, storeAV, loadAV, loadCellsAV, takenAt, List.modify_succ_cons, List.modify_zero_cons, ints_len, rules_len, q]
          exact ⟨true, rfl, rfl⟩
      | count =>
        have h9' : T 9 = .str [99, 111, 117, 110, 116] := h9
        obtain ⟨hwn, hln⟩ := hI.early rfl
        have hn63 := hI.n63 (by simp)
        subst hwn hln
        rw [cont_count] at hc
        have hnm := numberR_D t.text H (by omega)
        by_cases hok : numIs 1 8 t.text = true
        · rw [if_pos hok] at hc
          simp only [numIs, Bool.and_eq_true, decide_eq_true_eq] at hok
          generalize numOf t.text = v at hnm hc hok hno
          simp (disch := omega) only [evA, argsV, argsOK, partsV, elemsV, optV, evOper, evOp, evAppend, IArg.eval, AS.putD, ↓reduceIte, Nat.reduceEqDiff, Option.isSome, Option.isNone, cond_true, cond_false, Nat.reduceBEq, Nat.reduceAdd, Nat.reduceMul, binInt, binStr, eq_self, reduceCtorEq, unAV, lenAV, convAV, sliceAV, bound, isCon, AS.spent, liveAddr, offAddr, elemsOf, Nat.reduceLeDiff, nilCmp, putAt, Int.reduceEq, Int.reduceLT, Int.reduceLE, Int.reduceBEq, Int.reduceBNe, Int.reduceAdd, Int.reduceNeg, Int.reduceSub, Int.reduceMul, ilt_t, ilt_f, ile_t, ile_f, ieq_t, ieq_f, ine_t, ine_f, stB, h0, h4, h6, h7, h8, h9', h10, toks_len, hg, encTok, storeAV, loadAV, loadCellsAV, takenAt, List.modify_succ_cons, List.modify_zero_cons, ints_len, rules_len, hnm]
          exact ⟨h, .off, out, w, m, v, [], 0, ⟨by omega, rfl, rfl, rfl⟩, ⟨hc, by omega, by omega, hno, hI.ok, hI.ws, fun _ => ⟨rfl, rfl⟩, (fun e => by cases e), hI.n64, fun _ => hn63⟩⟩
        · rw [if_neg hok] at hc
          have hok' : numOf t.text < 1 ∨ 8 < numOf t.text := by
            simp only [numIs, Bool.and_eq_true, decide_eq_true_eq] at hok
            omega
          rw [hfin hc]
          generalize numOf t.text = v at hnm hok' hno
          rcases hok' with hv | hv
          · simp (disch := omega) only [evA, argsV, argsOK, partsV, elemsV, optV, evOper, evOp, evAppend, IArg.eval, AS.putD, ↓reduceIte, Nat.reduceEqDiff, Option.isSome, Option.isNone, cond_true, cond_false, Nat.reduceBEq, Nat.reduceAdd, Nat.reduceMul, binInt, binStr, eq_self, reduceCtorEq, unAV, lenAV, convAV, sliceAV, bound, isCon, AS.spent, liveAddr, offAddr, elemsOf, Nat.reduceLeDiff, nilCmp, putAt, Int.reduceEq, Int.reduceLT, Int.reduceLE, Int.reduceBEq, Int.reduceBNe, Int.reduceAdd, Int.reduceNeg, Int.reduceSub, Int.reduceMul, ilt_t, ilt_f, ile_t, ile_f, ieq_t, ieq_f, ine_t, ine_f, stB, h0, h4, h6, h7, h8, h9', h10, toks_len, hg, encTok, storeAV, loadAV, loadCellsAV, takenAt, List.modify_succ_cons, List.modify_zero_cons, ints_len, rules_len, hnm]
            exact ⟨true, rfl, rfl⟩
          · simp (disch := omega) only [evA, argsV, argsOK, partsV, elemsV, optV, evOper, evOp, evAppend, IArg.eval, AS.putD, ↓reduceIte, Nat.reduceEqDiff, Option.isSome, Option.isNone, cond_true, cond_false, Nat.reduceBEq, Nat.reduceAdd, Nat.reduceMul, binInt, binStr, eq_self, reduceCtorEq, unAV, lenAV, convAV, sliceAV, bound, isCon, AS.spent, liveAddr, offAddr, elemsOf, Nat.reduceLeDiff, nilCmp, putAt, Int.reduceEq, Int.reduceLT, Int.reduceLE, Int.reduceBEq, Int.reduceBNe, Int.reduceAdd, Int.reduceNeg, Int.reduceSub, Int.reduceMul, ilt_t, ilt_f, ile_t, ile_f, ieq_t, ieq_f, ine_t, ine_f, stB, h0, h4, h6, h7, h8, h9', h10, toks_len, hg, encTok, storeAV, loadAV, loadCellsAV, takenAt, List.modify_succ_cons, List.modify_zero_cons, ints_len, rules_len, hnm]
            exact ⟨true, rfl, rfl⟩
      | what =>
        have h9' : T 9 = .str [119, 104, 97, 116] := h9
        have hn64 := hI.n64
        rw [cont_what] at hc
        have hh : callD A 31 [.slice (strs whatsS) false, .str t.text] H = some (.bool (isWhat t.text), none) := has_D whatsS t.text H (by decide)
        have hwd := whats_D H
        by_cases hok : isWhat t.text = true
        · by_cases hlt : out.length < 64
          · rw [if_pos ⟨by omega, hok⟩] at hc
            rw [hok] at hh
            simp (disch := omega) only [evA, argsV, argsOK, partsV, elemsV, optV, evOper, evOp, evAppend, IArg.eval, AS.putD, ↓reduceIte, Nat.reduceEqDiff, Option.isSome, Option.isNone, cond_true, cond_false, Nat.reduceBEq, Nat.reduceAdd, Nat.reduceMul, binInt, binStr, eq_self, reduceCtorEq, unAV, lenAV, convAV, sliceAV, bound, isCon, AS.spent, liveAddr, offAddr, elemsOf, Nat.reduceLeDiff, nilCmp, putAt, Int.reduceEq, Int.reduceLT, Int.reduceLE, Int.reduceBEq, Int.reduceBNe, Int.reduceAdd, Int.reduceNeg, Int.reduceSub, Int.reduceMul, ilt_t, ilt_f, ile_t, ile_f, ieq_t, ieq_f, ine_t, ine_f, stB, h0, h4, h6, h7, h8, h9', h10, toks_len, hg, encTok, storeAV, loadAV, loadCellsAV, takenAt, List.modify_succ_cons, List.modify_zero_cons, ints_len, rules_len, hh, hwd]
            exact ⟨h, .inn, out, t.text, [], 0, [], 0, ⟨by omega, rfl, rfl, rfl⟩, ⟨hc, by omega, by simp, by constructor <;> omega, WhoOK.nil, hI.ws, fun _ => ⟨rfl, rfl⟩, fun _ => rfl, hI.n64, fun _ => by omega⟩⟩
          · rw [if_neg (fun e => e.1 (by omega))] at hc
            rw [hok] at hh
            rw [hfin hc]
            simp (disch := omega) only [evA, argsV, argsOK, partsV, elemsV, optV, evOper, evOp, evAppend, IArg.eval, AS.putD, ↓reduceIte, Nat.reduceEqDiff, Option.isSome, Option.isNone, cond_true, cond_false, Nat.reduceBEq, Nat.reduceAdd, Nat.reduceMul, binInt, binStr, eq_self, reduceCtorEq, unAV, lenAV, convAV, sliceAV, bound, isCon, AS.spent, liveAddr, offAddr, elemsOf, Nat.reduceLeDiff, nilCmp, putAt, Int.reduceEq, Int.reduceLT, Int.reduceLE, Int.reduceBEq, Int.reduceBNe, Int.reduceAdd, Int.reduceNeg, Int.reduceSub, Int.reduceMul, ilt_t, ilt_f, ile_t, ile_f, ieq_t, ieq_f, ine_t, ine_f, stB, h0, h4, h6, h7, h8, h9', h10, toks_len, hg, encTok, storeAV, loadAV, loadCellsAV, takenAt, List.modify_succ_cons, List.modify_zero_cons, ints_len, rules_len, hh, hwd]
            exact ⟨true, rfl, rfl⟩
        · rw [if_neg (fun e => hok e.2)] at hc
          have hok' : isWhat t.text = false := by simpa using hok
          rw [hok'] at hh
          rw [hfin hc]
          simp (disch := omega) only [evA, argsV, argsOK, partsV, elemsV, optV, evOper, evOp, evAppend, IArg.eval, AS.putD, ↓reduceIte, Nat.reduceEqDiff, Option.isSome, Option.isNone, cond_true, cond_false, Nat.reduceBEq, Nat.reduceAdd, Nat.reduceMul, binInt, binStr, eq_self, reduceCtorEq, unAV, lenAV, convAV, sliceAV, bound, isCon, AS.spent, liveAddr, offAddr, elemsOf, Nat.reduceLeDiff, nilCmp, putAt, Int.reduceEq, Int.reduceLT, Int.reduceLE, Int.reduceBEq, Int.reduceBNe, Int.reduceAdd, Int.reduceNeg, Int.reduceSub, Int.reduceMul, ilt_t, ilt_f, ile_t, ile_f, ieq_t, ieq_f, ine_t, ine_f, stB, h0, h4, h6, h7, h8, h9', h10, toks_len, hg, encTok, storeAV, loadAV, loadCellsAV, takenAt, List.modify_succ_cons, List.modify_zero_cons, ints_len, rules_len, hh, hwd]
          exact ⟨true, rfl, rfl⟩
      | who =>
        have h9' : T 9 = .str [119, 104, 111] := h9
        have hn63 := hI.n63 (by simp)
        rw [cont_who] at hc
        have hnm := numberR_D t.text H (by omega)
        have hsn := fun a b => hI.ok.snoc (v := numOf t.text) a b
        have hl0 := hI.ok.r0
        have hni : numIs least 7 t.text = (decide (least ≤ numOf t.text) && decide (numOf t.text ≤ 7)) := rfl
        rw [hni] at hc
        generalize numOf t.text = v at hnm hc hsn hno
        have good : least ≤ v → v ≤ 7 → parseG [] L = Cont .more out w m n (who ++ [v]) (v + 1) (L.drop (i + 1)) := fun a b => by
          rw [if_pos (by simp [a, b])] at hc; exact hc
        have bad : ¬ (least ≤ v ∧ v ≤ 7) → parseG [] L = (none, t :: L.drop (i + 1)) := fun a => by
          rw [if_neg (by simpa using a)] at hc; exact hc
        clear hc hni
        rcases hI.ok.last with ⟨rfl, rfl⟩ | ⟨x, hxl, hne, rfl⟩
        · by_cases v0 : 0 ≤ v
          · by_cases v7 : v ≤ 7
            · have hc := good v0 v7
              simp (disch := omega) only [evA, argsV, argsOK, partsV, elemsV, optV, evOper, evOp, evAppend, IArg.eval, AS.putD, ↓reduceIte, Nat.reduceEqDiff, Option.isSome, Option.isNone, cond_true, cond_false, Nat.reduceBEq, Nat.reduceAdd, Nat.reduceMul, binInt, binStr, eq_self, reduceCtorEq, unAV, lenAV, convAV, sliceAV, bound, isCon, AS.spent, liveAddr, offAddr, elemsOf, Nat.reduceLeDiff, nilCmp, putAt, Int.reduceEq, Int.reduceLT, Int.reduceLE, Int.reduceBEq, Int.reduceBNe, Int.reduceAdd, Int.reduceNeg, Int.reduceSub, Int.reduceMul, ilt_t, ilt_f, ile_t, ile_f, ieq_t, ieq_f, ine_t, ine_f, stB, h0, h4, h6, h7, h8, h9', h10, toks_len, hg, encTok, storeAV, loadAV, loadCellsAV, takenAt, List.modify_succ_cons, List.modify_zero_cons, ints_len, rules_len, hnm]
              exact ⟨h, .more, out, w, m, n, [v], v + 1, ⟨by omega, rfl, rfl, rfl⟩, ⟨hc, by omega, by simp, hI.hn, hsn v0 v7, hI.ws, (fun e => by cases e), (fun e => by cases e), hI.n64, fun _ => hn63⟩⟩
            · have hc := bad (fun e => v7 e.2)
              rw [hfin hc]
              simp (disch := omega) only [evA, argsV, argsOK, partsV, elemsV, optV, evOper, evOp, evAppend, IArg.eval, AS.putD, ↓reduceIte, Nat.reduceEqDiff, Option.isSome, Option.isNone, cond_true, cond_false, Nat.reduceBEq, Nat.reduceAdd, Nat.reduceMul, binInt, binStr, eq_self, reduceCtorEq, unAV, lenAV, convAV, sliceAV, bound, isCon, AS.spent, liveAddr, offAddr, elemsOf, Nat.reduceLeDiff, nilCmp, putAt, Int.reduceEq, Int.reduceLT, Int.reduceLE, Int.reduceBEq, Int.reduceBNe, Int.reduceAdd, Int.reduceNeg, Int.reduceSub, Int.reduceMul, ilt_t, ilt_f, ile_t, ile_f, ieq_t, ieq_f, ine_t, ine_f, stB, h0, h4, h6, h7, h8, h9', h10, toks_len, hg, encTok, storeAV, loadAV, loadCellsAV, takenAt, List.modify_succ_cons, List.modify_zero_cons, ints_len, rules_len, hnm]
              exact ⟨true, rfl, rfl⟩
          · have hc := bad (fun e => v0 e.1)
            rw [hfin hc]
            simp (disch := omega) only [evA, argsV, argsOK, partsV, elemsV, optV, evOper, evOp, evAppend, IArg.eval, AS.putD, ↓reduceIte, Nat.reduceEqDiff, Option.isSome, Option.isNone, cond_true, cond_false, Nat.reduceBEq, Nat.reduceAdd, Nat.reduceMul, binInt, binStr, eq_self, reduceCtorEq, unAV, lenAV, convAV, sliceAV, bound, isCon, AS.spent, liveAddr, offAddr, elemsOf, Nat.reduceLeDiff, nilCmp, putAt, Int.reduceEq, Int.reduceLT, Int.reduceLE, Int.reduceBEq, Int.reduceBNe, Int.reduceAdd, Int.reduceNeg, Int.reduceSub, Int.reduceMul, ilt_t, ilt_f, ile_t, ile_f, ieq_t, ieq_f, ine_t, ine_f, stB, h0, h4, h6, h7, h8, h9', h10, toks_len, hg, encTok, storeAV, loadAV, loadCellsAV, takenAt, List.modify_succ_cons, List.modify_zero_cons, ints_len, rules_len, hnm]
            exact ⟨true, rfl, rfl⟩
        · have hxi := ints_at hxl
          have hwp : 0 < who.length := List.length_pos_iff.2 hne
          have hsub : (who.length : Int) - 1 = ((who.length - 1 : Nat) : Int) := by omega
          have hz : ((who.length : Int) == 0) = false := by simp; omega
          have hx64 := hI.ok.all x (List.mem_of_getElem? hxl)
          generalize who.length - 1 = p at hxi hsub
          by_cases v0 : 0 ≤ v
          · by_cases v7 : v ≤ 7
            · by_cases vx : x < v
              · have hc := good (by omega) v7
                simp (disch := omega) only [evA, argsV, argsOK, partsV, elemsV, optV, evOper, evOp, evAppend, IArg.eval, AS.putD, ↓reduceIte, Nat.reduceEqDiff, Option.isSome, Option.isNone, cond_true, cond_false, Nat.reduceBEq, Nat.reduceAdd, Nat.reduceMul, binInt, binStr, eq_self, reduceCtorEq, unAV, lenAV, convAV, sliceAV, bound, isCon, AS.spent, liveAddr, offAddr, elemsOf, Nat.reduceLeDiff, nilCmp, putAt, Int.reduceEq, Int.reduceLT, Int.reduceLE, Int.reduceBEq, Int.reduceBNe, Int.reduceAdd, Int.reduceNeg, Int.reduceSub, Int.reduceMul, ilt_t, ilt_f, ile_t, ile_f, ieq_t, ieq_f, ine_t, ine_f, stB, h0, h4, h6, h7, h8, h9', h10, toks_len, hg, encTok, storeAV, loadAV, loadCellsAV, takenAt, List.modify_succ_cons, List.modify_zero_cons, ints_len, rules_len, hnm, hxi, hsub, hz]
                exact ⟨h, .more, out, w, m, n, who ++ [v], v + 1, ⟨by omega, rfl, rfl, rfl⟩, ⟨hc, by omega, by simp; omega, hI.hn, hsn (by omega) v7, hI.ws, (fun e => by cases e), (fun e => by cases e), hI.n64, fun _ => hn63⟩⟩
              · have hc := bad (fun e => by omega)
                rw [hfin hc]
                simp (disch := omega) only [evA, argsV, argsOK, partsV, elemsV, optV, evOper, evOp, evAppend, IArg.eval, AS.putD, ↓reduceIte, Nat.reduceEqDiff, Option.isSome, Option.isNone, cond_true, cond_false, Nat.reduceBEq, Nat.reduceAdd, Nat.reduceMul, binInt, binStr, eq_self, reduceCtorEq, unAV, lenAV, convAV, sliceAV, bound, isCon, AS.spent, liveAddr, offAddr, elemsOf, Nat.reduceLeDiff, nilCmp, putAt, Int.reduceEq, Int.reduceLT, Int.reduceLE, Int.reduceBEq, Int.reduceBNe, Int.reduceAdd, Int.reduceNeg, Int.reduceSub, Int.reduceMul, ilt_t, ilt_f, ile_t, ile_f, ieq_t, ieq_f, ine_t, ine_f, stB, h0, h4, h6, h7, h8, h9', h10, toks_len, hg, encTok, storeAV, loadAV, loadCellsAV, takenAt, List.modify_succ_cons, List.modify_zero_cons, ints_len, rules_len, hnm, hxi, hsub, hz]
                exact ⟨true, rfl, rfl⟩
            · have hc := bad (fun e => v7 e.2)
              rw [hfin hc]
              simp (disch := omega) only [evA, argsV, argsOK, partsV, elemsV, optV, evOper, evOp, evAppend, IArg.eval, AS.putD, ↓reduceIte, Nat.reduceEqDiff, Option.isSome, Option.isNone, cond_true, cond_false, Nat.reduceBEq, Nat.reduceAdd, Nat.reduceMul, binInt, binStr, eq_self, reduceCtorEq, unAV, lenAV, convAV, sliceAV, bound, isCon, AS.spent, liveAddr, offAddr, elemsOf, Nat.reduceLeDiff, nilCmp, putAt, Int.reduceEq, Int.reduceLT, Int.reduceLE, Int.reduceBEq, Int.reduceBNe, Int.reduceAdd, Int.reduceNeg, Int.reduceSub, Int.reduceMul, ilt_t, ilt_f, ile_t, ile_f, ieq_t, ieq_f, ine_t, ine_f, stB, h0, h4, h6, h7, h8, h9', h10, toks_len, hg, encTok, storeAV, loadAV, loadCellsAV, takenAt, List.modify_succ_cons, List.modify_zero_cons, ints_len, rules_len, hnm, hxi, hsub, hz]
              exact ⟨true, rfl, rfl⟩
          · have hc := bad (fun e => by omega)
            rw [hfin hc]
            simp (disch := omega) only [evA, argsV, argsOK, partsV, elemsV, optV, evOper, evOp, evAppend, IArg.eval, AS.putD, ↓reduceIte, Nat.reduceEqDiff, Option.isSome, Option.isNone, cond_true, cond_false, Nat.reduceBEq, Nat.reduceAdd, Nat.reduceMul, binInt, binStr, eq_self, reduceCtorEq, unAV, lenAV, convAV, sliceAV, bound, isCon, AS.spent, liveAddr, offAddr, elemsOf, Nat.reduceLeDiff, nilCmp, putAt, Int.reduceEq, Int.reduceLT, Int.reduceLE, Int.reduceBEq, Int.reduceBNe, Int.reduceAdd, Int.reduceNeg, Int.reduceSub, Int.reduceMul, ilt_t, ilt_f, ile_t, ile_f, ieq_t, ieq_f, ine_t, ine_f, stB, h0, h4, h6, h7, h8, h9', h10, toks_len, hg, encTok, storeAV, loadAV, loadCellsAV, takenAt, List.modify_succ_cons, List.modify_zero_cons, ints_len, rules_len, hnm, hxi, hsub, hz]
            exact ⟨true, rfl, rfl⟩
      | more =>
        have h9' : T 9 = .str [109, 111, 114, 101] := h9
        have hn63 := hI.n63 (by simp)
        rw [cont_more] at hc
        by_cases hcm : t.text = [44]
        · have q : (t.text == [44]) = true := by simp [hcm]
          rw [if_neg (fun e => e.2 hcm), if_pos hcm] at hc
          simp (disch := omega) only [evA, argsV, argsOK, partsV, elemsV, optV, evOper, evOp, evAppend, IArg.eval, AS.putD, ↓reduceIte, Nat.reduceEqDiff, Option.isSome, Option.isNone, cond_true, cond_false, Nat.reduceBEq, Nat.reduceAdd, Nat.reduceMul, binInt, binStr, eq_self, reduceCtorEq, unAV, lenAV, convAV, sliceAV, bound, isCon, AS.spent, liveAddr, offAddr, elemsOf, Nat.reduceLeDiff, nilCmp, putAt, Int.reduceEq, Int.reduceLT, Int.reduceLE, Int.reduceBEq, Int.reduceBNe, Int.reduceAdd, Int.reduceNeg, Int.reduceSub, Int.reduceMul, ilt_t, ilt_f, ile_t, ile_f, ieq_t, ieq_f, ine_t, ine_f, stB, h0, h4, h6, h7, h8, h9', h10, toks_len, hg, encTok, storeAV, loadAV, loadCellsAV, takenAt, List.modify_succ_cons, List.modify_zero_cons, ints_len, rules_len, q, bne]
          exact ⟨h, .who, out, w, m, n, who, least, ⟨by omega, rfl, rfl, rfl⟩, ⟨hc, by omega, by omega, hI.hn, hI.ok, hI.ws, (fun e => by cases e), (fun e => by cases e), hI.n64, fun _ => hn63⟩⟩
        · have q : (t.text == [44]) = false := by simpa using hcm
          by_cases hnl : n ≤ (who.length : Int)
          · rw [if_pos ⟨hnl, hcm⟩, cont_what] at hc
            have hol : (out ++ [(⟨w, m, n, who⟩ : Rule)]).length = out.length + 1 := by simp
            rw [hol] at hc
            have hh : callD A 31 [.slice (strs whatsS) false, .str t.text] H = some (.bool (isWhat t.text), none) := has_D whatsS t.text H (by decide)
            have hwd := whats_D H
            have hws : ∀ r ∈ out ++ [(⟨w, m, n, who⟩ : Rule)], r.who.length ≤ 8192 := fun r hr => by
              rcases List.mem_append.1 hr with hr | hr
              · exact hI.ws r hr
              · rw [List.mem_singleton.1 hr]; simp only; omega
            by_cases hok : isWhat t.text = true
            · by_cases hlt : out.length + 1 < 64
              · rw [if_pos ⟨by omega, hok⟩] at hc
                rw [hok] at hh
                simp (disch := omega) only [evA, argsV, argsOK, partsV, elemsV, optV, evOper, evOp, evAppend, IArg.eval, AS.putD, ↓reduceIte, Nat.reduceEqDiff, Option.isSome, Option.isNone, cond_true, cond_false, Nat.reduceBEq, Nat.reduceAdd, Nat.reduceMul, binInt, binStr, eq_self, reduceCtorEq, unAV, lenAV, convAV, sliceAV, bound, isCon, AS.spent, liveAddr, offAddr, elemsOf, Nat.reduceLeDiff, nilCmp, putAt, Int.reduceEq, Int.reduceLT, Int.reduceLE, Int.reduceBEq, Int.reduceBNe, Int.reduceAdd, Int.reduceNeg, Int.reduceSub, Int.reduceMul, ilt_t, ilt_f, ile_t, ile_f, ieq_t, ieq_f, ine_t, ine_f, stB, h0, h4, h6, h7, h8, h9', h10, toks_len, hg, encTok, storeAV, loadAV, loadCellsAV, takenAt, List.modify_succ_cons, List.modify_zero_cons, ints_len, rules_len, q, bne, hh, hwd, app_rule, hol]
                exact ⟨h, .inn, out ++ [⟨w, m, n, who⟩], t.text, [], 0, [], 0, ⟨by omega, rfl, rfl, rfl⟩, ⟨hc, by rw [hol]; omega, by simp, by constructor <;> omega, WhoOK.nil, hws, fun _ => ⟨rfl, rfl⟩, fun _ => rfl, by rw [hol]; omega, fun _ => by rw [hol]; omega⟩⟩
              · rw [if_neg (fun e => e.1 (by omega))] at hc
                rw [hok] at hh
                rw [hfin hc]
                simp (disch := omega) only [evA, argsV, argsOK, partsV, elemsV, optV, evOper, evOp, evAppend, IArg.eval, AS.putD, ↓reduceIte, Nat.reduceEqDiff, Option.isSome, Option.isNone, cond_true, cond_false, Nat.reduceBEq, Nat.reduceAdd, Nat.reduceMul, binInt, binStr, eq_self, reduceCtorEq, unAV, lenAV, convAV, sliceAV, bound, isCon, AS.spent, liveAddr, offAddr, elemsOf, Nat.reduceLeDiff, nilCmp, putAt, Int.reduceEq, Int.reduceLT, Int.reduceLE, Int.reduceBEq, Int.reduceBNe, Int.reduceAdd, Int.reduceNeg, Int.reduceSub, Int.reduceMul, ilt_t, ilt_f, ile_t, ile_f, ieq_t, ieq_f, ine_t, ine_f, stB, h0, h4, h6, h7, h8, h9', h10, toks_len, hg, encTok, storeAV, loadAV, loadCellsAV, takenAt, List.modify_succ_cons, List.modify_zero_cons, ints_len, rules_len, q, bne, hh, hwd, app_rule, hol]
                exact ⟨true, rfl, rfl⟩
            · rw [if_neg (fun e => hok e.2)] at hc
              have hok' : isWhat t.text = false := by simpa using hok
              rw [hok'] at hh
              rw [hfin hc]
              simp (disch := omega) only [evA, argsV, argsOK, partsV, elemsV, optV, evOper, evOp, evAppend, IArg.eval, AS.putD, ↓reduceIte, Nat.reduceEqDiff, Option.isSome, Option.isNone, cond_true, cond_false, Nat.reduceBEq, Nat.reduceAdd, Nat.reduceMul, binInt, binStr, eq_self, reduceCtorEq, unAV, lenAV, convAV, sliceAV, bound, isCon, AS.spent, liveAddr, offAddr, elemsOf, Nat.reduceLeDiff, nilCmp, putAt, Int.reduceEq, Int.reduceLT, Int.reduceLE, Int.reduceBEq, Int.reduceBNe, Int.reduceAdd, Int.reduceNeg, Int.reduceSub, Int.reduceMul, ilt_t, ilt_f, ile_t, ile_f, ieq_t, ieq_f, ine_t, ine_f, stB, h0, h4, h6, h7, h8, h9', h10, toks_len, hg, encTok, storeAV, loadAV, loadCellsAV, takenAt, List.modify_succ_cons, List.modify_zero_cons, ints_len, rules_len, q, bne, hh, hwd, app_rule, hol]
              exact ⟨true, rfl, rfl⟩
          · rw [if_neg (fun e => hnl e.1), if_neg hcm] at hc
            rw [hfin hc]
            simp (disch := omega) only [evA, argsV, argsOK, partsV, elemsV, optV, evOper, evOp, evAppend, IArg.eval, AS.putD, ↓reduceIte, Nat.reduceEqDiff, Option.isSome, Option.isNone, cond_true, cond_false, Nat.reduceBEq, Nat.reduceAdd, Nat.reduceMul, binInt, binStr, eq_self, reduceCtorEq, unAV, lenAV, convAV, sliceAV, bound, isCon, AS.spent, liveAddr, offAddr, elemsOf, Nat.reduceLeDiff, nilCmp, putAt, Int.reduceEq, Int.reduceLT, Int.reduceLE, Int.reduceBEq, Int.reduceBNe, Int.reduceAdd, Int.reduceNeg, Int.reduceSub, Int.reduceMul, ilt_t, ilt_f, ile_t, ile_f, ieq_t, ieq_f, ine_t, ine_f, stB, h0, h4, h6, h7, h8, h9', h10, toks_len, hg, encTok, storeAV, loadAV, loadCellsAV, takenAt, List.modify_succ_cons, List.modify_zero_cons, ints_len, rules_len, q, bne]
            exact ⟨true, rfl, rfl⟩
    · have : i = L.length := by omega
      subst this
      simp (disch := omega) only [evA, argsV, argsOK, partsV, elemsV, optV, evOper, evOp, evAppend, IArg.eval, AS.putD, ↓reduceIte, Nat.reduceEqDiff, Option.isSome, Option.isNone, cond_true, cond_false, Nat.reduceBEq, Nat.reduceAdd, Nat.reduceMul, binInt, binStr, eq_self, reduceCtorEq, unAV, lenAV, convAV, sliceAV, bound, isCon, AS.spent, liveAddr, offAddr, elemsOf, Nat.reduceLeDiff, nilCmp, putAt, Int.reduceEq, Int.reduceLT, Int.reduceLE, Int.reduceBEq, Int.reduceBNe, Int.reduceAdd, Int.reduceNeg, Int.reduceSub, Int.reduceMul, ilt_t, ilt_f, ile_t, ile_f, ieq_t, ieq_f, ine_t, ine_f, h0, h4, h6, h7, h8, h9, h10, toks_len]
      exact ⟨S, out, w, m, n, who, least, ⟨rfl, rfl, rfl⟩, hI⟩
  · rintro st ⟨S, out, w, m, n, who, least, hst, hI⟩
    obtain ⟨T, g, rfl, h0, h7, h8, h9⟩ := hst.out
    exact hx T g S out w m n who least hI h0 h7 h8 h9
  · rintro st hst
    obtain ⟨T, g, rfl, o, h2, h3⟩ := hst.out
    exact hv T g o h2 h3
  · simp (disch := omega) only [evA, argsV, argsOK, partsV, elemsV, optV, evOper, evOp, evAppend, IArg.eval, AS.putD, ↓reduceIte, Nat.reduceEqDiff, Option.isSome, Option.isNone, cond_true, cond_false, Nat.reduceBEq, Nat.reduceAdd, Nat.reduceMul, binInt, binStr, eq_self, reduceCtorEq, unAV, lenAV, convAV, sliceAV, bound, isCon, AS.spent, liveAddr, offAddr, elemsOf, Nat.reduceLeDiff, nilCmp, putAt, Int.reduceEq, Int.reduceLT, Int.reduceLE, Int.reduceBEq, Int.reduceBNe, Int.reduceAdd, Int.reduceNeg, Int.reduceSub, Int.reduceMul, h0, h4, h6, h7, h8, h9, h10, Int.natCast_zero, List.take_zero, offs_nil]
    exact ⟨.what, [], [], [], 0, [], 0, ⟨rfl, rfl, rfl⟩, ⟨rfl, by simp, by simp, by constructor <;> omega, WhoOK.nil, fun r h => by simp at h, (fun e => by cases e), (fun e => by cases e), by simp, fun e => absurd rfl e⟩⟩

end Go.Proofs.YtgdcfgpddgedkaaDoor

/-! Equations of functions, 22: the reference's Parse. -/
namespace Go.Proofs.YtgdcfgpddgedkaaDoor
open Go Go.Abs Go.Proofs

set_option maxRecDepth 100000 in
set_option maxHeartbeats 4000000 in
theorem parseR_D (s : Str) (H : AHeap) (hs : s.length ≤ 4611686018427387904) : callD A 15 [.str s] H = some (.tuple [.slice (encRules (parseS s).1) false, .int .i64 (parseS s).2], none) := by
  refine callD_W (fn := ir15) rfl rfl rfl ?_
  unfold ir15
  have hsc := scanR_D s H hs
  have hTL := scanS_TL s
  by_cases hat : (scanS s).2.2 = -1
  · have hp : parseS s = finS s (scanS s).1 (parseG [] (scanS s).1) := by
      unfold parseS
      rw [if_neg (by simpa using hat)]
    rw [hp]
    rw [hat] at hsc
    generalize (scanS s).1 = L at hsc hTL
    generalize (scanS s).2.1 = bl at hsc
    simp (disch := omega) only [evA, argsV, argsOK, partsV, elemsV, optV, evOper, evOp, evAppend, IArg.eval, AS.putD, ↓reduceIte, Nat.reduceEqDiff, Option.isSome, Option.isNone, cond_true, cond_false, Nat.reduceBEq, Nat.reduceAdd, Nat.reduceMul, binInt, binStr, eq_self, reduceCtorEq, unAV, lenAV, convAV, sliceAV, bound, isCon, AS.spent, liveAddr, offAddr, elemsOf, Nat.reduceLeDiff, nilCmp, putAt, Int.reduceEq, Int.reduceLT, Int.reduceLE, Int.reduceBEq, Int.reduceBNe, Int.reduceAdd, Int.reduceNeg, Int.reduceSub, Int.reduceMul, ilt_t, ilt_f, ile_t, ile_f, ieq_t, ieq_f, ine_t, ine_f, hsc, storeAV]
    refine parseR_loop H L hTL s _ _ 0 _ _ ?_ ?_ ?_ ?_ ?_ ?_ ?_ ?_ ?_
    case refine_8 =>
      intro T g S out w m n who least hI h0 h7 h8 h9
      have hc := hI.cont
      rw [List.drop_length, cont_nil] at hc
      have ho := hI.hout
      have hw := hI.hwho
      have hll := hTL.len
      have bad : parseG [] L = (none, []) → finS s L (parseG [] L) = ([], (s.length : Int)) := fun e => by rw [e]; rfl
      cases S with
      | what =>
        have h9' : T 9 = .str [119, 104, 97, 116] := h9
        have e : finS s L (parseG [] L) = (out, -1) := by rw [hc]; rfl
        rw [e]
        simp (disch := omega) only [evA, argsV, argsOK, partsV, elemsV, optV, evOper, evOp, evAppend, IArg.eval, AS.putD, ↓reduceIte, Nat.reduceEqDiff, Option.isSome, Option.isNone, cond_true, cond_false, Nat.reduceBEq, Nat.reduceAdd, Nat.reduceMul, binInt, binStr, eq_self, reduceCtorEq, unAV, lenAV, convAV, sliceAV, bound, isCon, AS.spent, liveAddr, offAddr, elemsOf, Nat.reduceLeDiff, nilCmp, putAt, Int.reduceEq, Int.reduceLT, Int.reduceLE, Int.reduceBEq, Int.reduceBNe, Int.reduceAdd, Int.reduceNeg, Int.reduceSub, Int.reduceMul, ilt_t, ilt_f, ile_t, ile_f, ieq_t, ieq_f, ine_t, ine_f, stB, h0, h7, h8, h9']
      | more =>
        have h9' : T 9 = .str [109, 111, 114, 101] := h9
        by_cases hn : n ≤ (who.length : Int)
        · have e : finS s L (parseG [] L) = (out ++ [⟨w, m, n, who⟩], -1) := by rw [hc]; simp only; rw [if_pos hn]; rfl
          rw [e]
          simp (disch := omega) only [evA, argsV, argsOK, partsV, elemsV, optV, evOper, evOp, evAppend, IArg.eval, AS.putD, ↓reduceIte, Nat.reduceEqDiff, Option.isSome, Option.isNone, cond_true, cond_false, Nat.reduceBEq, Nat.reduceAdd, Nat.reduceMul, binInt, binStr, eq_self, reduceCtorEq, unAV, lenAV, convAV, sliceAV, bound, isCon, AS.spent, liveAddr, offAddr, elemsOf, Nat.reduceLeDiff, nilCmp, putAt, Int.reduceEq, Int.reduceLT, Int.reduceLE, Int.reduceBEq, Int.reduceBNe, Int.reduceAdd, Int.reduceNeg, Int.reduceSub, Int.reduceMul, ilt_t, ilt_f, ile_t, ile_f, ieq_t, ieq_f, ine_t, ine_f, stB, h0, h7, h8, h9', loadAV, loadCellsAV, takenAt, List.modify_succ_cons, List.modify_zero_cons, ints_len, app_rule]
        · have e := bad (by rw [hc]; simp only; rw [if_neg hn])
          rw [e]
          simp (disch := omega) only [evA, argsV, argsOK, partsV, elemsV, optV, evOper, evOp, evAppend, IArg.eval, AS.putD, ↓reduceIte, Nat.reduceEqDiff, Option.isSome, Option.isNone, cond_true, cond_false, Nat.reduceBEq, Nat.reduceAdd, Nat.reduceMul, binInt, binStr, eq_self, reduceCtorEq, unAV, lenAV, convAV, sliceAV, bound, isCon, AS.spent, liveAddr, offAddr, elemsOf, Nat.reduceLeDiff, nilCmp, putAt, Int.reduceEq, Int.reduceLT, Int.reduceLE, Int.reduceBEq, Int.reduceBNe, Int.reduceAdd, Int.reduceNeg, Int.reduceSub, Int.reduceMul, ilt_t, ilt_f, ile_t, ile_f, ieq_t, ieq_f, ine_t, ine_f, stB, h0, h7, h8, h9', loadAV, loadCellsAV, takenAt, List.modify_succ_cons, List.modify_zero_cons, ints_len]
          rfl
      | inn =>
        have h9' : T 9 = .str [105, 110] := h9
        rw [bad hc]
        simp (disch := omega) only [evA, argsV, argsOK, partsV, elemsV, optV, evOper, evOp, evAppend, IArg.eval, AS.putD, ↓reduceIte, Nat.reduceEqDiff, Option.isSome, Option.isNone, cond_true, cond_false, Nat.reduceBEq, Nat.reduceAdd, Nat.reduceMul, binInt, binStr, eq_self, reduceCtorEq, unAV, lenAV, convAV, sliceAV, bound, isCon, AS.spent, liveAddr, offAddr, elemsOf, Nat.reduceLeDiff, nilCmp, putAt, Int.reduceEq, Int.reduceLT, Int.reduceLE, Int.reduceBEq, Int.reduceBNe, Int.reduceAdd, Int.reduceNeg, Int.reduceSub, Int.reduceMul, ilt_t, ilt_f, ile_t, ile_f, ieq_t, ieq_f, ine_t, ine_f, stB, h0, h7, h8, h9']
        rfl
      | name =>
        have h9' : T 9 = .str [110, 97, 109, 101] := h9
        rw [bad hc]
        simp (disch := omega) only [evA, argsV, argsOK, partsV, elemsV, optV, evOper, evOp, evAppend, IArg.eval, AS.putD, ↓reduceIte, Nat.reduceEqDiff, Option.isSome, Option.isNone, cond_true, cond_false, Nat.reduceBEq, Nat.reduceAdd, Nat.reduceMul, binInt, binStr, eq_self, reduceCtorEq, unAV, lenAV, convAV, sliceAV, bound, isCon, AS.spent, liveAddr, offAddr, elemsOf, Nat.reduceLeDiff, nilCmp, putAt, Int.reduceEq, Int.reduceLT, Int.reduceLE, Int.reduceBEq, Int.reduceBNe, Int.reduceAdd, Int.reduceNeg, Int.reduceSub, Int.reduceMul, ilt_t, ilt_f, ile_t, ile_f, ieq_t, ieq_f, ine_t, ine_f, stB, h0, h7, h8, h9']
        rfl
      | colon =>
        have h9' : T 9 = .str [99, 111, 108, 111, 110] := h9
        rw [bad hc]
        simp (disch := omega) only [evA, argsV, argsOK, partsV, elemsV, optV, evOper, evOp, evAppend, IArg.eval, AS.putD, ↓reduceIte, Nat.reduceEqDiff, Option.isSome, Option.isNone, cond_true, cond_false, Nat.reduceBEq, Nat.reduceAdd, Nat.reduceMul, binInt, binStr, eq_self, reduceCtorEq, unAV, lenAV, convAV, sliceAV, bound, isCon, AS.spent, liveAddr, offAddr, elemsOf, Nat.reduceLeDiff, nilCmp, putAt, Int.reduceEq, Int.reduceLT, Int.reduceLE, Int.reduceBEq, Int.reduceBNe, Int.reduceAdd, Int.reduceNeg, Int.reduceSub, Int.reduceMul, ilt_t, ilt_f, ile_t, ile_f, ieq_t, ieq_f, ine_t, ine_f, stB, h0, h7, h8, h9']
        rfl
      | count =>
        have h9' : T 9 = .str [99, 111, 117, 110, 116] := h9
        rw [bad hc]
        simp (disch := omega) only [evA, argsV, argsOK, partsV, elemsV, optV, evOper, evOp, evAppend, IArg.eval, AS.putD, ↓reduceIte, Nat.reduceEqDiff, Option.isSome, Option.isNone, cond_true, cond_false, Nat.reduceBEq, Nat.reduceAdd, Nat.reduceMul, binInt, binStr, eq_self, reduceCtorEq, unAV, lenAV, convAV, sliceAV, bound, isCon, AS.spent, liveAddr, offAddr, elemsOf, Nat.reduceLeDiff, nilCmp, putAt, Int.reduceEq, Int.reduceLT, Int.reduceLE, Int.reduceBEq, Int.reduceBNe, Int.reduceAdd, Int.reduceNeg, Int.reduceSub, Int.reduceMul, ilt_t, ilt_f, ile_t, ile_f, ieq_t, ieq_f, ine_t, ine_f, stB, h0, h7, h8, h9']
        rfl
      | off =>
        have h9' : T 9 = .str [111, 102] := h9
        rw [bad hc]
        simp (disch := omega) only [evA, argsV, argsOK, partsV, elemsV, optV, evOper, evOp, evAppend, IArg.eval, AS.putD, ↓reduceIte, Nat.reduceEqDiff, Option.isSome, Option.isNone, cond_true, cond_false, Nat.reduceBEq, Nat.reduceAdd, Nat.reduceMul, binInt, binStr, eq_self, reduceCtorEq, unAV, lenAV, convAV, sliceAV, bound, isCon, AS.spent, liveAddr, offAddr, elemsOf, Nat.reduceLeDiff, nilCmp, putAt, Int.reduceEq, Int.reduceLT, Int.reduceLE, Int.reduceBEq, Int.reduceBNe, Int.reduceAdd, Int.reduceNeg, Int.reduceSub, Int.reduceMul, ilt_t, ilt_f, ile_t, ile_f, ieq_t, ieq_f, ine_t, ine_f, stB, h0, h7, h8, h9']
        rfl
      | who =>
        have h9' : T 9 = .str [119, 104, 111] := h9
        rw [bad hc]
        simp (disch := omega) only [evA, argsV, argsOK, partsV, elemsV, optV, evOper, evOp, evAppend, IArg.eval, AS.putD, ↓reduceIte, Nat.reduceEqDiff, Option.isSome, Option.isNone, cond_true, cond_false, Nat.reduceBEq, Nat.reduceAdd, Nat.reduceMul, binInt, binStr, eq_self, reduceCtorEq, unAV, lenAV, convAV, sliceAV, bound, isCon, AS.spent, liveAddr, offAddr, elemsOf, Nat.reduceLeDiff, nilCmp, putAt, Int.reduceEq, Int.reduceLT, Int.reduceLE, Int.reduceBEq, Int.reduceBNe, Int.reduceAdd, Int.reduceNeg, Int.reduceSub, Int.reduceMul, ilt_t, ilt_f, ile_t, ile_f, ieq_t, ieq_f, ine_t, ine_f, stB, h0, h7, h8, h9']
        rfl
    case refine_9 =>
      intro T g o h2 h3
      simp (disch := omega) only [evA, argsV, argsOK, partsV, elemsV, optV, evOper, evOp, evAppend, IArg.eval, AS.putD, ↓reduceIte, Nat.reduceEqDiff, Option.isSome, Option.isNone, cond_true, cond_false, Nat.reduceBEq, Nat.reduceAdd, Nat.reduceMul, binInt, binStr, eq_self, reduceCtorEq, unAV, lenAV, convAV, sliceAV, bound, isCon, AS.spent, liveAddr, offAddr, elemsOf, Nat.reduceLeDiff, nilCmp, putAt, Int.reduceEq, Int.reduceLT, Int.reduceLE, Int.reduceBEq, Int.reduceBNe, Int.reduceAdd, Int.reduceNeg, Int.reduceSub, Int.reduceMul, ilt_t, ilt_f, ile_t, ile_f, ieq_t, ieq_f, ine_t, ine_f, h2, h3]
    all_goals first | (simp (disch := omega) only [evA, argsV, argsOK, partsV, elemsV, optV, evOper, evOp, evAppend, IArg.eval, AS.putD, ↓reduceIte, Nat.reduceEqDiff, Option.isSome, Option.isNone, cond_true, cond_false, Nat.reduceBEq, Nat.reduceAdd, Nat.reduceMul, binInt, binStr, eq_self, reduceCtorEq, unAV, lenAV, convAV, sliceAV, bound, isCon, AS.spent, liveAddr, offAddr, elemsOf, Nat.reduceLeDiff, nilCmp, putAt, Int.reduceEq, Int.reduceLT, Int.reduceLE, Int.reduceBEq, Int.reduceBNe, Int.reduceAdd, Int.reduceNeg, Int.reduceSub, Int.reduceMul]; done) | (simp (disch := omega) only [evA, argsV, argsOK, partsV, elemsV, optV, evOper, evOp, evAppend, IArg.eval, AS.putD, ↓reduceIte, Nat.reduceEqDiff, Option.isSome, Option.isNone, cond_true, cond_false, Nat.reduceBEq, Nat.reduceAdd, Nat.reduceMul, binInt, binStr, eq_self, reduceCtorEq, unAV, lenAV, convAV, sliceAV, bound, isCon, AS.spent, liveAddr, offAddr, elemsOf, Nat.reduceLeDiff, nilCmp, putAt, Int.reduceEq, Int.reduceLT, Int.reduceLE, Int.reduceBEq, Int.reduceBNe, Int.reduceAdd, Int.reduceNeg, Int.reduceSub, Int.reduceMul]; rfl)
  · have hp : parseS s = ([], (scanS s).2.2) := by
      unfold parseS
      rw [if_pos (by simpa using hat)]
    rw [hp]
    have hr := scanS_at s
    generalize (scanS s).2.2 = at' at hsc hat hr
    simp (disch := omega) only [evA, argsV, argsOK, partsV, elemsV, optV, evOper, evOp, evAppend, IArg.eval, AS.putD, ↓reduceIte, Nat.reduceEqDiff, Option.isSome, Option.isNone, cond_true, cond_false, Nat.reduceBEq, Nat.reduceAdd, Nat.reduceMul, binInt, binStr, eq_self, reduceCtorEq, unAV, lenAV, convAV, sliceAV, bound, isCon, AS.spent, liveAddr, offAddr, elemsOf, Nat.reduceLeDiff, nilCmp, putAt, Int.reduceEq, Int.reduceLT, Int.reduceLE, Int.reduceBEq, Int.reduceBNe, Int.reduceAdd, Int.reduceNeg, Int.reduceSub, Int.reduceMul, ilt_t, ilt_f, ile_t, ile_f, ieq_t, ieq_f, ine_t, ine_f, hsc]
    rfl

end Go.Proofs.YtgdcfgpddgedkaaDoor

/-! Bounds of what is parsed and printed. -/
namespace Go.Proofs.YtgdcfgpddgedkaaDoor
open Go Go.Abs Go.Proofs

theorem expect_ok {p : Str → Bool} {l : List Tok} {k : Str → List Tok → Res} {x : Rule} {l' : List Tok} (h : expect p l k = .ok x l') : ∃ c l1, l1.length < l.length ∧ k c l1 = .ok x l' := by
  cases l with
  | nil => cases h
  | cons t l =>
    simp only [expect] at h
    split at h
    · exact ⟨_, _, by simp, h⟩
    · cases h

theorem whosL_who {w m : Str} {n : Int} {x : Rule} {l' : List Tok} : ∀ (k : Nat) (who : List Int) (least : Int) (l : List Tok), l.length ≤ k → whosL w m n who least l = .ok x l' → x.who.length ≤ who.length + l.length := by
  intro k
  induction k with
  | zero =>
    intro who least l hl h
    have : l = [] := List.eq_nil_of_length_eq_zero (by omega)
    subst this
    rw [whosL_eq] at h; cases h
  | succ k ih =>
    intro who least l hl h
    rw [whosL_eq] at h
    obtain ⟨c, l1, h1, h2⟩ := expect_ok h
    simp only [whosK] at h2
    split at h2
    · injection h2 with h2 _
      subst h2
      simp only [List.length_append, List.length_cons, List.length_nil]
      omega
    · obtain ⟨c2, l2, h3, h4⟩ := expect_ok h2
      have := ih _ _ l2 (by omega) h4
      simp only [List.length_append, List.length_cons, List.length_nil] at this
      omega

theorem afterMod_who {w m : Str} {l : List Tok} {x : Rule} {l' : List Tok} (h : afterMod w m l = .ok x l') : x.who.length ≤ l.length := by
  obtain ⟨_, l1, h1, k1⟩ := expect_ok h
  obtain ⟨_, l2, h2, k2⟩ := expect_ok k1
  obtain ⟨_, l3, h3, k3⟩ := expect_ok k2
  have := whosL_who _ _ _ l3 (Nat.le_refl _) k3
  simp only [List.length_nil] at this
  omega

theorem readRule_who {l : List Tok} {x : Rule} {l' : List Tok} (h : readRule l = .ok x l') : x.who.length ≤ l.length := by
  obtain ⟨_, l1, h1, k1⟩ := expect_ok h
  split at k1
  · obtain ⟨_, l2, h2, k2⟩ := expect_ok k1
    obtain ⟨_, l3, h3, k3⟩ := expect_ok k2
    have := afterMod_who k3
    omega
  · have := afterMod_who k1
    omega

theorem parseG_b : ∀ (k : Nat) (out : List Rule) (l : List Tok) (o : List Rule) (l' : List Tok), l.length ≤ k → parseG out l = (some o, l') → o.length ≤ out.length + l.length ∧ ∀ r ∈ o, r ∈ out ∨ r.who.length ≤ l.length := by
  intro k
  induction k with
  | zero =>
    intro out l o l' hl h
    have : l = [] := List.eq_nil_of_length_eq_zero (by omega)
    subst this
    rw [parseG_nil] at h
    injection h with h _
    injection h with h
    subst h
    exact ⟨by simp, fun r hr => .inl hr⟩
  | succ k ih =>
    intro out l o l' hl h
    by_cases hn : l = []
    · subst hn
      rw [parseG_nil] at h
      injection h with h _
      injection h with h
      subst h
      exact ⟨by simp, fun r hr => .inl hr⟩
    · by_cases hf : out.length = 64
      · rw [parseG_full hn hf] at h
        injection h with h _
        cases h
      · cases hr : readRule l with
        | ok x l1 =>
          rw [parseG_ok hn hf hr] at h
          have h1 := readRule_lt hr
          have h2 := readRule_who hr
          obtain ⟨a, b⟩ := ih (out ++ [x]) l1 o l' (by omega) h
          simp only [List.length_append, List.length_cons, List.length_nil] at a
          refine ⟨by omega, fun r hr => ?_⟩
          rcases b r hr with hb | hb
          · rcases List.mem_append.1 hb with hb | hb
            · exact .inl hb
            · rw [List.mem_singleton.1 hb]; exact .inr h2
          · exact .inr (by omega)
        | bad l1 =>
          rw [parseG_bad hn hf hr] at h
          injection h with h _
          cases h

theorem parseS_b (s : Str) : (parseS s).1.length ≤ 8192 ∧ ∀ r ∈ (parseS s).1, r.who.length ≤ 8192 := by
  unfold parseS
  split
  · simp
  · have hT := (scanS_TL s).len
    cases hp : parseG [] (scanS s).1 with
    | mk a l =>
      cases a with
      | none => cases l <;> simp [finS]
      | some o =>
        obtain ⟨h1, h2⟩ := parseG_b _ _ _ _ _ (Nat.le_refl _) hp
        simp only [List.length_nil] at h1
        simp only [finS]
        refine ⟨by omega, fun r hr => ?_⟩
        rcases h2 r hr with h | h
        · cases h
        · omega

theorem printRule_len {r : Rule} (h : validRule r = true) : (printRule r).length ≤ 100 := by
  obtain ⟨f1, f2, f3, f4, f5, f6, f7⟩ := valid_facts h
  have := whoR_len r.who true
  have hd : (dig r.n).length = 1 := rfl
  unfold printRule
  simp only [List.length_append, List.length_cons, List.length_nil, hd]
  split <;> simp <;> omega

theorem print_len (l : List Rule) : (printRules l).length ≤ 6400 := by
  unfold printRules
  split
  · rename_i h
    simp only [validRules, Bool.and_eq_true, List.all_eq_true, decide_eq_true_eq] at h
    have key : ∀ l : List Rule, (∀ r ∈ l, validRule r = true) → (l.flatMap printRule).length ≤ 100 * l.length := by
      intro l
      induction l with
      | nil => intro _; simp
      | cons r l ih =>
        intro hv
        have h1 := printRule_len (hv r List.mem_cons_self)
        have h2 := ih fun x hx => hv x (List.mem_cons_of_mem _ hx)
        simp only [List.flatMap_cons, List.length_append, List.length_cons]
        omega
    have := key l h.1
    omega
  · simp

end Go.Proofs.YtgdcfgpddgedkaaDoor

/-! RulesParses runs to true. -/
namespace Go.Proofs.YtgdcfgpddgedkaaDoor
open Go Go.Abs Go.Proofs

theorem lit14 : ∀ j : Nat, j < 14 → ∃ x : Str, ([[.str []], [.str [97, 110, 121]], [.str [105, 110]], [.str [111, 102]], [.str [58]], [.str [44]], [.str [48]], [.str [57]], [.str [49, 48]], [.str [48, 50]], [.str [56]], [.str [110, 97, 109, 101]], [.str [105, 102]], [.str [97, 108, 108]]] : List (List AV))[j]? = some [.str x] ∧ x.length ≤ 4
  | 0, _ => ⟨_, rfl, by decide⟩
  | 1, _ => ⟨_, rfl, by decide⟩
  | 2, _ => ⟨_, rfl, by decide⟩
  | 3, _ => ⟨_, rfl, by decide⟩
  | 4, _ => ⟨_, rfl, by decide⟩
  | 5, _ => ⟨_, rfl, by decide⟩
  | 6, _ => ⟨_, rfl, by decide⟩
  | 7, _ => ⟨_, rfl, by decide⟩
  | 8, _ => ⟨_, rfl, by decide⟩
  | 9, _ => ⟨_, rfl, by decide⟩
  | 10, _ => ⟨_, rfl, by decide⟩
  | 11, _ => ⟨_, rfl, by decide⟩
  | 12, _ => ⟨_, rfl, by decide⟩
  | 13, _ => ⟨_, rfl, by decide⟩
  | j + 14, h => absurd h (by omega)

theorem toks_loop (H : AHeap) (L : List Tok) (hL : TL L) (m : List Int) (hm : ∀ n ∈ m, I64 n) (k : Int) (o : Str) (ho : o.length ≤ 4) (a2 a4 a11 : AV) (T : AFrame) (g lo : Nat) (Q : IExit → AS → Prop)
    (h1 : T 1 = .slice (ints m) false) (h2 : T 2 = a2) (h4 : T 4 = a4) (h11 : T 11 = a11) (h12 : T 12 = .slice (encToks L) false) (h15 : T 15 = .str []) (h16 : T 16 = .str []) (h17 : T 17 = .int .i64 k) (h18 : T 18 = .str o) (h19 : T 19 = .int .i64 0)
    (hx : ∀ T' (x y : Str), x.length ≤ 100000000 → y.length ≤ 100000000 → T' 2 = a2 → T' 4 = a4 → T' 11 = a11 → T' 15 = .str x → T' 16 = .str y → T' 18 = .str o → Q (.exit 0) ⟨T', H, lo, g⟩) :
    W A (ir3.body.sub [true, true, true, true, true, true, true, false, true, false]) ⟨T, H, lo, g⟩ Q := by
  unfold ir3
  simp only [ICode.sub]
  have hll := hL.len
  refine W_countx L.length 0 (fun i => Hd (fun T => ∃ x y : Str, T 1 = .slice (ints m) false ∧ T 2 = a2 ∧ T 4 = a4 ∧ T 11 = a11 ∧ T 12 = .slice (encToks L) false ∧ T 15 = .str x ∧ T 16 = .str y ∧ T 17 = .int .i64 k ∧ T 18 = .str o ∧ T 19 = .int .i64 i ∧ x.length ≤ 8300 * i ∧ y.length ≤ 8300 * i) H lo g)
    (Hd (fun T => ∃ x y : Str, T 2 = a2 ∧ T 4 = a4 ∧ T 11 = a11 ∧ T 15 = .str x ∧ T 16 = .str y ∧ T 18 = .str o ∧ x.length ≤ 100000000 ∧ y.length ≤ 100000000) H lo g) (fun _ => False) ?_ ?_ (fun _ h => h.elim) 0 _ (by omega) ?_
  · rintro i st hi hst
    obtain ⟨T, rfl, x, y, h1, h2, h4, h11, h12, h15, h16, h17, h18, h19, hxl, hyl⟩ := hst.out
    by_cases h : i < L.length
    · have hg := toks_at (List.getElem?_eq_getElem h)
      have ht := hL.text _ (List.getElem_mem h)
      generalize L[i] = t at hg ht
      have hat := at_D m i 4000 H hm (by omega)
      have hr := atZ_range (l := m) (i := i) (k := 4000) (by omega)
      obtain ⟨_, hgap, gp, rfl, hgl⟩ := gap_D (atZ m i 4000) i H (by constructor <;> omega)
      by_cases hk : (i : Int) = k
      · have hk' : ((i : Int) == k) = true := by simp [hk]
        simp (disch := first | omega | (simp only [List.length_append, List.length_cons, List.length_nil]; omega)) only [evA, argsV, argsOK, partsV, elemsV, optV, evOper, evOp, evAppend, IArg.eval, AS.putD, ↓reduceIte, Nat.reduceEqDiff, Option.isSome, Option.isNone, cond_true, cond_false, Nat.reduceBEq, Nat.reduceAdd, Nat.reduceMul, binInt, binStr, eq_self, reduceCtorEq, unAV, lenAV, convAV, sliceAV, bound, isCon, AS.spent, liveAddr, offAddr, elemsOf, Nat.reduceLeDiff, nilCmp, putAt, Int.reduceEq, Int.reduceLT, Int.reduceLE, Int.reduceBEq, Int.reduceBNe, Int.reduceAdd, Int.reduceNeg, Int.reduceSub, Int.reduceMul, ilt_t, ilt_f, ile_t, ile_f, ieq_t, ieq_f, ine_t, ine_f, h1, h2, h4, h11, h12, h15, h16, h17, h18, h19, toks_len, hg, encTok, hat, hgap, hk']
        refine ⟨h, _, _, rfl, rfl, ?_, ?_⟩
        · simp only [List.length_append]; omega
        · simp only [List.length_append, List.length_cons, List.length_nil]; omega
      · have hk' : ((i : Int) == k) = false := by simpa using hk
        simp (disch := first | omega | (simp only [List.length_append, List.length_cons, List.length_nil]; omega)) only [evA, argsV, argsOK, partsV, elemsV, optV, evOper, evOp, evAppend, IArg.eval, AS.putD, ↓reduceIte, Nat.reduceEqDiff, Option.isSome, Option.isNone, cond_true, cond_false, Nat.reduceBEq, Nat.reduceAdd, Nat.reduceMul, binInt, binStr, eq_self, reduceCtorEq, unAV, lenAV, convAV, sliceAV, bound, isCon, AS.spent, liveAddr, offAddr, elemsOf, Nat.reduceLeDiff, nilCmp, putAt, Int.reduceEq, Int.reduceLT, Int.reduceLE, Int.reduceBEq, Int.reduceBNe, Int.reduceAdd, Int.reduceNeg, Int.reduceSub, Int.reduceMul, ilt_t, ilt_f, ile_t, ile_f, ieq_t, ieq_f, ine_t, ine_f, h1, h2, h4, h11, h12, h15, h16, h17, h18, h19, toks_len, hg, encTok, hat, hgap, hk']
        refine ⟨h, _, _, rfl, rfl, ?_, ?_⟩
        · simp only [List.length_append]; omega
        · simp only [List.length_append, List.length_cons, List.length_nil]; omega
    · have : i = L.length := by omega
      subst this
      simp (disch := omega) only [evA, argsV, argsOK, partsV, elemsV, optV, evOper, evOp, evAppend, IArg.eval, AS.putD, ↓reduceIte, Nat.reduceEqDiff, Option.isSome, Option.isNone, cond_true, cond_false, Nat.reduceBEq, Nat.reduceAdd, Nat.reduceMul, binInt, binStr, eq_self, reduceCtorEq, unAV, lenAV, convAV, sliceAV, bound, isCon, AS.spent, liveAddr, offAddr, elemsOf, Nat.reduceLeDiff, nilCmp, putAt, Int.reduceEq, Int.reduceLT, Int.reduceLE, Int.reduceBEq, Int.reduceBNe, Int.reduceAdd, Int.reduceNeg, Int.reduceSub, Int.reduceMul, ilt_t, ilt_f, ile_t, ile_f, ieq_t, ieq_f, ine_t, ine_f, h1, h2, h4, h11, h12, h15, h16, h17, h18, h19, toks_len]
      exact ⟨x, y, rfl, rfl, by omega, by omega⟩
  · intro st hst
    obtain ⟨T, rfl, x, y, h2, h4, h11, h15, h16, h18, hxl, hyl⟩ := hst.out
    exact hx T x y hxl hyl h2 h4 h11 h15 h16 h18
  · simp (disch := omega) only [evA, argsV, argsOK, partsV, elemsV, optV, evOper, evOp, evAppend, IArg.eval, AS.putD, ↓reduceIte, Nat.reduceEqDiff, Option.isSome, Option.isNone, cond_true, cond_false, Nat.reduceBEq, Nat.reduceAdd, Nat.reduceMul, binInt, binStr, eq_self, reduceCtorEq, unAV, lenAV, convAV, sliceAV, bound, isCon, AS.spent, liveAddr, offAddr, elemsOf, Nat.reduceLeDiff, nilCmp, putAt, Int.reduceEq, Int.reduceLT, Int.reduceLE, Int.reduceBEq, Int.reduceBNe, Int.reduceAdd, Int.reduceNeg, Int.reduceSub, Int.reduceMul, h1, h2, h4, h11, h12, h15, h16, h17, h18, h19, Int.natCast_zero]
    exact ⟨[], [], rfl, rfl, by simp, by simp⟩

theorem parse_all (L : List Str) (hL : ∀ x ∈ L, x.length ≤ 1000000000) (hl : L.length ≤ 1000) (o : Bool) (T : AFrame) (Q : IExit → AS → Prop) (h22 : T 22 = .slice (strs L) o) (h23 : T 23 = .int .i64 0) (hQ : ∀ T', Q (.exit 2) ⟨T', [], 0, 0⟩) :
    W A (ir3.body.sub [true, true, true, true, true, true, true, true, true, false, true, false]) ⟨T, [], 0, 0⟩ Q := by
  unfold ir3
  simp only [ICode.sub]
  refine W_countx L.length 2 (fun i => Hd (fun T => T 22 = .slice (strs L) o ∧ T 23 = .int .i64 i) [] 0 0) (Hd (fun T => True) [] 0 0) (fun _ => False) ?_ ?_ (fun _ h => h.elim) 0 _ (by omega) ?_
  · rintro i st hi hst
    obtain ⟨T, rfl, h22, h23⟩ := hst.out
    by_cases h : i < L.length
    · have hg := strs_at (List.getElem?_eq_getElem h)
      have hy := hL _ (List.getElem_mem h)
      generalize L[i] = y at hg hy
      have p1 := parseP_D y [] (by omega)
      have p2 := parseR_D y [] (by omega)
      obtain ⟨b1, b2⟩ := parseS_b y
      have p3 := sameRules_D (parseS y).1 (parseS y).1 [] (by omega) (fun r hr => by have := b2 r hr; omega) rfl
      generalize parseS y = R at p1 p2 p3
      simp (disch := omega) only [evA, argsV, argsOK, partsV, elemsV, optV, evOper, evOp, evAppend, IArg.eval, AS.putD, ↓reduceIte, Nat.reduceEqDiff, Option.isSome, Option.isNone, cond_true, cond_false, Nat.reduceBEq, Nat.reduceAdd, Nat.reduceMul, binInt, binStr, eq_self, reduceCtorEq, unAV, lenAV, convAV, sliceAV, bound, isCon, AS.spent, liveAddr, offAddr, elemsOf, Nat.reduceLeDiff, nilCmp, putAt, Int.reduceEq, Int.reduceLT, Int.reduceLE, Int.reduceBEq, Int.reduceBNe, Int.reduceAdd, Int.reduceNeg, Int.reduceSub, Int.reduceMul, ilt_t, ilt_f, ile_t, ile_f, ieq_t, ieq_f, ine_t, ine_f, h22, h23, strs_len, hg, p1, p2, p3, bne_self_eq_false]
      exact h
    · have : i = L.length := by omega
      subst this
      simp (disch := omega) only [evA, argsV, argsOK, partsV, elemsV, optV, evOper, evOp, evAppend, IArg.eval, AS.putD, ↓reduceIte, Nat.reduceEqDiff, Option.isSome, Option.isNone, cond_true, cond_false, Nat.reduceBEq, Nat.reduceAdd, Nat.reduceMul, binInt, binStr, eq_self, reduceCtorEq, unAV, lenAV, convAV, sliceAV, bound, isCon, AS.spent, liveAddr, offAddr, elemsOf, Nat.reduceLeDiff, nilCmp, putAt, Int.reduceEq, Int.reduceLT, Int.reduceLE, Int.reduceBEq, Int.reduceBNe, Int.reduceAdd, Int.reduceNeg, Int.reduceSub, Int.reduceMul, ilt_t, ilt_f, ile_t, ile_f, ieq_t, ieq_f, ine_t, ine_f, h22, h23, strs_len]
  · intro st hst
    obtain ⟨T, rfl, _⟩ := hst.out
    exact hQ T
  · simp (disch := omega) only [evA, argsV, argsOK, partsV, elemsV, optV, evOper, evOp, evAppend, IArg.eval, AS.putD, ↓reduceIte, Nat.reduceEqDiff, Option.isSome, Option.isNone, cond_true, cond_false, Nat.reduceBEq, Nat.reduceAdd, Nat.reduceMul, binInt, binStr, eq_self, reduceCtorEq, unAV, lenAV, convAV, sliceAV, bound, isCon, AS.spent, liveAddr, offAddr, elemsOf, Nat.reduceLeDiff, nilCmp, putAt, Int.reduceEq, Int.reduceLT, Int.reduceLE, Int.reduceBEq, Int.reduceBNe, Int.reduceAdd, Int.reduceNeg, Int.reduceSub, Int.reduceMul, h22, h23, Int.natCast_zero]

theorem lawParses (l m : List Int) (at' by' : Int) (raw : Str) (hl : ∀ n ∈ l, I64 n) (_ : l.length ≤ 1048576) (hm : ∀ n ∈ m, I64 n) (_ : m.length ≤ 1048576) (h2 : I64 at') (h3 : I64 by') (hraw : raw.length ≤ 1048576) :
    callD A 3 [.slice (ints l) false, .slice (ints m) false, .int .i64 at', .int .i64 by', .str raw] [] = some (.bool true, none) := by
  obtain ⟨_, e1, x, rfl, hx1, hx2⟩ := rules_D l [[109, 105, 108, 108], [109, 49]] 5 [] hl (by simp) (by omega) (by omega)
  have hxB := gen_B mill_lens hx2
  have hs : strs [[109, 105, 108, 108], [109, 49]] = [[.str [109, 105, 108, 108]], [.str [109, 49]]] := rfl
  rw [hs] at e1
  have hp := printR_D x [] (by omega) fun r hr => (hxB r hr).1
  have hpl := print_len x
  generalize printRules x = s at hp hpl
  have hsc := scanR_D s [] (by omega)
  have hT := scanS_TL s
  generalize (scanS s).1 = L at hsc hT
  generalize (scanS s).2.1 = bl at hsc
  generalize (scanS s).2.2 = sa at hsc
  have hll := hT.len
  have k1 := around_D at' ((L.length : Int) + 1) [] h2 (by omega)
  have k2 := around_D by' 14 [] h3 (by omega)
  have r2 := around_range (n := by') (k := 14) (by omega)
  have hq : I64 (at'.tdiv 3) := by
    have e : at'.tdiv 3 = if 0 ≤ at' then at' / 3 else -((-at') / 3) := by
      split
      · rename_i h; exact Int.tdiv_eq_ediv_of_nonneg h
      · rename_i h
        have : at' = -(-at') := by omega
        rw [this, Int.neg_tdiv, Int.tdiv_eq_ediv_of_nonneg (by omega), Int.neg_neg]
    obtain ⟨a, b⟩ := h2
    rw [e]
    split <;> constructor <;> omega
  have k3 := around_D (at'.tdiv 3) ((s.length : Int) + 1) [] hq (by omega)
  have r3 := around_range (n := at'.tdiv 3) (k := (s.length : Int) + 1) (by omega)
  obtain ⟨ot, ho, hol⟩ := lit14 (around by' 14).toNat (by omega)
  refine callD_W (fn := ir3) rfl rfl rfl ?_
  unfold ir3
  simp (disch := omega) only [evA, argsV, argsOK, partsV, elemsV, optV, evOper, evOp, evAppend, IArg.eval, AS.putD, ↓reduceIte, Nat.reduceEqDiff, Option.isSome, Option.isNone, cond_true, cond_false, Nat.reduceBEq, Nat.reduceAdd, Nat.reduceMul, binInt, binStr, eq_self, reduceCtorEq, unAV, lenAV, convAV, sliceAV, bound, isCon, AS.spent, liveAddr, offAddr, elemsOf, Nat.reduceLeDiff, nilCmp, putAt, Int.reduceEq, Int.reduceLT, Int.reduceLE, Int.reduceBEq, Int.reduceBNe, Int.reduceAdd, Int.reduceNeg, Int.reduceSub, Int.reduceMul, ilt_t, ilt_f, ile_t, ile_f, ieq_t, ieq_f, ine_t, ine_f, e1, hp, hsc, toks_len, k1, k2, asNat_of, ho]
  refine toks_loop [] L hT m hm (around at' ((L.length : Int) + 1)) ot hol (.int .i64 at') (.str raw) (.str s) _ 0 _ _ ?_ ?_ ?_ ?_ ?_ ?_ ?_ ?_ ?_ ?_ ?_
  case refine_11 =>
    intro T x y hxl hyl h2' h4' h11 h15 h16 h18
    generalize around (at'.tdiv 3) ((s.length : Int) + 1) = q at k3 r3
    simp (disch := first | omega | (simp only [List.length_append, List.length_cons, List.length_nil]; omega)) only [evA, argsV, argsOK, partsV, elemsV, optV, evOper, evOp, evAppend, IArg.eval, AS.putD, ↓reduceIte, Nat.reduceEqDiff, Option.isSome, Option.isNone, cond_true, cond_false, Nat.reduceBEq, Nat.reduceAdd, Nat.reduceMul, binInt, binStr, eq_self, reduceCtorEq, unAV, lenAV, convAV, sliceAV, bound, isCon, AS.spent, liveAddr, offAddr, elemsOf, Nat.reduceLeDiff, nilCmp, putAt, Int.reduceEq, Int.reduceLT, Int.reduceLE, Int.reduceBEq, Int.reduceBNe, Int.reduceAdd, Int.reduceNeg, Int.reduceSub, Int.reduceMul, ilt_t, ilt_f, ile_t, ile_f, ieq_t, ieq_f, ine_t, ine_f, h2', h4', h11, h15, h16, h18, IntWalk.i64_quo', k3, asNat_of]
    refine parse_all [s, x, y, y ++ [32] ++ ot, raw, s ++ raw, s.take q.toNat] ?_ (by simp) true _ _ ?_ ?_ ?_
    · intro z hz
      simp only [List.mem_cons, List.not_mem_nil, or_false] at hz
      rcases hz with rfl | rfl | rfl | rfl | rfl | rfl | rfl
      · omega
      · omega
      · omega
      · simp only [List.length_append, List.length_cons, List.length_nil]; omega
      · omega
      · simp only [List.length_append]; omega
      · rw [List.length_take]; omega
    · simp (disch := omega) only [evA, argsV, argsOK, partsV, elemsV, optV, evOper, evOp, evAppend, IArg.eval, AS.putD, ↓reduceIte, Nat.reduceEqDiff, Option.isSome, Option.isNone, cond_true, cond_false, Nat.reduceBEq, Nat.reduceAdd, Nat.reduceMul, binInt, binStr, eq_self, reduceCtorEq, unAV, lenAV, convAV, sliceAV, bound, isCon, AS.spent, liveAddr, offAddr, elemsOf, Nat.reduceLeDiff, nilCmp, putAt, Int.reduceEq, Int.reduceLT, Int.reduceLE, Int.reduceBEq, Int.reduceBNe, Int.reduceAdd, Int.reduceNeg, Int.reduceSub, Int.reduceMul]
      rfl
    · simp (disch := omega) only [evA, argsV, argsOK, partsV, elemsV, optV, evOper, evOp, evAppend, IArg.eval, AS.putD, ↓reduceIte, Nat.reduceEqDiff, Option.isSome, Option.isNone, cond_true, cond_false, Nat.reduceBEq, Nat.reduceAdd, Nat.reduceMul, binInt, binStr, eq_self, reduceCtorEq, unAV, lenAV, convAV, sliceAV, bound, isCon, AS.spent, liveAddr, offAddr, elemsOf, Nat.reduceLeDiff, nilCmp, putAt, Int.reduceEq, Int.reduceLT, Int.reduceLE, Int.reduceBEq, Int.reduceBNe, Int.reduceAdd, Int.reduceNeg, Int.reduceSub, Int.reduceMul]
    · intro T'
      simp (disch := omega) only [evA, argsV, argsOK, partsV, elemsV, optV, evOper, evOp, evAppend, IArg.eval, AS.putD, ↓reduceIte, Nat.reduceEqDiff, Option.isSome, Option.isNone, cond_true, cond_false, Nat.reduceBEq, Nat.reduceAdd, Nat.reduceMul, binInt, binStr, eq_self, reduceCtorEq, unAV, lenAV, convAV, sliceAV, bound, isCon, AS.spent, liveAddr, offAddr, elemsOf, Nat.reduceLeDiff, nilCmp, putAt, Int.reduceEq, Int.reduceLT, Int.reduceLE, Int.reduceBEq, Int.reduceBNe, Int.reduceAdd, Int.reduceNeg, Int.reduceSub, Int.reduceMul, lives_D]
  all_goals first | (simp (disch := omega) only [evA, argsV, argsOK, partsV, elemsV, optV, evOper, evOp, evAppend, IArg.eval, AS.putD, ↓reduceIte, Nat.reduceEqDiff, Option.isSome, Option.isNone, cond_true, cond_false, Nat.reduceBEq, Nat.reduceAdd, Nat.reduceMul, binInt, binStr, eq_self, reduceCtorEq, unAV, lenAV, convAV, sliceAV, bound, isCon, AS.spent, liveAddr, offAddr, elemsOf, Nat.reduceLeDiff, nilCmp, putAt, Int.reduceEq, Int.reduceLT, Int.reduceLE, Int.reduceBEq, Int.reduceBNe, Int.reduceAdd, Int.reduceNeg, Int.reduceSub, Int.reduceMul]; done) | (simp (disch := omega) only [evA, argsV, argsOK, partsV, elemsV, optV, evOper, evOp, evAppend, IArg.eval, AS.putD, ↓reduceIte, Nat.reduceEqDiff, Option.isSome, Option.isNone, cond_true, cond_false, Nat.reduceBEq, Nat.reduceAdd, Nat.reduceMul, binInt, binStr, eq_self, reduceCtorEq, unAV, lenAV, convAV, sliceAV, bound, isCon, AS.spent, liveAddr, offAddr, elemsOf, Nat.reduceLeDiff, nilCmp, putAt, Int.reduceEq, Int.reduceLT, Int.reduceLE, Int.reduceBEq, Int.reduceBNe, Int.reduceAdd, Int.reduceNeg, Int.reduceSub, Int.reduceMul]; rfl)

end Go.Proofs.YtgdcfgpddgedkaaDoor

