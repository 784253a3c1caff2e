/-
  Equations of functions, joined: E13, E14, E15, E16, E17, E18, E19, E20.
-/
import Derived.Test.YtgdcfgpddgedkaaDoorM1
import Derived.Test.YtgdcfgpddgedkaaDoorE7
import Derived.Test.YtgdcfgpddgedkaaDoorE8
import Derived.Test.YtgdcfgpddgedkaaDoorE12
set_option linter.unusedSimpArgs false
set_option linter.unusedVariables false
/-! Equations of functions, 13: both scanners. -/
namespace Go.Proofs.YtgdcfgpddgedkaaDoor
open Go Go.Abs Go.Proofs

structure Tok where
  text : Str
  before : Str
  deriving DecidableEq

def encTok (t : Tok) : List AV := [.str t.text, .str t.before]
def encToks (l : List Tok) : List (List AV) := l.map encTok

theorem toks_len {l : List Tok} : (encToks l).length = l.length := by simp [encToks]
theorem toks_at {l : List Tok} {i : Nat} {t : Tok} (h : l[i]? = some t) : (encToks l)[i]? = some (encTok t) := by simp [encToks, h]

/-- The tokens of a text, the blanks behind them; or where none begins. -/
def scanL (r : Str) (off : Nat) : List Tok × Str × Int :=
  if skipL false r = r.length then ([], r, -1)
  else if h2 : tokL (r.drop (skipL false r)) = 0 then ([], [], ((off + skipL false r : Nat) : Int))
  else
    let x := scanL (r.drop (skipL false r + tokL (r.drop (skipL false r)))) (off + (skipL false r + tokL (r.drop (skipL false r))))
    if x.2.2 = -1 then (⟨(r.drop (skipL false r)).take (tokL (r.drop (skipL false r))), r.take (skipL false r)⟩ :: x.1, x.2.1, -1) else ([], [], x.2.2)
termination_by r.length
decreasing_by
  have := skipL_le false r
  have := tokL_le (r.drop (skipL false r))
  simp only [List.length_drop] at this ⊢
  omega

def scanS (s : Str) : List Tok × Str × Int := if 8192 < s.length then ([], [], 8192) else scanL s 0

/-- What is scanned already ahead of what is to come. -/
def ahead (acc : List Tok) (x : List Tok × Str × Int) : List Tok × Str × Int := if x.2.2 = -1 then (acc ++ x.1, x.2.1, -1) else ([], [], x.2.2)

theorem scan_end {r : Str} {off : Nat} (h : skipL false r = r.length) (acc : List Tok) : ahead acc (scanL r off) = (acc, r, -1) := by
  rw [scanL, if_pos h]
  simp [ahead]

theorem scan_bad {r : Str} {off : Nat} (h : skipL false r ≠ r.length) (h2 : tokL (r.drop (skipL false r)) = 0) (acc : List Tok) : ahead acc (scanL r off) = ([], [], ((off + skipL false r : Nat) : Int)) := by
  rw [scanL, if_neg h, dif_pos h2]
  simp only [ahead]
  rw [if_neg (by omega)]

theorem scan_tok {r : Str} {off : Nat} (h : skipL false r ≠ r.length) (h2 : tokL (r.drop (skipL false r)) ≠ 0) (acc : List Tok) :
    ahead acc (scanL r off) = ahead (acc ++ [⟨(r.drop (skipL false r)).take (tokL (r.drop (skipL false r))), r.take (skipL false r)⟩]) (scanL (r.drop (skipL false r + tokL (r.drop (skipL false r)))) (off + (skipL false r + tokL (r.drop (skipL false r))))) := by
  conv => lhs; rw [scanL, if_neg h, dif_neg h2]
  simp only [ahead]
  split
  · simp
  · rename_i hx; simp [hx]

theorem scan_tok' {s : Str} {off k n : Nat} (hk : skipL false (s.drop off) = k) (hn : tokL (s.drop (off + k)) = n) (h : k ≠ s.length - off) (h2 : n ≠ 0) (acc : List Tok) :
    ahead acc (scanL (s.drop off) off) = ahead (acc ++ [⟨(s.take (off + k + n)).drop (off + k), (s.take (off + k)).drop off⟩]) (scanL (s.drop (off + k + n)) (off + k + n)) := by
  subst hk
  rw [← List.drop_drop] at hn
  rw [scan_tok (by rw [List.length_drop]; exact h) (by rw [hn]; exact h2), hn]
  rw [List.drop_drop, List.drop_drop, List.take_drop, List.take_drop, Nat.add_assoc]

theorem ahead_nil (s : Str) (h : ¬ 8192 < s.length) : ahead [] (scanL s 0) = scanS s := by
  unfold scanS
  rw [if_neg h]
  have key : ∀ (r : Str) (off : Nat), (scanL r off).2.2 ≠ -1 → scanL r off = ([], [], (scanL r off).2.2) := by
    intro r off hx
    rw [scanL] at hx ⊢
    split at hx
    · exact absurd rfl hx
    · rename_i h1
      rw [if_neg h1]
      split at hx
      · rename_i h2; rw [dif_pos h2]
      · rename_i h2
        rw [dif_neg h2]
        simp only at hx ⊢
        split at hx
        · exact absurd rfl hx
        · rename_i h3; rw [if_neg h3]
  unfold ahead
  split
  · rename_i hx
    simp [← hx]
  · rename_i hx
    exact (key s 0 hx).symm

theorem toks_rows {l : List Tok} : RowsB 2 (encToks l) :=
  ⟨fun r hr => by simp only [encToks, List.mem_map] at hr; obtain ⟨n, _, rfl⟩ := hr; rfl, nb_all fun r hr => by simp only [encToks, List.mem_map] at hr; obtain ⟨n, _, rfl⟩ := hr; rfl⟩
theorem app_toks {l m : List Tok} {o : Bool} (h : l.length + m.length ≤ 1099511627776) : appendAV false 2 32 (.slice (encToks l) true) (.slice (encToks m) o) = some (.slice (encToks (l ++ m)) true) := by
  rw [app_ok toks_rows toks_rows (by rw [toks_len, toks_len]; omega) (by rw [toks_len, toks_len]; omega)]; simp [encToks]
theorem app_tok {l : List Tok} {a b : Str} {o : Bool} (h : l.length ≤ 1000000) : appendAV false 2 32 (.slice (encToks l) true) (.slice [[.str a, .str b]] o) = some (.slice (encToks (l ++ [⟨a, b⟩])) true) := app_toks (m := [⟨a, b⟩]) (by simp; omega)

theorem scanR_D (s : Str) (H : AHeap) (hs : s.length ≤ 4611686018427387904) :
    callD A 10 [.str s] H = some (.tuple [.slice (encToks (scanS s).1) false, .str (scanS s).2.1, .int .i64 (scanS s).2.2], none) := by
  refine callD_W (fn := ir10) rfl rfl rfl ?_
  unfold ir10
  by_cases hbig : 8192 < s.length
  · have e : scanS s = ([], [], 8192) := by unfold scanS; rw [if_pos hbig]
    rw [e]
    simp (disch := omega) only [evA, argsV, argsOK, partsV, elemsV, optV, evOper, evOp, evAppend, IArg.eval, AS.putD, ↓reduceIte, Nat.reduceEqDiff, Option.isSome, Option.isNone, cond_true, cond_false, Nat.reduceBEq, Nat.reduceAdd, Nat.reduceMul, binInt, binStr, eq_self, reduceCtorEq, unAV, lenAV, convAV, sliceAV, bound, isCon, AS.spent, liveAddr, offAddr, elemsOf, Nat.reduceLeDiff, nilCmp, putAt, Int.reduceEq, Int.reduceLT, Int.reduceLE, Int.reduceBEq, Int.reduceBNe, Int.reduceAdd, Int.reduceNeg, Int.reduceSub, Int.reduceMul, ilt_t, ilt_f, ile_t, ile_f, ieq_t, ieq_f, ine_t, ine_f]
    rfl
  have e := ahead_nil s hbig
  generalize scanS s = R at e
  simp (disch := omega) only [evA, argsV, argsOK, partsV, elemsV, optV, evOper, evOp, evAppend, IArg.eval, AS.putD, ↓reduceIte, Nat.reduceEqDiff, Option.isSome, Option.isNone, cond_true, cond_false, Nat.reduceBEq, Nat.reduceAdd, Nat.reduceMul, binInt, binStr, eq_self, reduceCtorEq, unAV, lenAV, convAV, sliceAV, bound, isCon, AS.spent, liveAddr, offAddr, elemsOf, Nat.reduceLeDiff, nilCmp, putAt, Int.reduceEq, Int.reduceLT, Int.reduceLE, Int.reduceBEq, Int.reduceBNe, Int.reduceAdd, Int.reduceNeg, Int.reduceSub, Int.reduceMul, ilt_t, ilt_f, ile_t, ile_f, ieq_t, ieq_f, ine_t, ine_f]
  refine W_loopm 0 (fun k => Hd (fun T => ∃ (off : Nat) (acc : List Tok), T 0 = .str s ∧ T 5 = .slice (encToks acc) true ∧ T 6 = .int .i64 off ∧ off ≤ s.length ∧ k = s.length - off ∧ acc.length ≤ off ∧ ahead acc (scanL (s.drop off) off) = R) H H.length 0)
    (fun _ => False) (Hd (fun T => ∃ o, T 2 = .slice (encToks R.1) o ∧ T 3 = .str R.2.1 ∧ T 4 = .int .i64 R.2.2) H H.length 0) ?_ (fun _ h => h.elim) ?_ s.length _ ?_
  · rintro k st hst
    obtain ⟨T, rfl, off, acc, h0, h5, h6, hoff, hk, hacc, hc⟩ := hst.out
    have hsk := skip_D s off H hoff (by omega)
    have hle := skipL_le false (s.drop off)
    rw [List.length_drop] at hle
    by_cases hend : skipL false (s.drop off) = (s.drop off).length
    · rw [scan_end hend] at hc
      subst hc
      rw [List.length_drop] at hend
      rw [hend] at hsk
      have e1 : off + (s.length - off) = s.length := by omega
      rw [e1] at hsk
      simp (disch := omega) only [evA, argsV, argsOK, partsV, elemsV, optV, evOper, evOp, evAppend, IArg.eval, AS.putD, ↓reduceIte, Nat.reduceEqDiff, Option.isSome, Option.isNone, cond_true, cond_false, Nat.reduceBEq, Nat.reduceAdd, Nat.reduceMul, binInt, binStr, eq_self, reduceCtorEq, unAV, lenAV, convAV, sliceAV, bound, isCon, AS.spent, liveAddr, offAddr, elemsOf, Nat.reduceLeDiff, nilCmp, putAt, Int.reduceEq, Int.reduceLT, Int.reduceLE, Int.reduceBEq, Int.reduceBNe, Int.reduceAdd, Int.reduceNeg, Int.reduceSub, Int.reduceMul, ilt_t, ilt_f, ile_t, ile_f, ieq_t, ieq_f, ine_t, ine_f, h0, h5, h6, hsk, List.take_length]
      exact ⟨false, rfl⟩
    · have hlt : skipL false (s.drop off) < s.length - off := by rw [List.length_drop] at hend; omega
      have hen := end_D s (off + skipL false (s.drop off)) H (by omega) (by omega)
      have htl := tokL_le (s.drop (off + skipL false (s.drop off)))
      rw [List.length_drop] at htl
      by_cases hbad : tokL (s.drop (off + skipL false (s.drop off))) = 0
      · rw [scan_bad hend (by rw [List.drop_drop]; exact hbad)] at hc
        subst hc
        rw [if_pos hbad] at hen
        generalize hm : off + skipL false (s.drop off) = m at hsk hen
        have hm1 : off ≤ m := by omega
        have hm2 : m < s.length := by omega
        clear hm
        simp (disch := omega) only [evA, argsV, argsOK, partsV, elemsV, optV, evOper, evOp, evAppend, IArg.eval, AS.putD, ↓reduceIte, Nat.reduceEqDiff, Option.isSome, Option.isNone, cond_true, cond_false, Nat.reduceBEq, Nat.reduceAdd, Nat.reduceMul, binInt, binStr, eq_self, reduceCtorEq, unAV, lenAV, convAV, sliceAV, bound, isCon, AS.spent, liveAddr, offAddr, elemsOf, Nat.reduceLeDiff, nilCmp, putAt, Int.reduceEq, Int.reduceLT, Int.reduceLE, Int.reduceBEq, Int.reduceBNe, Int.reduceAdd, Int.reduceNeg, Int.reduceSub, Int.reduceMul, ilt_t, ilt_f, ile_t, ile_f, ieq_t, ieq_f, ine_t, ine_f, h0, h5, h6, hsk, hen]
        exact ⟨true, rfl, rfl⟩
      · rw [if_neg hbad] at hen
        generalize hk' : skipL false (s.drop off) = k at hsk hen hlt hbad htl
        generalize hn' : tokL (s.drop (off + k)) = n at hen hbad htl
        rw [scan_tok' hk' hn' (by omega) hbad] at hc
        have hle2 : off + k + n ≤ s.length := by omega
        have hn0 : 0 < n := by omega
        generalize hm : off + k = m at hsk hen hc hle2
        have hm1 : off ≤ m := by omega
        have hm2 : m < s.length := by omega
        clear hm hk' hn' htl hlt hend hle
        generalize hp : m + n = p at hen hc hle2
        have hp1 : m < p := by omega
        clear hp
        simp (disch := omega) only [evA, argsV, argsOK, partsV, elemsV, optV, evOper, evOp, evAppend, IArg.eval, AS.putD, ↓reduceIte, Nat.reduceEqDiff, Option.isSome, Option.isNone, cond_true, cond_false, Nat.reduceBEq, Nat.reduceAdd, Nat.reduceMul, binInt, binStr, eq_self, reduceCtorEq, unAV, lenAV, convAV, sliceAV, bound, isCon, AS.spent, liveAddr, offAddr, elemsOf, Nat.reduceLeDiff, nilCmp, putAt, Int.reduceEq, Int.reduceLT, Int.reduceLE, Int.reduceBEq, Int.reduceBNe, Int.reduceAdd, Int.reduceNeg, Int.reduceSub, Int.reduceMul, ilt_t, ilt_f, ile_t, ile_f, ieq_t, ieq_f, ine_t, ine_f, h0, h5, h6, hsk, hen, app_tok]
        exact ⟨s.length - p, by omega, p, _, rfl, rfl, by omega, rfl, by simp; omega, hc⟩
  · intro st hst
    obtain ⟨T, rfl, o, h2, h3, h4⟩ := hst.out
    simp (disch := omega) only [evA, argsV, argsOK, partsV, elemsV, optV, evOper, evOp, evAppend, IArg.eval, AS.putD, ↓reduceIte, Nat.reduceEqDiff, Option.isSome, Option.isNone, cond_true, cond_false, Nat.reduceBEq, Nat.reduceAdd, Nat.reduceMul, binInt, binStr, eq_self, reduceCtorEq, unAV, lenAV, convAV, sliceAV, bound, isCon, AS.spent, liveAddr, offAddr, elemsOf, Nat.reduceLeDiff, nilCmp, putAt, Int.reduceEq, Int.reduceLT, Int.reduceLE, Int.reduceBEq, Int.reduceBNe, Int.reduceAdd, Int.reduceNeg, Int.reduceSub, Int.reduceMul, h2, h3, h4]
  · simp (disch := omega) only [evA, argsV, argsOK, partsV, elemsV, optV, evOper, evOp, evAppend, IArg.eval, AS.putD, ↓reduceIte, Nat.reduceEqDiff, Option.isSome, Option.isNone, cond_true, cond_false, Nat.reduceBEq, Nat.reduceAdd, Nat.reduceMul, binInt, binStr, eq_self, reduceCtorEq, unAV, lenAV, convAV, sliceAV, bound, isCon, AS.spent, liveAddr, offAddr, elemsOf, Nat.reduceLeDiff, nilCmp, putAt, Int.reduceEq, Int.reduceLT, Int.reduceLE, Int.reduceBEq, Int.reduceBNe, Int.reduceAdd, Int.reduceNeg, Int.reduceSub, Int.reduceMul, List.drop_zero, Int.natCast_zero]
    exact ⟨0, [], rfl, rfl, by omega, by omega, by simp, by simpa using e⟩

theorem scanP_D (s : Str) (H : AHeap) (hs : s.length ≤ 4611686018427387904) :
    callD A 24 [.str s] H = some (.tuple [.slice (encToks (scanS s).1) false, .str (scanS s).2.1, .int .i64 (scanS s).2.2], none) := by
  refine callD_W (fn := ir24) rfl rfl rfl ?_
  unfold ir24
  by_cases hbig : 8192 < s.length
  · have e : scanS s = ([], [], 8192) := by unfold scanS; rw [if_pos hbig]
    rw [e]
    simp (disch := omega) only [evA, argsV, argsOK, partsV, elemsV, optV, evOper, evOp, evAppend, IArg.eval, AS.putD, ↓reduceIte, Nat.reduceEqDiff, Option.isSome, Option.isNone, cond_true, cond_false, Nat.reduceBEq, Nat.reduceAdd, Nat.reduceMul, binInt, binStr, eq_self, reduceCtorEq, unAV, lenAV, convAV, sliceAV, bound, isCon, AS.spent, liveAddr, offAddr, elemsOf, Nat.reduceLeDiff, nilCmp, putAt, Int.reduceEq, Int.reduceLT, Int.reduceLE, Int.reduceBEq, Int.reduceBNe, Int.reduceAdd, Int.reduceNeg, Int.reduceSub, Int.reduceMul, ilt_t, ilt_f, ile_t, ile_f, ieq_t, ieq_f, ine_t, ine_f]
    rfl
  have e := ahead_nil s hbig
  generalize scanS s = R at e
  simp (disch := omega) only [evA, argsV, argsOK, partsV, elemsV, optV, evOper, evOp, evAppend, IArg.eval, AS.putD, ↓reduceIte, Nat.reduceEqDiff, Option.isSome, Option.isNone, cond_true, cond_false, Nat.reduceBEq, Nat.reduceAdd, Nat.reduceMul, binInt, binStr, eq_self, reduceCtorEq, unAV, lenAV, convAV, sliceAV, bound, isCon, AS.spent, liveAddr, offAddr, elemsOf, Nat.reduceLeDiff, nilCmp, putAt, Int.reduceEq, Int.reduceLT, Int.reduceLE, Int.reduceBEq, Int.reduceBNe, Int.reduceAdd, Int.reduceNeg, Int.reduceSub, Int.reduceMul, ilt_t, ilt_f, ile_t, ile_f, ieq_t, ieq_f, ine_t, ine_f]
  refine W_loopm 0 (fun k => Hd (fun T => ∃ (off : Nat) (acc : List Tok), T 0 = .str s ∧ T 5 = .slice (encToks acc) true ∧ T 6 = .int .i64 off ∧ off ≤ s.length ∧ k = s.length - off ∧ acc.length ≤ off ∧ ahead acc (scanL (s.drop off) off) = R) H H.length 0)
    (fun _ => False) (Hd (fun T => ∃ o, T 2 = .slice (encToks R.1) o ∧ T 3 = .str R.2.1 ∧ T 4 = .int .i64 R.2.2) H H.length 0) ?_ (fun _ h => h.elim) ?_ s.length _ ?_
  · rintro k st hst
    obtain ⟨T, rfl, off, acc, h0, h5, h6, hoff, hk, hacc, hc⟩ := hst.out
    have hsk := blanks_D (s.drop off) H (by rw [List.length_drop]; omega)
    have hle := skipL_le false (s.drop off)
    rw [List.length_drop] at hle
    by_cases hend : skipL false (s.drop off) = (s.drop off).length
    · rw [scan_end hend] at hc
      subst hc
      rw [List.length_drop] at hend
      rw [hend] at hsk
      have e1 : (off : Int) + ((s.length - off : Nat) : Int) = (s.length : Int) := by omega
      generalize s.length - off = q at hsk e1
      simp (disch := omega) only [evA, argsV, argsOK, partsV, elemsV, optV, evOper, evOp, evAppend, IArg.eval, AS.putD, ↓reduceIte, Nat.reduceEqDiff, Option.isSome, Option.isNone, cond_true, cond_false, Nat.reduceBEq, Nat.reduceAdd, Nat.reduceMul, binInt, binStr, eq_self, reduceCtorEq, unAV, lenAV, convAV, sliceAV, bound, isCon, AS.spent, liveAddr, offAddr, elemsOf, Nat.reduceLeDiff, nilCmp, putAt, Int.reduceEq, Int.reduceLT, Int.reduceLE, Int.reduceBEq, Int.reduceBNe, Int.reduceAdd, Int.reduceNeg, Int.reduceSub, Int.reduceMul, ilt_t, ilt_f, ile_t, ile_f, ieq_t, ieq_f, ine_t, ine_f, h0, h5, h6, hsk, List.take_length, e1]
      exact ⟨false, rfl⟩
    · have hlt : skipL false (s.drop off) < s.length - off := by rw [List.length_drop] at hend; omega
      have hen := token_D (s.drop (off + skipL false (s.drop off))) H (fun e => by have := congrArg List.length e; rw [List.length_drop, List.length_nil] at this; omega) (by rw [List.length_drop]; omega)
      have htl := tokL_le (s.drop (off + skipL false (s.drop off)))
      rw [List.length_drop] at htl
      by_cases hbad : tokL (s.drop (off + skipL false (s.drop off))) = 0
      · rw [scan_bad hend (by rw [List.drop_drop]; exact hbad)] at hc
        subst hc
        rw [hbad] at hen
        generalize skipL false (s.drop off) = k at hsk hen hlt
        have e1 : (off : Int) + (k : Int) = ((off + k : Nat) : Int) := by omega
        generalize hm : off + k = m at hsk hen e1
        have hm1 : off ≤ m := by omega
        have hm2 : m < s.length := by omega
        clear hm
        simp (disch := omega) only [evA, argsV, argsOK, partsV, elemsV, optV, evOper, evOp, evAppend, IArg.eval, AS.putD, ↓reduceIte, Nat.reduceEqDiff, Option.isSome, Option.isNone, cond_true, cond_false, Nat.reduceBEq, Nat.reduceAdd, Nat.reduceMul, binInt, binStr, eq_self, reduceCtorEq, unAV, lenAV, convAV, sliceAV, bound, isCon, AS.spent, liveAddr, offAddr, elemsOf, Nat.reduceLeDiff, nilCmp, putAt, Int.reduceEq, Int.reduceLT, Int.reduceLE, Int.reduceBEq, Int.reduceBNe, Int.reduceAdd, Int.reduceNeg, Int.reduceSub, Int.reduceMul, ilt_t, ilt_f, ile_t, ile_f, ieq_t, ieq_f, ine_t, ine_f, h0, h5, h6, hsk, hen, List.take_length, e1]
        exact ⟨true, rfl, rfl⟩
      · generalize hk' : skipL false (s.drop off) = k at hsk hen hlt hbad htl
        generalize hn' : tokL (s.drop (off + k)) = n at hen hbad htl
        rw [scan_tok' hk' hn' (by omega) hbad] at hc
        have hle2 : off + k + n ≤ s.length := by omega
        have hn0 : 0 < n := by omega
        have e1 : (off : Int) + (k : Int) = ((off + k : Nat) : Int) := by omega
        generalize hm : off + k = m at hsk hen hc hle2 e1
        have hm1 : off ≤ m := by omega
        have hm2 : m < s.length := by omega
        clear hm hk' hn' htl hlt hend hle
        have e2 : (m : Int) + (n : Int) = ((m + n : Nat) : Int) := by omega
        generalize hp : m + n = p at hc hle2 e2
        have hp1 : m < p := by omega
        clear hp
        simp (disch := omega) only [evA, argsV, argsOK, partsV, elemsV, optV, evOper, evOp, evAppend, IArg.eval, AS.putD, ↓reduceIte, Nat.reduceEqDiff, Option.isSome, Option.isNone, cond_true, cond_false, Nat.reduceBEq, Nat.reduceAdd, Nat.reduceMul, binInt, binStr, eq_self, reduceCtorEq, unAV, lenAV, convAV, sliceAV, bound, isCon, AS.spent, liveAddr, offAddr, elemsOf, Nat.reduceLeDiff, nilCmp, putAt, Int.reduceEq, Int.reduceLT, Int.reduceLE, Int.reduceBEq, Int.reduceBNe, Int.reduceAdd, Int.reduceNeg, Int.reduceSub, Int.reduceMul, ilt_t, ilt_f, ile_t, ile_f, ieq_t, ieq_f, ine_t, ine_f, h0, h5, h6, hsk, hen, app_tok, List.take_length, e1, e2]
        exact ⟨s.length - p, by omega, p, _, rfl, rfl, by omega, rfl, by simp; omega, hc⟩
  · intro st hst
    obtain ⟨T, rfl, o, h2, h3, h4⟩ := hst.out
    simp (disch := omega) only [evA, argsV, argsOK, partsV, elemsV, optV, evOper, evOp, evAppend, IArg.eval, AS.putD, ↓reduceIte, Nat.reduceEqDiff, Option.isSome, Option.isNone, cond_true, cond_false, Nat.reduceBEq, Nat.reduceAdd, Nat.reduceMul, binInt, binStr, eq_self, reduceCtorEq, unAV, lenAV, convAV, sliceAV, bound, isCon, AS.spent, liveAddr, offAddr, elemsOf, Nat.reduceLeDiff, nilCmp, putAt, Int.reduceEq, Int.reduceLT, Int.reduceLE, Int.reduceBEq, Int.reduceBNe, Int.reduceAdd, Int.reduceNeg, Int.reduceSub, Int.reduceMul, h2, h3, h4]
  · simp (disch := omega) only [evA, argsV, argsOK, partsV, elemsV, optV, evOper, evOp, evAppend, IArg.eval, AS.putD, ↓reduceIte, Nat.reduceEqDiff, Option.isSome, Option.isNone, cond_true, cond_false, Nat.reduceBEq, Nat.reduceAdd, Nat.reduceMul, binInt, binStr, eq_self, reduceCtorEq, unAV, lenAV, convAV, sliceAV, bound, isCon, AS.spent, liveAddr, offAddr, elemsOf, Nat.reduceLeDiff, nilCmp, putAt, Int.reduceEq, Int.reduceLT, Int.reduceLE, Int.reduceBEq, Int.reduceBNe, Int.reduceAdd, Int.reduceNeg, Int.reduceSub, Int.reduceMul, List.drop_zero, Int.natCast_zero]
    exact ⟨0, [], rfl, rfl, by omega, by omega, by simp, by simpa using e⟩

end Go.Proofs.YtgdcfgpddgedkaaDoor

/-! Equations of functions, 14: the reference's number, SameRules, Gap. -/
namespace Go.Proofs.YtgdcfgpddgedkaaDoor
open Go Go.Abs Go.Proofs

/-- A digit's value; -1: none. -/
def numOf (s : Str) : Int := match s with
  | [c] => if 48 ≤ c.toNat ∧ c.toNat ≤ 57 then (c.toNat : Int) - 48 else -1
  | _ => -1

theorem numOf_range (s : Str) : -1 ≤ numOf s ∧ numOf s ≤ 9 := by
  unfold numOf
  split
  · split <;> omega
  · omega

theorem numberR_D (s : Str) (H : AHeap) (hs : s.length ≤ 4611686018427387904) : callD A 33 [.str s] H = some (.int .i64 (numOf s), none) := by
  refine callD_W (fn := ir33) rfl rfl rfl ?_
  unfold ir33
  match s, hs with
  | [], _ => simp (disch := omega) only [evA, argsV, argsOK, partsV, elemsV, optV, evOper, evOp, evAppend, IArg.eval, AS.putD, ↓reduceIte, Nat.reduceEqDiff, Option.isSome, Option.isNone, cond_true, cond_false, Nat.reduceBEq, Nat.reduceAdd, Nat.reduceMul, binInt, binStr, eq_self, reduceCtorEq, unAV, lenAV, convAV, sliceAV, bound, isCon, AS.spent, liveAddr, offAddr, elemsOf, Nat.reduceLeDiff, nilCmp, putAt, Int.reduceEq, Int.reduceLT, Int.reduceLE, Int.reduceBEq, Int.reduceBNe, Int.reduceAdd, Int.reduceNeg, Int.reduceSub, Int.reduceMul, ilt_t, ilt_f, ile_t, ile_f, ieq_t, ieq_f, ine_t, ine_f, numOf]
  | [c], _ =>
    have hc := UInt8.toNat_lt c
    by_cases h1 : 48 ≤ c.toNat
    · by_cases h2 : c.toNat ≤ 57
      · have e : numOf [c] = (c.toNat : Int) - 48 := by simp [numOf, h1, h2]
        rw [e]
        simp (disch := omega) only [evA, argsV, argsOK, partsV, elemsV, optV, evOper, evOp, evAppend, IArg.eval, AS.putD, ↓reduceIte, Nat.reduceEqDiff, Option.isSome, Option.isNone, cond_true, cond_false, Nat.reduceBEq, Nat.reduceAdd, Nat.reduceMul, binInt, binStr, eq_self, reduceCtorEq, unAV, lenAV, convAV, sliceAV, bound, isCon, AS.spent, liveAddr, offAddr, elemsOf, Nat.reduceLeDiff, nilCmp, putAt, Int.reduceEq, Int.reduceLT, Int.reduceLE, Int.reduceBEq, Int.reduceBNe, Int.reduceAdd, Int.reduceNeg, Int.reduceSub, Int.reduceMul, ilt_t, ilt_f, ile_t, ile_f, ieq_t, ieq_f, ine_t, ine_f]
      · have e : numOf [c] = -1 := by simp [numOf, h1, h2]
        rw [e]
        simp (disch := omega) only [evA, argsV, argsOK, partsV, elemsV, optV, evOper, evOp, evAppend, IArg.eval, AS.putD, ↓reduceIte, Nat.reduceEqDiff, Option.isSome, Option.isNone, cond_true, cond_false, Nat.reduceBEq, Nat.reduceAdd, Nat.reduceMul, binInt, binStr, eq_self, reduceCtorEq, unAV, lenAV, convAV, sliceAV, bound, isCon, AS.spent, liveAddr, offAddr, elemsOf, Nat.reduceLeDiff, nilCmp, putAt, Int.reduceEq, Int.reduceLT, Int.reduceLE, Int.reduceBEq, Int.reduceBNe, Int.reduceAdd, Int.reduceNeg, Int.reduceSub, Int.reduceMul, ilt_t, ilt_f, ile_t, ile_f, ieq_t, ieq_f, ine_t, ine_f]
    · have e : numOf [c] = -1 := by simp [numOf, h1]
      rw [e]
      simp (disch := omega) only [evA, argsV, argsOK, partsV, elemsV, optV, evOper, evOp, evAppend, IArg.eval, AS.putD, ↓reduceIte, Nat.reduceEqDiff, Option.isSome, Option.isNone, cond_true, cond_false, Nat.reduceBEq, Nat.reduceAdd, Nat.reduceMul, binInt, binStr, eq_self, reduceCtorEq, unAV, lenAV, convAV, sliceAV, bound, isCon, AS.spent, liveAddr, offAddr, elemsOf, Nat.reduceLeDiff, nilCmp, putAt, Int.reduceEq, Int.reduceLT, Int.reduceLE, Int.reduceBEq, Int.reduceBNe, Int.reduceAdd, Int.reduceNeg, Int.reduceSub, Int.reduceMul, ilt_t, ilt_f, ile_t, ile_f, ieq_t, ieq_f, ine_t, ine_f]
  | c :: d :: r, hs =>
    have e : numOf (c :: d :: r) = -1 := rfl
    rw [e]
    simp only [List.length_cons] at hs
    simp (disch := omega) only [evA, argsV, argsOK, partsV, elemsV, optV, evOper, evOp, evAppend, IArg.eval, AS.putD, ↓reduceIte, Nat.reduceEqDiff, Option.isSome, Option.isNone, cond_true, cond_false, Nat.reduceBEq, Nat.reduceAdd, Nat.reduceMul, binInt, binStr, eq_self, reduceCtorEq, unAV, lenAV, convAV, sliceAV, bound, isCon, AS.spent, liveAddr, offAddr, elemsOf, Nat.reduceLeDiff, nilCmp, putAt, Int.reduceEq, Int.reduceLT, Int.reduceLE, Int.reduceBEq, Int.reduceBNe, Int.reduceAdd, Int.reduceNeg, Int.reduceSub, Int.reduceMul, ilt_t, ilt_f, ile_t, ile_f, ieq_t, ieq_f, ine_t, ine_f]

theorem sameRules_D (a b : List Rule) (H : AHeap) (ha : a.length ≤ 4611686018427387904) (hr : ∀ r ∈ a, r.who.length ≤ 4611686018427387904) (hab : a = b) : callD A 16 [.slice (encRules a) false, .slice (encRules b) false] H = some (.bool true, none) := by
  subst hab
  refine callD_W (fn := ir16) rfl rfl rfl ?_
  unfold ir16
  simp (disch := omega) only [evA, argsV, argsOK, partsV, elemsV, optV, evOper, evOp, evAppend, IArg.eval, AS.putD, ↓reduceIte, Nat.reduceEqDiff, Option.isSome, Option.isNone, cond_true, cond_false, Nat.reduceBEq, Nat.reduceAdd, Nat.reduceMul, binInt, binStr, eq_self, reduceCtorEq, unAV, lenAV, convAV, sliceAV, bound, isCon, AS.spent, liveAddr, offAddr, elemsOf, Nat.reduceLeDiff, nilCmp, putAt, Int.reduceEq, Int.reduceLT, Int.reduceLE, Int.reduceBEq, Int.reduceBNe, Int.reduceAdd, Int.reduceNeg, Int.reduceSub, Int.reduceMul, ilt_t, ilt_f, ile_t, ile_f, ieq_t, ieq_f, ine_t, ine_f, rules_len]
  refine W_countx a.length 0 (fun i => Hd (fun T => T 0 = .slice (encRules a) false ∧ T 1 = .slice (encRules a) false ∧ T 5 = .int .i64 i) H H.length 0) (Hd (fun T => True) H H.length 0) (fun _ => False) ?_ ?_ (fun _ h => h.elim) 0 _ (by omega) ?_
  · rintro i st hi hst
    obtain ⟨T, rfl, h0, h1, h5⟩ := hst.out
    by_cases h : i < a.length
    · have hg := rules_at (List.getElem?_eq_getElem h)
      have hrk := hr _ (List.getElem_mem h)
      generalize a[i] = r at hg hrk
      simp (disch := omega) only [evA, argsV, argsOK, partsV, elemsV, optV, evOper, evOp, evAppend, IArg.eval, AS.putD, ↓reduceIte, Nat.reduceEqDiff, Option.isSome, Option.isNone, cond_true, cond_false, Nat.reduceBEq, Nat.reduceAdd, Nat.reduceMul, binInt, binStr, eq_self, reduceCtorEq, unAV, lenAV, convAV, sliceAV, bound, isCon, AS.spent, liveAddr, offAddr, elemsOf, Nat.reduceLeDiff, nilCmp, putAt, Int.reduceEq, Int.reduceLT, Int.reduceLE, Int.reduceBEq, Int.reduceBNe, Int.reduceAdd, Int.reduceNeg, Int.reduceSub, Int.reduceMul, ilt_t, ilt_f, ile_t, ile_f, ieq_t, ieq_f, ine_t, ine_f, h0, h1, h5, rules_len, hg, encRule, sameInts_D r.who r.who H (by omega), beq_self_eq_true, bne_self_eq_false]
      exact h
    · have : i = a.length := by omega
      subst this
      simp (disch := omega) only [evA, argsV, argsOK, partsV, elemsV, optV, evOper, evOp, evAppend, IArg.eval, AS.putD, ↓reduceIte, Nat.reduceEqDiff, Option.isSome, Option.isNone, cond_true, cond_false, Nat.reduceBEq, Nat.reduceAdd, Nat.reduceMul, binInt, binStr, eq_self, reduceCtorEq, unAV, lenAV, convAV, sliceAV, bound, isCon, AS.spent, liveAddr, offAddr, elemsOf, Nat.reduceLeDiff, nilCmp, putAt, Int.reduceEq, Int.reduceLT, Int.reduceLE, Int.reduceBEq, Int.reduceBNe, Int.reduceAdd, Int.reduceNeg, Int.reduceSub, Int.reduceMul, ilt_t, ilt_f, ile_t, ile_f, ieq_t, ieq_f, ine_t, ine_f, h0, h1, h5, rules_len]
  · intro st hst
    obtain ⟨T, rfl, _⟩ := hst.out
    simp (disch := omega) only [evA, argsV, argsOK, partsV, elemsV, optV, evOper, evOp, evAppend, IArg.eval, AS.putD, ↓reduceIte, Nat.reduceEqDiff, Option.isSome, Option.isNone, cond_true, cond_false, Nat.reduceBEq, Nat.reduceAdd, Nat.reduceMul, binInt, binStr, eq_self, reduceCtorEq, unAV, lenAV, convAV, sliceAV, bound, isCon, AS.spent, liveAddr, offAddr, elemsOf, Nat.reduceLeDiff, nilCmp, putAt, Int.reduceEq, Int.reduceLT, Int.reduceLE, Int.reduceBEq, Int.reduceBNe, Int.reduceAdd, Int.reduceNeg, Int.reduceSub, Int.reduceMul]
  · simp (disch := omega) only [evA, argsV, argsOK, partsV, elemsV, optV, evOper, evOp, evAppend, IArg.eval, AS.putD, ↓reduceIte, Nat.reduceEqDiff, Option.isSome, Option.isNone, cond_true, cond_false, Nat.reduceBEq, Nat.reduceAdd, Nat.reduceMul, binInt, binStr, eq_self, reduceCtorEq, unAV, lenAV, convAV, sliceAV, bound, isCon, AS.spent, liveAddr, offAddr, elemsOf, Nat.reduceLeDiff, nilCmp, putAt, Int.reduceEq, Int.reduceLT, Int.reduceLE, Int.reduceBEq, Int.reduceBNe, Int.reduceAdd, Int.reduceNeg, Int.reduceSub, Int.reduceMul, Int.natCast_zero]

theorem lit8 : ∀ j : Nat, j < 8 → ∃ x : Str, ([[.str []], [.str [32]], [.str [10]], [.str [32, 32]], [.str [35, 32, 97, 32, 40, 98, 10]], [.str [32, 35, 10, 32]], [.str [10, 10]], [.str [35, 255, 35, 32, 49, 10]]] : List (List AV))[j]? = some [.str x] ∧ x.length ≤ 7
  | 0, _ => ⟨_, rfl, by decide⟩
  | 1, _ => ⟨_, rfl, by decide⟩
  | 2, _ => ⟨_, rfl, by decide⟩
  | 3, _ => ⟨_, rfl, by decide⟩
  | 4, _ => ⟨_, rfl, by decide⟩
  | 5, _ => ⟨_, rfl, by decide⟩
  | 6, _ => ⟨_, rfl, by decide⟩
  | 7, _ => ⟨_, rfl, by decide⟩
  | j + 8, h => absurd h (by omega)

theorem gap_D (n some' : Int) (H : AHeap) (hn : I64 n) : ∃ r, callD A 12 [.int .i64 n, .int .i64 some'] H = some r ∧ ∃ s : Str, r = (.str s, none) ∧ s.length ≤ 14 := by
  refine callD_WP (fn := ir12) rfl rfl rfl ?_
  unfold ir12
  have hr := around_range (n := n) (k := 1000000) (by omega)
  simp (disch := omega) only [evA, argsV, argsOK, partsV, elemsV, optV, evOper, evOp, evAppend, IArg.eval, AS.putD, ↓reduceIte, Nat.reduceEqDiff, Option.isSome, Option.isNone, cond_true, cond_false, Nat.reduceBEq, Nat.reduceAdd, Nat.reduceMul, binInt, binStr, eq_self, reduceCtorEq, unAV, lenAV, convAV, sliceAV, bound, isCon, AS.spent, liveAddr, offAddr, elemsOf, Nat.reduceLeDiff, nilCmp, putAt, Int.reduceEq, Int.reduceLT, Int.reduceLE, Int.reduceBEq, Int.reduceBNe, Int.reduceAdd, Int.reduceNeg, Int.reduceSub, Int.reduceMul, ilt_t, ilt_f, ile_t, ile_f, ieq_t, ieq_f, ine_t, ine_f, around_D n 1000000 H hn (by omega)]
  generalize around n 1000000 = k at hr
  have h8 : k.tmod 8 = ((k.toNat % 8 : Nat) : Int) := by rw [Int.tmod_eq_emod_of_nonneg hr.1]; omega
  have hq : k.tdiv 8 = ((k.toNat / 8 : Nat) : Int) := by rw [Int.tdiv_eq_ediv_of_nonneg hr.1]; omega
  have hq8 : (((k.toNat / 8 : Nat) : Int)).tmod 8 = ((k.toNat / 8 % 8 : Nat) : Int) := by rw [Int.tmod_eq_emod_of_nonneg (by omega)]; omega
  have h3 : k.tmod 3 = k % 3 := Int.tmod_eq_emod_of_nonneg hr.1
  obtain ⟨x, hx, hxl⟩ := lit8 (k.toNat % 8) (by omega)
  obtain ⟨y, hy, hyl⟩ := lit8 (k.toNat / 8 % 8) (by omega)
  generalize k.toNat % 8 = i at h8 hx
  generalize k.toNat / 8 % 8 = j at hq8 hy
  by_cases hk3 : k % 3 = 0
  · have hzl : (x ++ y).length ≤ 14 := by rw [List.length_append]; omega
    generalize hz : x ++ y = z at hzl
    by_cases he : z = []
    · have he' : (z == []) = true := by simp [he]
      by_cases hs : some' = 0
      · simp (disch := omega) only [evA, argsV, argsOK, partsV, elemsV, optV, evOper, evOp, evAppend, IArg.eval, AS.putD, ↓reduceIte, Nat.reduceEqDiff, Option.isSome, Option.isNone, cond_true, cond_false, Nat.reduceBEq, Nat.reduceAdd, Nat.reduceMul, binInt, binStr, eq_self, reduceCtorEq, unAV, lenAV, convAV, sliceAV, bound, isCon, AS.spent, liveAddr, offAddr, elemsOf, Nat.reduceLeDiff, nilCmp, putAt, Int.reduceEq, Int.reduceLT, Int.reduceLE, Int.reduceBEq, Int.reduceBNe, Int.reduceAdd, Int.reduceNeg, Int.reduceSub, Int.reduceMul, ilt_t, ilt_f, ile_t, ile_f, ieq_t, ieq_f, ine_t, ine_f, h8, h3, hx, hk3, hq, hq8, hy, hz, he', hs]
        exact ⟨_, rfl, by omega⟩
      · simp (disch := omega) only [evA, argsV, argsOK, partsV, elemsV, optV, evOper, evOp, evAppend, IArg.eval, AS.putD, ↓reduceIte, Nat.reduceEqDiff, Option.isSome, Option.isNone, cond_true, cond_false, Nat.reduceBEq, Nat.reduceAdd, Nat.reduceMul, binInt, binStr, eq_self, reduceCtorEq, unAV, lenAV, convAV, sliceAV, bound, isCon, AS.spent, liveAddr, offAddr, elemsOf, Nat.reduceLeDiff, nilCmp, putAt, Int.reduceEq, Int.reduceLT, Int.reduceLE, Int.reduceBEq, Int.reduceBNe, Int.reduceAdd, Int.reduceNeg, Int.reduceSub, Int.reduceMul, ilt_t, ilt_f, ile_t, ile_f, ieq_t, ieq_f, ine_t, ine_f, h8, h3, hx, hk3, hq, hq8, hy, hz, he', hs]
        exact ⟨_, rfl, by decide⟩
    · have he' : (z == []) = false := by simpa using he
      simp (disch := omega) only [evA, argsV, argsOK, partsV, elemsV, optV, evOper, evOp, evAppend, IArg.eval, AS.putD, ↓reduceIte, Nat.reduceEqDiff, Option.isSome, Option.isNone, cond_true, cond_false, Nat.reduceBEq, Nat.reduceAdd, Nat.reduceMul, binInt, binStr, eq_self, reduceCtorEq, unAV, lenAV, convAV, sliceAV, bound, isCon, AS.spent, liveAddr, offAddr, elemsOf, Nat.reduceLeDiff, nilCmp, putAt, Int.reduceEq, Int.reduceLT, Int.reduceLE, Int.reduceBEq, Int.reduceBNe, Int.reduceAdd, Int.reduceNeg, Int.reduceSub, Int.reduceMul, ilt_t, ilt_f, ile_t, ile_f, ieq_t, ieq_f, ine_t, ine_f, h8, h3, hx, hk3, hq, hq8, hy, hz, he']
      exact ⟨_, rfl, by omega⟩
  · by_cases he : x = []
    · have he' : (x == []) = true := by simp [he]
      by_cases hs : some' = 0
      · simp (disch := omega) only [evA, argsV, argsOK, partsV, elemsV, optV, evOper, evOp, evAppend, IArg.eval, AS.putD, ↓reduceIte, Nat.reduceEqDiff, Option.isSome, Option.isNone, cond_true, cond_false, Nat.reduceBEq, Nat.reduceAdd, Nat.reduceMul, binInt, binStr, eq_self, reduceCtorEq, unAV, lenAV, convAV, sliceAV, bound, isCon, AS.spent, liveAddr, offAddr, elemsOf, Nat.reduceLeDiff, nilCmp, putAt, Int.reduceEq, Int.reduceLT, Int.reduceLE, Int.reduceBEq, Int.reduceBNe, Int.reduceAdd, Int.reduceNeg, Int.reduceSub, Int.reduceMul, ilt_t, ilt_f, ile_t, ile_f, ieq_t, ieq_f, ine_t, ine_f, h8, h3, hx, hk3, he', hs]
        exact ⟨_, rfl, by omega⟩
      · simp (disch := omega) only [evA, argsV, argsOK, partsV, elemsV, optV, evOper, evOp, evAppend, IArg.eval, AS.putD, ↓reduceIte, Nat.reduceEqDiff, Option.isSome, Option.isNone, cond_true, cond_false, Nat.reduceBEq, Nat.reduceAdd, Nat.reduceMul, binInt, binStr, eq_self, reduceCtorEq, unAV, lenAV, convAV, sliceAV, bound, isCon, AS.spent, liveAddr, offAddr, elemsOf, Nat.reduceLeDiff, nilCmp, putAt, Int.reduceEq, Int.reduceLT, Int.reduceLE, Int.reduceBEq, Int.reduceBNe, Int.reduceAdd, Int.reduceNeg, Int.reduceSub, Int.reduceMul, ilt_t, ilt_f, ile_t, ile_f, ieq_t, ieq_f, ine_t, ine_f, h8, h3, hx, hk3, he', hs]
        exact ⟨_, rfl, by decide⟩
    · have he' : (x == []) = false := by simpa using he
      simp (disch := omega) only [evA, argsV, argsOK, partsV, elemsV, optV, evOper, evOp, evAppend, IArg.eval, AS.putD, ↓reduceIte, Nat.reduceEqDiff, Option.isSome, Option.isNone, cond_true, cond_false, Nat.reduceBEq, Nat.reduceAdd, Nat.reduceMul, binInt, binStr, eq_self, reduceCtorEq, unAV, lenAV, convAV, sliceAV, bound, isCon, AS.spent, liveAddr, offAddr, elemsOf, Nat.reduceLeDiff, nilCmp, putAt, Int.reduceEq, Int.reduceLT, Int.reduceLE, Int.reduceBEq, Int.reduceBNe, Int.reduceAdd, Int.reduceNeg, Int.reduceSub, Int.reduceMul, ilt_t, ilt_f, ile_t, ile_f, ieq_t, ieq_f, ine_t, ine_f, h8, h3, hx, hk3, he']
      exact ⟨_, rfl, by omega⟩

end Go.Proofs.YtgdcfgpddgedkaaDoor

/-! Equations of functions, 15: the reader of rules. -/
namespace Go.Proofs.YtgdcfgpddgedkaaDoor
open Go Go.Abs Go.Proofs

def nextS : List Tok → Str
  | [] => []
  | t :: _ => t.text

/-- The reader. -/
def rd (l : List Tok) (bad : Bool) : AObj := .box 60 [.slice (encToks l) false, .bool bad]

theorem next_D (H : AHeap) (l : List Tok) (bad : Bool) (hl : l.length ≤ 1000000000) : callD A 48 [.ref H.length 0] (H ++ [rd l bad]) = some (.str (nextS l), none) := by
  refine callD_W (fn := ir48) rfl rfl rfl ?_
  unfold ir48
  cases l with
  | nil => simp (disch := omega) only [evA, argsV, argsOK, partsV, elemsV, optV, evOper, evOp, evAppend, IArg.eval, AS.putD, ↓reduceIte, Nat.reduceEqDiff, Option.isSome, Option.isNone, cond_true, cond_false, Nat.reduceBEq, Nat.reduceAdd, Nat.reduceMul, binInt, binStr, eq_self, reduceCtorEq, unAV, lenAV, convAV, sliceAV, bound, isCon, AS.spent, liveAddr, offAddr, elemsOf, Nat.reduceLeDiff, nilCmp, putAt, Int.reduceEq, Int.reduceLT, Int.reduceLE, Int.reduceBEq, Int.reduceBNe, Int.reduceAdd, Int.reduceNeg, Int.reduceSub, Int.reduceMul, ilt_t, ilt_f, ile_t, ile_f, ieq_t, ieq_f, ine_t, ine_f, List.length_append, loadAV, rd, get_last, set_last, loadCellsAV, takenAt, List.modify_succ_cons, List.modify_zero_cons, toks_len, nextS]
  | cons t l =>
    simp only [List.length_cons] at hl
    simp (disch := omega) only [evA, argsV, argsOK, partsV, elemsV, optV, evOper, evOp, evAppend, IArg.eval, AS.putD, ↓reduceIte, Nat.reduceEqDiff, Option.isSome, Option.isNone, cond_true, cond_false, Nat.reduceBEq, Nat.reduceAdd, Nat.reduceMul, binInt, binStr, eq_self, reduceCtorEq, unAV, lenAV, convAV, sliceAV, bound, isCon, AS.spent, liveAddr, offAddr, elemsOf, Nat.reduceLeDiff, nilCmp, putAt, Int.reduceEq, Int.reduceLT, Int.reduceLE, Int.reduceBEq, Int.reduceBNe, Int.reduceAdd, Int.reduceNeg, Int.reduceSub, Int.reduceMul, ilt_t, ilt_f, ile_t, ile_f, ieq_t, ieq_f, ine_t, ine_f, List.length_append, loadAV, rd, get_last, set_last, loadCellsAV, takenAt, List.modify_succ_cons, List.modify_zero_cons, toks_len, nextS, toks_at (l := t :: l) (i := 0) rfl, encTok]

/-- Taking a token, if it's right. -/
def takeS (right : Bool) (l : List Tok) (bad : Bool) : Str × List Tok × Bool := if bad = true ∨ right = false ∨ nextS l = [] then ([], l, true) else (nextS l, l.tail, false)

theorem take_D (H : AHeap) (l : List Tok) (right bad : Bool) (hl : l.length ≤ 1000000000) : callD A 47 [.ref H.length 0, .bool right] (H ++ [rd l bad]) =
    some (.str (takeS right l bad).1, some ⟨H ++ [rd (takeS right l bad).2.1 (takeS right l bad).2.2], H.length⟩) := by
  refine callD_W (fn := ir47) rfl rfl rfl ?_
  unfold ir47
  have hn := next_D H l bad hl
  cases bad with
  | true =>
    simp (disch := omega) only [evA, argsV, argsOK, partsV, elemsV, optV, evOper, evOp, evAppend, IArg.eval, AS.putD, ↓reduceIte, Nat.reduceEqDiff, Option.isSome, Option.isNone, cond_true, cond_false, Nat.reduceBEq, Nat.reduceAdd, Nat.reduceMul, binInt, binStr, eq_self, reduceCtorEq, unAV, lenAV, convAV, sliceAV, bound, isCon, AS.spent, liveAddr, offAddr, elemsOf, Nat.reduceLeDiff, nilCmp, putAt, Int.reduceEq, Int.reduceLT, Int.reduceLE, Int.reduceBEq, Int.reduceBNe, Int.reduceAdd, Int.reduceNeg, Int.reduceSub, Int.reduceMul, ilt_t, ilt_f, ile_t, ile_f, ieq_t, ieq_f, ine_t, ine_f, List.length_append, hn, takeS, true_or, if_true]
    simp (disch := omega) only [evA, argsV, argsOK, partsV, elemsV, optV, evOper, evOp, evAppend, IArg.eval, AS.putD, ↓reduceIte, Nat.reduceEqDiff, Option.isSome, Option.isNone, cond_true, cond_false, Nat.reduceBEq, Nat.reduceAdd, Nat.reduceMul, binInt, binStr, eq_self, reduceCtorEq, unAV, lenAV, convAV, sliceAV, bound, isCon, AS.spent, liveAddr, offAddr, elemsOf, Nat.reduceLeDiff, nilCmp, putAt, Int.reduceEq, Int.reduceLT, Int.reduceLE, Int.reduceBEq, Int.reduceBNe, Int.reduceAdd, Int.reduceNeg, Int.reduceSub, Int.reduceMul, ilt_t, ilt_f, ile_t, ile_f, ieq_t, ieq_f, ine_t, ine_f, List.length_append, loadAV, rd, get_last, set_last, loadCellsAV, takenAt, List.modify_succ_cons, List.modify_zero_cons, storeAV, heapCell, Nat.lt_irrefl, Nat.lt_add_one, take_last', Nat.le_refl]
  | false =>
    cases right with
    | false =>
      simp (disch := omega) only [evA, argsV, argsOK, partsV, elemsV, optV, evOper, evOp, evAppend, IArg.eval, AS.putD, ↓reduceIte, Nat.reduceEqDiff, Option.isSome, Option.isNone, cond_true, cond_false, Nat.reduceBEq, Nat.reduceAdd, Nat.reduceMul, binInt, binStr, eq_self, reduceCtorEq, unAV, lenAV, convAV, sliceAV, bound, isCon, AS.spent, liveAddr, offAddr, elemsOf, Nat.reduceLeDiff, nilCmp, putAt, Int.reduceEq, Int.reduceLT, Int.reduceLE, Int.reduceBEq, Int.reduceBNe, Int.reduceAdd, Int.reduceNeg, Int.reduceSub, Int.reduceMul, ilt_t, ilt_f, ile_t, ile_f, ieq_t, ieq_f, ine_t, ine_f, List.length_append, hn, takeS, true_or, or_true, if_true]
      simp (disch := omega) only [evA, argsV, argsOK, partsV, elemsV, optV, evOper, evOp, evAppend, IArg.eval, AS.putD, ↓reduceIte, Nat.reduceEqDiff, Option.isSome, Option.isNone, cond_true, cond_false, Nat.reduceBEq, Nat.reduceAdd, Nat.reduceMul, binInt, binStr, eq_self, reduceCtorEq, unAV, lenAV, convAV, sliceAV, bound, isCon, AS.spent, liveAddr, offAddr, elemsOf, Nat.reduceLeDiff, nilCmp, putAt, Int.reduceEq, Int.reduceLT, Int.reduceLE, Int.reduceBEq, Int.reduceBNe, Int.reduceAdd, Int.reduceNeg, Int.reduceSub, Int.reduceMul, ilt_t, ilt_f, ile_t, ile_f, ieq_t, ieq_f, ine_t, ine_f, List.length_append, loadAV, rd, get_last, set_last, loadCellsAV, takenAt, List.modify_succ_cons, List.modify_zero_cons, storeAV, heapCell, Nat.lt_irrefl, Nat.lt_add_one, take_last', Nat.le_refl]
    | true =>
      by_cases he : nextS l = []
      · have e : takeS true l false = ([], l, true) := by simp [takeS, he]
        rw [he] at hn
        rw [e]
        simp (disch := omega) only [evA, argsV, argsOK, partsV, elemsV, optV, evOper, evOp, evAppend, IArg.eval, AS.putD, ↓reduceIte, Nat.reduceEqDiff, Option.isSome, Option.isNone, cond_true, cond_false, Nat.reduceBEq, Nat.reduceAdd, Nat.reduceMul, binInt, binStr, eq_self, reduceCtorEq, unAV, lenAV, convAV, sliceAV, bound, isCon, AS.spent, liveAddr, offAddr, elemsOf, Nat.reduceLeDiff, nilCmp, putAt, Int.reduceEq, Int.reduceLT, Int.reduceLE, Int.reduceBEq, Int.reduceBNe, Int.reduceAdd, Int.reduceNeg, Int.reduceSub, Int.reduceMul, ilt_t, ilt_f, ile_t, ile_f, ieq_t, ieq_f, ine_t, ine_f, List.length_append, hn]
        simp (disch := omega) only [evA, argsV, argsOK, partsV, elemsV, optV, evOper, evOp, evAppend, IArg.eval, AS.putD, ↓reduceIte, Nat.reduceEqDiff, Option.isSome, Option.isNone, cond_true, cond_false, Nat.reduceBEq, Nat.reduceAdd, Nat.reduceMul, binInt, binStr, eq_self, reduceCtorEq, unAV, lenAV, convAV, sliceAV, bound, isCon, AS.spent, liveAddr, offAddr, elemsOf, Nat.reduceLeDiff, nilCmp, putAt, Int.reduceEq, Int.reduceLT, Int.reduceLE, Int.reduceBEq, Int.reduceBNe, Int.reduceAdd, Int.reduceNeg, Int.reduceSub, Int.reduceMul, ilt_t, ilt_f, ile_t, ile_f, ieq_t, ieq_f, ine_t, ine_f, List.length_append, loadAV, rd, get_last, set_last, loadCellsAV, takenAt, List.modify_succ_cons, List.modify_zero_cons, storeAV, heapCell, Nat.lt_irrefl, Nat.lt_add_one, take_last', Nat.le_refl]
      · have e : takeS true l false = (nextS l, l.tail, false) := by simp [takeS, he]
        have he' : (nextS l == []) = false := by simpa using he
        cases l with
        | nil => exact absurd rfl he
        | cons t l =>
          simp only [List.length_cons] at hl
          have hh : headOk 2 (encToks (t :: l)) = true := headOk_of toks_rows.1
          have hd : (encToks (t :: l)).drop 1 = encToks l := rfl
          have hd2 : (encToks (t :: l)).take (l.length + 1) = encToks (t :: l) := List.take_of_length_le (by rw [toks_len, List.length_cons]; exact Nat.le_refl _)
          rw [e]
          generalize nextS (t :: l) = x at hn he'
          simp (disch := omega) only [evA, argsV, argsOK, partsV, elemsV, optV, evOper, evOp, evAppend, IArg.eval, AS.putD, ↓reduceIte, Nat.reduceEqDiff, Option.isSome, Option.isNone, cond_true, cond_false, Nat.reduceBEq, Nat.reduceAdd, Nat.reduceMul, binInt, binStr, eq_self, reduceCtorEq, unAV, lenAV, convAV, sliceAV, bound, isCon, AS.spent, liveAddr, offAddr, elemsOf, Nat.reduceLeDiff, nilCmp, putAt, Int.reduceEq, Int.reduceLT, Int.reduceLE, Int.reduceBEq, Int.reduceBNe, Int.reduceAdd, Int.reduceNeg, Int.reduceSub, Int.reduceMul, ilt_t, ilt_f, ile_t, ile_f, ieq_t, ieq_f, ine_t, ine_f, List.length_append, hn, he']
          simp (disch := omega) only [evA, argsV, argsOK, partsV, elemsV, optV, evOper, evOp, evAppend, IArg.eval, AS.putD, ↓reduceIte, Nat.reduceEqDiff, Option.isSome, Option.isNone, cond_true, cond_false, Nat.reduceBEq, Nat.reduceAdd, Nat.reduceMul, binInt, binStr, eq_self, reduceCtorEq, unAV, lenAV, convAV, sliceAV, bound, isCon, AS.spent, liveAddr, offAddr, elemsOf, Nat.reduceLeDiff, nilCmp, putAt, Int.reduceEq, Int.reduceLT, Int.reduceLE, Int.reduceBEq, Int.reduceBNe, Int.reduceAdd, Int.reduceNeg, Int.reduceSub, Int.reduceMul, ilt_t, ilt_f, ile_t, ile_f, ieq_t, ieq_f, ine_t, ine_f, List.length_append, loadAV, rd, get_last, set_last, loadCellsAV, takenAt, List.modify_succ_cons, List.modify_zero_cons, storeAV, heapCell, Nat.lt_irrefl, Nat.lt_add_one, take_last', Nat.le_refl, toks_len, hh, hd, hd2, List.tail_cons, he']

/-! ### numbers -/

theorem atoi_D (s : Str) (H : AHeap) (hs : s.length ≤ 281474976710656) : callD A 58 [.str s] H = (match Lib.atoiAll s with
    | .ok v => some (.tuple [.int .i64 v, .niliface], none)
    | .range => some (.tuple [.int .i64 (Lib.atoiSat s), .iface 114 .any], none)
    | _ => some (.tuple [.int .i64 0, .iface 114 .any], none)) := by
  have hb : Nat.ble s.length 281474976710656 = true := by simpa [Nat.ble_eq] using hs
  cases h : Lib.atoiAll s <;> exact callD_ov (g := ovAtoi) rfl (by simp only [ovAtoi, hb, cond_true, h])

theorem digit_all : ∀ c : UInt8, 48 ≤ c.toNat → c.toNat ≤ 57 → Lib.atoiAll [c] = .ok ((c.toNat : Int) - 48) := by
  intro c h1 h2
  have : ∀ n : Nat, 48 ≤ n → n ≤ 57 → Lib.atoiAll [UInt8.ofNat n] = .ok ((n : Int) - 48) := by
    intro n h1 h2
    have hk : ∀ k : Fin 10, Lib.atoiAll [UInt8.ofNat (48 + k.val)] = .ok (k.val : Int) := by decide +kernel
    have := hk ⟨n - 48, by omega⟩
    simp only at this
    rw [show 48 + (n - 48) = n by omega] at this
    rw [this]
    congr 1
    omega
  have h := this c.toNat h1 h2
  rwa [UInt8.ofNat_toNat] at h

theorem itoa_num {v : Int} (h0 : 0 ≤ v) (h9 : v ≤ 9) : itoaF v = [UInt8.ofNat (48 + v.toNat)] := by
  have : ∀ k : Fin 10, itoaF (k.val : Int) = [UInt8.ofNat (48 + k.val)] := by decide +kernel
  have := this ⟨v.toNat, by omega⟩
  simp only at this
  rwa [Int.toNat_of_nonneg h0] at this

theorem numOf_dig {v : Int} (h0 : 0 ≤ v) (h9 : v ≤ 9) : numOf [UInt8.ofNat (48 + v.toNat)] = v := by
  have h : (UInt8.ofNat (48 + v.toNat)).toNat = 48 + v.toNat := by rw [UInt8.toNat_ofNat']; omega
  simp only [numOf, h]
  rw [if_pos (by omega)]
  omega

/-- What the reader asks of a number. -/
def numIs (lo hi : Int) (s : Str) : Bool := decide (lo ≤ numOf s) && decide (numOf s ≤ hi)

/-- The digits. -/
theorem numOf_some {s : Str} (h : 0 ≤ numOf s) : Lib.atoiAll s = .ok (numOf s) ∧ itoaF (numOf s) = s := by
  unfold numOf at h ⊢
  split at h
  · rename_i c
    split at h
    · rename_i hc
      simp only [if_pos hc]
      refine ⟨digit_all c hc.1 hc.2, ?_⟩
      rw [itoa_num (by omega) (by omega)]
      congr 1
      rw [show 48 + ((c.toNat : Int) - 48).toNat = c.toNat by omega, UInt8.ofNat_toNat]
    · omega
  · omega

/-- A number that is written as it should be, and in its bounds, is a digit. -/
theorem num_iff {s : Str} {v lo hi : Int} (h0 : 0 ≤ lo) (h9 : hi ≤ 9) (h : Lib.atoiAll s = .ok v) : (itoaF v = s ∧ lo ≤ v ∧ v ≤ hi) ↔ numIs lo hi s = true := by
  simp only [numIs, Bool.and_eq_true, decide_eq_true_eq]
  constructor
  · rintro ⟨h1, h2, h3⟩
    have : numOf s = v := by
      rw [← h1, itoa_num (by omega) (by omega)]
      exact numOf_dig (by omega) (by omega)
    omega
  · rintro ⟨h1, h2⟩
    obtain ⟨k1, k2⟩ := numOf_some (s := s) (by omega)
    rw [h] at k1
    injection k1 with k1
    rw [k1]
    exact ⟨k2, h1, h2⟩

theorem r_nn : binAV .eql .iface true .niliface .niliface = some (.bool true) := rfl
theorem r_in {t : TypeId} {v : AV} : binAV .eql .iface true (.iface t v) .niliface = some (.bool false) := rfl

theorem atoi_range64 {s : Str} {v : Int} (h : Lib.atoiAll s = .ok v) : I64 v := by
  unfold Lib.atoiAll at h
  split at h
  · cases h
  · simp only at h
    split at h
    · cases h
    · cases h
    · rename_i u _
      split at h
      · cases h
      · split at h
        · cases h
        · rename_i h1 h2
          injection h with h
          split at h
          · rename_i hn
            have : ¬ 9223372036854775808 < u := fun e => h2 ⟨hn, e⟩
            constructor <;> omega
          · rename_i hn
            have : ¬ 9223372036854775808 ≤ u := fun e => h1 ⟨hn, e⟩
            constructor <;> omega

/-- The reader's number. -/
theorem number_D (H : AHeap) (l : List Tok) (bad : Bool) (lo hi : Int) (hl : l.length ≤ 1000000000) (ht : (nextS l).length ≤ 1000000) (h0 : 0 ≤ lo) (h0' : lo ≤ 100) (h9 : hi ≤ 9) (hh0 : 0 ≤ hi) :
    ∃ r, callD A 49 [.ref H.length 0, .int .i64 lo, .int .i64 hi] (H ++ [rd l bad]) = some r ∧
      ∃ v, r = (.int .i64 v, some ⟨H ++ [rd (takeS (numIs lo hi (nextS l)) l bad).2.1 (takeS (numIs lo hi (nextS l)) l bad).2.2], H.length⟩) ∧ I64 v ∧ (numIs lo hi (nextS l) = true → v = numOf (nextS l)) := by
  refine callD_WP (fn := ir49) rfl rfl rfl ?_
  unfold ir49
  have hn := next_D H l bad hl
  have ha := atoi_D (nextS l) (H ++ [rd l bad]) (by omega)
  have hk := fun b => take_D H l b bad hl
  generalize nextS l = s at hn ha ht
  have hnn : (∀ v, Lib.atoiAll s ≠ .ok v) → numIs lo hi s = false := fun hne => by
    cases hb : numIs lo hi s with
    | false => rfl
    | true =>
      simp only [numIs, Bool.and_eq_true, decide_eq_true_eq] at hb
      exact absurd (numOf_some (s := s) (by omega)).1 (hne _)
  cases hv : Lib.atoiAll s with
  | ok v =>
    rw [hv] at ha
    simp only at ha
    have hr := atoi_range64 hv
    have hi' := itoa_D v (H ++ [rd l bad]) hr
    have hiff := num_iff (lo := lo) h0 h9 hv
    have hval : numIs lo hi s = true → v = numOf s := fun hb => by
      simp only [numIs, Bool.and_eq_true, decide_eq_true_eq] at hb
      have := (numOf_some (s := s) (by omega)).1
      rw [hv] at this
      injection this
    by_cases h1 : itoaF v = s
    · have h1' : (itoaF v == s) = true := by simpa using h1
      by_cases h2 : lo ≤ v
      · by_cases h3 : v ≤ hi
        · have hb : numIs lo hi s = true := hiff.1 ⟨h1, h2, h3⟩
          rw [hb]
          simp (disch := omega) only [evA, argsV, argsOK, partsV, elemsV, optV, evOper, evOp, evAppend, IArg.eval, AS.putD, ↓reduceIte, Nat.reduceEqDiff, Option.isSome, Option.isNone, cond_true, cond_false, Nat.reduceBEq, Nat.reduceAdd, Nat.reduceMul, binInt, binStr, eq_self, reduceCtorEq, unAV, lenAV, convAV, sliceAV, bound, isCon, AS.spent, liveAddr, offAddr, elemsOf, Nat.reduceLeDiff, nilCmp, putAt, Int.reduceEq, Int.reduceLT, Int.reduceLE, Int.reduceBEq, Int.reduceBNe, Int.reduceAdd, Int.reduceNeg, Int.reduceSub, Int.reduceMul, ilt_t, ilt_f, ile_t, ile_f, ieq_t, ieq_f, ine_t, ine_f, hn, ha, hi', h1', hk, r_nn, r_in, List.length_append, Nat.lt_irrefl, Nat.lt_add_one, Nat.le_refl, take_last']
          exact ⟨v, rfl, hr, fun _ => hval hb⟩
        · have hb : numIs lo hi s = false := by cases hb : numIs lo hi s with | false => rfl | true => exact absurd (hiff.2 hb).2.2 h3
          rw [hb]
          simp (disch := omega) only [evA, argsV, argsOK, partsV, elemsV, optV, evOper, evOp, evAppend, IArg.eval, AS.putD, ↓reduceIte, Nat.reduceEqDiff, Option.isSome, Option.isNone, cond_true, cond_false, Nat.reduceBEq, Nat.reduceAdd, Nat.reduceMul, binInt, binStr, eq_self, reduceCtorEq, unAV, lenAV, convAV, sliceAV, bound, isCon, AS.spent, liveAddr, offAddr, elemsOf, Nat.reduceLeDiff, nilCmp, putAt, Int.reduceEq, Int.reduceLT, Int.reduceLE, Int.reduceBEq, Int.reduceBNe, Int.reduceAdd, Int.reduceNeg, Int.reduceSub, Int.reduceMul, ilt_t, ilt_f, ile_t, ile_f, ieq_t, ieq_f, ine_t, ine_f, hn, ha, hi', h1', hk, r_nn, r_in, List.length_append, Nat.lt_irrefl, Nat.lt_add_one, Nat.le_refl, take_last']
          exact ⟨v, rfl, hr, fun h => by cases h⟩
      · have hb : numIs lo hi s = false := by cases hb : numIs lo hi s with | false => rfl | true => exact absurd (hiff.2 hb).2.1 h2
        rw [hb]
        simp (disch := omega) only [evA, argsV, argsOK, partsV, elemsV, optV, evOper, evOp, evAppend, IArg.eval, AS.putD, ↓reduceIte, Nat.reduceEqDiff, Option.isSome, Option.isNone, cond_true, cond_false, Nat.reduceBEq, Nat.reduceAdd, Nat.reduceMul, binInt, binStr, eq_self, reduceCtorEq, unAV, lenAV, convAV, sliceAV, bound, isCon, AS.spent, liveAddr, offAddr, elemsOf, Nat.reduceLeDiff, nilCmp, putAt, Int.reduceEq, Int.reduceLT, Int.reduceLE, Int.reduceBEq, Int.reduceBNe, Int.reduceAdd, Int.reduceNeg, Int.reduceSub, Int.reduceMul, ilt_t, ilt_f, ile_t, ile_f, ieq_t, ieq_f, ine_t, ine_f, hn, ha, hi', h1', hk, r_nn, r_in, List.length_append, Nat.lt_irrefl, Nat.lt_add_one, Nat.le_refl, take_last']
        exact ⟨v, rfl, hr, fun h => by cases h⟩
    · have h1' : (itoaF v == s) = false := by simpa using h1
      have hb : numIs lo hi s = false := by cases hb : numIs lo hi s with | false => rfl | true => exact absurd (hiff.2 hb).1 h1
      rw [hb]
      simp (disch := omega) only [evA, argsV, argsOK, partsV, elemsV, optV, evOper, evOp, evAppend, IArg.eval, AS.putD, ↓reduceIte, Nat.reduceEqDiff, Option.isSome, Option.isNone, cond_true, cond_false, Nat.reduceBEq, Nat.reduceAdd, Nat.reduceMul, binInt, binStr, eq_self, reduceCtorEq, unAV, lenAV, convAV, sliceAV, bound, isCon, AS.spent, liveAddr, offAddr, elemsOf, Nat.reduceLeDiff, nilCmp, putAt, Int.reduceEq, Int.reduceLT, Int.reduceLE, Int.reduceBEq, Int.reduceBNe, Int.reduceAdd, Int.reduceNeg, Int.reduceSub, Int.reduceMul, ilt_t, ilt_f, ile_t, ile_f, ieq_t, ieq_f, ine_t, ine_f, hn, ha, hi', h1', hk, r_nn, r_in, List.length_append, Nat.lt_irrefl, Nat.lt_add_one, Nat.le_refl, take_last']
      exact ⟨v, rfl, hr, fun h => by cases h⟩
  | range =>
    rw [hv] at ha
    simp only at ha
    rw [hnn (by rw [hv]; intro v e; cases e)]
    have hs : I64 (Lib.atoiSat s) := by unfold Lib.atoiSat; split <;> constructor <;> omega
    simp (disch := omega) only [evA, argsV, argsOK, partsV, elemsV, optV, evOper, evOp, evAppend, IArg.eval, AS.putD, ↓reduceIte, Nat.reduceEqDiff, Option.isSome, Option.isNone, cond_true, cond_false, Nat.reduceBEq, Nat.reduceAdd, Nat.reduceMul, binInt, binStr, eq_self, reduceCtorEq, unAV, lenAV, convAV, sliceAV, bound, isCon, AS.spent, liveAddr, offAddr, elemsOf, Nat.reduceLeDiff, nilCmp, putAt, Int.reduceEq, Int.reduceLT, Int.reduceLE, Int.reduceBEq, Int.reduceBNe, Int.reduceAdd, Int.reduceNeg, Int.reduceSub, Int.reduceMul, ilt_t, ilt_f, ile_t, ile_f, ieq_t, ieq_f, ine_t, ine_f, hn, ha, hk, r_nn, r_in, List.length_append, Nat.lt_irrefl, Nat.lt_add_one, Nat.le_refl, take_last']
    exact ⟨_, rfl, hs, fun h => by cases h⟩
  | _ =>
    rw [hv] at ha
    simp only at ha
    rw [hnn (by rw [hv]; intro v e; cases e)]
    simp (disch := omega) only [evA, argsV, argsOK, partsV, elemsV, optV, evOper, evOp, evAppend, IArg.eval, AS.putD, ↓reduceIte, Nat.reduceEqDiff, Option.isSome, Option.isNone, cond_true, cond_false, Nat.reduceBEq, Nat.reduceAdd, Nat.reduceMul, binInt, binStr, eq_self, reduceCtorEq, unAV, lenAV, convAV, sliceAV, bound, isCon, AS.spent, liveAddr, offAddr, elemsOf, Nat.reduceLeDiff, nilCmp, putAt, Int.reduceEq, Int.reduceLT, Int.reduceLE, Int.reduceBEq, Int.reduceBNe, Int.reduceAdd, Int.reduceNeg, Int.reduceSub, Int.reduceMul, ilt_t, ilt_f, ile_t, ile_f, ieq_t, ieq_f, ine_t, ine_f, hn, ha, hk, r_nn, r_in, List.length_append, Nat.lt_irrefl, Nat.lt_add_one, Nat.le_refl, take_last']
    exact ⟨_, rfl, by constructor <;> omega, fun h => by cases h⟩

end Go.Proofs.YtgdcfgpddgedkaaDoor

/-! Equations of functions, 16: the reader's rule. -/
namespace Go.Proofs.YtgdcfgpddgedkaaDoor
open Go Go.Abs Go.Proofs

/-! ### what is read -/

inductive Res where
  | ok (r : Rule) (l : List Tok)
  | bad (l : List Tok)

def expect (p : Str → Bool) (l : List Tok) (k : Str → List Tok → Res) : Res :=
  match l with
  | [] => .bad []
  | t :: r => if p t.text = true then k t.text r else .bad (t :: r)

def whosL (w m : Str) (n : Int) : List Int → Int → List Tok → Res
  | _, _, [] => .bad []
  | who, least, t :: l =>
    if numIs least 7 t.text = true then
      (if n ≤ ((who ++ [numOf t.text]).length : Int) ∧ nextS l ≠ [44] then .ok ⟨w, m, n, who ++ [numOf t.text]⟩ l
       else match l with
        | [] => .bad []
        | c :: l2 => if c.text = [44] then whosL w m n (who ++ [numOf t.text]) (numOf t.text + 1) l2 else .bad (c :: l2))
    else .bad (t :: l)

/-- Behind a workshop. -/
def whosK (w m : Str) (n : Int) (who : List Int) (v : Int) (l : List Tok) : Res :=
  if n ≤ ((who ++ [v]).length : Int) ∧ nextS l ≠ [44] then .ok ⟨w, m, n, who ++ [v]⟩ l
  else expect (fun s => s == [44]) l fun _ l2 => whosL w m n (who ++ [v]) (v + 1) l2

theorem whosL_eq (w m : Str) (n : Int) (who : List Int) (least : Int) (l : List Tok) : whosL w m n who least l = expect (numIs least 7) l fun c l => whosK w m n who (numOf c) l := by
  cases l with
  | nil => rfl
  | cons t l =>
    rw [whosL.eq_def]
    simp only [expect, whosK]
    split
    · split
      · rfl
      · cases l with
        | nil => rfl
        | cons c l2 => simp
    · rfl

def afterMod (w m : Str) (l : List Tok) : Res :=
  expect (fun s => s == [58]) l fun _ l => expect (numIs 1 8) l fun c l => expect (fun s => s == [111, 102]) l fun _ l => whosL w m (numOf c) [] 0 l

def readRule (l : List Tok) : Res :=
  expect isWhat l fun w l => if nextS l = [105, 110] then expect (fun _ => true) l fun _ l => expect isWord l fun m l => afterMod w m l else afterMod w [] l

/-! ### steps -/

/-- Tokens as the scanners hand them over. -/
structure TL (l : List Tok) : Prop where
  text : ∀ t ∈ l, t.text ≠ [] ∧ t.text.length ≤ 8192
  len : l.length ≤ 8192
  before : ∀ t ∈ l, t.before.length ≤ 8192

theorem TL.tail {t : Tok} {l : List Tok} (h : TL (t :: l)) : TL l :=
  ⟨fun x hx => h.text x (List.mem_cons_of_mem _ hx), by have := h.len; simp only [List.length_cons] at this; omega, fun x hx => h.before x (List.mem_cons_of_mem _ hx)⟩

theorem TL.next {l : List Tok} (h : TL l) : (nextS l).length ≤ 8192 := by
  cases l with
  | nil => simp [nextS]
  | cons t l => exact (h.text t List.mem_cons_self).2

/-- Where the reader is: it has met a fault at l, or goes on with X. -/
def At (R : Res) (b : Bool) (l : List Tok) (X : Res) : Prop := if b = true then R = .bad l else R = X

theorem take_at {R : Res} {b : Bool} {l : List Tok} (p : Str → Bool) (k : Str → List Tok → Res) (hT : TL l) (h : At R b l (expect p l k)) (H : AHeap) :
    ∃ x l' b', callD A 47 [.ref H.length 0, .bool (p (nextS l))] (H ++ [rd l b]) = some (.str x, some ⟨H ++ [rd l' b'], H.length⟩) ∧ x.length ≤ 8192 ∧ TL l' ∧ l'.length ≤ l.length ∧ (b' = false → l'.length < l.length ∧ b = false) ∧ At R b' l' (k x l') := by
  refine ⟨_, _, _, take_D H l (p (nextS l)) b (by have := hT.len; omega), ?_⟩
  cases b with
  | true =>
    have e : takeS (p (nextS l)) l true = ([], l, true) := by simp [takeS]
    rw [e]
    exact ⟨by simp, hT, Nat.le_refl _, (fun h => by cases h), h⟩
  | false =>
    have h : R = expect p l k := h
    cases l with
    | nil =>
      have e : takeS (p (nextS [])) [] false = ([], [], true) := by simp [takeS, nextS]
      rw [e]
      exact ⟨by simp, hT, Nat.le_refl _, (fun h => by cases h), h⟩
    | cons t l =>
      have ht := hT.text t List.mem_cons_self
      simp only [expect] at h
      cases hp : p t.text with
      | true =>
        have e : takeS (p (nextS (t :: l))) (t :: l) false = (t.text, l, false) := by simp [takeS, nextS, hp, ht.1]
        rw [e]
        rw [if_pos hp] at h
        exact ⟨ht.2, hT.tail, by simp, fun _ => ⟨by simp, rfl⟩, h⟩
      | false =>
        have e : takeS (p (nextS (t :: l))) (t :: l) false = ([], t :: l, true) := by simp [takeS, nextS, hp]
        rw [e]
        rw [if_neg (by rw [hp]; exact Bool.false_ne_true)] at h
        exact ⟨by simp, hT, Nat.le_refl _, (fun h => by cases h), h⟩

theorem num_at {R : Res} {b : Bool} {l : List Tok} (lo hi : Int) (k : Int → List Tok → Res) (h0 : 0 ≤ lo) (h0' : lo ≤ 100) (h9 : hi ≤ 9) (hh0 : 0 ≤ hi) (hT : TL l) (h : At R b l (expect (numIs lo hi) l fun c l => k (numOf c) l)) (H : AHeap) :
    ∃ v l' b', callD A 49 [.ref H.length 0, .int .i64 lo, .int .i64 hi] (H ++ [rd l b]) = some (.int .i64 v, some ⟨H ++ [rd l' b'], H.length⟩) ∧ I64 v ∧ TL l' ∧ l'.length ≤ l.length ∧ (b' = false → l'.length < l.length ∧ lo ≤ v ∧ v ≤ hi) ∧ At R b' l' (k v l') := by
  obtain ⟨_, hc, v, rfl, hv, hn⟩ := number_D H l b lo hi (by have := hT.len; omega) (by have := hT.next; omega) h0 h0' h9 hh0
  refine ⟨v, _, _, hc, hv, ?_⟩
  cases b with
  | true =>
    have e : takeS (numIs lo hi (nextS l)) l true = ([], l, true) := by simp [takeS]
    rw [e]
    exact ⟨hT, Nat.le_refl _, (fun h => by cases h), h⟩
  | false =>
    have h : R = _ := h
    cases l with
    | nil =>
      have e : takeS (numIs lo hi (nextS [])) [] false = ([], [], true) := by simp [takeS, nextS]
      rw [e]
      exact ⟨hT, Nat.le_refl _, (fun h => by cases h), h⟩
    | cons t l =>
      have ht := hT.text t List.mem_cons_self
      simp only [expect] at h
      cases hp : numIs lo hi t.text with
      | true =>
        have e : takeS (numIs lo hi (nextS (t :: l))) (t :: l) false = (t.text, l, false) := by simp [takeS, nextS, hp, ht.1]
        rw [e]
        rw [if_pos hp] at h
        have hv := hn hp
        simp only [nextS] at hv
        subst hv
        simp only [numIs, Bool.and_eq_true, decide_eq_true_eq] at hp
        exact ⟨hT.tail, by simp, fun _ => ⟨by simp, hp.1, hp.2⟩, h⟩
      | false =>
        have e : takeS (numIs lo hi (nextS (t :: l))) (t :: l) false = ([], t :: l, true) := by simp [takeS, nextS, hp]
        rw [e]
        rw [if_neg (by rw [hp]; exact Bool.false_ne_true)] at h
        exact ⟨hT, Nat.le_refl _, (fun h => by cases h), h⟩

theorem set_last2 {H : AHeap} {o p : AObj} : (H ++ [o]).set H.length p = H ++ [p] := by simp [List.set_append]

/-- How a rule's reading ends. -/
def Fin (R : Res) (b : Bool) (l : List Tok) (x : Rule) : Prop := At R b l (.ok x l)

theorem rule_loop (R : Res) (H : AHeap) (w m : Str) (n : Int) (a2 : AV) (l0 : List Tok) (b0 : Bool) (hT : TL l0) (hR : At R b0 l0 (whosL w m n [] 0 l0)) (T : AFrame) (g g3 : Nat) (Q : IExit → AS → Prop)
    (h0 : T 0 = .ref H.length 0) (h2 : T 2 = a2) (h3 : T 3 = .lbox g3 [.str w, .str m, .int .i64 n, .slice [] true]) (h4 : T 4 = .int .i64 0)
    (hx : ∀ T' g' l b who, TL l → l.length ≤ l0.length → (∀ x ∈ who, I64 x) → who.length ≤ 8193 → Fin R b l ⟨w, m, n, who⟩ → T' 0 = .ref H.length 0 → T' 2 = a2 → T' 3 = .lbox g3 [.str w, .str m, .int .i64 n, .slice (ints who) true] → Q (.exit 0) ⟨T', H ++ [rd l b], H.length, g'⟩) :
    W A (ir30.body.sub [true, true, true, true, true, true, true, false, false]) ⟨T, H ++ [rd l0 b0], H.length, g⟩ Q := by
  unfold ir30
  simp only [ICode.sub]
  refine W_loopm 0 (fun k st => ∃ l b who a4, HdG (fun T => T 0 = .ref H.length 0 ∧ T 2 = a2 ∧ T 3 = .lbox g3 [.str w, .str m, .int .i64 n, .slice (ints who) true] ∧ T 4 = .int .i64 a4) (H ++ [rd l b]) H.length st ∧ TL l ∧ l.length ≤ l0.length ∧
      k = (if b = true then 0 else l.length + 1) ∧ (∀ x ∈ who, I64 x) ∧ who.length ≤ 8193 ∧ (b = false → who.length + l.length ≤ 8192 ∧ 0 ≤ a4 ∧ a4 ≤ 100) ∧ At R b l (whosL w m n who a4 l))
    (fun st => ∃ l b who, HdG (fun T => T 0 = .ref H.length 0 ∧ T 2 = a2 ∧ T 3 = .lbox g3 [.str w, .str m, .int .i64 n, .slice (ints who) true]) (H ++ [rd l b]) H.length st ∧ TL l ∧ l.length ≤ l0.length ∧ (∀ x ∈ who, I64 x) ∧ who.length ≤ 8193 ∧ Fin R b l ⟨w, m, n, who⟩)
    (fun _ => False) ?_ ?_ (fun _ h => h.elim) (if b0 = true then 0 else l0.length + 1) _ ?_
  · rintro k st ⟨l, b, who, a4, hst, hT, hle, hk, hw, hwl, hb, hR⟩
    obtain ⟨T, g4, rfl, h0, h2, h3, h4⟩ := hst.out
    cases b with
    | true =>
      simp (disch := omega) only [evA, argsV, argsOK, partsV, elemsV, optV, evOper, evOp, evAppend, IArg.eval, AS.putD, ↓reduceIte, Nat.reduceEqDiff, Option.isSome, Option.isNone, cond_true, cond_false, Nat.reduceBEq, Nat.reduceAdd, Nat.reduceMul, binInt, binStr, eq_self, reduceCtorEq, unAV, lenAV, convAV, sliceAV, bound, isCon, AS.spent, liveAddr, offAddr, elemsOf, Nat.reduceLeDiff, nilCmp, putAt, Int.reduceEq, Int.reduceLT, Int.reduceLE, Int.reduceBEq, Int.reduceBNe, Int.reduceAdd, Int.reduceNeg, Int.reduceSub, Int.reduceMul, ilt_t, ilt_f, ile_t, ile_f, ieq_t, ieq_f, ine_t, ine_f, h0, h2, h3, h4, loadAV, rd, get_last, set_last, loadCellsAV, takenAt, List.modify_succ_cons, List.modify_zero_cons]
      exact ⟨l, true, who, ⟨rfl, rfl⟩, hT, hle, hw, hwl, hR⟩
    | false =>
      obtain ⟨hb1, hb2, hb3⟩ := hb rfl
      rw [whosL_eq] at hR
      obtain ⟨v, l', b', hc, hv, hT', hle', hb', hR'⟩ := num_at (R := R) (l := l) a4 7 (fun v l => whosK w m n who v l) hb2 hb3 (by omega) (by omega) hT hR H
      have hn := next_D H l' b' (by have := hT'.len; omega)
      have hlen : ((who ++ [v]).length : Int) = ((who.length + 1 : Nat) : Int) := by simp
      have hwv : ∀ x ∈ who ++ [v], I64 x := fun x hx => by
        rcases List.mem_append.1 hx with hx | hx
        · exact hw x hx
        · rw [List.mem_singleton.1 hx]; exact hv
      have more : ¬ (n ≤ ((who.length + 1 : Nat) : Int) ∧ nextS l' ≠ [44]) → ∃ x l'' b'', callD A 47 [.ref H.length 0, .bool (nextS l' == [44])] (H ++ [rd l' b']) = some (.str x, some ⟨H ++ [rd l'' b''], H.length⟩) ∧ TL l'' ∧ l''.length ≤ l0.length ∧
          (b'' = false → l''.length < l.length ∧ who.length + 1 + l''.length ≤ 8192 ∧ IntKind.i64.wrap (v + 1) = v + 1 ∧ 0 ≤ v + 1 ∧ v + 1 ≤ 100) ∧ At R b'' l'' (whosL w m n (who ++ [v]) (IntKind.i64.wrap (v + 1)) l'') := by
        intro hno
        have hR2 : At R b' l' (expect (fun s => s == [44]) l' fun _ l2 => whosL w m n (who ++ [v]) (v + 1) l2) := by
          simp only [whosK, hlen] at hR'
          rw [if_neg hno] at hR'
          exact hR'
        obtain ⟨x, l'', b'', hc2, _, hT'', hle'', hb'', hR''⟩ := take_at (fun s => s == [44]) (fun _ l2 => whosL w m n (who ++ [v]) (v + 1) l2) hT' hR2 H
        have key : b'' = false → IntKind.i64.wrap (v + 1) = v + 1 ∧ 0 ≤ v + 1 ∧ v + 1 ≤ 100 := fun e => by
          have h1 := hb' (hb'' e).2
          exact ⟨wrap64 (by omega), by omega, by omega⟩
        refine ⟨x, l'', b'', hc2, hT'', by omega, fun e => ⟨by have := (hb'' e).1; omega, by have := (hb'' e).1; omega, key e⟩, ?_⟩
        cases b'' with
        | true => exact hR''
        | false => rw [(key rfl).1]; exact hR''
      have hkk : k = l.length + 1 := by simpa using hk
      by_cases hd : n ≤ ((who.length + 1 : Nat) : Int)
      · by_cases hcm : nextS l' = [44]
        · obtain ⟨x, l'', b'', hc2, hT'', hle'', hb'', hR''⟩ := more (fun e => e.2 hcm)
          have hne : (nextS l' == [44]) = true := by simp [hcm]
          rw [hne] at hc2
          simp only [rd] at hc hn hc2
          simp (disch := omega) only [evA, argsV, argsOK, partsV, elemsV, optV, evOper, evOp, evAppend, IArg.eval, AS.putD, ↓reduceIte, Nat.reduceEqDiff, Option.isSome, Option.isNone, cond_true, cond_false, Nat.reduceBEq, Nat.reduceAdd, Nat.reduceMul, binInt, binStr, eq_self, reduceCtorEq, unAV, lenAV, convAV, sliceAV, bound, isCon, AS.spent, liveAddr, offAddr, elemsOf, Nat.reduceLeDiff, nilCmp, putAt, Int.reduceEq, Int.reduceLT, Int.reduceLE, Int.reduceBEq, Int.reduceBNe, Int.reduceAdd, Int.reduceNeg, Int.reduceSub, Int.reduceMul, ilt_t, ilt_f, ile_t, ile_f, ieq_t, ieq_f, ine_t, ine_f, h0, h2, h3, h4, loadAV, rd, get_last, set_last, loadCellsAV, takenAt, List.modify_succ_cons, List.modify_zero_cons, hc, storeAV, ints_len, hlen, hn, hne, hc2, bne, List.length_append, Nat.lt_irrefl]
          refine ⟨(if b'' = true then 0 else l''.length + 1), ?_, l'', b'', who ++ [v], _, ⟨⟨rfl, rfl⟩, rfl⟩, hT'', hle'', rfl, hwv, by simp; omega, fun e => ?_, hR''⟩
          · rw [hkk]
            cases b'' with
            | true => simp
            | false => have := (hb'' rfl).1; simp; omega
          · obtain ⟨k1, k2, k3, k4, k5⟩ := hb'' e
            rw [k3]
            exact ⟨by simp; omega, k4, k5⟩
        · have hne : (nextS l' == [44]) = false := by simpa using hcm
          simp only [rd] at hc hn
          simp (disch := omega) only [evA, argsV, argsOK, partsV, elemsV, optV, evOper, evOp, evAppend, IArg.eval, AS.putD, ↓reduceIte, Nat.reduceEqDiff, Option.isSome, Option.isNone, cond_true, cond_false, Nat.reduceBEq, Nat.reduceAdd, Nat.reduceMul, binInt, binStr, eq_self, reduceCtorEq, unAV, lenAV, convAV, sliceAV, bound, isCon, AS.spent, liveAddr, offAddr, elemsOf, Nat.reduceLeDiff, nilCmp, putAt, Int.reduceEq, Int.reduceLT, Int.reduceLE, Int.reduceBEq, Int.reduceBNe, Int.reduceAdd, Int.reduceNeg, Int.reduceSub, Int.reduceMul, ilt_t, ilt_f, ile_t, ile_f, ieq_t, ieq_f, ine_t, ine_f, h0, h2, h3, h4, loadAV, rd, get_last, set_last, loadCellsAV, takenAt, List.modify_succ_cons, List.modify_zero_cons, hc, storeAV, ints_len, hlen, hn, hne, bne, List.length_append, Nat.lt_irrefl]
          refine ⟨l', b', who ++ [v], ⟨rfl, rfl⟩, hT', by omega, hwv, by simp; omega, ?_⟩
          unfold Fin
          simp only [whosK, hlen] at hR'
          rw [if_pos ⟨hd, hcm⟩] at hR'
          exact hR'
      · obtain ⟨x, l'', b'', hc2, hT'', hle'', hb'', hR''⟩ := more (fun e => hd e.1)
        generalize hne' : (nextS l' == [44]) = q at hc2
        have hne := hne'
        simp only [rd] at hc hn hc2
        simp (disch := omega) only [evA, argsV, argsOK, partsV, elemsV, optV, evOper, evOp, evAppend, IArg.eval, AS.putD, ↓reduceIte, Nat.reduceEqDiff, Option.isSome, Option.isNone, cond_true, cond_false, Nat.reduceBEq, Nat.reduceAdd, Nat.reduceMul, binInt, binStr, eq_self, reduceCtorEq, unAV, lenAV, convAV, sliceAV, bound, isCon, AS.spent, liveAddr, offAddr, elemsOf, Nat.reduceLeDiff, nilCmp, putAt, Int.reduceEq, Int.reduceLT, Int.reduceLE, Int.reduceBEq, Int.reduceBNe, Int.reduceAdd, Int.reduceNeg, Int.reduceSub, Int.reduceMul, ilt_t, ilt_f, ile_t, ile_f, ieq_t, ieq_f, ine_t, ine_f, h0, h2, h3, h4, loadAV, rd, get_last, set_last, loadCellsAV, takenAt, List.modify_succ_cons, List.modify_zero_cons, hc, storeAV, ints_len, hlen, hn, hne, hc2, bne, List.length_append, Nat.lt_irrefl]
        refine ⟨(if b'' = true then 0 else l''.length + 1), ?_, l'', b'', who ++ [v], _, ⟨⟨rfl, rfl⟩, rfl⟩, hT'', hle'', rfl, hwv, by simp; omega, fun e => ?_, hR''⟩
        · rw [hkk]
          cases b'' with
          | true => simp
          | false => have := (hb'' rfl).1; simp; omega
        · obtain ⟨k1, k2, k3, k4, k5⟩ := hb'' e
          rw [k3]
          exact ⟨by simp; omega, k4, k5⟩
  · rintro st ⟨l, b, who, hst, hT, hle, hw, hwl, hF⟩
    obtain ⟨T, g, rfl, h0, h2, h3⟩ := hst.out
    exact hx T g l b who hT hle hw hwl hF h0 h2 h3
  · simp (disch := omega) only [evA, argsV, argsOK, partsV, elemsV, optV, evOper, evOp, evAppend, IArg.eval, AS.putD, ↓reduceIte, Nat.reduceEqDiff, Option.isSome, Option.isNone, cond_true, cond_false, Nat.reduceBEq, Nat.reduceAdd, Nat.reduceMul, binInt, binStr, eq_self, reduceCtorEq, unAV, lenAV, convAV, sliceAV, bound, isCon, AS.spent, liveAddr, offAddr, elemsOf, Nat.reduceLeDiff, nilCmp, putAt, Int.reduceEq, Int.reduceLT, Int.reduceLE, Int.reduceBEq, Int.reduceBNe, Int.reduceAdd, Int.reduceNeg, Int.reduceSub, Int.reduceMul, h0, h2, h3, h4]
    exact ⟨l0, b0, [], 0, ⟨⟨rfl, rfl⟩, rfl⟩, hT, Nat.le_refl _, rfl, fun x h => by simp at h, by simp, fun _ => ⟨by have := hT.len; simp; omega, by omega, by omega⟩, hR⟩

end Go.Proofs.YtgdcfgpddgedkaaDoor

/-! Equations of functions, 17: the reader's rule, whole. -/
namespace Go.Proofs.YtgdcfgpddgedkaaDoor
open Go Go.Abs Go.Proofs

theorem rule_tail (R : Res) (H : AHeap) (w m : Str) (l : List Tok) (b : Bool) (hT : TL l) (h : At R b l (afterMod w m l)) :
    ∃ y l1 b1 n l2 b2 z l3 b3, callD A 47 [.ref H.length 0, .bool (nextS l == [58])] (H ++ [rd l b]) = some (.str y, some ⟨H ++ [rd l1 b1], H.length⟩) ∧
      callD A 49 [.ref H.length 0, .int .i64 1, .int .i64 8] (H ++ [rd l1 b1]) = some (.int .i64 n, some ⟨H ++ [rd l2 b2], H.length⟩) ∧ I64 n ∧
      callD A 48 [.ref H.length 0] (H ++ [rd l2 b2]) = some (.str (nextS l2), none) ∧
      callD A 47 [.ref H.length 0, .bool (nextS l2 == [111, 102])] (H ++ [rd l2 b2]) = some (.str z, some ⟨H ++ [rd l3 b3], H.length⟩) ∧ TL l3 ∧ l3.length ≤ l.length ∧ At R b3 l3 (whosL w m n [] 0 l3) := by
  obtain ⟨y, l1, b1, c1, _, T1, le1, _, a1⟩ := take_at (fun s => s == [58]) (fun _ l => expect (numIs 1 8) l fun c l => expect (fun s => s == [111, 102]) l fun _ l => whosL w m (numOf c) [] 0 l) hT h H
  obtain ⟨n, l2, b2, c2, hn, T2, le2, _, a2⟩ := num_at 1 8 (fun n l => expect (fun s => s == [111, 102]) l fun _ l => whosL w m n [] 0 l) (by omega) (by omega) (by omega) (by omega) T1 a1 H
  obtain ⟨z, l3, b3, c3, _, T3, le3, _, a3⟩ := take_at (fun s => s == [111, 102]) (fun _ l => whosL w m n [] 0 l) T2 a2 H
  exact ⟨y, l1, b1, n, l2, b2, z, l3, b3, c1, c2, hn, next_D H l2 b2 (by have := T2.len; omega), c3, T3, by omega, a3⟩

theorem rule_D (H : AHeap) (l : List Tok) (hT : TL l) : ∃ r, callD A 30 [.ref H.length 0] (H ++ [rd l false]) = some r ∧
    ∃ x l' b', r = (.agg (encRule x), some ⟨H ++ [rd l' b'], H.length⟩) ∧ TL l' ∧ l'.length ≤ l.length ∧ RuleOK x ∧ Fin (readRule l) b' l' x := by
  refine callD_WP (fn := ir30) rfl rfl rfl ?_
  unfold ir30
  have hn0 := next_D H l false (by have := hT.len; omega)
  have h0 : At (readRule l) false l (readRule l) := rfl
  obtain ⟨w, l1, b1, c1, hwl, T1, le1, _, a1⟩ := take_at isWhat (fun w l => if nextS l = [105, 110] then expect (fun _ => true) l fun _ l => expect isWord l fun m l => afterMod w m l else afterMod w [] l) hT h0 H
  have hn1 := next_D H l1 b1 (by have := T1.len; omega)
  generalize readRule l = R at a1 h0
  by_cases hin : nextS l1 = [105, 110]
  · have hin' : (nextS l1 == [105, 110]) = true := by simp [hin]
    rw [if_pos hin] at a1
    obtain ⟨y, l2, b2, c2, _, T2, le2, _, a2⟩ := take_at (fun _ => true) (fun _ l => expect isWord l fun m l => afterMod w m l) T1 a1 H
    have hn2 := next_D H l2 b2 (by have := T2.len; omega)
    have hwp := wordP_D (nextS l2) (H ++ [rd l2 b2]) (by have := T2.next; omega)
    obtain ⟨m, l3, b3, c3, hml, T3, le3, _, a3⟩ := take_at isWord (fun m l => afterMod w m l) T2 a2 H
    have hn3 := next_D H l3 b3 (by have := T3.len; omega)
    obtain ⟨y', l4, b4, n, l5, b5, z, l6, b6, c4, c5, hn, hn5, c6, T6, le6, a6⟩ := rule_tail R H w m l3 b3 T3 a3
    simp (disch := omega) only [evA, argsV, argsOK, partsV, elemsV, optV, evOper, evOp, evAppend, IArg.eval, AS.putD, ↓reduceIte, Nat.reduceEqDiff, Option.isSome, Option.isNone, cond_true, cond_false, Nat.reduceBEq, Nat.reduceAdd, Nat.reduceMul, binInt, binStr, eq_self, reduceCtorEq, unAV, lenAV, convAV, sliceAV, bound, isCon, AS.spent, liveAddr, offAddr, elemsOf, Nat.reduceLeDiff, nilCmp, putAt, Int.reduceEq, Int.reduceLT, Int.reduceLE, Int.reduceBEq, Int.reduceBNe, Int.reduceAdd, Int.reduceNeg, Int.reduceSub, Int.reduceMul, ilt_t, ilt_f, ile_t, ile_f, ieq_t, ieq_f, ine_t, ine_f, hn0, what_D, c1, hn1, hin', c2, hn2, hwp, c3, hn3, c4, c5, hn5, c6, storeAV, List.length_append, Nat.lt_irrefl]
    refine rule_loop R H w m n (.lbox 0 [.str [], .str [], .int .i64 0, .slice [] true]) l6 b6 T6 a6 _ _ 1 _ ?_ ?_ ?_ ?_ ?_
    case refine_5 =>
      intro T' g' l' b' who hT' hle hw hwl' hF h0 h2 h3
      simp (disch := omega) only [evA, argsV, argsOK, partsV, elemsV, optV, evOper, evOp, evAppend, IArg.eval, AS.putD, ↓reduceIte, Nat.reduceEqDiff, Option.isSome, Option.isNone, cond_true, cond_false, Nat.reduceBEq, Nat.reduceAdd, Nat.reduceMul, binInt, binStr, eq_self, reduceCtorEq, unAV, lenAV, convAV, sliceAV, bound, isCon, AS.spent, liveAddr, offAddr, elemsOf, Nat.reduceLeDiff, nilCmp, putAt, Int.reduceEq, Int.reduceLT, Int.reduceLE, Int.reduceBEq, Int.reduceBNe, Int.reduceAdd, Int.reduceNeg, Int.reduceSub, Int.reduceMul, h0, h2, h3, loadAV, loadCellsAV, takenAt, List.modify_succ_cons, List.modify_zero_cons, storeAV, List.length_append, Nat.lt_irrefl]
      refine ⟨⟨w, m, n, who⟩, l', b', ⟨rfl, by rw [take_last']⟩, hT', by omega, ⟨by simp only; omega, hn, by simp only; omega, hw⟩, hF⟩
    all_goals simp (disch := omega) only [evA, argsV, argsOK, partsV, elemsV, optV, evOper, evOp, evAppend, IArg.eval, AS.putD, ↓reduceIte, Nat.reduceEqDiff, Option.isSome, Option.isNone, cond_true, cond_false, Nat.reduceBEq, Nat.reduceAdd, Nat.reduceMul, binInt, binStr, eq_self, reduceCtorEq, unAV, lenAV, convAV, sliceAV, bound, isCon, AS.spent, liveAddr, offAddr, elemsOf, Nat.reduceLeDiff, nilCmp, putAt, Int.reduceEq, Int.reduceLT, Int.reduceLE, Int.reduceBEq, Int.reduceBNe, Int.reduceAdd, Int.reduceNeg, Int.reduceSub, Int.reduceMul]
  · have hin' : (nextS l1 == [105, 110]) = false := by simpa using hin
    rw [if_neg hin] at a1
    obtain ⟨y', l4, b4, n, l5, b5, z, l6, b6, c4, c5, hn, hn5, c6, T6, le6, a6⟩ := rule_tail R H w [] l1 b1 T1 a1
    simp (disch := omega) only [evA, argsV, argsOK, partsV, elemsV, optV, evOper, evOp, evAppend, IArg.eval, AS.putD, ↓reduceIte, Nat.reduceEqDiff, Option.isSome, Option.isNone, cond_true, cond_false, Nat.reduceBEq, Nat.reduceAdd, Nat.reduceMul, binInt, binStr, eq_self, reduceCtorEq, unAV, lenAV, convAV, sliceAV, bound, isCon, AS.spent, liveAddr, offAddr, elemsOf, Nat.reduceLeDiff, nilCmp, putAt, Int.reduceEq, Int.reduceLT, Int.reduceLE, Int.reduceBEq, Int.reduceBNe, Int.reduceAdd, Int.reduceNeg, Int.reduceSub, Int.reduceMul, ilt_t, ilt_f, ile_t, ile_f, ieq_t, ieq_f, ine_t, ine_f, hn0, what_D, c1, hn1, hin', c4, c5, hn5, c6, storeAV, List.length_append, Nat.lt_irrefl]
    refine rule_loop R H w [] n (.lbox 0 [.str [], .str [], .int .i64 0, .slice [] true]) l6 b6 T6 a6 _ _ 1 _ ?_ ?_ ?_ ?_ ?_
    case refine_5 =>
      intro T' g' l' b' who hT' hle hw hwl' hF h0 h2 h3
      simp (disch := omega) only [evA, argsV, argsOK, partsV, elemsV, optV, evOper, evOp, evAppend, IArg.eval, AS.putD, ↓reduceIte, Nat.reduceEqDiff, Option.isSome, Option.isNone, cond_true, cond_false, Nat.reduceBEq, Nat.reduceAdd, Nat.reduceMul, binInt, binStr, eq_self, reduceCtorEq, unAV, lenAV, convAV, sliceAV, bound, isCon, AS.spent, liveAddr, offAddr, elemsOf, Nat.reduceLeDiff, nilCmp, putAt, Int.reduceEq, Int.reduceLT, Int.reduceLE, Int.reduceBEq, Int.reduceBNe, Int.reduceAdd, Int.reduceNeg, Int.reduceSub, Int.reduceMul, h0, h2, h3, loadAV, loadCellsAV, takenAt, List.modify_succ_cons, List.modify_zero_cons, storeAV, List.length_append, Nat.lt_irrefl]
      refine ⟨⟨w, [], n, who⟩, l', b', ⟨rfl, by rw [take_last']⟩, hT', by omega, ⟨by simp, hn, by simp only; omega, hw⟩, hF⟩
    all_goals simp (disch := omega) only [evA, argsV, argsOK, partsV, elemsV, optV, evOper, evOp, evAppend, IArg.eval, AS.putD, ↓reduceIte, Nat.reduceEqDiff, Option.isSome, Option.isNone, cond_true, cond_false, Nat.reduceBEq, Nat.reduceAdd, Nat.reduceMul, binInt, binStr, eq_self, reduceCtorEq, unAV, lenAV, convAV, sliceAV, bound, isCon, AS.spent, liveAddr, offAddr, elemsOf, Nat.reduceLeDiff, nilCmp, putAt, Int.reduceEq, Int.reduceLT, Int.reduceLE, Int.reduceBEq, Int.reduceBNe, Int.reduceAdd, Int.reduceNeg, Int.reduceSub, Int.reduceMul]

end Go.Proofs.YtgdcfgpddgedkaaDoor

/-! Equations of functions, 18: rules.Parse. -/
namespace Go.Proofs.YtgdcfgpddgedkaaDoor
open Go Go.Abs Go.Proofs

/-! ### what the scanners hand over -/

theorem scanL_facts : ∀ (n : Nat) (r : Str) (off : Nat), r.length ≤ n → (scanL r off).1.length ≤ r.length ∧ ∀ t ∈ (scanL r off).1, t.text ≠ [] ∧ t.text.length ≤ r.length ∧ t.before.length ≤ r.length := by
  intro n
  induction n with
  | zero =>
    intro r off hr
    have : r = [] := List.eq_nil_of_length_eq_zero (by omega)
    subst this
    rw [scanL, if_pos (show skipL false ([] : Str) = ([] : Str).length from rfl)]
    simp
  | succ n ih =>
    intro r off hr
    rw [scanL]
    split
    · simp
    · rename_i h1
      split
      · simp
      · rename_i h2
        have k1 := skipL_le false r
        have k2 := tokL_le (r.drop (skipL false r))
        rw [List.length_drop] at k2
        obtain ⟨j1, j2⟩ := ih (r.drop (skipL false r + tokL (r.drop (skipL false r)))) (off + (skipL false r + tokL (r.drop (skipL false r)))) (by rw [List.length_drop]; omega)
        rw [List.length_drop] at j1 j2
        simp only
        split
        · refine ⟨by simp only [List.length_cons]; omega, fun t ht => ?_⟩
          rcases List.mem_cons.1 ht with rfl | ht
          · refine ⟨fun e => ?_, ?_, ?_⟩
            · have := congrArg List.length e
              simp only [List.length_take, List.length_drop, List.length_nil] at this
              omega
            · simp only [List.length_take, List.length_drop]; omega
            · simp only [List.length_take]; omega
          · obtain ⟨a, b, c⟩ := j2 t ht
            exact ⟨a, by omega, by omega⟩
        · simp

theorem scanS_TL (s : Str) : TL (scanS s).1 := by
  unfold scanS
  split
  · exact ⟨fun t h => by simp at h, by simp, fun t h => by simp at h⟩
  · rename_i hs
    obtain ⟨h1, h2⟩ := scanL_facts s.length s 0 (Nat.le_refl _)
    exact ⟨fun t ht => ⟨(h2 t ht).1, by have := (h2 t ht).2.1; omega⟩, by omega, fun t ht => by have := (h2 t ht).2.2; omega⟩

theorem scanL_at : ∀ (n : Nat) (r : Str) (off : Nat), r.length ≤ n → (scanL r off).2.2 = -1 ∨ (0 ≤ (scanL r off).2.2 ∧ (scanL r off).2.2 ≤ off + r.length) := by
  intro n
  induction n with
  | zero =>
    intro r off hr
    have : r = [] := List.eq_nil_of_length_eq_zero (by omega)
    subst this
    rw [scanL, if_pos (show skipL false ([] : Str) = ([] : Str).length from rfl)]
    simp
  | succ n ih =>
    intro r off hr
    have k1 := skipL_le false r
    rw [scanL]
    split
    · simp
    · rename_i h1
      split
      · right; simp only; omega
      · rename_i h2
        have k2 := tokL_le (r.drop (skipL false r))
        rw [List.length_drop] at k2
        have := ih (r.drop (skipL false r + tokL (r.drop (skipL false r)))) (off + (skipL false r + tokL (r.drop (skipL false r)))) (by rw [List.length_drop]; omega)
        rw [List.length_drop] at this
        simp only
        split
        · left; rfl
        · rename_i h3
          rcases this with h | h
          · exact absurd h h3
          · right; simp only; omega

theorem scanS_at (s : Str) : (scanS s).2.2 = -1 ∨ (0 ≤ (scanS s).2.2 ∧ (scanS s).2.2 ≤ 8192) := by
  unfold scanS
  split
  · right; simp
  · rename_i hs
    rcases scanL_at s.length s 0 (Nat.le_refl _) with h | h
    · exact .inl h
    · right; omega

/-! ### what is parsed -/

theorem expect_lt {p : Str → Bool} {l : List Tok} {k : Str → List Tok → Res} {x : Rule} {l' : List Tok} (h : expect p l k = .ok x l') (hk : ∀ c l1, k c l1 = .ok x l' → l'.length ≤ l1.length) : l'.length < l.length := by
  cases l with
  | nil => cases h
  | cons t l =>
    simp only [expect] at h
    split at h
    · have := hk _ _ h; simp only [List.length_cons]; omega
    · cases h

theorem whosL_lt {w m : Str} {n : Int} {x : Rule} {l' : List Tok} : ∀ (k : Nat) (who : List Int) (least : Int) (l : List Tok), l.length ≤ k → whosL w m n who least l = .ok x l' → l'.length ≤ l.length := by
  intro k
  induction k with
  | zero =>
    intro who least l hl h
    have : l = [] := List.eq_nil_of_length_eq_zero (by omega)
    subst this
    rw [whosL_eq] at h; cases h
  | succ k ih =>
    intro who least l hl h
    rw [whosL_eq] at h
    cases l with
    | nil => cases h
    | cons t l =>
      simp only [List.length_cons] at hl ⊢
      simp only [expect] at h
      split at h
      · simp only [whosK] at h
        split at h
        · injection h with _ h; subst h; omega
        · cases l with
          | nil => cases h
          | cons c l2 =>
            simp only [List.length_cons] at hl ⊢
            simp only [expect] at h
            split at h
            · have := ih _ _ l2 (by omega) h; omega
            · cases h
      · cases h

theorem afterMod_lt {w m : Str} {l : List Tok} {x : Rule} {l' : List Tok} (h : afterMod w m l = .ok x l') : l'.length ≤ l.length :=
  Nat.le_of_lt (expect_lt h fun _ _ h => Nat.le_of_lt (expect_lt h fun _ _ h => Nat.le_of_lt (expect_lt h fun _ l1 h => whosL_lt _ _ _ l1 (Nat.le_refl _) h)))

theorem readRule_lt {l : List Tok} {x : Rule} {l' : List Tok} (h : readRule l = .ok x l') : l'.length < l.length := by
  refine expect_lt h fun w l1 h => ?_
  split at h
  · exact Nat.le_of_lt (expect_lt h fun _ _ h => Nat.le_of_lt (expect_lt h fun _ _ h => afterMod_lt h))
  · exact afterMod_lt h

/-- The rules of a list of tokens, or what stands behind the fault. -/
def parseG (out : List Rule) (l : List Tok) : Option (List Rule) × List Tok :=
  if l = [] then (some out, [])
  else if out.length = 64 then (none, l)
  else match readRule l with
    | .ok x l' => if h : l'.length < l.length then parseG (out ++ [x]) l' else (none, l')
    | .bad l' => (none, l')
termination_by l.length

def offs (l : List Tok) : Int := (l.map fun t => ((t.before.length : Int) + (t.text.length : Int))).sum

def finS (s : Str) (L : List Tok) : Option (List Rule) × List Tok → List Rule × Int
  | (some out, _) => (out, -1)
  | (none, []) => ([], s.length)
  | (none, t :: r) => ([], offs (L.take (L.length - (t :: r).length)) + t.before.length)

def parseS (s : Str) : List Rule × Int := if (scanS s).2.2 ≠ -1 then ([], (scanS s).2.2) else finS s (scanS s).1 (parseG [] (scanS s).1)

theorem parseG_nil (out : List Rule) : parseG out [] = (some out, []) := by rw [parseG, if_pos rfl]
theorem parseG_full {out : List Rule} {l : List Tok} (h : l ≠ []) (h2 : out.length = 64) : parseG out l = (none, l) := by rw [parseG, if_neg h, if_pos h2]
theorem parseG_ok {out : List Rule} {l l' : List Tok} {x : Rule} (h : l ≠ []) (h2 : out.length ≠ 64) (h3 : readRule l = .ok x l') : parseG out l = parseG (out ++ [x]) l' := by
  rw [parseG, if_neg h, if_neg h2, h3]
  simp only
  rw [dif_pos (readRule_lt h3)]
theorem parseG_bad {out : List Rule} {l l' : List Tok} (h : l ≠ []) (h2 : out.length ≠ 64) (h3 : readRule l = .bad l') : parseG out l = (none, l') := by
  rw [parseG, if_neg h, if_neg h2, h3]

end Go.Proofs.YtgdcfgpddgedkaaDoor

/-! Equations of functions, 19: rules.Parse. -/
namespace Go.Proofs.YtgdcfgpddgedkaaDoor
open Go Go.Abs Go.Proofs

/-- Where the parser is. -/
structure PInv (L : List Tok) (out : List Rule) (l : List Tok) (b : Bool) : Prop where
  tl : TL l
  le : l.length ≤ L.length
  n : out.length ≤ 64
  who : ∀ r ∈ out, r.who.length ≤ 4611686018427387904
  bad : b = true → parseG [] L = (none, l)
  good : b = false → parseG [] L = parseG out l

theorem parse_loop (H : AHeap) (L : List Tok) (s : Str) (hL : TL L) (T : AFrame) (g lo : Nat) (hlo : lo = H.length) (Q : IExit → AS → Prop)
    (h0 : T 0 = .str s) (h4 : T 4 = .slice (encToks L) false) (h7 : T 7 = .ref H.length 0) (h8 : T 8 = .slice [] true)
    (hx : ∀ T' g' lo' out l b, lo' = H.length → PInv L out l b → (b = false → l = []) → T' 0 = .str s → T' 4 = .slice (encToks L) false → T' 7 = .ref H.length 0 → T' 8 = .slice (encRules out) true → Q (.exit 0) ⟨T', H ++ [rd l b], lo', g'⟩) :
    W A (ir14.body.sub [true, true, true, true, true, false, false]) ⟨T, H ++ [rd L false], lo, g⟩ Q := by
  unfold ir14
  simp only [ICode.sub]
  refine W_loopm 0 (fun k st => ∃ out l b lo', HdG (fun T => T 0 = .str s ∧ T 4 = .slice (encToks L) false ∧ T 7 = .ref H.length 0 ∧ T 8 = .slice (encRules out) true) (H ++ [rd l b]) lo' st ∧ lo' = H.length ∧ PInv L out l b ∧ k = (if b = true then 0 else l.length + 1))
    (fun st => ∃ out l b lo', HdG (fun T => T 0 = .str s ∧ T 4 = .slice (encToks L) false ∧ T 7 = .ref H.length 0 ∧ T 8 = .slice (encRules out) true) (H ++ [rd l b]) lo' st ∧ lo' = H.length ∧ PInv L out l b ∧ (b = false → l = []))
    (fun _ => False) ?_ ?_ (fun _ h => h.elim) (L.length + 1) _ ?_
  · rintro k st ⟨out, l, b, lo', hst, hlo', hI, hk⟩
    obtain ⟨T, g4, rfl, h0, h4, h7, h8⟩ := hst.out
    have hon := hI.n
    cases b with
    | true =>
      simp (disch := omega) only [evA, argsV, argsOK, partsV, elemsV, optV, evOper, evOp, evAppend, IArg.eval, AS.putD, ↓reduceIte, Nat.reduceEqDiff, Option.isSome, Option.isNone, cond_true, cond_false, Nat.reduceBEq, Nat.reduceAdd, Nat.reduceMul, binInt, binStr, eq_self, reduceCtorEq, unAV, lenAV, convAV, sliceAV, bound, isCon, AS.spent, liveAddr, offAddr, elemsOf, Nat.reduceLeDiff, nilCmp, putAt, Int.reduceEq, Int.reduceLT, Int.reduceLE, Int.reduceBEq, Int.reduceBNe, Int.reduceAdd, Int.reduceNeg, Int.reduceSub, Int.reduceMul, ilt_t, ilt_f, ile_t, ile_f, ieq_t, ieq_f, ine_t, ine_f, h0, h4, h7, h8, loadAV, rd, get_last, set_last, loadCellsAV, takenAt, List.modify_succ_cons, List.modify_zero_cons]
      exact ⟨out, l, true, lo', ⟨rfl, rfl, rfl⟩, hlo', hI, fun e => by cases e⟩
    | false =>
      cases l with
      | nil =>
        simp (disch := omega) only [evA, argsV, argsOK, partsV, elemsV, optV, evOper, evOp, evAppend, IArg.eval, AS.putD, ↓reduceIte, Nat.reduceEqDiff, Option.isSome, Option.isNone, cond_true, cond_false, Nat.reduceBEq, Nat.reduceAdd, Nat.reduceMul, binInt, binStr, eq_self, reduceCtorEq, unAV, lenAV, convAV, sliceAV, bound, isCon, AS.spent, liveAddr, offAddr, elemsOf, Nat.reduceLeDiff, nilCmp, putAt, Int.reduceEq, Int.reduceLT, Int.reduceLE, Int.reduceBEq, Int.reduceBNe, Int.reduceAdd, Int.reduceNeg, Int.reduceSub, Int.reduceMul, ilt_t, ilt_f, ile_t, ile_f, ieq_t, ieq_f, ine_t, ine_f, h0, h4, h7, h8, loadAV, rd, get_last, set_last, loadCellsAV, takenAt, List.modify_succ_cons, List.modify_zero_cons, toks_len]
        exact ⟨out, [], false, lo', ⟨rfl, rfl, rfl⟩, hlo', hI, fun _ => rfl⟩
      | cons t l =>
        have hl := hI.tl.len
        by_cases hfull : out.length = 64
        · have he : ((out.length : Int) == 64) = true := by simp [hfull]
          simp only [List.length_cons] at hl
          simp (disch := omega) only [evA, argsV, argsOK, partsV, elemsV, optV, evOper, evOp, evAppend, IArg.eval, AS.putD, ↓reduceIte, Nat.reduceEqDiff, Option.isSome, Option.isNone, cond_true, cond_false, Nat.reduceBEq, Nat.reduceAdd, Nat.reduceMul, binInt, binStr, eq_self, reduceCtorEq, unAV, lenAV, convAV, sliceAV, bound, isCon, AS.spent, liveAddr, offAddr, elemsOf, Nat.reduceLeDiff, nilCmp, putAt, Int.reduceEq, Int.reduceLT, Int.reduceLE, Int.reduceBEq, Int.reduceBNe, Int.reduceAdd, Int.reduceNeg, Int.reduceSub, Int.reduceMul, ilt_t, ilt_f, ile_t, ile_f, ieq_t, ieq_f, ine_t, ine_f, h0, h4, h7, h8, loadAV, rd, get_last, set_last, loadCellsAV, takenAt, List.modify_succ_cons, List.modify_zero_cons, toks_len, rules_len, he, storeAV, heapCell]
          refine ⟨out, t :: l, true, _, ⟨rfl, rfl, rfl⟩, ?_, ⟨hI.tl, hI.le, hI.n, hI.who, fun _ => ?_, fun e => by cases e⟩, fun e => by cases e⟩
          · simp [hlo']
          · rw [hI.good rfl, parseG_full (by simp) hfull]
        · obtain ⟨_, hc, x, l', b', rfl, hT', hle', hx, hF⟩ := rule_D H (t :: l) hI.tl
          simp only [List.length_cons] at hl
          have hne : ((out.length : Int) == 64) = false := by simp; omega
          simp only [rd] at hc
          simp (disch := omega) only [evA, argsV, argsOK, partsV, elemsV, optV, evOper, evOp, evAppend, IArg.eval, AS.putD, ↓reduceIte, Nat.reduceEqDiff, Option.isSome, Option.isNone, cond_true, cond_false, Nat.reduceBEq, Nat.reduceAdd, Nat.reduceMul, binInt, binStr, eq_self, reduceCtorEq, unAV, lenAV, convAV, sliceAV, bound, isCon, AS.spent, liveAddr, offAddr, elemsOf, Nat.reduceLeDiff, nilCmp, putAt, Int.reduceEq, Int.reduceLT, Int.reduceLE, Int.reduceBEq, Int.reduceBNe, Int.reduceAdd, Int.reduceNeg, Int.reduceSub, Int.reduceMul, ilt_t, ilt_f, ile_t, ile_f, ieq_t, ieq_f, ine_t, ine_f, h0, h4, h7, h8, loadAV, rd, get_last, set_last, loadCellsAV, takenAt, List.modify_succ_cons, List.modify_zero_cons, toks_len, rules_len, hne, hc, encRule, app_rule]
          refine ⟨(if b' = true then 0 else l'.length + 1), ?_, out ++ [x], l', b', _, ⟨rfl, rfl, rfl⟩, ?_, ⟨hT', ?_, ?_, ?_, fun e => ?_, fun e => ?_⟩, rfl⟩
          · rw [hk]
            simp only [List.length_cons] at hle' ⊢
            cases b' with
            | true => simp
            | false =>
              have : readRule (t :: l) = .ok x l' := hF
              have := readRule_lt this
              simp only [List.length_cons] at this
              simp
              omega
          · simp [hlo']
          · have := hI.le; omega
          · simp; omega
          · intro r hr
            rcases List.mem_append.1 hr with hr | hr
            · exact hI.who r hr
            · rw [List.mem_singleton.1 hr]; exact hx.who
          · subst e
            rw [hI.good rfl]
            exact parseG_bad (by simp) hfull hF
          · subst e
            rw [hI.good rfl]
            exact parseG_ok (by simp) hfull hF
  · rintro st ⟨out, l, b, lo', hst, hlo', hI, hb⟩
    obtain ⟨T, g, rfl, h0, h4, h7, h8⟩ := hst.out
    exact hx T g lo' out l b hlo' hI hb h0 h4 h7 h8
  · simp (disch := omega) only [evA, argsV, argsOK, partsV, elemsV, optV, evOper, evOp, evAppend, IArg.eval, AS.putD, ↓reduceIte, Nat.reduceEqDiff, Option.isSome, Option.isNone, cond_true, cond_false, Nat.reduceBEq, Nat.reduceAdd, Nat.reduceMul, binInt, binStr, eq_self, reduceCtorEq, unAV, lenAV, convAV, sliceAV, bound, isCon, AS.spent, liveAddr, offAddr, elemsOf, Nat.reduceLeDiff, nilCmp, putAt, Int.reduceEq, Int.reduceLT, Int.reduceLE, Int.reduceBEq, Int.reduceBNe, Int.reduceAdd, Int.reduceNeg, Int.reduceSub, Int.reduceMul, h0, h4, h7, h8]
    exact ⟨[], L, false, lo, ⟨rfl, rfl, rfl⟩, hlo, ⟨hL, Nat.le_refl _, by simp, fun r h => by simp at h, fun h => (by cases h), fun _ => rfl⟩, by simp⟩

theorem offs_nil : offs [] = 0 := rfl
theorem offs_snoc (l : List Tok) (t : Tok) : offs (l ++ [t]) = offs l + ((t.before.length : Int) + (t.text.length : Int)) := by simp [offs]
theorem offs_range : ∀ l : List Tok, (∀ t ∈ l, t.text.length ≤ 8192 ∧ t.before.length ≤ 8192) → 0 ≤ offs l ∧ offs l ≤ 16384 * l.length
  | [], _ => by simp [offs]
  | t :: l, h => by
    have h1 := offs_range l fun x hx => h x (List.mem_cons_of_mem _ hx)
    have h2 := h t List.mem_cons_self
    have : offs (t :: l) = ((t.before.length : Int) + (t.text.length : Int)) + offs l := by simp [offs]
    rw [this, List.length_cons]
    omega

theorem sum_loop (H : AHeap) (L : List Tok) (hL : TL L) (a7 : AV) (T : AFrame) (g lo : Nat) (Q : IExit → AS → Prop)
    (h6 : T 6 = .int .i64 0) (h7 : T 7 = a7) (h70 : T 70 = .slice (encToks L) false) (h71 : T 71 = .int .i64 L.length) (h72 : T 72 = .int .i64 0)
    (hx : ∀ T' g', T' 6 = .int .i64 (offs L) → T' 7 = a7 → Q (.exit 2) ⟨T', H, lo, g'⟩) :
    W A (ir14.body.sub [true, true, true, true, true, true, true, true, true, false, true, false]) ⟨T, H, lo, g⟩ Q := by
  unfold ir14
  simp only [ICode.sub]
  have hll := hL.len
  refine W_countx L.length 2 (fun i => HdG (fun T => T 6 = .int .i64 (offs (L.take i)) ∧ T 7 = a7 ∧ T 70 = .slice (encToks L) false ∧ T 71 = .int .i64 L.length ∧ T 72 = .int .i64 i) H lo) (HdG (fun T => T 6 = .int .i64 (offs L) ∧ T 7 = a7) H lo) (fun _ => False) ?_ ?_ (fun _ h => h.elim) 0 _ (by omega) ?_
  · rintro i st hi hst
    obtain ⟨T, g4, rfl, h6, h7, h70, h71, h72⟩ := hst.out
    by_cases h : i < L.length
    · have hg := toks_at (List.getElem?_eq_getElem h)
      have h1 := hL.text _ (List.getElem_mem h)
      have h2 := hL.before _ (List.getElem_mem h)
      have ht : L.take (i + 1) = L.take i ++ [L[i]] := by rw [List.take_add_one]; simp [h]
      have hr := offs_range (L.take i) fun t ht => ⟨(hL.text t (List.mem_of_mem_take ht)).2, hL.before t (List.mem_of_mem_take ht)⟩
      rw [List.length_take] at hr
      rw [ht, offs_snoc]
      generalize offs (L.take i) = a at h6 hr
      generalize L[i] = t at hg h1 h2
      simp (disch := omega) only [evA, argsV, argsOK, partsV, elemsV, optV, evOper, evOp, evAppend, IArg.eval, AS.putD, ↓reduceIte, Nat.reduceEqDiff, Option.isSome, Option.isNone, cond_true, cond_false, Nat.reduceBEq, Nat.reduceAdd, Nat.reduceMul, binInt, binStr, eq_self, reduceCtorEq, unAV, lenAV, convAV, sliceAV, bound, isCon, AS.spent, liveAddr, offAddr, elemsOf, Nat.reduceLeDiff, nilCmp, putAt, Int.reduceEq, Int.reduceLT, Int.reduceLE, Int.reduceBEq, Int.reduceBNe, Int.reduceAdd, Int.reduceNeg, Int.reduceSub, Int.reduceMul, ilt_t, ilt_f, ile_t, ile_f, ieq_t, ieq_f, ine_t, ine_f, h6, h7, h70, h71, h72, hg, encTok, storeAV, loadAV, loadCellsAV]
      exact h
    · have : i = L.length := by omega
      subst this
      rw [List.take_length] at h6
      simp (disch := omega) only [evA, argsV, argsOK, partsV, elemsV, optV, evOper, evOp, evAppend, IArg.eval, AS.putD, ↓reduceIte, Nat.reduceEqDiff, Option.isSome, Option.isNone, cond_true, cond_false, Nat.reduceBEq, Nat.reduceAdd, Nat.reduceMul, binInt, binStr, eq_self, reduceCtorEq, unAV, lenAV, convAV, sliceAV, bound, isCon, AS.spent, liveAddr, offAddr, elemsOf, Nat.reduceLeDiff, nilCmp, putAt, Int.reduceEq, Int.reduceLT, Int.reduceLE, Int.reduceBEq, Int.reduceBNe, Int.reduceAdd, Int.reduceNeg, Int.reduceSub, Int.reduceMul, ilt_t, ilt_f, ile_t, ile_f, ieq_t, ieq_f, ine_t, ine_f, h6, h7, h70, h71, h72]
  · intro st hst
    obtain ⟨T, g, rfl, h6, h7⟩ := hst.out
    exact hx T g h6 h7
  · simp (disch := omega) only [evA, argsV, argsOK, partsV, elemsV, optV, evOper, evOp, evAppend, IArg.eval, AS.putD, ↓reduceIte, Nat.reduceEqDiff, Option.isSome, Option.isNone, cond_true, cond_false, Nat.reduceBEq, Nat.reduceAdd, Nat.reduceMul, binInt, binStr, eq_self, reduceCtorEq, unAV, lenAV, convAV, sliceAV, bound, isCon, AS.spent, liveAddr, offAddr, elemsOf, Nat.reduceLeDiff, nilCmp, putAt, Int.reduceEq, Int.reduceLT, Int.reduceLE, Int.reduceBEq, Int.reduceBNe, Int.reduceAdd, Int.reduceNeg, Int.reduceSub, Int.reduceMul, h6, h7, h70, h71, h72, Int.natCast_zero, List.take_zero, offs_nil]

theorem parseP_D (s : Str) (H : AHeap) (hs : s.length ≤ 4611686018427387904) : callD A 14 [.str s] H = some (.tuple [.slice (encRules (parseS s).1) false, .int .i64 (parseS s).2], none) := by
  refine callD_W (fn := ir14) rfl rfl rfl ?_
  unfold ir14
  have hsc := scanP_D s H hs
  have hTL := scanS_TL s
  by_cases hat : (scanS s).2.2 = -1
  · have hp : parseS s = finS s (scanS s).1 (parseG [] (scanS s).1) := by
      unfold parseS
      rw [if_neg (by simpa using hat)]
    rw [hp]
    rw [hat] at hsc
    generalize (scanS s).1 = L at hsc hTL
    generalize (scanS s).2.1 = bl at hsc
    simp (disch := omega) only [evA, argsV, argsOK, partsV, elemsV, optV, evOper, evOp, evAppend, IArg.eval, AS.putD, ↓reduceIte, Nat.reduceEqDiff, Option.isSome, Option.isNone, cond_true, cond_false, Nat.reduceBEq, Nat.reduceAdd, Nat.reduceMul, binInt, binStr, eq_self, reduceCtorEq, unAV, lenAV, convAV, sliceAV, bound, isCon, AS.spent, liveAddr, offAddr, elemsOf, Nat.reduceLeDiff, nilCmp, putAt, Int.reduceEq, Int.reduceLT, Int.reduceLE, Int.reduceBEq, Int.reduceBNe, Int.reduceAdd, Int.reduceNeg, Int.reduceSub, Int.reduceMul, ilt_t, ilt_f, ile_t, ile_f, ieq_t, ieq_f, ine_t, ine_f, hsc, List.length_append, heapCell]
    refine parse_loop H L s hTL _ _ _ ?_ _ ?_ ?_ ?_ ?_ ?_
    case refine_6 =>
      intro T g lo out l b hlo hI hb h0 h4 h7 h8
      subst hlo
      cases b with
      | false =>
        obtain rfl := hb rfl
        have e : parseG [] L = (some out, []) := by rw [hI.good rfl, parseG_nil]
        rw [e]
        simp (disch := omega) only [evA, argsV, argsOK, partsV, elemsV, optV, evOper, evOp, evAppend, IArg.eval, AS.putD, ↓reduceIte, Nat.reduceEqDiff, Option.isSome, Option.isNone, cond_true, cond_false, Nat.reduceBEq, Nat.reduceAdd, Nat.reduceMul, binInt, binStr, eq_self, reduceCtorEq, unAV, lenAV, convAV, sliceAV, bound, isCon, AS.spent, liveAddr, offAddr, elemsOf, Nat.reduceLeDiff, nilCmp, putAt, Int.reduceEq, Int.reduceLT, Int.reduceLE, Int.reduceBEq, Int.reduceBNe, Int.reduceAdd, Int.reduceNeg, Int.reduceSub, Int.reduceMul, ilt_t, ilt_f, ile_t, ile_f, ieq_t, ieq_f, ine_t, ine_f, h0, h4, h7, h8, loadAV, rd, get_last, set_last, loadCellsAV, takenAt, List.modify_succ_cons, List.modify_zero_cons, toks_len]
        rfl
      | true =>
        have e := hI.bad rfl
        rw [e]
        cases l with
        | nil =>
          simp (disch := omega) only [evA, argsV, argsOK, partsV, elemsV, optV, evOper, evOp, evAppend, IArg.eval, AS.putD, ↓reduceIte, Nat.reduceEqDiff, Option.isSome, Option.isNone, cond_true, cond_false, Nat.reduceBEq, Nat.reduceAdd, Nat.reduceMul, binInt, binStr, eq_self, reduceCtorEq, unAV, lenAV, convAV, sliceAV, bound, isCon, AS.spent, liveAddr, offAddr, elemsOf, Nat.reduceLeDiff, nilCmp, putAt, Int.reduceEq, Int.reduceLT, Int.reduceLE, Int.reduceBEq, Int.reduceBNe, Int.reduceAdd, Int.reduceNeg, Int.reduceSub, Int.reduceMul, ilt_t, ilt_f, ile_t, ile_f, ieq_t, ieq_f, ine_t, ine_f, h0, h4, h7, h8, loadAV, rd, get_last, set_last, loadCellsAV, takenAt, List.modify_succ_cons, List.modify_zero_cons, toks_len]
          rfl
        | cons t l =>
          have hle := hI.le
          have hll := hTL.len
          have htb := hI.tl.before t List.mem_cons_self
          simp only [List.length_cons] at hle
          have hsub : (L.length : Int) - ((l.length : Int) + 1) = ((L.length - (l.length + 1) : Nat) : Int) := by omega
          have htk : (encToks L).take (L.length - (l.length + 1)) = encToks (L.take (L.length - (l.length + 1))) := by simp [encToks]
          have hr := offs_range (L.take (L.length - (l.length + 1))) fun t ht => ⟨(hTL.text t (List.mem_of_mem_take ht)).2, hTL.before t (List.mem_of_mem_take ht)⟩
          have hfin : finS s L (none, t :: l) = ([], offs (L.take (L.length - (l.length + 1))) + t.before.length) := rfl
          rw [hfin]
          have hTL' : TL (L.take (L.length - (l.length + 1))) := ⟨fun x hx => hTL.text x (List.mem_of_mem_take hx), by rw [List.length_take]; omega, fun x hx => hTL.before x (List.mem_of_mem_take hx)⟩
          rw [List.length_take] at hr
          generalize hLL : L.length - (l.length + 1) = q at hsub htk hr hTL'
          have hq : q ≤ L.length := by omega
          have hlq : (L.take q).length = q := by rw [List.length_take]; omega
          generalize L.take q = L' at htk hr hTL' hlq
          simp (disch := omega) only [evA, argsV, argsOK, partsV, elemsV, optV, evOper, evOp, evAppend, IArg.eval, AS.putD, ↓reduceIte, Nat.reduceEqDiff, Option.isSome, Option.isNone, cond_true, cond_false, Nat.reduceBEq, Nat.reduceAdd, Nat.reduceMul, binInt, binStr, eq_self, reduceCtorEq, unAV, lenAV, convAV, sliceAV, bound, isCon, AS.spent, liveAddr, offAddr, elemsOf, Nat.reduceLeDiff, nilCmp, putAt, Int.reduceEq, Int.reduceLT, Int.reduceLE, Int.reduceBEq, Int.reduceBNe, Int.reduceAdd, Int.reduceNeg, Int.reduceSub, Int.reduceMul, ilt_t, ilt_f, ile_t, ile_f, ieq_t, ieq_f, ine_t, ine_f, h0, h4, h7, h8, loadAV, rd, get_last, set_last, loadCellsAV, takenAt, List.modify_succ_cons, List.modify_zero_cons, toks_len, hsub, htk, hlq]
          refine sum_loop _ L' hTL' (.ref H.length 0) _ _ _ _ ?_ ?_ ?_ ?_ ?_ ?_
          case refine_6 =>
            intro T' g' h6 h7
            simp (disch := omega) only [evA, argsV, argsOK, partsV, elemsV, optV, evOper, evOp, evAppend, IArg.eval, AS.putD, ↓reduceIte, Nat.reduceEqDiff, Option.isSome, Option.isNone, cond_true, cond_false, Nat.reduceBEq, Nat.reduceAdd, Nat.reduceMul, binInt, binStr, eq_self, reduceCtorEq, unAV, lenAV, convAV, sliceAV, bound, isCon, AS.spent, liveAddr, offAddr, elemsOf, Nat.reduceLeDiff, nilCmp, putAt, Int.reduceEq, Int.reduceLT, Int.reduceLE, Int.reduceBEq, Int.reduceBNe, Int.reduceAdd, Int.reduceNeg, Int.reduceSub, Int.reduceMul, ilt_t, ilt_f, ile_t, ile_f, ieq_t, ieq_f, ine_t, ine_f, h6, h7, loadAV, rd, get_last, set_last, loadCellsAV, takenAt, List.modify_succ_cons, List.modify_zero_cons, toks_len, toks_at (l := t :: l) (i := 0) rfl, encTok]
            rfl
          all_goals simp (disch := omega) only [evA, argsV, argsOK, partsV, elemsV, optV, evOper, evOp, evAppend, IArg.eval, AS.putD, ↓reduceIte, Nat.reduceEqDiff, Option.isSome, Option.isNone, cond_true, cond_false, Nat.reduceBEq, Nat.reduceAdd, Nat.reduceMul, binInt, binStr, eq_self, reduceCtorEq, unAV, lenAV, convAV, sliceAV, bound, isCon, AS.spent, liveAddr, offAddr, elemsOf, Nat.reduceLeDiff, nilCmp, putAt, Int.reduceEq, Int.reduceLT, Int.reduceLE, Int.reduceBEq, Int.reduceBNe, Int.reduceAdd, Int.reduceNeg, Int.reduceSub, Int.reduceMul, h7, hlq]
    all_goals first | (simp (disch := omega) only [evA, argsV, argsOK, partsV, elemsV, optV, evOper, evOp, evAppend, IArg.eval, AS.putD, ↓reduceIte, Nat.reduceEqDiff, Option.isSome, Option.isNone, cond_true, cond_false, Nat.reduceBEq, Nat.reduceAdd, Nat.reduceMul, binInt, binStr, eq_self, reduceCtorEq, unAV, lenAV, convAV, sliceAV, bound, isCon, AS.spent, liveAddr, offAddr, elemsOf, Nat.reduceLeDiff, nilCmp, putAt, Int.reduceEq, Int.reduceLT, Int.reduceLE, Int.reduceBEq, Int.reduceBNe, Int.reduceAdd, Int.reduceNeg, Int.reduceSub, Int.reduceMul, rd]; done) | rfl | simp
  · have hp : parseS s = ([], (scanS s).2.2) := by
      unfold parseS
      rw [if_pos (by simpa using hat)]
    rw [hp]
    have hr := scanS_at s
    generalize (scanS s).2.2 = at' at hsc hat hr
    simp (disch := omega) only [evA, argsV, argsOK, partsV, elemsV, optV, evOper, evOp, evAppend, IArg.eval, AS.putD, ↓reduceIte, Nat.reduceEqDiff, Option.isSome, Option.isNone, cond_true, cond_false, Nat.reduceBEq, Nat.reduceAdd, Nat.reduceMul, binInt, binStr, eq_self, reduceCtorEq, unAV, lenAV, convAV, sliceAV, bound, isCon, AS.spent, liveAddr, offAddr, elemsOf, Nat.reduceLeDiff, nilCmp, putAt, Int.reduceEq, Int.reduceLT, Int.reduceLE, Int.reduceBEq, Int.reduceBNe, Int.reduceAdd, Int.reduceNeg, Int.reduceSub, Int.reduceMul, ilt_t, ilt_f, ile_t, ile_f, ieq_t, ieq_f, ine_t, ine_f, hsc]
    rfl

end Go.Proofs.YtgdcfgpddgedkaaDoor

/-! Equations of functions, 20: the reference's Parse. -/
namespace Go.Proofs.YtgdcfgpddgedkaaDoor
open Go Go.Abs Go.Proofs

inductive St where
  | what | inn | name | colon | count | off | who | more

def St.s : St → Str
  | .what => [119, 104, 97, 116]
  | .inn => [105, 110]
  | .name => [110, 97, 109, 101]
  | .colon => [99, 111, 108, 111, 110]
  | .count => [99, 111, 117, 110, 116]
  | .off => [111, 102]
  | .who => [119, 104, 111]
  | .more => [109, 111, 114, 101]

/-- Behind a rule. -/
def resume (out : List Rule) : Res → Option (List Rule) × List Tok
  | .ok x l => parseG (out ++ [x]) l
  | .bad l => (none, l)

/-- What is to come of it. -/
def Cont (st : St) (out : List Rule) (w m : Str) (n : Int) (who : List Int) (least : Int) (l : List Tok) : Option (List Rule) × List Tok :=
  match st with
  | .what => parseG out l
  | .inn => resume out (if nextS l = [105, 110] then expect (fun _ => true) l fun _ l => expect isWord l fun m l => afterMod w m l else afterMod w [] l)
  | .name => resume out (expect isWord l fun m l => afterMod w m l)
  | .colon => resume out (afterMod w m l)
  | .count => resume out (expect (numIs 1 8) l fun c l => expect (fun s => s == [111, 102]) l fun _ l => whosL w m (numOf c) [] 0 l)
  | .off => resume out (expect (fun s => s == [111, 102]) l fun _ l => whosL w m n [] 0 l)
  | .who => resume out (whosL w m n who least l)
  | .more => resume out (if n ≤ (who.length : Int) ∧ nextS l ≠ [44] then .ok ⟨w, m, n, who⟩ l else expect (fun s => s == [44]) l fun _ l2 => whosL w m n who least l2)

theorem cont_what {out : List Rule} {t : Tok} {l : List Tok} {w m : Str} {n : Int} {who : List Int} {least : Int} : Cont .what out w m n who least (t :: l) =
    if out.length ≠ 64 ∧ isWhat t.text = true then Cont .inn out t.text [] 0 [] 0 l else (none, t :: l) := by
  simp only [Cont]
  rw [parseG, if_neg (by simp)]
  by_cases h : out.length = 64
  · rw [if_pos h, if_neg (fun e => e.1 h)]
  · rw [if_neg h]
    by_cases hw : isWhat t.text = true
    · rw [if_pos ⟨h, hw⟩]
      have e : readRule (t :: l) = (if nextS l = [105, 110] then expect (fun _ => true) l fun _ l => expect isWord l fun m l => afterMod t.text m l else afterMod t.text [] l) := by
        unfold readRule
        rw [expect, if_pos hw]
      rw [← e]
      cases hr : readRule (t :: l) with
      | ok x l' => simp only [resume]; rw [dif_pos (readRule_lt hr)]
      | bad l' => rfl
    · have e : readRule (t :: l) = .bad (t :: l) := by
        unfold readRule
        rw [expect, if_neg hw]
      rw [e, if_neg (fun e => hw e.2)]

theorem cont_in {out : List Rule} {t : Tok} {l : List Tok} {w m : Str} {n : Int} {who : List Int} {least : Int} : Cont .inn out w m n who least (t :: l) =
    if t.text = [105, 110] then Cont .name out w [] n who least l else if t.text = [58] then Cont .count out w [] n who least l else (none, t :: l) := by
  simp only [Cont]
  by_cases h : t.text = [105, 110]
  · have h' : nextS (t :: l) = [105, 110] := h
    rw [if_pos h', if_pos h]; rfl
  · have h' : ¬ nextS (t :: l) = [105, 110] := h
    rw [if_neg h', if_neg h]
    simp only [afterMod, expect, beq_iff_eq]
    split <;> rfl

theorem cont_name {out : List Rule} {t : Tok} {l : List Tok} {w m : Str} {n : Int} {who : List Int} {least : Int} : Cont .name out w m n who least (t :: l) =
    if isWord t.text = true then Cont .colon out w t.text n who least l else (none, t :: l) := by
  simp only [Cont, expect]
  split <;> rfl

theorem cont_colon {out : List Rule} {t : Tok} {l : List Tok} {w m : Str} {n : Int} {who : List Int} {least : Int} : Cont .colon out w m n who least (t :: l) =
    if t.text = [58] then Cont .count out w m n who least l else (none, t :: l) := by
  simp only [Cont, afterMod, expect, beq_iff_eq]
  split <;> rfl

theorem cont_count {out : List Rule} {t : Tok} {l : List Tok} {w m : Str} {n : Int} {who : List Int} {least : Int} : Cont .count out w m n who least (t :: l) =
    if numIs 1 8 t.text = true then Cont .off out w m (numOf t.text) who least l else (none, t :: l) := by
  simp only [Cont, expect]
  split <;> rfl

theorem cont_off {out : List Rule} {t : Tok} {l : List Tok} {w m : Str} {n : Int} {who : List Int} {least : Int} : Cont .off out w m n who least (t :: l) =
    if t.text = [111, 102] then Cont .who out w m n [] 0 l else (none, t :: l) := by
  simp only [Cont, expect, beq_iff_eq]
  split <;> rfl

theorem cont_who {out : List Rule} {t : Tok} {l : List Tok} {w m : Str} {n : Int} {who : List Int} {least : Int} : Cont .who out w m n who least (t :: l) =
    if numIs least 7 t.text = true then Cont .more out w m n (who ++ [numOf t.text]) (numOf t.text + 1) l else (none, t :: l) := by
  simp only [Cont]
  rw [whosL_eq]
  simp only [expect, whosK]
  split <;> rfl

theorem cont_more {out : List Rule} {t : Tok} {l : List Tok} {w m : Str} {n : Int} {who : List Int} {least : Int} : Cont .more out w m n who least (t :: l) =
    if n ≤ (who.length : Int) ∧ t.text ≠ [44] then Cont .what (out ++ [⟨w, m, n, who⟩]) w m n who least (t :: l) else if t.text = [44] then Cont .who out w m n who least l else (none, t :: l) := by
  simp only [Cont]
  by_cases h : n ≤ (who.length : Int) ∧ t.text ≠ [44]
  · have h' : n ≤ (who.length : Int) ∧ nextS (t :: l) ≠ [44] := h
    rw [if_pos h', if_pos h]; rfl
  · have h' : ¬ (n ≤ (who.length : Int) ∧ nextS (t :: l) ≠ [44]) := h
    rw [if_neg h', if_neg h]
    simp only [expect, beq_iff_eq]
    split <;> rfl

theorem cont_nil {st : St} {out : List Rule} {w m : Str} {n : Int} {who : List Int} {least : Int} : Cont st out w m n who least [] =
    match st with
    | .what => (some out, [])
    | .more => if n ≤ (who.length : Int) then (some (out ++ [⟨w, m, n, who⟩]), []) else (none, [])
    | _ => (none, []) := by
  cases st
  case what => exact parseG_nil out
  case more =>
    simp only [Cont]
    by_cases h : n ≤ (who.length : Int)
    · have h' : n ≤ (who.length : Int) ∧ nextS [] ≠ [44] := ⟨h, by simp [nextS]⟩
      rw [if_pos h', if_pos h]; exact parseG_nil _
    · have h' : ¬ (n ≤ (who.length : Int) ∧ nextS [] ≠ [44]) := fun e => h e.1
      rw [if_neg h', if_neg h]; rfl
  case who => simp only [Cont]; rw [whosL_eq]; rfl
  all_goals rfl

end Go.Proofs.YtgdcfgpddgedkaaDoor

