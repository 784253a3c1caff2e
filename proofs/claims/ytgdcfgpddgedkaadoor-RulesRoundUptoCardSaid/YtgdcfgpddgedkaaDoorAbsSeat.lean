/-
  The seat's own tables at a law's start.
-/
import Derived.Test.YtgdcfgpddgedkaaDoorAbsProg
import Derived.Test.YtgdcfgpddgedkaaDoorAbsClose
import Derived.Test.YtgdcfgpddgedkaaDoorCards
import Derived.Test.YtgdcfgpddgedkaaDoorTie
set_option maxRecDepth 100000
namespace Go.Proofs.YtgdcfgpddgedkaaDoor
open Go Go.Abs Go.Proofs Go.RowKit

def laidAll : List (String × DataW Unit) := Rows.rulesPrintsRow.laid

theorem kinds_tab {W : World} (h : laidMetH Tryd.prog laidAll W) : TabOK W 2 (tab 2) := by
  obtain ⟨g, t, cs, fuel, p, hg, ht, hv, hd⟩ := h.funcs (n := "splicery/lex.kinds") (d := .agg [.agg [.iface "func" (.lit (.string [115, 112, 108, 105, 99, 101, 114, 121, 47, 108, 101, 120, 46, 108, 101, 116, 116, 101, 114])), .iface "func" (.lit (.string [115, 112, 108, 105, 99, 101, 114, 121, 47, 108, 101, 120, 46, 101, 105, 116, 104, 101, 114]))], .agg [.iface "func" (.lit (.string [115, 112, 108, 105, 99, 101, 114, 121, 47, 108, 101, 120, 46, 100, 105, 103, 105, 116])), .iface "func" (.lit (.string [115, 112, 108, 105, 99, 101, 114, 121, 47, 108, 101, 120, 46, 100, 105, 103, 105, 116]))]]) (by simp [laidAll, Rows.rulesPrintsRow, Rows.laid_splicery_lex_kinds])
  have hg0 : Tryd.prog.globalNamed "splicery/lex.kinds" = some 2 := by kernel_rfl
  have ht0 : (Tryd.prog.globals[2]?).map (·.type) = some 97 := by kernel_rfl
  obtain rfl := Option.some.inj (hg0.symm.trans hg)
  obtain rfl := Option.some.inj (ht0.symm.trans ht)
  have u97 : Tryd.prog.underlying 97 = some (.array 2 96) := by kernel_rfl
  have u96 : Tryd.prog.underlying 96 = some (.array 2 91) := by kernel_rfl
  have c96 : Tryd.prog.cellsOf 96 = 2 := by kernel_rfl
  have c97 : Tryd.prog.cellsOf 97 = 4 := by kernel_rfl
  have c91 : Tryd.prog.cellsOf 91 = 1 := by kernel_rfl
  obtain ⟨xs, m, rfl, hx, hlen, hn, hel⟩ := DataW.trod_array u97 hd
  injection hx with hx hp
  rw [c97] at hlen
  obtain ⟨l⟩ := cs
  simp only at hlen hel hv
  match l, hlen with
  | [v0, v1, v2, v3], _ =>
  match xs, hn with
  | [x0, x1], _ =>
  have e0 := hel 0 (by omega)
  have e1 := hel 1 (by omega)
  simp only [c96, Nat.zero_mul, List.drop_zero, List.take_succ_cons, List.take_zero, List.getElem?_cons_zero, List.getElem?_cons_succ, Nat.one_mul, List.drop_succ_cons] at e0 e1
  simp only [DataW.funcsOut, DataW.funcsOutAll, List.map_cons, List.map_nil, DataW.agg.injEq, List.cons.injEq, and_true, beq_self_eq_true, if_true] at hx
  obtain ⟨hx0, hx1⟩ := hx
  obtain ⟨ys, k, rfl, hy, _, hyn, hyel⟩ := DataW.trod_array u96 e0
  obtain ⟨zs, k', hk', hz, _, hzn, hzel⟩ := DataW.trod_array u96 e1
  rw [hy] at hx0
  rw [hz] at hx1
  match ys, hyn with
  | [y0, y1], _ =>
  match zs, hzn with
  | [z0, z1], _ =>
  have f0 := hyel 0 (by omega)
  have f1 := hyel 1 (by omega)
  have g0 := hzel 0 (by omega)
  have g1 := hzel 1 (by omega)
  simp only [c91, Nat.zero_mul, List.drop_zero, List.take_succ_cons, List.take_zero, List.getElem?_cons_zero, List.getElem?_cons_succ, Nat.one_mul, List.drop_succ_cons] at f0 f1 g0 g1
  simp only [List.map_cons, List.map_nil, DataW.agg.injEq, List.cons.injEq, and_true] at hx0 hx1
  obtain ⟨a0, q0⟩ := y0
  obtain ⟨a1, q1⟩ := y1
  obtain ⟨b0, r0⟩ := z0
  obtain ⟨b1, r1⟩ := z1
  simp only at hx0 hx1
  obtain ⟨rfl, rfl⟩ := hx0
  obtain ⟨rfl, rfl⟩ := hx1
  obtain rfl := func_of_trod (f0 := 52) Tryd.underlying91 (by kernel_rfl) f0
  obtain rfl := func_of_trod (f0 := 108) Tryd.underlying91 (by kernel_rfl) f1
  obtain rfl := func_of_trod (f0 := 109) Tryd.underlying91 (by kernel_rfl) g0
  obtain rfl := func_of_trod (f0 := 109) Tryd.underlying91 (by kernel_rfl) g1
  refine tab_of hg0 hv rfl fun j v x hj hx => ?_
  match j with
  | 0 => simp only [List.getElem?_toArray, List.getElem?_cons_zero, Option.some.injEq, tab] at hj hx; subst hj hx; exact ⟨.func _, fun n h => by cases h⟩
  | 1 => simp only [List.getElem?_toArray, List.getElem?_cons_zero, List.getElem?_cons_succ, Option.some.injEq, tab] at hj hx; subst hj hx; exact ⟨.func _, fun n h => by cases h⟩
  | 2 => simp only [List.getElem?_toArray, List.getElem?_cons_zero, List.getElem?_cons_succ, Option.some.injEq, tab] at hj hx; subst hj hx; exact ⟨.func _, fun n h => by cases h⟩
  | 3 => simp only [List.getElem?_toArray, List.getElem?_cons_zero, List.getElem?_cons_succ, Option.some.injEq, tab] at hj hx; subst hj hx; exact ⟨.func _, fun n h => by cases h⟩
  | k + 4 => simp at hj

theorem errs_tab {W : World} (h : laidMetH Tryd.prog laidAll W) {name : String} {d : DataW Unit} {g : Nat} (hm : (name, .iface "*errors.errorString" (.ptr d)) ∈ laidAll) (hg : Tryd.prog.globalNamed name = some g)
    (hty : (Tryd.prog.globals[g]?).map (·.type) = some 82) : TabOK W g [.iface teErr .any] := by
  refine tab_err (nm := "*errors.errorString") h hm (by rfl) hg hty Tryd.underlying82 (fun u hu => typeName_ptr_named (nm := "errors.errorString") (tp := 133) (by kernel_rfl) (by kernel_rfl) (by decide) u hu) ?_
  intro v hv
  simp only [Value.okWide, show Tryd.prog.underlying teErr = _ from Tryd.underlying133, Cell.okWide, Cell.ok] at hv
  cases v <;> simp_all [Value.oneCell']

theorem tabs_ok {W : World} (h : laidMetH Tryd.prog laidAll W) : ∀ g, A.glob g ≠ [] → TabOK W g (A.glob g) := by
  intro g hg
  match g with
  | 0 => exact tab_strs (ss := kindsS) (name := "splicery/rules.kinds") h (List.mem_of_getElem? (i := 8) rfl) (g := 0) (n := 14) (t := 90) (e := 9) (by kernel_rfl) (by kernel_rfl) (by kernel_rfl) (by kernel_rfl) (by kernel_rfl) (by kernel_rfl)
  | 1 => exact tab_strs (ss := keywordsS) (name := "splicery/lex.keywords") h (List.mem_of_getElem? (i := 7) rfl) (g := 1) (n := 27) (t := 92) (e := 9) (by kernel_rfl) (by kernel_rfl) (by kernel_rfl) (by kernel_rfl) (by kernel_rfl) (by kernel_rfl)
  | 2 => exact kinds_tab h
  | 3 => exact tab_strs (ss := signsS) (name := "splicery/lex.signs") h (List.mem_of_getElem? (i := 5) rfl) (g := 3) (n := 18) (t := 98) (e := 9) (by kernel_rfl) (by kernel_rfl) (by kernel_rfl) (by kernel_rfl) (by kernel_rfl) (by kernel_rfl)
  | 4 => exact tab_nums (k := .u64) (zs := Lib.pow10Tab) (name := "internal/strconv.uint64pow10") (fun h => by cases h) h (List.mem_of_getElem? (i := 2) rfl) (g := 4) (n := 20) (t := 119) (e := 106) (by kernel_rfl) (by kernel_rfl) (by kernel_rfl) (by kernel_rfl) (by kernel_rfl) (by kernel_rfl)
  | 5 => exact absurd rfl hg
  | 6 => exact errs_tab h (name := "strconv.ErrSyntax") (d := .agg [.lit (.string [105, 110, 118, 97, 108, 105, 100, 32, 115, 121, 110, 116, 97, 120])]) (List.mem_of_getElem? (i := 4) rfl) (by kernel_rfl) (by kernel_rfl)
  | 7 => exact errs_tab h (name := "strconv.ErrRange") (d := .agg [.lit (.string [118, 97, 108, 117, 101, 32, 111, 117, 116, 32, 111, 102, 32, 114, 97, 110, 103, 101])]) (List.mem_of_getElem? (i := 3) rfl) (by kernel_rfl) (by kernel_rfl)
  | k + 8 => exact absurd rfl hg

theorem wrel {W : World} (h : laidMetH Tryd.prog laidAll W) : WRel A.glob W.heap.size [] (gh0 W) W := wrel_tabs (tabs_ok h)

end Go.Proofs.YtgdcfgpddgedkaaDoor
