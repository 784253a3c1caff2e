/-
  What the library's functions come to, from the shelf's contracts.
-/
import Derived.Test.YtgdcfgpddgedkaaDoorAbsCode
import Derived.Test.YtgdcfgpddgedkaaDoorAbsProg
import Derived.Test.YtgdcfgpddgedkaaDoorAbsLaid
import Derived.Shelf.Strconv.AtoiAll
import Derived.Shelf.Strconv.Itoa3
import Derived.Shelf.Small.Strs
import Derived.Shelf.Lay
import Derived.Ground.NamesProg
set_option linter.unusedVariables false
set_option linter.unusedSimpArgs false
namespace Go.Proofs.YtgdcfgpddgedkaaDoor
open Go Go.Abs Go.Proofs Go.Shelf RowKit

theorem index_at (s : ByteArray) (c : Int) (w : World) : Calls Tryd.prog 56 #[.string s, .int .u8 c] w fun e w' => e = .returned (.int .i64 (Lib.indexByte s.data.toList c.toNat.toUInt8)) ∧ w' = w := Any.strings_IndexByte layIndex s c w

theorem itoa_at (n : Int) (h0 : -9223372036854775808 ≤ n) (h1 : n ≤ 9223372036854775807) (w : World) (htab : Lib.TabIs Tryd.prog w "internal/strconv.uint64pow10" .u64 Lib.pow10Tab) :
    Calls Tryd.prog 39 #[.int .i64 n] w fun e w' => e = .returned (.string ⟨(Lib.itoa n).toArray⟩) ∧ ∃ k os, w' = Sort.grow (w.drewN k) os := Any.strconv_Itoa layItoa n h0 h1 w htab

theorem atoi_ok (s : ByteArray) (hmax : s.size ≤ 9223372036854775806) (v : Int) (h : Lib.atoiAll s.data.toList = .ok v) (w : World) :
    Calls Tryd.prog 58 #[.string s] w fun e w' => e = .returned (.tuple #[.int .i64 v, .nilIface]) ∧ (w' = w ∨ ∃ t, w' = Lib.bytesWorld w 5 t) := Any.strconv_Atoi_ok layAtoi s hmax v h w

theorem atoi_bad (s : ByteArray) (hlim : s.size ≤ 281474976710656) (h1 : ∀ v, Lib.atoiAll s.data.toList ≠ .ok v) (h2 : Lib.atoiAll s.data.toList ≠ .range) (ev : Value) (w : World) (hv : w.cell? ⟨6, 0, none⟩ = some ev) (hev : ev = .nilIface ∨ ∃ te pe, ev = .iface te pe) :
    Calls Tryd.prog 58 #[.string s] w fun e w' => ∃ N, e = .returned (.tuple #[.int .i64 (0), .iface 114 (.pointer (some ⟨N, 0, none⟩))]) ∧ Below w.heap.size w w' :=
  (Any.strconv_Atoi_syntax layAtoi s hlim (by
    generalize Lib.atoiAll s.data.toList = x at h1 h2
    cases x <;> first | rfl | exact absurd rfl (h1 _) | exact absurd rfl h2) ev w hv hev).mono fun e w' ⟨N, h1, _, _, h4⟩ => ⟨N, h1, h4⟩

theorem atoi_range (s : ByteArray) (hlim : s.size ≤ 281474976710656) (h : Lib.atoiAll s.data.toList = .range) (ev : Value) (w : World) (hv : w.cell? ⟨7, 0, none⟩ = some ev) (hev : ev = .nilIface ∨ ∃ te pe, ev = .iface te pe) :
    Calls Tryd.prog 58 #[.string s] w fun e w' => ∃ N, e = .returned (.tuple #[.int .i64 (Lib.atoiSat s.data.toList), .iface 114 (.pointer (some ⟨N, 0, none⟩))]) ∧ Below w.heap.size w w' :=
  (Any.strconv_Atoi_range layAtoi s hlim h ev w hv hev).mono fun e w' ⟨N, h1, _, _, h4⟩ => ⟨N, h1, h4⟩

/-! ### as overrides -/

section
variable {G : Nat → List AV} {base : Nat} {gh : Gh} {w w' : World} {H : AHeap}

theorem step_below (hW : WRel G base H gh w) (hb : Below w.heap.size w w') (n : Nat) : Step (fun _ => False) n gh w gh w' := by
  refine ⟨fun _ _ h => h, fun b o h => cell_of_heap (hb.block b (hW.sLt b o h)), hb.size, hb.os, hb.tape, hb.output, fun b hlt _ => ⟨.inl (hb.block b hlt), rfl, fun _ h => h⟩, fun b hb' => hW.not_outer b hb', fun _ _ => rfl, fun b ty m hm => ?_⟩
  obtain ⟨C, fr, h1, h2⟩ := hm
  exact ⟨C, fr, by rw [hb.block b (Array.getElem?_eq_some_iff.1 h1).1]; exact h1, h2⟩

/-- A call that leaves what lay there as it was. -/
theorem ret_below (hW : WRel G base H gh w) (hb : Below w.heap.size w w') {v : Value} {r : AV} (hv : VR gh H.length w' v r) : RetOK G base H gh w r none v gh w' :=
  ⟨Nat.le_refl _, hW.step (step_below hW hb H.length) (fun l => ⟨id, fun _ => id⟩) (fun b o h => Nat.lt_of_lt_of_le (hW.sLt b o h) hb.size) (fun b h => ⟨(hW.kLt b h).1, Nat.lt_of_lt_of_le (hW.kLt b h).2 hb.size⟩) (fun _ _ _ h => .inl h),
    (step_below hW hb H.length).mono (fun _ h => h.elim), fun _ h => h, .inl hv⟩

theorem chg_none : ChgOK H none := ⟨Nat.le_refl _, fun c h => by cases h⟩

theorem args1 {vs : Array Value} {x : AV} (hs : vs.size = [x].length) (h : ∀ (j : Nat) (v : Value) (y : AV), vs[j]? = some v → [x][j]? = some y → VR gh H.length w v y) : ∃ v, vs = #[v] ∧ VR gh H.length w v x := by
  obtain ⟨l⟩ := vs
  match l, hs with
  | [v], _ => exact ⟨v, rfl, h 0 v x rfl rfl⟩

theorem args2 {vs : Array Value} {x y : AV} (hs : vs.size = [x, y].length) (h : ∀ (j : Nat) (v : Value) (z : AV), vs[j]? = some v → [x, y][j]? = some z → VR gh H.length w v z) : ∃ u v, vs = #[u, v] ∧ VR gh H.length w u x ∧ VR gh H.length w v y := by
  obtain ⟨l⟩ := vs
  match l, hs with
  | [u, v], _ => exact ⟨u, v, rfl, h 0 u x rfl rfl, h 1 v y rfl rfl⟩

theorem args3 {vs : Array Value} {x y z : AV} (hs : vs.size = [x, y, z].length) (h : ∀ (j : Nat) (v : Value) (q : AV), vs[j]? = some v → [x, y, z][j]? = some q → VR gh H.length w v q) :
    ∃ t u v, vs = #[t, u, v] ∧ VR gh H.length w t x ∧ VR gh H.length w u y ∧ VR gh H.length w v z := by
  obtain ⟨l⟩ := vs
  match l, hs with
  | [t, u, v], _ => exact ⟨t, u, v, rfl, h 0 t x rfl rfl, h 1 u y rfl rfl, h 2 v z rfl rfl⟩

end

theorem digitsF_eq : ∀ (f n : Nat) (acc : List UInt8), n < f → digitsF f n acc = Lib.decDigits n ++ acc
  | 0, n, acc, h => absurd h (Nat.not_lt_zero _)
  | f + 1, n, acc, h => by
    unfold digitsF
    rw [Lib.decDigits]
    by_cases hn : n < 10
    · rw [show Nat.blt n 10 = true by simpa [Nat.blt_eq] using hn, dif_pos hn]
      rfl
    · rw [show Nat.blt n 10 = false by simpa [← Bool.not_eq_true, Nat.blt_eq] using hn, dif_neg hn, cond_false, digitsF_eq f (n / 10) _ (by omega)]
      simp

theorem itoaF_eq (n : Int) : itoaF n = Lib.itoa n := by
  unfold itoaF Lib.itoa
  cases n with
  | ofNat k =>
    simp only
    rw [digitsF_eq (k + 1) k [] (by omega), if_neg (by simp)]
    simp
  | negSucc k =>
    simp only
    rw [digitsF_eq (k + 2) (k + 1) [] (by omega), if_pos (Int.negSucc_lt_zero k)]
    simp

theorem indexF_eq (c : Int) (h0 : 0 ≤ c) (h1 : c < 256) : ∀ (l : List UInt8) (k : Nat), indexF c k l = if Lib.indexByte l c.toNat.toUInt8 = -1 then -1 else Lib.indexByte l c.toNat.toUInt8 + k
  | [], k => by simp [indexF, Lib.indexByte]
  | b :: r, k => by
    have hc : (c.toNat.toUInt8).toNat = c.toNat := by simp; omega
    have hb : (b == c.toNat.toUInt8) = decide ((b.toNat : Int) = c) := by
      by_cases h : (b.toNat : Int) = c
      · have : b = c.toNat.toUInt8 := UInt8.toNat_inj.1 (by rw [hc]; omega)
        rw [decide_eq_true h]; simpa using this
      · have : b ≠ c.toNat.toUInt8 := fun e => h (by rw [e, hc]; omega)
        rw [decide_eq_false h]; simpa using this
    have hge : ∀ l : List UInt8, -1 ≤ Lib.indexByte l c.toNat.toUInt8 := by
      intro l
      induction l with
      | nil => simp [Lib.indexByte]
      | cons x l ih =>
        simp only [Lib.indexByte]
        split
        · omega
        · split
          · omega
          · rename_i h; simp at h; omega
    unfold indexF Lib.indexByte
    rw [hb]
    by_cases h : (b.toNat : Int) = c
    · simp [h]
    · have := hge r
      simp only [h, decide_false, cond_false, if_false, Bool.false_eq_true]
      rw [indexF_eq c h0 h1 r (k + 1)]
      by_cases hr : Lib.indexByte r c.toNat.toUInt8 = -1
      · simp [hr]
      · simp only [beq_iff_eq, hr, if_false]
        rw [if_neg (by omega)]
        push_cast
        omega

theorem fnOK (f : FuncId) (fn : Func) (h : Tryd.prog.funcs[f]? = some fn) (hb : fn.body.isSome = true) (hn : fn.name ≠ "runtime.NumGoroutine") : ∃ fn, Tryd.prog.funcs[f]? = some fn ∧ fn.body.isSome = true ∧ fn.name ≠ "runtime.NumGoroutine" := ⟨fn, h, hb, hn⟩

theorem index_sound {G : Nat → List AV} : OvSound Tryd.prog G 56 ovIndexByte := by
  intro args H r c he
  refine ⟨fnOK 56 _ Tryd.func56 (by kernel_rfl) (by decide), ?_⟩
  unfold ovIndexByte at he
  split at he
  · rename_i l c'
    obtain ⟨h0, he⟩ := cond_some he
    simp only [Bool.and_eq_true, decide_eq_true_eq] at h0
    simp only [Option.some.injEq, Prod.mk.injEq] at he
    obtain ⟨rfl, rfl⟩ := he
    refine ⟨chg_none, fun base gh w vs hW _ hs hrel => ?_⟩
    obtain ⟨u, v, rfl, hu, hv⟩ := args2 hs hrel
    obtain ⟨s, rfl, hl⟩ := hu.inv_str
    rw [hv.inv_int]
    refine (index_at s c' w).mono ?_
    rintro e w' ⟨rfl, rfl⟩
    refine ⟨_, gh, rfl, ret_below hW (Below.refl _ _) ?_⟩
    rw [indexF_eq c' h0.1 h0.2 l 0, hl]
    have : (if Lib.indexByte l c'.toNat.toUInt8 = -1 then (-1 : Int) else Lib.indexByte l c'.toNat.toUInt8 + (0 : Nat)) = Lib.indexByte l c'.toNat.toUInt8 := by split <;> simp_all
    rw [this]
    exact .plain _ _ (.int _ _)
  · cases he

theorem below_grow (w : World) (k : Nat) (os : Array Obj) : Below w.heap.size w (Sort.grow (w.drewN k) os) := by
  refine ⟨rfl, rfl, rfl, by simp [Sort.grow, World.drewN], fun i hi => ?_⟩
  show (w.heap ++ os)[i]? = _
  rw [Array.getElem?_append_left hi]

/-- A table of ints, as a whole. -/
theorem tab_is {G : Nat → List AV} {base : Nat} {gh : Gh} {w : World} {H : AHeap} (hW : WRel G base H gh w) {g : Nat} {name : String} (hg : Tryd.prog.globalNamed name = some g) {k : IntKind} {zs : List Int} (hG : G g = zs.map (.int k)) (hne : zs ≠ []) :
    Lib.TabIs Tryd.prog w name k zs := by
  obtain ⟨ty, C, fr, h1, h2⟩ := hW.tabs g (by rw [hG]; simpa using hne)
  have hC : C = (zs.map fun z => Value.int k z).toArray := by
    apply Array.ext_getElem?
    intro j
    rw [hG, List.length_map] at h2
    by_cases hj : j < zs.length
    · have hx : (G g)[j]? = some (.int k zs[j]) := by rw [hG]; simp [hj]
      obtain ⟨v, hv, hp, _⟩ := hW.glob g j _ hx
      rw [cell_of_row w g j C ty fr h1] at hv
      cases hp
      rw [hv]
      simp [hj]
    · rw [Array.getElem?_eq_none (by omega)]
      simp [List.getElem?_eq_none (show zs.length ≤ j by omega)]
  unfold Lib.TabIs World.var?
  rw [hg]
  simp only [Option.bind_some, h1, hC]

theorem itoa_sound : OvSound Tryd.prog tab 39 ovItoa := by
  intro args H r c he
  refine ⟨fnOK 39 _ Tryd.func39 (by kernel_rfl) (by decide), ?_⟩
  unfold ovItoa at he
  split at he
  · rename_i n
    obtain ⟨h0, he⟩ := cond_some he
    simp only [Bool.and_eq_true, decide_eq_true_eq] at h0
    simp only [Option.some.injEq, Prod.mk.injEq] at he
    obtain ⟨rfl, rfl⟩ := he
    refine ⟨chg_none, fun base gh w vs hW _ hs hrel => ?_⟩
    obtain ⟨u, rfl, hu⟩ := args1 hs hrel
    rw [hu.inv_int]
    refine (itoa_at n h0.1 h0.2 w (tab_is hW (by kernel_rfl) (g := 4) rfl (by simp [Lib.pow10Tab]))).mono ?_
    rintro e w' ⟨rfl, k, os, rfl⟩
    exact ⟨_, gh, rfl, ret_below hW (below_grow w k os) (.plain _ _ (.str _ _ (by rw [itoaF_eq])))⟩
  · cases he

theorem err_cell {base : Nat} {gh : Gh} {w : World} {H : AHeap} (hW : WRel tab base H gh w) {g : Nat} (hG : tab g = [.iface teErr .any]) : ∃ ev, w.cell? ⟨g, 0, none⟩ = some ev ∧ (ev = .nilIface ∨ ∃ te pe, ev = .iface te pe) := by
  obtain ⟨v, hv, hp, _⟩ := hW.glob g 0 (.iface teErr .any) (by rw [hG]; rfl)
  cases hp with
  | iface _ u _ _ => exact ⟨_, hv, .inr ⟨_, _, rfl⟩⟩

theorem tuple2 {gh : Gh} {n : Nat} {w : World} {u v : Value} {x y : AV} (h1 : VR gh n w u x) (h2 : VR gh n w v y) : VR gh n w (.tuple #[u, v]) (.tuple [x, y]) := by
  refine .tuple _ _ rfl (fun j a b ha hb => ?_)
  match j with
  | 0 => simp at ha hb; subst ha hb; exact h1
  | 1 => simp at ha hb; subst ha hb; exact h2
  | j + 2 => simp at ha

theorem atoi_sound : OvSound Tryd.prog tab 58 ovAtoi := by
  intro args H r c he
  refine ⟨fnOK 58 _ Tryd.func58 (by kernel_rfl) (by decide), ?_⟩
  unfold ovAtoi at he
  split at he
  · rename_i l
    obtain ⟨h0, he⟩ := cond_some he
    have hlen : l.length ≤ 281474976710656 := by simpa [Nat.ble_eq] using h0
    have hc : c = none := by split at he <;> (simp only [Option.some.injEq, Prod.mk.injEq] at he; exact he.2.symm)
    subst hc
    refine ⟨chg_none, fun base gh w vs hW _ hs hrel => ?_⟩
    obtain ⟨u, rfl, hu⟩ := args1 hs hrel
    obtain ⟨s, rfl, hl⟩ := hu.inv_str
    have hsize : s.size ≤ 281474976710656 := by
      have : s.size = s.data.toList.length := by simp
      rw [this, hl]; exact hlen
    split at he
    · rename_i v hat
      simp only [Option.some.injEq, Prod.mk.injEq, and_true] at he
      subst he
      refine (atoi_ok s (by omega) v (by rw [hl]; exact hat) w).mono ?_
      rintro e w' ⟨rfl, hw⟩
      refine ⟨_, gh, rfl, ret_below hW ?_ (tuple2 (.plain _ _ (.int _ _)) (.plain _ _ .niliface))⟩
      rcases hw with rfl | ⟨t, rfl⟩
      · exact Below.refl _ _
      · exact Lib.bytesWorld_below _ _ _
    · rename_i hat
      simp only [Option.some.injEq, Prod.mk.injEq, and_true] at he
      subst he
      obtain ⟨ev, h1, h2⟩ := err_cell hW (g := 7) rfl
      refine (atoi_range s hsize (by rw [hl]; exact hat) ev w h1 h2).mono ?_
      rintro e w' ⟨N, rfl, hb⟩
      rw [hl]
      exact ⟨_, gh, rfl, ret_below hW hb (tuple2 (.plain _ _ (.int _ _)) (.iface _ _ _ (.plain _ _ (.any _ rfl))))⟩
    · rename_i hno hnr
      simp only [Option.some.injEq, Prod.mk.injEq, and_true] at he
      subst he
      obtain ⟨ev, h1, h2⟩ := err_cell hW (g := 6) rfl
      refine (atoi_bad s hsize (by rw [hl]; exact fun v e => hno v e) (by rw [hl]; exact fun e => hnr e) ev w h1 h2).mono ?_
      rintro e w' ⟨N, rfl, hb⟩
      exact ⟨_, gh, rfl, ret_below hW hb (tuple2 (.plain _ _ (.int _ _)) (.iface _ _ _ (.plain _ _ (.any _ rfl))))⟩
  · cases he

end Go.Proofs.YtgdcfgpddgedkaaDoor
