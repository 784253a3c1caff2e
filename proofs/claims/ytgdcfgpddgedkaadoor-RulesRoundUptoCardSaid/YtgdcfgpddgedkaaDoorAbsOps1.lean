/-
  Operations that read and reckon: each gives the value that the abstract semantics says, and leaves the world alone.
-/
import Derived.Test.YtgdcfgpddgedkaaDoorAbsArg
import Derived.WalkKit
namespace Go.Abs
set_option linter.unusedSimpArgs false
set_option linter.unusedVariables false

section
variable {P : Program} {G : Nat → List AV} {base nt : Nat} {L : List Nat} {gh : Gh} {w : World} {a : Act} {s : AS}

theorem cond_some {α : Type} {b : Bool} {x : Option α} {y : α} (h : cond b x none = some y) : b = true ∧ x = some y := by cases b <;> simp_all

theorem ev_mov (hW : WRel G base s.H gh w) (hF : FR L nt gh w a s) {x : Operand} {y : IArg} {take obj : Bool} {z : AV} (hc : compArg nt x = some y)
    (he : evMov G s take obj y = some (z, none)) : Val gh s.H.length nt w s.T s.gen (tmv a) (a.eval x) z := by
  have h := arg_val hW hF hc
  cases y with
  | tmp t =>
    simp only [evMov] at he
    simp only [IArg.addr] at h
    generalize hX : s.T t = X at h he
    cases X <;> simp only [Option.some.injEq, Prod.mk.injEq, and_true] at he <;> (try subst he) <;> (try exact h)
    case slice e own =>
      cases take <;> cases own <;> simp at he <;> subst he <;> exact h
    case lsl g e =>
      cases take
      · simp at he; subst he; exact h
      · cases obj <;> simp at he
  | con v =>
    simp only [evMov, IArg.eval, Option.some.injEq, Prod.mk.injEq, and_true] at he
    subst he
    cases x <;> simp only [compArg, Option.map_eq_some_iff, Option.some.injEq, reduceCtorEq, and_false, exists_false] at hc
    case tmp t => exact absurd (cond_some hc).2 (by simp)
    case const v' =>
      obtain ⟨z, hz, hy⟩ := hc
      injection hy with hy
      subst hy
      exact .of_VR (const_VR hz)
  | glob g =>
    simp only [evMov, IArg.eval, Option.some.injEq, Prod.mk.injEq, and_true] at he
    subst he
    exact h
  | fn f =>
    simp only [evMov, IArg.eval, Option.some.injEq, Prod.mk.injEq, and_true] at he
    subst he
    exact h

/-- The three numbers of an index. -/
theorem asNat_inv (hW : WRel G base s.H gh w) (hF : FR L nt gh w a s) {x : Operand} {y : IArg} (hc : compArg nt x = some y) {k : Nat} (h : asNat (y.eval G s.T) = some k) :
    ∃ kd, a.eval x = .int kd (k : Int) := by
  unfold asNat at h
  split at h
  · rename_i kd m hy
    obtain ⟨h0, h1⟩ := cond_some h
    have hm : (0 : Int) ≤ m := by simpa using h0
    have h1' : m.toNat = k := by simpa using h1
    have hv := (arg_VR hW hF hc hy rfl).inv_int
    exact ⟨kd, by rw [hv, ← h1', Int.toNat_of_nonneg hm]⟩
  · cases h

theorem info_of_size {t : TypeId} {k : Nat} (h : sizeT P t = some k) : ∃ i, P.info? t = some i ∧ i.size = k := by
  simpa [sizeT, Option.map_eq_some_iff] using h

theorem run_sizeOf' {t : TypeId} {k : Nat} (h : sizeT P t = some k) (w : World) : (sizeOf t).run P w = .ok k w := by
  obtain ⟨i, hi, hk⟩ := info_of_size h
  simp [sizeOf, typeInfo, hi, hk]

theorem run_isAgg' {t : TypeId} {g : Bool} (h : aggT P t = some g) (w : World) : (isAgg t).run P w = .ok g w := by
  unfold aggT at h
  simp only [Option.map_eq_some_iff] at h
  obtain ⟨d, hd, hg⟩ := h
  unfold isAgg
  rw [Sem.run_bind, run_underlying hd w]
  subst hg
  cases d <;> rfl

theorem addr_add (b o k : Nat) : (⟨b, o, none⟩ : Addr).add k = ⟨b, o + k, none⟩ := by unfold Addr.add; split <;> simp_all

/-- What the cells of a row give to a load. -/
theorem load_cells {n : Nat} {agg : Bool} {sz off : Nat} {cs : List AV} {z : AV} (hl : loadCellsAV false agg sz off cs = some z) {t : TypeId} (hg : aggT P t = some agg) (hs : sizeT P t = some sz)
    {b o : Nat} {f : Nat → Value} (hf : ∀ (j : Nat) (x : AV), cs[j]? = some x → w.cell? ⟨b, o + j, none⟩ = some (f j) ∧ (f j).oneCell' = true ∧ VR gh n w (f j) x.drop) :
    ∃ v, (loadVar t ⟨b, o + off, none⟩).run P w = .ok v w ∧ VR gh n w v z := by
  unfold loadCellsAV at hl
  cases agg
  · simp only [cond_false, Option.map_eq_some_iff] at hl
    obtain ⟨x, hx, rfl⟩ := hl
    obtain ⟨h1, h2, h3⟩ := hf off x hx
    refine ⟨f off, ?_, h3⟩
    simp [loadVar, run_isAgg' hg, h1]
  · simp only [cond_true] at hl
    obtain ⟨h0, h1⟩ := cond_some hl
    have h0' : off + sz ≤ cs.length := by simpa [Nat.ble_eq] using h0
    injection h1 with h1
    subst h1
    have hcells : (loadCells ⟨b, o + off, none⟩ sz).run P w = .ok ((List.range sz).map fun j => f (off + j)).toArray w :=
      run_loadCells w _ sz (fun j => f (off + j)) fun j hj => by
        have hlt : off + j < cs.length := by omega
        have := (hf (off + j) _ (List.getElem?_eq_getElem hlt)).1
        rw [addr_add, Nat.add_assoc]; exact this
    refine ⟨.agg ((List.range sz).map fun j => f (off + j)).toArray, by simp [loadVar, run_isAgg' hg, run_sizeOf' hs, hcells], ?_⟩
    have hlen : (((cs.drop off).take sz).map AV.drop).length = sz := by simp; omega
    refine .agg _ _ (by simp [hlen]; omega) ?_ ?_
    · intro j v hj
      simp only [List.getElem?_toArray, List.getElem?_map, Option.map_eq_some_iff] at hj
      obtain ⟨k, hk, rfl⟩ := hj
      have hk' := List.getElem?_eq_some_iff.1 hk
      obtain ⟨hlt, hkj⟩ := hk'
      simp at hlt hkj
      subst hkj
      exact (hf (off + j) _ (List.getElem?_eq_getElem (by omega))).2.1
    · intro j v x hj hx
      simp only [List.getElem?_toArray, List.getElem?_map, Option.map_eq_some_iff] at hj hx
      obtain ⟨k, hk, rfl⟩ := hj
      obtain ⟨hlt, hkj⟩ := List.getElem?_eq_some_iff.1 hk
      simp at hlt hkj
      subst hkj
      obtain ⟨y, hy, rfl⟩ := hx
      rw [List.getElem?_take, List.getElem?_drop] at hy
      rw [if_pos hlt] at hy
      exact (hf (off + j) y hy).2.2

theorem sr_lbox (hF : FR L nt gh w a s) {b g : Nat} {cs : List AV} (hb : b < nt) (hT : s.T b = .lbox g cs) :
    ∃ k, tmv a b = .pointer (some ⟨k, 0, none⟩) ∧ BoxAt gh s.H.length w k (.bx b) (fun j => .sc b j) cs := by
  have h := hF.slot b hb
  rw [hT] at h
  exact h.2

theorem sr_lsl (hF : FR L nt gh w a s) {b g : Nat} {e : List (List AV)} (hb : b < nt) (hT : s.T b = .lsl g e) : RowAt gh w (.bx b) (tmv a b) e := by
  have h := hF.slot b hb
  rw [hT] at h
  exact h.2

theorem box_cells {n b : Nat} {p : Owner} {q : Nat → Owner} {cs : List AV} (h : BoxAt gh n w b p q cs) :
    ∃ f : Nat → Value, ∀ (j : Nat) (x : AV), cs[j]? = some x → w.cell? ⟨b, 0 + j, none⟩ = some (f j) ∧ (f j).oneCell' = true ∧ VR gh n w (f j) x.drop := by
  obtain ⟨_, _, C, ty, hb, hC, hcs⟩ := h
  refine ⟨fun j => C.getD j undef, fun j x hx => ?_⟩
  have hj : j < cs.length := (List.getElem?_eq_some_iff.1 hx).1
  have hj' : j < C.size := by omega
  have hv : C[j]? = some C[j] := Array.getElem?_eq_getElem hj'
  obtain ⟨h1, h2⟩ := hcs j _ x hv hx
  refine ⟨by rw [Nat.zero_add, cell_of_row w b j C ty _ hb]; simp [hj'], by simpa [hj'] using h1, by simpa [hj'] using h2.dropped⟩

theorem ev_load (hW : WRel G base s.H gh w) (hF : FR L nt gh w a s) {t : TypeId} {x : Operand} {y : IArg} {take agg : Bool} {sz : Nat} {z : AV} (hc : compArg nt x = some y) (hg : aggT P t = some agg) (hs : sizeT P t = some sz)
    (he : loadAV s take agg sz (y.addr G s.T) = some (z, none)) :
    ∃ v, (Instr.loadAt t (a.eval x)).run P w = .ok v w ∧ Val gh s.H.length nt w s.T s.gen (tmv a) v z := by
  have hv := arg_val hW hF hc
  have nt_take : ∀ {n : Nat} {off : Nat} {cs : List AV} {v : AV}, loadCellsAV take agg sz off cs = some v → (take && !agg) = false → loadCellsAV false agg sz off cs = some v := by
    intro n off cs v h1 h2
    cases take
    · exact h1
    · cases agg
      · cases h2
      · exact h1
  generalize hY : y.addr G s.T = Y at hv he
  cases Y <;> simp only [loadAV] at he <;> try (cases he; done)
  case eptr cs =>
    simp only [Option.map_eq_some_iff, Prod.mk.injEq, and_true] at he
    obtain ⟨u, hu, rfl⟩ := he
    have hp := VR.inv_eptr (hv : VR gh s.H.length w (a.eval x) (.eptr cs))
    generalize hA : a.eval x = V at hp
    cases hp with
    | eptr b o _ f hcell hrel =>
      obtain ⟨v, h1, h2⟩ := load_cells (gh := gh) (n := s.H.length) hu hg hs (b := b) (o := o) (f := f)
        (fun j x hx => ⟨(hcell j x hx).2.1, (hcell j x hx).2.2, VR.dropped (.plain _ _ (hrel j x hx))⟩)
      refine ⟨v, ?_, .of_VR h2⟩
      simpa [Instr.loadAt, Instr.sureAddr] using h1
  case ref loc off =>
    obtain ⟨hlt, hax⟩ := VR.inv_ref (hv : VR gh s.H.length w (a.eval x) (.ref loc off))
    split at he
    · rename_i ty0 cs hH
      simp only [Option.map_eq_some_iff, Prod.mk.injEq] at he
      obtain ⟨u, hu, rfl, hn⟩ := he
      have hq : (take && !agg) = false := by cases h : (take && !agg) <;> simp_all
      obtain ⟨f, hf⟩ := box_cells (hW.boxes loc _ cs hH)
      obtain ⟨v, h1, h2⟩ := load_cells (gh := gh) (n := s.H.length) (nt_take (n := 0) hu hq) hg hs (b := gh.ρ loc) (o := 0) (f := f) hf
      refine ⟨v, ?_, .of_VR h2⟩
      rw [hax]
      simpa [Instr.loadAt, Instr.sureAddr] using h1
    · cases he
  case lref b g off =>
    obtain ⟨hb, hg0, hr⟩ := (hv : _ ∧ _ ∧ _)
    split at he
    · rename_i g' cs hT
      obtain ⟨h0, he2⟩ := cond_some he
      clear he
      have hgg : g = g' := by simpa [nbeq] using h0
      subst hgg
      rename _ = some (z, none) => he
      simp only [Option.map_eq_some_iff, Prod.mk.injEq] at he
      obtain ⟨u, hu, rfl, hn⟩ := he
      have hq : (take && !agg) = false := by cases h : (take && !agg) <;> simp_all
      obtain ⟨k, hk, hbox⟩ := sr_lbox hF hb hT
      have hax := hr (by rw [hT]; rfl) k hk
      obtain ⟨f, hf⟩ := box_cells hbox
      obtain ⟨v, h1, h2⟩ := load_cells (gh := gh) (n := s.H.length) (nt_take (n := 0) hu hq) hg hs (b := k) (o := 0) (f := f) hf
      refine ⟨v, ?_, .of_VR h2⟩
      rw [hax]
      simpa [Instr.loadAt, Instr.sureAddr] using h1
    · cases he
  case eref b g i zz off =>
    obtain ⟨hb, hg0, hr⟩ := (hv : _ ∧ _ ∧ _)
    split at he
    · rename_i g' e hT
      obtain ⟨h0, he2⟩ := cond_some he
      clear he
      have hgg : g = g' := by simpa [nbeq] using h0
      subst hgg
      rename _ = some (z, none) => he
      simp only [Option.bind_eq_some_iff] at he
      obtain ⟨r, hri, he⟩ := he
      obtain ⟨h1, he⟩ := cond_some he
      have hz : r.length = zz := by simpa [nbeq] using h1
      simp only [Option.map_eq_some_iff, Prod.mk.injEq, and_true] at he
      obtain ⟨u, hu, rfl⟩ := he
      obtain ⟨ad, cap, hv', hrow⟩ := sr_lsl hF hb hT
      rcases hrow with ⟨rfl, _⟩ | ⟨k, C, ty, sz', _, rfl, hκ, hS, hkb, hC, hl, hrl, hcs⟩
      · simp at hri
      · have hax := hr (by rw [hT]; rfl) k _ _ hv'
        have hsz : sz' = zz := by rw [← hz, hrl i r hri]
        subst hsz
        obtain ⟨v, h1, h2⟩ := load_cells (P := P) (gh := gh) (w := w) (n := s.H.length) hu hg hs (b := k) (o := i * sz') (f := fun j => C.getD (i * sz' + j) undef) (fun j x hx => by
          obtain ⟨u, hu1, hu2⟩ := hcs i j r x hri hx
          have hj : i * sz' + j < C.size := (Array.getElem?_eq_some_iff.1 hu1).1
          have he2 : C.getD (i * sz' + j) undef = u := by
            rw [Array.getElem?_eq_getElem hj] at hu1
            injection hu1 with hu1
            simp [hj, hu1]
          rw [he2, cell_of_row w k _ C ty _ hkb, hu1]
          exact ⟨rfl, hu2.oneCell, VR.dropped (.plain _ _ hu2)⟩)
        refine ⟨v, ?_, .of_VR h2⟩
        rw [hax]
        simpa [Instr.loadAt, Instr.sureAddr] using h1
    · cases he

end
end Go.Abs
