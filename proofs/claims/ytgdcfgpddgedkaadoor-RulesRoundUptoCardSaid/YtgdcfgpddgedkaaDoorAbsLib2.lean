/-
  strings.Builder's own checks, from the shelf's contracts.
-/
import Derived.Test.YtgdcfgpddgedkaaDoorAbsLib
import Derived.Shelf.Strings.Builder1
set_option linter.unusedVariables false
set_option linter.unusedSimpArgs false
set_option maxHeartbeats 1000000
set_option maxRecDepth 100000
namespace Go.Proofs.YtgdcfgpddgedkaaDoor
open Go Go.Abs Go.Proofs Go.Shelf RowKit

theorem sizeB : (Tryd.prog.info? 80).map (·.size) = some 2 := by kernel_rfl
theorem liesB : liesAt Tryd.prog Tryd.prog.depth 80 (2 / Tryd.prog.cellsOf 80) 0 80 1 = true := by kernel_rfl

theorem copy_used (b : Nat) (w : World) (h0 : w.cell? ⟨b, 0, none⟩ = some (.pointer (some ⟨b, 0, none⟩))) :
    Calls Tryd.prog 53 #[.pointer (some ⟨b, 0, none⟩)] w fun e w' => e = .returned (.tuple #[]) ∧ w' = w := by
  obtain ⟨j, hj, _⟩ := Option.map_eq_some_iff.1 sizeB
  go_enter Tryd.func53, Tryd.ntmps53
  go_wp2
  rw [Lib.run_neq_ptr_same w _ Tryd.underlying77 hj]
  go_wp2
  go_end0
  exact ⟨rfl, rfl⟩

theorem copy_fresh (b : Nat) (w : World) (h0 : w.cell? ⟨b, 0, none⟩ = some (.pointer none)) (hsh : w.shape? b = some (80, 2)) (hfz : w.frozen? ⟨b, 0, none⟩ = false) :
    Calls Tryd.prog 53 #[.pointer (some ⟨b, 0, none⟩)] w fun e w' => e = .returned (.tuple #[]) ∧ w' = w.setCell ⟨b, 0, none⟩ (.pointer (some ⟨b, 0, none⟩)) := by
  obtain ⟨j, hj, hjs⟩ := Option.map_eq_some_iff.1 sizeB
  go_enter Tryd.func53, Tryd.ntmps53
  go_wp2
  rw [Lib.run_to_unsafe w ⟨b, 0, none⟩ Tryd.underlying77 Tryd.underlying101 hj (by rw [hjs]; decide) hsh (Nat.zero_lt_succ 1)]
  simp only [Result.andThen]
  rw [Oper.upon_value]
  go_wp2
  rw [run_callFunc_extern Tryd.func60 (by kernel_rfl) (by kernel_rfl) (by kernel_rfl) (e := Extern.AbiNoEscape.same) (by kernel_rfl)]
  rw [Lib.run_noEscape]
  simp only [Result.andThen]
  rw [Oper.upon_value]
  go_wp2
  rw [Lib.run_from_unsafe w ⟨b, 0, none⟩ Tryd.underlying101 Tryd.underlying77 hj hsh liesB]
  simp only [Result.andThen]
  rw [Oper.upon_value]
  go_wp2
  go_end0
  exact ⟨rfl, rfl⟩

theorem copy_sound {G : Nat → List AV} : OvSound Tryd.prog G 53 ovCopyCheck := by
  intro args H r c he
  refine ⟨fnOK 53 _ Tryd.func53 (by kernel_rfl) (by decide), ?_⟩
  unfold ovCopyCheck at he
  split at he
  · rename_i l
    split at he
    · -- fresh
      rename_i x hH
      simp only [Option.some.injEq, Prod.mk.injEq] at he
      obtain ⟨rfl, rfl⟩ := he
      have hlt : l < H.length := (List.getElem?_eq_some_iff.1 hH).1
      refine ⟨⟨by simp [newH], fun c' hc' => ?_⟩, fun base gh w vs hW _ hs hrel => ?_⟩
      · injection hc' with hc'
        subst hc'
        refine ⟨Nat.le_of_lt hlt, fun k hk => ?_⟩
        simp only at hk ⊢
        rw [List.getElem?_set_ne (by omega)]
      · obtain ⟨u, rfl, hu⟩ := args1 hs hrel
        obtain ⟨_, rfl⟩ := hu.inv_ref
        obtain ⟨hκ, hS, C, ty, hb, hC, hcs⟩ := hW.boxes l _ _ hH
        obtain ⟨C2, fr2, hb2, hC2⟩ := hW.types l _ _ hH (by decide)
        rw [hb] at hb2
        injection hb2 with hb2
        injection hb2 with e1 e2 e3
        subst e1 e2
        have hC2 : C.size = 2 := hC2
        have h0 : C[0]? = some C[0] := Array.getElem?_eq_getElem (by omega)
        have hc0 : C[0] = .pointer none := by
          have := (hcs 0 _ .nilptr h0 rfl).2.dropped
          generalize C[0] = V at this
          cases this with
          | plain _ _ h => cases h; rfl
        have hcell : w.cell? ⟨gh.ρ l, 0, none⟩ = some (.pointer none) := by rw [cell_of_row w _ 0 C _ _ hb, h0, hc0]
        have hno : ∀ o, gh.S (gh.ρ l) o → (C.setIfInBounds 0 (.pointer (some ⟨gh.ρ l, 0, none⟩)))[o]? = C[o]? := fun o ho => (hS o ho).elim
        have st := row_step0 hW hb (by simp) hno H.length
        rw [hκ] at st
        refine (copy_fresh (gh.ρ l) w hcell (by simp [World.shape?, hb, hC2]) (by simp [World.frozen?, hb])).mono ?_
        rintro e w' ⟨rfl, rfl⟩
        rw [setCell_eq_setRow w (gh.ρ l) 0 C _ (0, 0) _ hb]
        have hW' : WRel G base (H.set l (.box 80 [.ref l 0, x])) gh (w.setRow (gh.ρ l) (C.setIfInBounds 0 (.pointer (some ⟨gh.ρ l, 0, none⟩)))) := by
          refine hW.setBox st hH (by intro k hk; simp [hk]) (fun b o ho => by simpa using hW.sLt b o ho) (fun b hb => by simpa using hW.kLt b hb) ⟨hκ, hS, _, _, setRow_heap w _ C _ _ _ hb, by simpa using hC, fun j v y hv hy => ?_⟩ ?_ ?_ ?_
          · match j with
            | 0 =>
              simp at hy
              subst hy
              rw [Array.getElem?_setIfInBounds_self_of_lt (by omega)] at hv
              injection hv with hv
              subst hv
              exact ⟨rfl, .inl (.ref l 0 hlt)⟩
            | j + 1 =>
              rw [Array.getElem?_setIfInBounds_ne (by omega)] at hv
              obtain ⟨k1, k2⟩ := hcs (j + 1) v y hv (by simpa using hy)
              exact ⟨k1, k2.mono st (Nat.le_refl _) (by simp)⟩
          · have := hW.refs l _ _ hH
            simp only [List.all_cons, List.all_nil, Bool.and_true, Bool.and_eq_true] at this ⊢
            exact ⟨by simp [heapCell], this.2⟩
          · exact fun _ _ h => h
          · rfl
        refine ⟨_, gh, rfl, by simp [newH], hW', st.mono (fun p hp => .inl ⟨l, hp⟩), fun _ h => h, .inl .undef⟩
    · -- used
      rename_i l' y hH
      obtain ⟨h0, he1⟩ := cond_some he
      clear he
      have hll : l = l' := by simpa [nbeq] using h0
      simp only [Option.some.injEq, Prod.mk.injEq] at he1
      obtain ⟨rfl, rfl⟩ := he1
      subst hll
      refine ⟨chg_none, fun base gh w vs hW _ hs hrel => ?_⟩
      obtain ⟨u, rfl, hu⟩ := args1 hs hrel
      obtain ⟨_, rfl⟩ := hu.inv_ref
      obtain ⟨hκ, hS, C, ty, hb, hC, hcs⟩ := hW.boxes l _ _ hH
      have hC2 : 2 ≤ C.size := hC
      have h0' : C[0]? = some C[0] := Array.getElem?_eq_getElem (by omega)
      have hc0 : C[0] = .pointer (some ⟨gh.ρ l, 0, none⟩) := (VR.inv_ref (hcs 0 _ (.ref l 0) h0' rfl).2.dropped).2
      refine (copy_used (gh.ρ l) w (by rw [cell_of_row w _ 0 C _ _ hb, h0', hc0])).mono ?_
      rintro e w' ⟨rfl, rfl⟩
      exact ⟨_, gh, rfl, ret_below hW (Below.refl _ _) .undef⟩
    · cases he
  · cases he

end Go.Proofs.YtgdcfgpddgedkaaDoor
