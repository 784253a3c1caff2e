/-
  strings.Builder's text: String as taken as given.
-/
import Derived.Test.YtgdcfgpddgedkaaDoorAbsLib4
set_option linter.unusedVariables false
set_option linter.unusedSimpArgs false
namespace Go.Proofs.YtgdcfgpddgedkaaDoor
open Go Go.Abs Go.Proofs Go.Shelf RowKit

section
variable {G : Nat → List AV} {base : Nat} {gh : Gh} {w w' : World} {H : AHeap}

theorem ret_step (hW : WRel G base H gh w) (st : Step (fun _ => False) H.length gh w gh w') {v : Value} {r : AV} (hv : VR gh H.length w' v r) : RetOK G base H gh w r none v gh w' :=
  ⟨Nat.le_refl _, hW.step st (fun l => ⟨id, fun _ => id⟩) (fun b o h => Nat.lt_of_lt_of_le (hW.sLt b o h) st.size) (fun b h => ⟨(hW.kLt b h).1, Nat.lt_of_lt_of_le (hW.kLt b h).2 st.size⟩) (fun _ _ _ h => .inl h),
    st.mono (fun _ h => h.elim), fun _ h => h, .inl hv⟩

/-- Bytes that stay are frozen. -/
theorem step_freeze (hW : WRel G base H gh w) {b o n : Nat} {C : Array Value} {ty : TypeId} {fr : Nat × Nat} (hb : w.heap[b]? = some (.cells C ty fr)) (hn : n ≠ 0) (hS : ∀ j, j < n → gh.S b (o + j)) (h8 : ∃ m, C[o]? = some (.int .u8 m)) (m : Nat) :
    Step (fun _ => False) m gh w gh (w.drew.freeze ⟨b, o, none⟩ n) := by
  have hlt : b < w.heap.size := (Array.getElem?_eq_some_iff.1 hb).1
  have hheap : ∀ k, (w.drew.freeze ⟨b, o, none⟩ n).heap[k]? = if k = b then some (.cells C ty (if fr.1 == fr.2 then (o, o + n) else (min fr.1 o, max fr.2 (o + n)))) else w.heap[k]? := by
    intro k
    unfold World.freeze
    rw [if_neg hn]
    show (w.heap.modify b _)[k]? = _
    rw [Array.getElem?_modify]
    by_cases hk : k = b
    · subst hk
      rw [if_pos rfl, if_pos rfl, hb]
      obtain ⟨lo, hi⟩ := fr
      rfl
    · rw [if_neg (fun e => hk e.symm), if_neg hk]
  have hcell : ∀ k j, (w.drew.freeze ⟨b, o, none⟩ n).cell? ⟨k, j, none⟩ = w.cell? ⟨k, j, none⟩ := by
    intro k j
    simp only [World.cell?, hheap]
    by_cases hk : k = b
    · subst hk; rw [if_pos rfl, hb]
    · rw [if_neg hk]
  have hsize : (w.drew.freeze ⟨b, o, none⟩ n).heap.size = w.heap.size := by
    unfold World.freeze
    rw [if_neg hn]
    show (w.heap.modify b _).size = _
    simp
  have hos : (w.drew.freeze ⟨b, o, none⟩ n).os = w.os ∧ (w.drew.freeze ⟨b, o, none⟩ n).tape = w.tape ∧ (w.drew.freeze ⟨b, o, none⟩ n).output = w.output := by
    unfold World.freeze
    rw [if_neg hn]
    exact ⟨rfl, rfl, rfl⟩
  refine ⟨fun _ _ h => h, fun k j _ => hcell k j, by rw [hsize]; exact Nat.le_refl _, hos.1, hos.2.1, hos.2.2, fun k hk _ => ⟨?_, rfl, fun _ h => h⟩, fun k hk => hW.not_outer k (by rw [← hsize]; rw [hsize]; exact hk), fun _ _ => rfl, fun k ty' m' hm => ?_⟩
  · rw [hheap]
    by_cases hkb : k = b
    · subst hkb
      rw [if_pos rfl, hb]
      obtain ⟨lo, hi⟩ := fr
      obtain ⟨m8, h8⟩ := h8
      have hlast : ∀ q, (∀ o, q ≤ o → ¬ gh.S k o) → o + n ≤ q := fun q hno => by
        rcases Nat.lt_or_ge (o + (n - 1)) q with h | h
        · omega
        · exact absurd (hS (n - 1) (by omega)) (hno _ h)
      by_cases hlh : (lo == hi) = true
      · exact .inr ⟨C, ty, lo, hi, o, o + n, rfl, by rw [if_pos hlh], ⟨o, m8, by simpa using hS 0 (by omega), h8⟩, fun q hq hno => hlast q hno⟩
      · exact .inr ⟨C, ty, lo, hi, min lo o, max hi (o + n), rfl, by rw [if_neg hlh], ⟨o, m8, by simpa using hS 0 (by omega), h8⟩, fun q hq hno => by have := hlast q hno; omega⟩
    · rw [if_neg hkb]; exact .inl rfl
  · obtain ⟨C', fr', h1, h2⟩ := hm
    by_cases hkb : k = b
    · subst hkb
      rw [hb] at h1
      injection h1 with h1
      injection h1 with e1 e2 e3
      subst e1 e2
      exact ⟨C, _, by rw [hheap, if_pos rfl], h2⟩
    · exact ⟨C', fr', by rw [hheap, if_neg hkb]; exact h1, h2⟩

theorem step_drew (hW : WRel G base H gh w) (m : Nat) : Step (fun _ => False) m gh w gh w.drew :=
  step_below hW (Below.drew (Below.refl _ w)) m
end

theorem run_getObj (P : Program) (w : World) {r : Nat} {o : Obj} (h : w.heap[r]? = some o) (hc : ∀ C t f, o ≠ .cells C t f) : (getObj r).run P w = .ok o w := by
  cases o <;> first | (exact absurd rfl (hc _ _ _)) | simp [getObj, Sem.run, h]

theorem run_sliceData0 (w : World) (ad : Addr) (h : ad.block < w.heap.size) : ∃ q W1, (Builtin.unsafeSliceData_ #[78] 93 #[.slice (some ad) 0 0]).run Tryd.prog w.drew = .ok (.pointer q) W1 ∧ Below w.heap.size w W1 := by
  have hp : Tryd.prog.underlying 93 = some (.pointer 5) := Tryd.underlying93
  have hdef : Builtin.unsafeSliceData_ #[78] 93 #[.slice (some ad) 0 0] =
      (do
        if (0 : Nat) ≠ 0 then pure (.pointer (some ad))
        else if (← viewAt ad.block).isSome then pure (.pointer (some ad))
        else pure (.pointer (some ⟨← newObj (.view ad (← elemOf 93)), 0, none⟩))) := rfl
  have hlt : ad.block < w.drew.heap.size := h
  rw [hdef]
  cases ho : w.drew.heap[ad.block]? with
  | none => rw [Array.getElem?_eq_getElem hlt] at ho; cases ho
  | some o =>
    cases o with
    | cells C ty fr =>
      refine ⟨some ⟨w.heap.size, 0, none⟩, w.drew.alloc (.view ad 5), ?_, (Below.drew (Below.refl _ w)).alloc (Nat.le_refl _) _⟩
      have hsh : w.drew.shape? ad.block = some (ty, C.size) := by simp [World.shape?, ho]
      simp [viewAt, hsh, elemOf, run_underlying hp]
    | view a t =>
      refine ⟨some ad, w.drew, ?_, Below.drew (Below.refl _ w)⟩
      have hg := run_getObj Tryd.prog w.drew ho (fun _ _ _ h => by cases h)
      have hsh : w.drew.shape? ad.block = none := by simp [World.shape?, ho]
      simp [viewAt, hsh, hg, Result.andThen]
    | _ =>
      refine ⟨some ⟨w.heap.size, 0, none⟩, w.drew.alloc (.view ad 5), ?_, (Below.drew (Below.refl _ w)).alloc (Nat.le_refl _) _⟩
      have hg := run_getObj Tryd.prog w.drew ho (fun _ _ _ h => by cases h)
      have hsh : w.drew.shape? ad.block = none := by simp [World.shape?, ho]
      simp [viewAt, hsh, elemOf, run_underlying hp, hg, Result.andThen]

theorem cell_lt' {w : World} {b o : Nat} {v : Value} (h : w.cell? ⟨b, o, none⟩ = some v) : b < w.heap.size := by
  rcases Nat.lt_or_ge b w.heap.size with h' | h'
  · exact h'
  · simp [World.cell?, Array.getElem?_eq_none h'] at h

theorem bytes_row : ∀ {e : List (List AV)} {l : List UInt8}, bytesOf e = some l → e.length = l.length ∧ ∀ (i : Nat) (b : UInt8), l[i]? = some b → ∃ m : Int, e[i]? = some [.int .u8 m] ∧ b = UInt8.ofNat m.toNat
  | [], l, h => by
    simp only [bytesOf, Option.some.injEq] at h
    subst h
    exact ⟨rfl, fun i b h => by simp at h⟩
  | r :: e, l, h => by
    unfold bytesOf at h
    split at h
    · cases ‹_ :: _ = []›
    · rename_i n e' heq
      injection heq with h1 h2
      subst h1 h2
      obtain ⟨l', h3, rfl⟩ := Option.map_eq_some_iff.1 h
      obtain ⟨k1, k2⟩ := bytes_row h3
      refine ⟨by simp [k1], fun i b hb => ?_⟩
      cases i with
      | zero => simp at hb; exact ⟨n, rfl, hb.symm⟩
      | succ i => exact k2 i b (by simpa using hb)
    · cases h

theorem string_sound {G : Nat → List AV} : OvSound Tryd.prog G 40 ovString := by
  intro args H r c he
  refine ⟨fnOK 40 _ Tryd.func40 (by kernel_rfl) (by decide), ?_⟩
  unfold ovString at he
  split at he
  · rename_i l
    split at he
    · rename_i x e hH
      obtain ⟨h0, he⟩ := cond_some he
      simp only [Bool.and_eq_true] at h0
      have hlen : e.length ≤ 4611686018427387904 := by simpa [Nat.ble_eq] using h0.1
      have hrange := h0.2
      obtain ⟨bs, hbs, he⟩ := Option.map_eq_some_iff.1 he
      simp only [Prod.mk.injEq] at he
      obtain ⟨rfl, rfl⟩ := he
      obtain ⟨hbl, hbr⟩ := bytes_row hbs
      have hlt : l < H.length := (List.getElem?_eq_some_iff.1 hH).1
      refine ⟨chg_none, fun base gh w vs hW _ hs hrel => ?_⟩
      obtain ⟨u, rfl, hu⟩ := args1 hs hrel
      obtain ⟨_, rfl⟩ := hu.inv_ref
      obtain ⟨hκ, hS, C, ty, hb, hC, hcs⟩ := hW.boxes l _ _ hH
      have hC2 : 2 ≤ C.size := hC
      have h1 : C[1]? = some C[1] := Array.getElem?_eq_getElem (by omega)
      have hv := (hcs 1 _ (.slice e true) h1 rfl).2
      have hcell : w.cell? ⟨gh.ρ l, 1, none⟩ = some C[1] := by rw [cell_of_row w _ 1 C _ _ hb, h1]
      generalize C[1] = v at hv hcell
      by_cases hne : e = []
      · subst hne
        have hb0 : bs = [] := by
          simp only [bytesOf, Option.some.injEq] at hbs; exact hbs.symm
        subst hb0
        have hv' : ∃ a, v = .slice a 0 0 ∧ ∀ ad, a = some ad → ad.block < w.heap.size := by
          rcases hv with hv | ⟨e', heq, _, _, _, _, _, _, _, _, _, _, hne', _⟩
          · cases hv with
            | plain _ _ h => cases h
            | full a k _ h hz =>
              have hk : k = 0 := by cases h with
                | sliceNil => rfl
                | slice _ _ _ _ _ _ _ hn => simpa using hn.symm
              subst hk
              exact ⟨a, rfl, fun ad ha => hz ad ha rfl⟩
          · injection heq with heq; subst heq; exact absurd rfl hne'
        obtain ⟨a, rfl, hz⟩ := hv'
        have c1 : w.drew.cell? ⟨gh.ρ l, 1, none⟩ = some (.slice a 0 0) := hcell
        have fin : ∀ (q : Option Addr) (W1 : World), (Builtin.unsafeSliceData_ #[78] 93 #[.slice a 0 0]).run Tryd.prog w.drew = .ok (.pointer q) W1 → Below w.heap.size w W1 → Calls Tryd.prog 40 #[.pointer (some ⟨gh.ρ l, 0, none⟩)] w fun e w' => ∃ v gh', e = .returned v ∧ RetOK G base H gh w (.str []) none v gh' w' := by
          intro q W1 hSD hbel
          have c2 : W1.cell? ⟨gh.ρ l, 1, none⟩ = some (.slice a 0 0) := by rw [hbel.cell (cell_lt' hcell)]; exact hcell
          refine (string_gen (gh.ρ l) a q 0 0 .empty w W1 W1 c1 c2 hSD (Lib.run_unsafeString_none W1 _ _ _ q)).mono ?_
          rintro e w' ⟨rfl, rfl⟩
          exact ⟨_, gh, rfl, ret_below hW hbel (.plain _ _ (.str _ _ rfl))⟩
        cases a with
        | none => exact fin none w.drew rfl (Below.drew (Below.refl _ w))
        | some ad =>
          obtain ⟨q, W1, h1, h2⟩ := run_sliceData0 w ad (hz ad rfl)
          exact fin q W1 h1 h2
      · have hpr : PR gh.S w v (.slice e false) := by
          rcases hv with hv | ⟨e', heq, h, _⟩
          · cases hv with
            | plain _ _ h => cases h
            | full a k _ h hz => exact h
          · injection heq with heq; subst heq; exact h
        cases hpr with
        | sliceNil => exact absurd rfl hne
        | slice b o n cap sz _ f hn hcap hrow hcell2 hrel2 =>
          subst hn
          have hpos : 0 < e.length := List.length_pos_iff.2 hne
          have hbpos : 0 < bs.length := by omega
          obtain ⟨m0, hm0, _⟩ := hbr 0 bs[0] (List.getElem?_eq_getElem hbpos)
          have hsz : sz = 1 := (hrow 0 _ hm0).symm
          subst hsz
          have each : ∀ (i : Nat) (x : UInt8), bs[i]? = some x → gh.S b (o + i) ∧ w.cell? ⟨b, o + i, none⟩ = some (.int .u8 x.toNat) := by
            intro i x hx
            obtain ⟨m, hm, rfl⟩ := hbr i x hx
            obtain ⟨k1, k2, _⟩ := hcell2 i 0 _ _ hm rfl
            have hr := hrel2 i 0 _ _ hm rfl
            have hf : f i 0 = .int .u8 m := by
              generalize f i 0 = V at hr
              cases hr; rfl
            simp only [Nat.mul_one, Nat.add_zero] at k1 k2
            refine ⟨k1, ?_⟩
            rw [k2, hf]
            have hm8 := List.all_eq_true.1 hrange _ (List.mem_of_getElem? hm)
            simp only [Bool.and_eq_true, decide_eq_true_eq] at hm8
            have e1 : ((UInt8.ofNat m.toNat).toNat : Int) = m := by
              rw [UInt8.toNat_ofNat']
              omega
            rw [e1]
          obtain ⟨Cb, fr, hbb⟩ : ∃ Cb fr, w.heap[b]? = some (.cells Cb byteTy fr) := by
            have := each 0 bs[0] (List.getElem?_eq_getElem hbpos)
            exact hW.bytes b (o + 0) _ this.1 this.2
          have hsh : w.drew.shape? b = some (5, Cb.size) := by
            have : w.drew.heap[b]? = some (.cells Cb byteTy fr) := hbb
            simp [World.shape?, this]
          have hin : o + bs.length ≤ Cb.size := by
            have := (each (bs.length - 1) bs[bs.length - 1] (List.getElem?_eq_getElem (by omega))).2
            rw [cell_of_row w b _ Cb _ _ hbb] at this
            have := (Array.getElem?_eq_some_iff.1 this).1
            omega
          have c1 : w.drew.cell? ⟨gh.ρ l, 1, none⟩ = some (.slice (some ⟨b, o, none⟩) e.length cap) := hcell
          have hSD : (Builtin.unsafeSliceData_ #[78] 93 #[.slice (some ⟨b, o, none⟩) e.length cap]).run Tryd.prog w.drew = .ok (.pointer (some ⟨b, o, none⟩)) w.drew := Lib.run_unsafeSliceData_row _ _ _ _ _ _ (by omega)
          have hUS := run_unsafeString_off (P := Tryd.prog) w.drew 93 3 9 5 Tryd.underlying93 (by kernel_rfl) b o Cb.size hsh bs (by intro e; rw [e] at hbpos; simp at hbpos) hin (by omega) (fun j x hx => by
            have hadd : (Addr.mk b o none).add j = ⟨b, o + j, none⟩ := by
              unfold Addr.add
              split
              · rename_i h0; subst h0; simp
              · simp
            rw [hadd]; exact (each j x hx).2)
          rw [← hbl] at hUS
          refine (string_gen (gh.ρ l) _ _ e.length cap _ w _ _ c1 c1 hSD hUS).mono ?_
          rintro e' w' ⟨rfl, rfl⟩
          refine ⟨_, gh, rfl, ret_step hW (step_freeze hW hbb (by omega) (fun j hj => (each j bs[j] (List.getElem?_eq_getElem (by omega))).1) ⟨bs[0].toNat, ?_⟩ _) (.plain _ _ (.str _ _ rfl))⟩
          have := (each 0 bs[0] (List.getElem?_eq_getElem hbpos)).2
          rw [cell_of_row w b _ Cb _ _ hbb] at this
          simpa using this
    · cases he
  · cases he

end Go.Proofs.YtgdcfgpddgedkaaDoor
