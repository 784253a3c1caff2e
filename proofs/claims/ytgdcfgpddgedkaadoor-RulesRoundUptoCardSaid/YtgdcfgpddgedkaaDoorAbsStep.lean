/-
  New blocks; blocks that change hands; blocks that are written.
-/
import Derived.Test.YtgdcfgpddgedkaaDoorAbsOps6
namespace Go.Abs
set_option linter.unusedSimpArgs false
set_option linter.unusedVariables false

section
variable {G : Nat → List AV} {base nt : Nat} {L : List Nat} {gh : Gh} {w w' : World} {a : Act} {s : AS} {H : AHeap}

def Gh.alloc (gh : Gh) (b : Nat) (p : Owner) (q : Nat → Prop) : Gh := { S := fun b' o => gh.S b' o ∨ (b' = b ∧ q o), κ := fun b' => if b' = b then p else gh.κ b', ρ := gh.ρ }

/-- A world with one more block. -/
structure Pushed (w w' : World) (o : Obj) : Prop where
  heap : w'.heap = w.heap.push o
  os : w'.os = w.os
  tape : w'.tape = w.tape
  output : w'.output = w.output

theorem Pushed.alloc (w : World) (o : Obj) : Pushed w (w.alloc o) o := ⟨rfl, rfl, rfl, rfl⟩
theorem Pushed.drew (w : World) (o : Obj) : Pushed w (w.drew.alloc o) o := ⟨rfl, rfl, rfl, rfl⟩

theorem Pushed.old {o : Obj} (h : Pushed w w' o) (b : Nat) (hb : b < w.heap.size) : w'.heap[b]? = w.heap[b]? := by
  rw [h.heap, Array.getElem?_push, if_neg (by omega)]

theorem Pushed.new {o : Obj} (h : Pushed w w' o) : w'.heap[w.heap.size]? = some o := by
  rw [h.heap, Array.getElem?_push, if_pos rfl]

theorem Pushed.size {o : Obj} (h : Pushed w w' o) : w'.heap.size = w.heap.size + 1 := by rw [h.heap]; simp

theorem cell_of_heap {b o : Nat} (h : w'.heap[b]? = w.heap[b]?) : w'.cell? ⟨b, o, none⟩ = w.cell? ⟨b, o, none⟩ := by simp [World.cell?, h]

theorem WRel.not_outer (hW : WRel G base H gh w) (b : Nat) (hb : w.heap.size ≤ b) : gh.κ b ≠ .outer := by rw [hW.fresh b hb]; simp

theorem alloc_step (hW : WRel G base H gh w) {o : Obj} (hp : Pushed w w' o) {p : Owner} (hne : p ≠ .outer) (q : Nat → Prop) (n : Nat) : Step (fun _ => False) n gh w (gh.alloc w.heap.size p q) w' := by
  refine ⟨fun b o h => .inl h, fun b o h => cell_of_heap (hp.old b (hW.sLt b o h)), by rw [hp.size]; omega, hp.os, hp.tape, hp.output, ?_, ?_, fun _ _ => rfl, fun b ty m hb => by
    obtain ⟨C, fr, h1, h2⟩ := hb
    exact ⟨C, fr, by rw [hp.old b (Array.getElem?_eq_some_iff.1 h1).1]; exact h1, h2⟩⟩
  · intro b hb _
    have hne' : b ≠ w.heap.size := by omega
    refine ⟨.inl (hp.old b hb), by simp [Gh.alloc, hne'], fun o ho => ?_⟩
    rcases ho with ho | ⟨e, _⟩
    · exact ho
    · exact absurd e hne'
  · intro b hb
    show (if b = w.heap.size then p else gh.κ b) ≠ .outer
    split
    · exact hne
    · exact hW.not_outer b hb

theorem alloc_ext (hW : WRel G base H gh w) {o : Obj} (hp : Pushed w w' o) {p : Owner} (hne : p ≠ .outer) (q : Nat → Prop) (n : Nat) : Ext n gh w (gh.alloc w.heap.size p q) w' := by
  refine ⟨(alloc_step hW hp hne q n).mono (fun _ h => h.elim), fun b hb => ?_⟩
  have hb' : (if b = w.heap.size then p else gh.κ b) = .outer := hb
  split at hb'
  · exact absurd hb' hne
  · exact hb'

/-- The heap side, kept by a step that leaves each object's owner alone. -/
theorem WRel.step {touch : Owner → Prop} {gh' : Gh} (hW : WRel G base H gh w) (st : Step touch H.length gh w gh' w') (ht : ∀ l, ¬ touch (.hb l) ∧ ∀ j, ¬ touch (.hs l j))
    (hs : ∀ b o, gh'.S b o → b < w'.heap.size) (hk : ∀ b, gh'.κ b ≠ .none → base ≤ b ∧ b < w'.heap.size)
    (hnew : ∀ b o m, gh'.S b o → gh.S b o ∨ (w'.cell? ⟨b, o, none⟩ = some (.int .u8 m) → ∃ C fr, w'.heap[b]? = some (.cells C byteTy fr))) : WRel G base H gh' w' := by
  refine ⟨Nat.le_trans hW.size st.size, hs, hk, fun g j x hx => ?_, fun loc ty cs hl => ?_, hW.refs, fun g hg => (hW.tabs g hg).imp fun ty h => st.len g ty _ h, hW.bytes_step st hnew, fun loc ty cs hl => ?_⟩
  · obtain ⟨v, h1, h2, h3⟩ := hW.glob g j x hx
    exact ⟨v, (st.cell g j h3).trans h1, h2.mono st.S st.cell, st.S g j h3⟩
  · have hlt : loc < H.length := (List.getElem?_eq_some_iff.1 hl).1
    have h := (hW.boxes loc ty cs hl).mono st (Nat.le_refl _) (ht loc).1 (ht loc).2
    rw [st.ρ loc hlt]; exact h
  · rw [st.ρ loc (List.getElem?_eq_some_iff.1 hl).1]
    exact fun hf => st.len _ _ _ (hW.types loc ty cs hl hf)

theorem WRel.alloc (hW : WRel G base H gh w) {o : Obj} (hp : Pushed w w' o) {p : Owner} (hne : p ≠ .outer) (q : Nat → Prop)
    (hq : ∀ k m, q k → w'.cell? ⟨w.heap.size, k, none⟩ = some (.int .u8 m) → ∃ C fr, w'.heap[w.heap.size]? = some (.cells C byteTy fr)) : WRel G base H (gh.alloc w.heap.size p q) w' := by
  refine hW.step (alloc_step hW hp hne q H.length) (fun l => ⟨id, fun _ => id⟩) ?_ ?_ (fun b k m h => h.elim .inl (fun ⟨e, hk⟩ => .inr (by subst e; exact hq k m hk)))
  · intro b o ho
    rw [hp.size]
    rcases ho with ho | ⟨rfl, _⟩
    · have := hW.sLt b o ho; omega
    · omega
  · intro b hb
    rw [hp.size]
    have hb' : (if b = w.heap.size then p else gh.κ b) ≠ .none := hb
    split at hb'
    · rename_i e
      have := hW.size
      omega
    · have := hW.kLt b hb'; omega

/-- A block changes hands. -/
def Gh.give (gh : Gh) (b : Nat) (p : Owner) : Gh := { gh with κ := fun b' => if b' = b then p else gh.κ b' }

theorem give_step (hW : WRel G base H gh w) {b : Nat} (hb : b < w.heap.size) (p : Owner) (n : Nat) : Step (fun r => r = gh.κ b) n gh w (gh.give b p) w := by
  refine ⟨fun _ _ h => h, fun _ _ _ => rfl, Nat.le_refl _, rfl, rfl, rfl, fun b' hb' hn => ⟨.inl rfl, ?_, fun _ h => h⟩, fun b' hb' => ?_, fun _ _ => rfl, fun _ _ _ h => h⟩
  · have hne : b' ≠ b := by rintro rfl; exact hn rfl
    simp [Gh.give, hne]
  · have hne : b' ≠ b := by omega
    simp only [Gh.give, if_neg hne]
    exact hW.not_outer b' hb'

theorem give_ext (hW : WRel G base H gh w) {b : Nat} (hb : b < w.heap.size) {p : Owner} (hp : p ≠ .outer) (h0 : gh.κ b ≠ .none) (h1 : gh.κ b ≠ .outer) (n : Nat) : Ext n gh w (gh.give b p) w := by
  refine ⟨(give_step hW hb p n).mono (fun r h => by rw [h]; exact ⟨h0, h1⟩), fun b' hb' => ?_⟩
  have hb2 : (if b' = b then p else gh.κ b') = .outer := hb'
  split at hb2
  · exact absurd hb2 hp
  · exact hb2

theorem give_W (hW : WRel G base H gh w) {b : Nat} (hb : b < w.heap.size) (p : Owner) (h0 : gh.κ b ≠ .none) (ht : ∀ l, gh.κ b ≠ .hb l ∧ ∀ j, gh.κ b ≠ .hs l j) : WRel G base H (gh.give b p) w := by
  refine hW.step (give_step hW hb p H.length) (fun l => ⟨fun h => (ht l).1 h.symm, fun j h => (ht l).2 j h.symm⟩) hW.sLt ?_ (fun _ _ _ h => .inl h)
  intro b' hb'
  have hb2 : (if b' = b then p else gh.κ b') ≠ .none := hb'
  split at hb2
  · rename_i e; rw [e]; exact hW.kLt b h0
  · exact hW.kLt b' hb2

/-- A block is written by its owner; cells that stay as they are stay. -/
theorem row_step (hW : WRel G base H gh w) {b : Nat} {C C' : Array Value} {ty : TypeId} {fr : Nat × Nat} (hb : w.heap[b]? = some (.cells C ty fr)) (hsz : C'.size = C.size) (q : Nat → Prop)
    (hcell : ∀ o, gh.S b o → C'[o]? = C[o]?) (p : Owner) (n : Nat) :
    Step (fun r => r = gh.κ b) n gh w { gh with S := fun b' o => gh.S b' o ∨ (b' = b ∧ q o), κ := fun b' => if b' = b then p else gh.κ b' } (w.setRow b C') := by
  have hlt : b < w.heap.size := (Array.getElem?_eq_some_iff.1 hb).1
  refine ⟨fun b o h => .inl h, fun b' o h => ?_, by simp, rfl, rfl, rfl, fun b' hb' hn => ?_, fun b' hb' => ?_, fun _ _ => rfl, fun b' ty' m hm => by
    obtain ⟨D, fr', h1, h2⟩ := hm
    by_cases e : b' = b
    · subst e
      rw [hb] at h1
      injection h1 with h1
      injection h1 with h1 h3 h4
      subst h1 h3
      exact ⟨C', fr, setRow_heap w b' C C' ty fr hb, by rw [hsz, h2]⟩
    · exact ⟨D, fr', by rw [setRow_other w b b' C' e]; exact h1, h2⟩⟩
  · by_cases e : b' = b
    · subst e
      rw [cell_setRow_same w b' o C C' ty fr hb, hcell o h]
      simp [World.cell?, hb]
    · exact cell_of_heap (setRow_other w b b' C' e)
  · have hne : b' ≠ b := by rintro rfl; exact hn rfl
    refine ⟨.inl (setRow_other w b b' C' hne), by simp [hne], fun o ho => ?_⟩
    rcases ho with ho | ⟨e, _⟩
    · exact ho
    · exact absurd e hne
  · have hne : b' ≠ b := by omega
    simp only [if_neg hne]
    exact hW.not_outer b' hb'

theorem row_ext (hW : WRel G base H gh w) {b : Nat} {C C' : Array Value} {ty : TypeId} {fr : Nat × Nat} (hb : w.heap[b]? = some (.cells C ty fr)) (hsz : C'.size = C.size) (q : Nat → Prop)
    (hcell : ∀ o, gh.S b o → C'[o]? = C[o]?) {p : Owner} (hp : p ≠ .outer) (h0 : gh.κ b ≠ .none) (h1 : gh.κ b ≠ .outer) (n : Nat) :
    Ext n gh w { gh with S := fun b' o => gh.S b' o ∨ (b' = b ∧ q o), κ := fun b' => if b' = b then p else gh.κ b' } (w.setRow b C') := by
  refine ⟨(row_step hW hb hsz q hcell p n).mono (fun r h => by rw [h]; exact ⟨h0, h1⟩), fun b' hb' => ?_⟩
  have hb2 : (if b' = b then p else gh.κ b') = .outer := hb'
  split at hb2
  · exact absurd hb2 hp
  · exact hb2

theorem row_W (hW : WRel G base H gh w) {b : Nat} {C C' : Array Value} {ty : TypeId} {fr : Nat × Nat} (hb : w.heap[b]? = some (.cells C ty fr)) (hsz : C'.size = C.size) (q : Nat → Prop)
    (hcell : ∀ o, gh.S b o → C'[o]? = C[o]?) (hq : ∀ k m, q k → C'[k]? = some (.int .u8 m) → ty = byteTy) (p : Owner) (h0 : gh.κ b ≠ .none) (ht : ∀ l, gh.κ b ≠ .hb l ∧ ∀ j, gh.κ b ≠ .hs l j) :
    WRel G base H { gh with S := fun b' o => gh.S b' o ∨ (b' = b ∧ q o), κ := fun b' => if b' = b then p else gh.κ b' } (w.setRow b C') := by
  have hlt : b < w.heap.size := (Array.getElem?_eq_some_iff.1 hb).1
  refine hW.step (row_step hW hb hsz q hcell p H.length) (fun l => ⟨fun h => (ht l).1 h.symm, fun j h => (ht l).2 j h.symm⟩) ?_ ?_ (fun b' k m h => h.elim .inl (fun ⟨e, hk⟩ => .inr (fun hc => by
      subst e
      rw [cell_setRow_same w b' k C C' ty fr hb] at hc
      have := hq k m hk hc
      subst this
      exact ⟨C', fr, setRow_heap w b' C C' _ fr hb⟩)))
  · intro b' o ho
    simp
    rcases ho with ho | ⟨rfl, _⟩
    · exact hW.sLt b' o ho
    · exact hlt
  · intro b' hb'
    simp
    have hb2 : (if b' = b then p else gh.κ b') ≠ .none := hb'
    split at hb2
    · rename_i e; rw [e]; exact hW.kLt b h0
    · exact hW.kLt b' hb2

/-- A slot is told anew (its value is as it was); blocks may have turned. -/
theorem FR.setT {gh' : Gh} {touch : Owner → Prop} (h : FR L nt gh w a s) (st : Step touch s.H.length gh w gh' w') {t : Nat} {X : AV} {H' : AHeap} {lo' : Nat} (hH : s.H.length ≤ H'.length)
    (ht : ∀ i, i ≠ t → ¬ touch (.bx i) ∧ ¬ touch (.sl i) ∧ ∀ j, ¬ touch (.sc i j))
    (hX : (t < nt ∧ genOf X = genOf (s.T t)) ∨ genOf X = none) (hsr : t < nt → SR gh' H'.length nt w' s.T s.gen (tmv a) t (tmv a t) X) :
    FR L nt gh' w' a (({ s with H := H', lo := lo' } : AS).setT t X) := by
  refine h.update st h.defers h.size hH (Nat.le_refl _) (fun i => i = t) ?_ ?_ ?_
  · intro i hi
    exact ⟨by simp [AS.setT, put_T, hi], fun _ => ⟨rfl, ht i hi⟩⟩
  · rintro i rfl
    simp only [AS.setT, put_T, if_true]
    rcases hX with ⟨h1, h2⟩ | h1
    · exact .inl ⟨h1, h2, trivial⟩
    · exact .inr (.inl h1)
  · rintro i rfl hi
    simp only [AS.setT, put_T, if_true]
    refine SR.mono (touch := fun _ => False) (n := H'.length) (gh := gh') (w := w') (Step.refl _ _ _ _ (fun b hb => st.fresh b (Nat.le_trans st.size hb))) (Nat.le_refl _) (Nat.le_refl _) id id (fun _ => id) ?_ (hsr hi)
    intro k hk
    by_cases hki : k = i
    · subst hki
      rcases hX with ⟨h1, h2⟩ | h1
      · exact .inl (by rw [put_T, if_pos rfl]; exact ⟨h2, rfl⟩)
      · exact .inr (.inl (by simp [put_T, h1]))
    · exact .inl ⟨by simp [put_T, hki], rfl⟩

/-- A value is put; it may bear the right to append, or be a variable of the frame's own. -/
theorem FR.putG (h : FR L nt gh w a s) {gen' : Nat} (hg : s.gen ≤ gen') (hfresh : ∀ b, w.heap.size ≤ b → gh.κ b ≠ .outer) (d : Option Nat) (hd : ∀ k, d = some k → k < nt) {v : Value} {x : AV}
    (hx : genOf x = none ∨ ((∃ g, s.gen ≤ g ∧ genOf x = some g) ∧ ∀ k, d = some k → k ∈ L))
    (hv : ∀ k, d = some k → SR gh s.H.length nt w s.T gen' (tmv a) k v x) : FR L nt gh w (a.put d v) (({ s with gen := gen' } : AS).putD d x) := by
  have st : Step (fun _ => False) s.H.length gh w gh w := Step.refl _ _ _ _ hfresh
  cases d with
  | none => exact h.update st h.defers h.size (Nat.le_refl _) hg (fun _ => False) (fun i _ => ⟨rfl, fun _ => ⟨rfl, id, id, fun _ => id⟩⟩) (fun _ h => h.elim) (fun _ h => h.elim)
  | some d =>
    have hlt := hd d rfl
    have hsz : d < a.tmps.size := by rw [h.size]; exact hlt
    refine h.update (s' := ({ s with gen := gen' } : AS).putD (some d) x) st ((put_defers' a (some d) v).trans h.defers) ((put_size a (some d) v).trans h.size) (Nat.le_refl _) hg (fun i => i = d) ?_ ?_ ?_
    · intro i hi
      exact ⟨by simp [AS.putD, AS.setT, put_T, hi], fun _ => ⟨by rw [tmv_put a d v i hsz, if_neg hi], id, id, fun _ => id⟩⟩
    · rintro i rfl
      simp only [AS.putD, AS.setT, put_T, if_true]
      rcases hx with hx | ⟨⟨g, hg1, hg2⟩, hl⟩
      · exact .inr (.inl hx)
      · exact .inr (.inr ⟨hl i rfl, g, hg1, hg2⟩)
    · rintro i rfl hi
      simp only [AS.putD, AS.setT, put_T, if_true]
      rw [tmv_put a i v i hsz, if_pos rfl]
      have hv' := hv i rfl
      -- 'SR' at the new frame
      cases x
      case lref b g off =>
        obtain ⟨h1, h2, h3⟩ := hv'
        refine ⟨h1, h2, fun hgs b' hb' => ?_⟩
        by_cases hbi : b = i
        · subst hbi; simp [put_T, genOf] at hgs
        · simp only [put_T, if_neg hbi] at hgs
          rw [tmv_put a i v b hsz, if_neg hbi] at hb'
          exact h3 hgs b' hb'
      case lsr b g =>
        obtain ⟨h1, h2, h3⟩ := hv'
        refine ⟨h1, h2, fun hgs => ?_⟩
        by_cases hbi : b = i
        · subst hbi; simp [put_T, genOf] at hgs
        · simp only [put_T, if_neg hbi] at hgs
          rw [tmv_put a i v b hsz, if_neg hbi]
          exact h3 hgs
      case eref b g r z off =>
        obtain ⟨h1, h2, h3⟩ := hv'
        refine ⟨h1, h2, fun hgs b' k cap hb' => ?_⟩
        by_cases hbi : b = i
        · subst hbi; simp [put_T, genOf] at hgs
        · simp only [put_T, if_neg hbi] at hgs
          rw [tmv_put a i v b hsz, if_neg hbi] at hb'
          exact h3 hgs b' k cap hb'
      all_goals exact hv'

end
end Go.Abs
