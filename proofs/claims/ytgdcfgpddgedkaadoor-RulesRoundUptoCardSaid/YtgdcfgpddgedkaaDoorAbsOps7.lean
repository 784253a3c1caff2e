/-
  Operations that make blocks, and moves of the right to append.
-/
import Derived.Test.YtgdcfgpddgedkaaDoorAbsStep
namespace Go.Abs
set_option linter.unusedSimpArgs false
set_option linter.unusedVariables false

section
variable {P : Program} {G : Nat → List AV} {base nt : Nat} {L : List Nat} {gh : Gh} {w : World} {a : Act} {s : AS}

/-- What an operation comes to. -/
structure Out (G : Nat → List AV) (base nt : Nat) (L : List Nat) (gh : Gh) (w : World) (a : Act) (s : AS) (d : Option Nat) (x : AV) (s' : AS) (v' : Value) (gh' : Gh) (w' : World) : Prop where
  W : WRel G base s'.H gh' w'
  F : FR L nt gh' w' (a.put d v') (s'.putD d x)
  E : Ext s.H.length gh w gh' w'

/-- Runs to a value, or to none. -/
def Ran (P : Program) (a : Act) (o : Oper) (w : World) (v' : Value) (w' : World) : Prop :=
  (execOp a.eval o).run P w = .ok (.value v') w' ∨ ((execOp a.eval o).run P w = .ok .skip w' ∧ v' = undef)

theorem Ran.wp {o : Oper} {v' : Value} {w' : World} {K : Act → World → Prop} {Q : Exit → Act → World → Prop} (h : Ran P a o w v' w') (hK : K (a.put o.dst v') w') : o.wp P a w K Q := by
  unfold Oper.wp
  rcases h with h | ⟨h, rfl⟩
  · rw [h]; exact hK
  · rw [h]; exact hK

/-- An operation that only reckons. -/
theorem Out.pure (hW : WRel G base s.H gh w) (hF : FR L nt gh w a s) {d : Option Nat} (hd : ∀ k, d = some k → k < nt) {v : Value} {x : AV} (hv : Val gh s.H.length nt w s.T s.gen (tmv a) v x) :
    Out G base nt L gh w a s d x s v gh w := by
  refine ⟨hW, ?_, Ext.refl _ _ _ (fun b hb => hW.not_outer b hb)⟩
  have := hF.put (touch := fun _ => False) (H' := s.H) (lo' := s.lo) (Step.refl _ _ _ _ (fun b hb => hW.not_outer b hb)) (fun i => ⟨id, id, fun _ => id⟩) (Nat.le_refl _) d hd hv
  exact this

theorem CR.of_VR {gh : Gh} {n : Nat} {w : World} {p : Owner} {v : Value} {x : AV} (h : VR gh n w v x) : CR gh n w p v x := .inl h

theorem sr_of_CR {n : Nat} {T : AFrame} {gen : Nat} {tm : Nat → Value} {i : Nat} {v : Value} {e : List (List AV)} {own : Bool} (h : CR gh n w (.sl i) v (.slice e own)) : SR gh n nt w T gen tm i v (.slice e own) := h

/-- A row of plain cells that reads as elements. -/
def RowsP (S : Nat → Nat → Prop) (w : World) (sz : Nat) (C : Array Value) (E : List (List AV)) : Prop :=
  C.size = E.length * sz ∧ (∀ (i : Nat) (r : List AV), E[i]? = some r → r.length = sz) ∧
    ∀ (i j : Nat) (r : List AV) (x : AV), E[i]? = some r → r[j]? = some x → ∃ v, C[i * sz + j]? = some v ∧ PR S w v x

theorem VR.plain_PR {n : Nat} {v : Value} {x : AV} (h : VR gh n w v x) (hp : x.plain = true) : PR gh.S w v x := by
  cases h with
  | plain _ _ h => exact h
  | full => simp [AV.plain] at hp
  | ref => simp [AV.plain] at hp
  | sref => simp [AV.plain] at hp
  | func f fs cs xs ys hf hc h1 h2 =>
    cases xs <;> cases ys <;> simp [AV.plain] at hp
    have e1 : fs = #[] := Array.eq_empty_of_size_eq_zero hf
    have e2 : cs = #[] := Array.eq_empty_of_size_eq_zero hc
    subst e1 e2
    exact .func f
  | iface t v x h =>
    cases x <;> simp [AV.plain] at hp
    all_goals
      cases h with
      | plain _ _ h => exact .iface _ _ _ h
  | agg => simp [AV.plain] at hp
  | tuple => simp [AV.plain] at hp

/-- The cells of an element. -/
theorem elem_rel {n : Nat} {v : Value} {x : AV} {sz : Nat} {cs : List AV} (hx : ∀ ds, x.cells = some ds → RowC gh n w v.cells ds) (he : x.elem sz = some cs) :
    v.cells.size = sz ∧ cs.length = sz ∧ ∀ (j : Nat) (y : AV), cs[j]? = some y → ∃ u, v.cells[j]? = some u ∧ PR gh.S w u y := by
  unfold AV.elem at he
  split at he
  · cases he
  · rename_i ds hds
    obtain ⟨h1, h2⟩ := cond_some he
    injection h2 with h2
    subst h2
    simp only [Bool.and_eq_true, nbeq, decide_eq_true_eq] at h1
    have hr := (hx ds hds).dropped
    refine ⟨by rw [hr.1]; exact h1.1, h1.1, fun j y hy => ?_⟩
    have hj : j < v.cells.size := by rw [hr.1]; exact (List.getElem?_eq_some_iff.1 hy).1
    have hv : v.cells[j]? = some v.cells[j] := Array.getElem?_eq_getElem hj
    exact ⟨_, hv, ((hr.2 j _ y hv hy).1).plain_PR (List.all_eq_true.1 h1.2 y (List.mem_of_getElem? hy))⟩

theorem mul_lt {i n sz j : Nat} (hi : i < n) (hj : j < sz) : i * sz + j < n * sz := by
  have : (i + 1) * sz ≤ n * sz := Nat.mul_le_mul_right _ hi
  rw [Nat.add_mul] at this
  omega

theorem RowsP.put {S : Nat → Nat → Prop} {sz : Nat} {C D : Array Value} {E : List (List AV)} {cs : List AV} {i : Nat} (h : RowsP S w sz C E) (hi : i < E.length) (hD : D.size = sz) (hcs : cs.length = sz)
    (hrel : ∀ (j : Nat) (y : AV), cs[j]? = some y → ∃ u, D[j]? = some u ∧ PR S w u y) : RowsP S w sz (D.zipIdx.foldl (fun q (c, k) => q.setIfInBounds (i * sz + k) c) C) (E.set i cs) := by
  have e : D.zipIdx.foldl (fun q (c, k) => q.setIfInBounds (i * sz + k) c) C = (D.toList.zipIdx 0).foldl (fun q (c, k) => q.setIfInBounds (i * sz + k) c) C := by
    rw [← Array.foldl_toList, Array.toList_zipIdx]
  have hDl : D.toList.length = sz := by simpa using hD
  have hle : i * sz + sz ≤ C.size := by
    have : (i + 1) * sz ≤ E.length * sz := Nat.mul_le_mul_right _ hi
    rw [Nat.add_mul] at this
    rw [h.1]; omega
  rw [e]
  refine ⟨by rw [foldl_set_size, h.1]; simp, fun k r hk => ?_, fun k j r x hk hj => ?_⟩
  · rw [List.getElem?_set] at hk
    split at hk
    · rename_i hki
      subst hki
      injection hk with hk; subst hk; exact hcs
    · exact h.2.1 k r hk
  · rw [foldl_set_get _ _ _ _ _ (by rw [hDl]; omega)]
    simp only [Nat.add_zero, hDl]
    rw [List.getElem?_set] at hk
    split at hk
    · rename_i hki
      subst hki
      · injection hk with hk
        subst hk
        have hjl : j < sz := by rw [← hcs]; exact (List.getElem?_eq_some_iff.1 hj).1
        rw [if_pos ⟨by omega, by omega⟩]
        obtain ⟨u, hu, hp⟩ := hrel j x hj
        refine ⟨u, ?_, hp⟩
        rw [show i * sz + j - i * sz = j by omega]
        simpa using hu
    · rename_i hki
      have hjl : j < sz := by rw [← h.2.1 k r hk]; exact (List.getElem?_eq_some_iff.1 hj).1
      have hno : ¬ (i * sz ≤ k * sz + j ∧ k * sz + j < i * sz + sz) := by
        rintro ⟨c1, c2⟩
        have : i = k := by
          rcases Nat.lt_trichotomy i k with h' | h' | h'
          · have : (i + 1) * sz ≤ k * sz := Nat.mul_le_mul_right _ h'
            rw [Nat.add_mul] at this; omega
          · exact h'
          · have : (k + 1) * sz ≤ i * sz := Nat.mul_le_mul_right _ h'
            rw [Nat.add_mul] at this; omega
        exact hki this
      rw [if_neg hno]
      exact h.2.2 k j r x hk hj

theorem fill_rows {S : Nat → Nat → Prop} {sz : Nat} : ∀ (parts : List (Nat × Value)) (ip : List (Nat × AV)) (C : Array Value) (E E' : List (List AV)), RowsP S w sz C E → sliceParts sz E ip = some E' → parts.length = ip.length →
    (∀ (j : Nat) (p : Nat × Value) (q : Nat × AV), parts[j]? = some p → ip[j]? = some q → p.1 = q.1 ∧ ∀ cs, q.2.elem sz = some cs → p.2.cells.size = sz ∧ cs.length = sz ∧ ∀ (j : Nat) (y : AV), cs[j]? = some y → ∃ u, p.2.cells[j]? = some u ∧ PR S w u y) →
    ∃ C', Instr.fill (fun i => some (i * sz, sz)) C parts = some C' ∧ RowsP S w sz C' E'
  | [], [], C, E, E', h, hb, _, _ => by simp [sliceParts] at hb; subst hb; exact ⟨C, rfl, h⟩
  | p :: parts, q :: ip, C, E, E', h, hb, hl, hp => by
    obtain ⟨h1, h2⟩ := hp 0 p q rfl rfl
    obtain ⟨i, v⟩ := p
    obtain ⟨i', x⟩ := q
    simp only at h1
    subst h1
    simp only [sliceParts] at hb
    split at hb
    · cases hb
    · rename_i cs hcs
      obtain ⟨h3, hb'⟩ := cond_some hb
      have hi : i < E.length := by simpa [Nat.blt_eq] using h3
      obtain ⟨c1, c2, c3⟩ := h2 cs hcs
      obtain ⟨C', hf, hrow⟩ := fill_rows parts ip _ _ E' (h.put hi c1 c2 c3) hb' (by simpa using hl) (fun j p q hp' hq' => hp (j + 1) p q (by simpa using hp') (by simpa using hq'))
      refine ⟨C', ?_, hrow⟩
      unfold Instr.fill
      simp only
      have hle : i * sz + sz ≤ C.size := by
        have : (i + 1) * sz ≤ E.length * sz := Nat.mul_le_mul_right _ hi
        rw [Nat.add_mul] at this
        rw [h.1]; omega
      have hno : ¬ (decide (v.cells.size ≠ sz) || decide (i * sz + v.cells.size > C.size)) = true := by
        simp at c1; simp; omega
      rw [if_neg hno]
      exact hf
  | [], _ :: _, _, _, _, _, _, hl, _ => by simp at hl
  | _ :: _, [], _, _, _, _, _, hl, _ => by simp at hl

/-- A new row of plain cells is a slice that stays. -/
theorem RowsP.slice {S : Nat → Nat → Prop} {sz : Nat} {C : Array Value} {E : List (List AV)} {w' : World} {ty : TypeId} (h : RowsP S w sz C E) {gh : Gh} (hS : gh.S = S) {C' : Array Value} {p : Owner} (hp : Pushed w w' (.cells C' ty))
    (hW : ∀ b o, S b o → b < w.heap.size) (hC : ∀ j, j < C.size → C'[j]? = C[j]?) {q : Nat → Prop} (hq : ∀ j, j < E.length * sz → q j) (cap : Nat) (hcap : E.length ≤ cap) :
    PR (gh.alloc w.heap.size p q).S w' (.slice (some ⟨w.heap.size, 0, none⟩) E.length cap) (.slice E false) := by
  subst hS
  have key : ∀ (i j : Nat) (r : List AV) (x : AV), E[i]? = some r → r[j]? = some x → ∃ v, C[i * sz + j]? = some v ∧ PR gh.S w v x ∧ i * sz + j < E.length * sz := by
    intro i j r x hi hj
    obtain ⟨v, hv, hpr⟩ := h.2.2 i j r x hi hj
    exact ⟨v, hv, hpr, by rw [← h.1]; exact (Array.getElem?_eq_some_iff.1 hv).1⟩
  refine .slice w.heap.size 0 E.length cap sz E (fun i j => C.getD (i * sz + j) undef) rfl hcap h.2.1 ?_ ?_
  · intro i j r x hi hj
    obtain ⟨v, hv, hpr, hlt⟩ := key i j r x hi hj
    have hlt' : i * sz + j < C.size := by rw [h.1]; exact hlt
    have hg : C.getD (i * sz + j) undef = v := by
      rw [Array.getElem?_eq_getElem hlt'] at hv
      injection hv with hv
      simp [hlt', hv]
    refine ⟨.inr ⟨rfl, by simpa using hq _ hlt⟩, ?_, by rw [hg]; exact hpr.oneCell⟩
    rw [hg, Nat.zero_add]
    simp only [World.cell?, hp.new]
    simpa [hC _ hlt'] using hv
  · intro i j r x hi hj
    obtain ⟨v, hv, hpr, hlt⟩ := key i j r x hi hj
    have hlt' : i * sz + j < C.size := by rw [h.1]; exact hlt
    have hg : C.getD (i * sz + j) undef = v := by
      rw [Array.getElem?_eq_getElem hlt'] at hv
      injection hv with hv
      simp [hlt', hv]
    rw [hg]
    exact hpr.mono (fun b o ho => .inl ho) (fun b o ho => cell_of_heap (hp.old b (hW b o ho)))

end
end Go.Abs
