/-
  Literals of structs and arrays.
-/
import Derived.Test.YtgdcfgpddgedkaaDoorAbsOps5
namespace Go.Abs
set_option linter.unusedSimpArgs false
set_option linter.unusedVariables false

section
variable {P : Program} {G : Nat → List AV} {base nt : Nat} {L : List Nat} {gh : Gh} {w : World} {a : Act} {s : AS}

/-- A row of cells that reads as abstract cells. -/
def RowC (gh : Gh) (n : Nat) (w : World) (C : Array Value) (X : List AV) : Prop :=
  C.size = X.length ∧ ∀ (j : Nat) (v : Value) (x : AV), C[j]? = some v → X[j]? = some x → VR gh n w v x ∧ v.oneCell' = true

theorem VR.oneCell {n : Nat} {v : Value} {x : AV} (h : VR gh n w v x) (hx : ∀ cs, x ≠ .agg cs) (hx' : ∀ cs, x ≠ .tuple cs) : v.oneCell' = true := by
  cases h with
  | plain _ _ h => exact h.oneCell
  | full => rfl
  | ref => rfl
  | sref => rfl
  | func => rfl
  | iface => rfl
  | agg _ xs => exact absurd rfl (hx xs)
  | tuple _ xs => exact absurd rfl (hx' xs)

/-- The cells of a value. -/
theorem cells_rel {n : Nat} {v : Value} {x : AV} {cs : List AV} (h : VR gh n w v x) (hc : x.cells = some cs) : RowC gh n w v.cells cs := by
  have single : x.cells = some [x] → (∀ cs, x ≠ .agg cs) → (∀ cs, x ≠ .tuple cs) → RowC gh n w v.cells cs := by
    intro h1 h2 h3
    rw [h1] at hc
    injection hc with hc
    subst hc
    have hone := h.oneCell h2 h3
    have : v.cells = #[v] := by cases v <;> first | rfl | (simp [Value.oneCell'] at hone)
    rw [this]
    refine ⟨rfl, fun j u y hu hy => ?_⟩
    cases j with
    | zero => simp at hu hy; subst hu hy; exact ⟨h, hone⟩
    | succ j => simp at hu
  cases x
  case agg xs =>
    obtain ⟨C, rfl, hs, hone, h⟩ := h.inv_agg
    injection hc with hc
    subst hc
    exact ⟨hs, fun j v x hv hx => ⟨h j v x hv hx, hone j v hv⟩⟩
  case any => cases hc
  case tuple => cases hc
  case lbox => cases hc
  case lref => cases hc
  case lsl => cases hc
  case lsr => cases hc
  case eref => cases hc
  all_goals exact single rfl (by intro cs h; cases h) (by intro cs h; cases h)

theorem RowC.dropped {n : Nat} {C : Array Value} {X : List AV} (h : RowC gh n w C X) : RowC gh n w C (X.map AV.drop) := by
  refine ⟨by simp [h.1], fun j v x hv hx => ?_⟩
  simp only [List.getElem?_map, Option.map_eq_some_iff] at hx
  obtain ⟨y, hy, rfl⟩ := hx
  exact ⟨VR.dropped (h.2 j v y hv hy).1, (h.2 j v y hv hy).2⟩

theorem foldl_set_get : ∀ (l : List Value) (off k : Nat) (C : Array Value) (j : Nat), off + k + l.length ≤ C.size →
    ((l.zipIdx k).foldl (fun cs (c, i) => cs.setIfInBounds (off + i) c) C)[j]? = if off + k ≤ j ∧ j < off + k + l.length then l[j - (off + k)]? else C[j]?
  | [], off, k, C, j, h => by simp; omega
  | v :: l, off, k, C, j, h => by
    have h' : off + (k + 1) + l.length ≤ (C.setIfInBounds (off + k) v).size := by simp at h ⊢; omega
    rw [List.zipIdx_cons, List.foldl_cons, foldl_set_get l off (k + 1) _ j h']
    by_cases h1 : j = off + k
    · subst h1
      have hlt : off + k < C.size := by simp at h; omega
      rw [if_neg (by omega), if_pos (by simp)]
      simp [hlt]
    · by_cases h2 : off + (k + 1) ≤ j ∧ j < off + (k + 1) + l.length
      · rw [if_pos h2, if_pos (by simp; omega)]
        have : j - (off + k) = j - (off + (k + 1)) + 1 := by omega
        rw [this, List.getElem?_cons_succ]
      · rw [if_neg h2, if_neg (by simp; omega), Array.getElem?_setIfInBounds_ne (by omega)]

theorem foldl_set_size : ∀ (l : List (Value × Nat)) (off : Nat) (C : Array Value), (l.foldl (fun cs (c, i) => cs.setIfInBounds (off + i) c) C).size = C.size
  | [], off, C => rfl
  | v :: l, off, C => by rw [List.foldl_cons, foldl_set_size l off]; simp

theorem putAt_get {l cs : List AV} {off : Nat} (h : off + cs.length ≤ l.length) (j : Nat) : (putAt l off cs)[j]? = if off ≤ j ∧ j < off + cs.length then cs[j - off]? else l[j]? := by
  have hmin : min off l.length = off := by omega
  unfold putAt
  simp only [List.getElem?_append, List.length_append, List.length_take, hmin, List.getElem?_take, List.getElem?_drop]
  by_cases h1 : j < off
  · have e1 : j < off + cs.length := by omega
    rw [if_pos e1, if_pos h1, if_pos h1, if_neg (by omega)]
  · by_cases h2 : j < off + cs.length
    · rw [if_pos h2, if_neg h1, if_pos ⟨by omega, h2⟩]
    · rw [if_neg h2, if_neg (by omega)]
      congr 1; omega

theorem putAt_len {l cs : List AV} {off : Nat} (h : off + cs.length ≤ l.length) : (putAt l off cs).length = l.length := by
  unfold putAt; simp; omega

theorem RowC.put {n : Nat} {C D : Array Value} {X Y : List AV} (h : RowC gh n w C X) (hd : RowC gh n w D Y) {off : Nat} (hl : off + Y.length ≤ X.length) :
    RowC gh n w (D.zipIdx.foldl (fun cs (c, i) => cs.setIfInBounds (off + i) c) C) (putAt X off Y) := by
  have e : D.zipIdx.foldl (fun cs (c, i) => cs.setIfInBounds (off + i) c) C = (D.toList.zipIdx 0).foldl (fun cs (c, i) => cs.setIfInBounds (off + i) c) C := by
    rw [← Array.foldl_toList, Array.toList_zipIdx]
  rw [e]
  refine ⟨by rw [foldl_set_size, putAt_len hl, h.1], fun j v x hv hx => ?_⟩
  have hD : D.toList.length = Y.length := by simpa using hd.1
  rw [foldl_set_get _ _ _ _ _ (by rw [hD, h.1]; omega)] at hv
  rw [putAt_get hl] at hx
  simp only [Nat.add_zero, hD] at hv
  by_cases hc : off ≤ j ∧ j < off + Y.length
  · rw [if_pos hc] at hv hx
    exact hd.2 _ v x (by simpa using hv) hx
  · rw [if_neg hc] at hv hx
    exact h.2 j v x hv hx

/-- Filling a literal. -/
theorem fill_rel {n : Nat} {place : Nat → Option (Nat × Nat)} : ∀ (parts : List (Nat × Value)) (ip : List (Nat × Nat × AV)) (C : Array Value) (Z Z' : List AV), RowC gh n w C Z → buildParts Z ip = some Z' → parts.length = ip.length →
    (∀ (j : Nat) (p : Nat × Value) (q : Nat × Nat × AV), parts[j]? = some p → ip[j]? = some q → place p.1 = some (q.1, q.2.1) ∧ (∀ cs, q.2.2.cells = some cs → RowC gh n w p.2.cells cs)) →
    ∃ C', Instr.fill place C parts = some C' ∧ RowC gh n w C' Z'
  | [], [], C, Z, Z', h, hb, _, _ => by simp [buildParts] at hb; subst hb; exact ⟨C, rfl, h⟩
  | p :: parts, q :: ip, C, Z, Z', h, hb, hl, hp => by
    obtain ⟨h1, h2⟩ := hp 0 p q rfl rfl
    obtain ⟨i, v⟩ := p
    obtain ⟨off, sz, x⟩ := q
    simp only [buildParts] at hb
    split at hb
    · cases hb
    · rename_i cs hcs
      obtain ⟨h3, hb'⟩ := cond_some hb
      simp only [Bool.and_eq_true, nbeq, decide_eq_true_eq, Nat.ble_eq] at h3
      have hr := h2 cs hcs
      have hsz : v.cells.size = sz := by rw [hr.1]; exact h3.1
      have hlen : (cs.map AV.drop).length = cs.length := by simp
      obtain ⟨C', hf, hrow⟩ := fill_rel parts ip _ _ Z' (h.put hr.dropped (off := off) (by rw [hlen]; exact h3.2)) hb' (by simpa using hl) (fun j p q hp' hq' => hp (j + 1) p q (by simpa using hp') (by simpa using hq'))
      refine ⟨C', ?_, hrow⟩
      simp only at h1
      unfold Instr.fill
      rw [h1]
      have hno : ¬ (decide (v.cells.size ≠ sz) || decide (off + v.cells.size > C.size)) = true := by
        have := hr.1; have := h.1
        simp; omega
      simp only
      rw [if_neg hno]
      exact hf
  | [], _ :: _, _, _, _, _, _, hl, _ => by simp at hl
  | _ :: _, [], _, _, _, _, _, hl, _ => by simp at hl

theorem zero_row {n : Nat} {t : TypeId} {z : List AV} (h : zeroT P t = some z) : ∃ i zv, P.info? t = some i ∧ i.zero = some zv ∧ RowC gh n w zv.cells z := by
  simp only [zeroT, Option.bind_eq_some_iff] at h
  obtain ⟨zv, ⟨i, hi, hz⟩, hc⟩ := h
  obtain ⟨h1, h2⟩ := constCells_VR (gh := gh) (n := n) (w := w) hc
  exact ⟨i, zv, hi, hz, by simpa using h1, fun j v x hv hx => h2 j v x (by simpa using hv) hx⟩

/-- The operands of a literal. -/
theorem part_rel (hW : WRel G base s.H gh w) (hF : FR L nt gh w a s) {x : Operand} {y : IArg} (hc : compArg nt x = some y) : ∀ cs, (y.eval G s.T).drop.cells = some cs → RowC gh s.H.length w (a.eval x).cells cs := by
  intro cs hcs
  have hf : frameCell (y.eval G s.T) = true := by
    rw [← frameCell_drop]
    generalize (y.eval G s.T).drop = Y at hcs
    cases Y <;> first | rfl | cases hcs
  exact cells_rel (arg_VR hW hF hc rfl hf) hcs

theorem ev_build_struct (hW : WRel G base s.H gh w) (hF : FR L nt gh w a s) {o : Oper} {t : TypeId} {parts : Array (Nat × Operand)} {fs : Array Go.Field} {z Z : List AV} {ps : List (Nat × Nat × IArg)}
    (ho : o.op = .build t parts) (hz : zeroT P t = some z) (hu : P.underlying t = some (.struct fs)) (hp : compParts P nt fs.toList parts.toList = some ps)
    (hall : ∃ pl, fs.toList.mapM (fun f => (P.info? f.type).map fun i => (f.offset, i.size)) = some pl)
    (he : buildParts z (ps.map fun p => (p.1, p.2.1, (p.2.2.eval G s.T).drop)) = some Z) :
    ∃ v, (execOp a.eval o).run P w = .ok (.value v) w ∧ Val gh s.H.length nt w s.T s.gen (tmv a) v (.agg Z) := by
  obtain ⟨i, zv, hi, hzv, hrow⟩ := zero_row (gh := gh) (n := s.H.length) (w := w) hz
  obtain ⟨pl, hpl⟩ := hall
  have inv : ∀ (l : List (Nat × Operand)) (ps : List (Nat × Nat × IArg)), compParts P nt fs.toList l = some ps → l.length = ps.length ∧
      ∀ (j : Nat) (p : Nat × Operand) (q : Nat × Nat × IArg), l[j]? = some p → ps[j]? = some q → (∃ f, fs.toList[p.1]? = some f ∧ sizeT P f.type = some q.2.1 ∧ f.offset = q.1) ∧ compArg nt p.2 = some q.2.2 := by
    intro l
    induction l with
    | nil => intro ps h; simp [compParts] at h; subst h; exact ⟨rfl, fun j p q h => by simp at h⟩
    | cons p l ih =>
      intro ps h
      obtain ⟨k, x⟩ := p
      simp only [compParts, Option.bind_eq_some_iff, Option.map_eq_some_iff] at h
      obtain ⟨f, hf, sz, hsz, y, hy, rest, hr, rfl⟩ := h
      obtain ⟨h1, h2⟩ := ih rest hr
      refine ⟨by simp [h1], fun j p q hp hq => ?_⟩
      cases j with
      | zero => simp at hp hq; subst hp hq; exact ⟨⟨f, hf, hsz, rfl⟩, hy⟩
      | succ j => exact h2 j p q (by simpa using hp) (by simpa using hq)
  obtain ⟨hl, hinv⟩ := inv _ _ hp
  have hplace : ∀ (k : Nat) (f : Go.Field) (sz : Nat), fs.toList[k]? = some f → sizeT P f.type = some sz → pl.toArray[k]? = some (f.offset, sz) := by
    have gen : ∀ (l : List Go.Field) (pl : List (Nat × Nat)), l.mapM (fun f => (P.info? f.type).map fun i => (f.offset, i.size)) = some pl → ∀ (k : Nat) (f : Go.Field) (sz : Nat), l[k]? = some f → sizeT P f.type = some sz → pl[k]? = some (f.offset, sz) := by
      intro l
      induction l with
      | nil => intro pl _ k f sz h; simp at h
      | cons g l ih =>
        intro pl h k f sz hk hs
        simp only [List.mapM_cons, Option.bind_eq_bind, Option.pure_def, Option.bind_eq_some_iff, Option.map_eq_some_iff] at h
        obtain ⟨q, ⟨ii, hii, rfl⟩, rest, hr, h⟩ := h
        injection h with h
        subst h
        cases k with
        | zero =>
          simp at hk; subst hk
          obtain ⟨i', hi', hs'⟩ := info_of_size hs
          rw [hi'] at hii; injection hii with hii; subst hii; simp [hs']
        | succ k => simpa using ih rest hr k f sz (by simpa using hk) hs
    intro k f sz hk hs
    simpa using gen _ _ hpl k f sz hk hs
  obtain ⟨C', hf, hrow'⟩ := fill_rel (gh := gh) (w := w) (n := s.H.length) (place := fun x => pl.toArray[x]?) ((parts.map fun p => (p.1, a.eval p.2)).toList) (ps.map fun p => (p.1, p.2.1, (p.2.2.eval G s.T).drop)) zv.cells z Z hrow he (by simpa using hl) (by
    intro j p q hp hq
    simp only [Array.toList_map, List.getElem?_map, Option.map_eq_some_iff] at hp hq
    obtain ⟨p0, hp0, rfl⟩ := hp
    obtain ⟨q0, hq0, rfl⟩ := hq
    obtain ⟨⟨f, hf, hs, ho'⟩, hc⟩ := hinv j p0 q0 hp0 hq0
    exact ⟨by rw [hplace _ f _ hf hs, ho'], part_rel hW hF hc⟩)
  have hb : P.built t (parts.map fun p => (p.1, a.eval p.2)).toList = some C' := by
    unfold Program.built
    rw [hi, hu]
    simp only [hzv, hpl]
    exact hf
  refine ⟨.agg C', by simp [execOp, ho, run_build w t _ C' hb], .of_VR (.agg _ _ hrow'.1 (fun j v hj => ?_) (fun j v x hv hx => (hrow'.2 j v x hv hx).1))⟩
  have hlt : j < Z.length := by rw [← hrow'.1]; exact (Array.getElem?_eq_some_iff.1 hj).1
  exact (hrow'.2 j v _ hj (List.getElem?_eq_getElem hlt)).2

end
end Go.Abs
