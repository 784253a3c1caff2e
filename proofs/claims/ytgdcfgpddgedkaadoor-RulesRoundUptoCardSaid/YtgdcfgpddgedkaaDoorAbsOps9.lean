/-
  Moves of the right to append; loads that take it.
-/
import Derived.Test.YtgdcfgpddgedkaaDoorAbsOps8
namespace Go.Abs
set_option linter.unusedSimpArgs false
set_option linter.unusedVariables false

section
variable {P : Program} {G : Nat → List AV} {base nt : Nat} {L : List Nat} {gh : Gh} {w w' : World} {a : Act} {s : AS} {H : AHeap}

/-- The right to append goes from a slot to a place. -/
theorem own_move (hW : WRel G base s.H gh w) (hF : FR L nt gh w a s) {t : Nat} (ht : t < nt) {e : List (List AV)} {own : Bool} (hT : s.T t = .slice e own) (p : Owner) (hp : p ≠ .outer) :
    ∃ gh', WRel G base s.H gh' w ∧ FR L nt gh' w a (s.setT t (.slice e false)) ∧ Ext s.H.length gh w gh' w ∧ Step (fun r => r = .sl t) s.H.length gh w gh' w ∧ CR gh' s.H.length w p (tmv a t) (.slice e own) := by
  have hfresh := fun b hb => hW.not_outer (gh := gh) b hb
  have h : CR gh s.H.length w (.sl t) (tmv a t) (.slice e own) := by
    have h := hF.slot t ht
    rw [hT] at h
    exact h
  rcases h with hv | ⟨e', heq, hPR, b, cap, C, ty, lo, hi, sz, hval, hk, he, hb, hC, hr, hl, hh, hS⟩
  · refine ⟨gh, hW, ?_, Ext.refl _ _ _ hfresh, Step.refl _ _ _ _ hfresh, .inl hv⟩
    exact hF.setT (touch := fun _ => False) (H' := s.H) (lo' := s.lo) (Step.refl _ _ _ _ hfresh) (Nat.le_refl _) (fun i _ => ⟨id, id, fun _ => id⟩) (.inr rfl) (fun _ => .inl hv.dropped)
  · injection heq with h1 h2
    subst h1 h2
    have hlt : b < w.heap.size := (Array.getElem?_eq_some_iff.1 hb).1
    have st := give_step hW hlt p s.H.length
    rw [hk] at st
    have hn : gh.κ b ≠ .none := by rw [hk]; simp
    refine ⟨gh.give b p, give_W hW hlt p hn (by rw [hk]; simp), ?_, give_ext hW hlt hp hn (by rw [hk]; simp) _, st, .inr ⟨e, rfl, hPR, b, cap, C, ty, lo, hi, sz, hval, by simp [Gh.give], he, hb, hC, hr, hl, hh, hS⟩⟩
    refine hF.setT (H' := s.H) (lo' := s.lo) st (Nat.le_refl _) (fun i hi => ⟨by simp, by simpa using hi, by simp⟩) (.inr rfl) (fun _ => ?_)
    show CR (gh.give b p) s.H.length w (.sl t) (tmv a t) (.slice e false)
    exact .inl (.plain _ _ hPR)

/-- A step that only tells a slot anew; then a value is put. -/
theorem Out.of {gh' : Gh} {s1 : AS} {d : Option Nat} {gen' : Nat} {v : Value} {x : AV} (hW : WRel G base s1.H gh' w') (hF : FR L nt gh' w' a s1) (hE : Ext s.H.length gh w gh' w') (hg : s1.gen ≤ gen') (hd : ∀ k, d = some k → k < nt)
    (hx : genOf x = none ∨ ((∃ g, s1.gen ≤ g ∧ genOf x = some g) ∧ ∀ k, d = some k → k ∈ L)) (hv : ∀ k, d = some k → SR gh' s1.H.length nt w' s1.T gen' (tmv a) k v x) :
    Out G base nt L gh w a s d x { s1 with gen := gen' } v gh' w' :=
  ⟨hW, hF.putG hg (fun b hb => hW.not_outer b hb) d hd hx hv, hE⟩

theorem compArg_tmp {x : Operand} {t : Nat} (h : compArg nt x = some (.tmp t)) : x = .tmp t ∧ t < nt := by
  cases x with
  | tmp k =>
    simp only [compArg] at h
    rcases Bool.eq_false_or_eq_true (Nat.blt k nt) with hb | hb <;> rw [hb] at h <;> simp at h
    subst h
    exact ⟨rfl, by simpa [Nat.blt_eq] using hb⟩
  | const v =>
    simp only [compArg, Option.map_eq_some_iff] at h
    obtain ⟨z, hz, h⟩ := h
    cases h
  | global g => simp [compArg] at h
  | func f => simp [compArg] at h

/-- Moves that turn the state. -/
theorem ev_mov_state (hW : WRel G base s.H gh w) (hF : FR L nt gh w a s) {o : Oper} {x : Operand} {y : IArg} {take obj : Bool} {z : AV} {s' : AS} (ho : o.op = .move x ∨ o.op = .assign x) (hc : compArg nt x = some y)
    (he : evMov G s take obj y = some (z, some s')) (hd : ∀ k, o.dst = some k → k < nt) (hL : obj = true → ∀ k, o.dst = some k → k ∈ L) :
    ∃ v' gh' w', Ran P a o w v' w' ∧ Out G base nt L gh w a s o.dst z s' v' gh' w' := by
  have hrun : (execOp a.eval o).run P w = .ok (.value (a.eval x)) w := by rcases ho with ho | ho <;> simp [execOp, ho]
  cases y <;> simp only [evMov] at he <;> try (cases he; done)
  rename_i t
  obtain ⟨rfl, ht⟩ := compArg_tmp hc
  change (execOp a.eval o).run P w = .ok (.value (tmv a t)) w at hrun
  split at he
  · cases he
  · rename_i g e hT
    cases take
    · cases he
    simp only [cond_true] at he
    obtain ⟨hob, he⟩ := cond_some he
    simp only [Option.some.injEq, Prod.mk.injEq] at he
    obtain ⟨rfl, rfl⟩ := he
    have hrow := sr_lsl hF ht hT
    have hfresh := fun b hb => hW.not_outer (gh := gh) b hb
    have hone : (tmv a t).oneCell' = true := by obtain ⟨ad, cap, hv, _⟩ := hrow; rw [hv]; rfl
    -- the block changes hands
    have key : ∃ gh', WRel G base s.H gh' w ∧ FR L nt gh' w a (s.setT t .any) ∧ Ext s.H.length gh w gh' w ∧ RowAt gh' w (bxo o.dst) (tmv a t) e := by
      obtain ⟨ad, cap, hv, hrow⟩ := hrow
      rcases hrow with hz | ⟨b, C, ty, sz, hne0, ha, hk, hS, hb, hC, hl, hr, hcs⟩
      · refine ⟨gh, hW, ?_, Ext.refl _ _ _ hfresh, ad, cap, hv, .inl hz⟩
        exact hF.setT (touch := fun _ => False) (H' := s.H) (lo' := s.lo) (Step.refl _ _ _ _ hfresh) (Nat.le_refl _) (fun i _ => ⟨id, id, fun _ => id⟩) (.inr rfl) (fun _ => .inl (.plain _ _ (.any _ hone)))
      · have hlt : b < w.heap.size := (Array.getElem?_eq_some_iff.1 hb).1
        have st := give_step hW hlt (bxo o.dst) s.H.length
        rw [hk] at st
        have hn : gh.κ b ≠ .none := by rw [hk]; simp
        refine ⟨gh.give b (bxo o.dst), give_W hW hlt _ hn (by rw [hk]; simp), ?_, give_ext hW hlt (bxo_out _) hn (by rw [hk]; simp) _, ad, cap, hv, .inr ⟨b, C, ty, sz, hne0, ha, by simp [Gh.give], hS, hb, hC, hl, hr, hcs⟩⟩
        exact hF.setT (H' := s.H) (lo' := s.lo) st (Nat.le_refl _) (fun i hi => ⟨by simpa using hi, by simp, by simp⟩) (.inr rfl) (fun _ => .inl (.plain _ _ (.any _ hone)))
    obtain ⟨gh', h1, h2, h3, h4⟩ := key
    refine ⟨_, gh', w, .inl hrun, Out.of (s1 := s.setT t .any) (gen' := s.gen + 1) h1 h2 h3 (Nat.le_succ _) hd (.inr ⟨⟨s.gen, Nat.le_refl _, rfl⟩, hL hob⟩) (fun k hk => ⟨Nat.lt_succ_self _, ?_⟩)⟩
    rw [hk] at h4
    exact h4
  · rename_i e own hT
    simp only [Option.some.injEq, Prod.mk.injEq] at he
    obtain ⟨rfl, he⟩ := he
    cases hto : (take && own) with
    | false => rw [hto] at he; cases he
    | true =>
      rw [hto] at he
      simp only [cond_true, Option.some.injEq] at he
      subst he
      obtain ⟨gh', h1, h2, h3, _, h4⟩ := own_move hW hF ht hT (slo o.dst) (slo_out _)
      refine ⟨_, gh', w, .inl hrun, Out.of (s1 := s.setT t (.slice e false)) (gen' := s.gen) h1 h2 h3 (Nat.le_refl _) hd (.inl rfl) (fun k hk => ?_)⟩
      rw [hk] at h4
      have hown : own = true := by cases take <;> simp_all
      subst hown
      exact h4
  · cases he

/-- A variable's cell without the right to append. -/
theorem modify_get {cs : List AV} {off j : Nat} : (takenAt off cs)[j]? = if j = off then (cs[j]?).map AV.drop else cs[j]? := by
  unfold takenAt
  rw [List.getElem?_modify]
  by_cases h : off = j
  · subst h; simp
  · rw [if_neg (fun e => h e.symm)]
    cases cs[j]? <;> simp [h]

theorem drop_not_own {x : AV} : ∀ e, x.drop ≠ .slice e true := by intro e; cases x <;> simp [AV.drop]

/-- The right to append goes from a cell to a place. -/
theorem cell_move {b : Nat} {p : Owner} {q : Nat → Owner} {n : Nat} {cs : List AV} (hW : WRel G base H gh w) (hB : BoxAt gh n w b p q cs) {off : Nat} {v : AV} (hv : cs[off]? = some v) (r : Owner) (hr : r ≠ .outer) (hq : ∀ j, q j ≠ .none ∧ q j ≠ .outer ∧ q j ≠ p) (hinj : ∀ i j, q i = q j → i = j) (m : Nat) :
    ∃ gh' u, (∀ b o, gh'.S b o → gh.S b o) ∧ Step (fun o => o = q off) m gh w gh' w ∧ Ext m gh w gh' w ∧ (∀ b o, gh'.S b o → b < w.heap.size) ∧ (∀ b, gh'.κ b ≠ .none → base ≤ b ∧ b < w.heap.size) ∧ BoxAt gh' n w b p q (takenAt off cs) ∧
      w.cell? ⟨b, off, none⟩ = some u ∧ u.oneCell' = true ∧ CR gh' n w r u v := by
  have hfresh := fun b hb => hW.not_outer (gh := gh) b hb
  obtain ⟨hκ, hS, C, ty, hb, hC, hcs⟩ := hB
  have hoff : off < cs.length := (List.getElem?_eq_some_iff.1 hv).1
  have hoff' : off < C.size := by omega
  have hu : C[off]? = some C[off] := Array.getElem?_eq_getElem hoff'
  have hcell : w.cell? ⟨b, off, none⟩ = some C[off] := by rw [cell_of_row w b off C ty _ hb, hu]
  obtain ⟨h1, h2⟩ := hcs off _ v hu hv
  rcases h2 with hvr | ⟨e, rfl, hPR, b', cap, C', ty', lo, hi, sz, hval, hk, he, hb', hC', hr', hl, hh, hS'⟩
  · refine ⟨gh, C[off], fun _ _ h => h, Step.refl _ _ _ _ hfresh, Ext.refl _ _ _ hfresh, hW.sLt, hW.kLt, ⟨hκ, hS, C, ty, hb, by simp [takenAt]; exact hC, fun j u x hju hjx => ?_⟩, hcell, h1, .inl hvr⟩
    rw [modify_get] at hjx
    split at hjx
    · simp only [Option.map_eq_some_iff] at hjx
      obtain ⟨y, hy, rfl⟩ := hjx
      obtain ⟨k1, k2⟩ := hcs j u y hju hy
      exact ⟨k1, .inl k2.dropped⟩
    · exact hcs j u x hju hjx
  · have hlt : b' < w.heap.size := (Array.getElem?_eq_some_iff.1 hb').1
    have st := give_step hW hlt r m
    rw [hk] at st
    have hne : b ≠ b' := by rintro rfl; rw [hκ] at hk; exact (hq off).2.2 hk.symm
    have hn : gh.κ b' ≠ .none := by rw [hk]; exact (hq off).1
    refine ⟨gh.give b' r, C[off], fun _ _ h => h, st, give_ext hW hlt hr hn (by rw [hk]; exact (hq off).2.1) m, hW.sLt, ?_, ⟨by simp [Gh.give, hne, hκ], hS, C, ty, hb, by simp [takenAt]; exact hC, fun j u x hju hjx => ?_⟩, hcell, h1,
      .inr ⟨e, rfl, hPR, b', cap, C', ty', lo, hi, sz, hval, by simp [Gh.give], he, hb', hC', hr', hl, hh, hS'⟩⟩
    · intro b1 hb1
      have hb2 : (if b1 = b' then r else gh.κ b1) ≠ .none := hb1
      split at hb2
      · rename_i e; rw [e]; exact hW.kLt b' hn
      · exact hW.kLt b1 hb2
    · have st' := give_step hW hlt r n
      rw [hk] at st'
      rw [modify_get] at hjx
      split at hjx
      · rename_i hj
        subst hj
        rw [hv] at hjx
        simp only [Option.map_some, Option.some.injEq] at hjx
        subst hjx
        rw [hu] at hju; injection hju with hju; subst hju
        exact ⟨h1, .inl (.plain _ _ hPR)⟩
      · rename_i hj
        obtain ⟨k1, k2⟩ := hcs j u x hju hjx
        exact ⟨k1, k2.mono st' (Nat.le_refl _) (fun e => hj (hinj _ _ e))⟩

/-- The heap side, an object turned. -/
theorem WRel.setBox {gh' : Gh} {touch : Owner → Prop} (hW : WRel G base H gh w) (st : Step touch H.length gh w gh' w') {loc : Nat} {ty : TypeId} {cs0 : List AV} (hH : H[loc]? = some (.box ty cs0)) (ht : ∀ l, l ≠ loc → ¬ touch (.hb l) ∧ ∀ j, ¬ touch (.hs l j))
    (hs : ∀ b o, gh'.S b o → b < w'.heap.size) (hk : ∀ b, gh'.κ b ≠ .none → base ≤ b ∧ b < w'.heap.size) {cs : List AV} (hB : BoxAt gh' H.length w' (gh'.ρ loc) (.hb loc) (fun j => .hs loc j) cs) (hr : cs.all (heapCell loc) = true) (hnew : ∀ b o, gh'.S b o → gh.S b o) (hlen : cs.length = cs0.length) :
    WRel G base (H.set loc (.box ty cs)) gh' w' := by
  have hlt : loc < H.length := (List.getElem?_eq_some_iff.1 hH).1
  refine ⟨Nat.le_trans hW.size st.size, hs, hk, fun g j x hx => ?_, fun l ty' ds hl => ?_, fun l ty' ds hl => ?_, fun g hg => (hW.tabs g hg).imp fun ty h => st.len g ty _ h, hW.bytes_step st (fun b o m h => .inl (hnew b o h)), fun l ty' ds hl => ?_⟩
  · obtain ⟨v, h1, h2, h3⟩ := hW.glob g j x hx
    exact ⟨v, (st.cell g j h3).trans h1, h2.mono st.S st.cell, st.S g j h3⟩
  · rw [List.length_set]
    rw [List.getElem?_set] at hl
    split at hl
    · rename_i e
      subst e
      simp only [Option.some.injEq, AObj.box.injEq] at hl
      obtain ⟨rfl, rfl⟩ := hl
      exact hB
    · rename_i e
      have h := (hW.boxes l ty' ds hl).mono st (Nat.le_refl _) (ht l (Ne.symm e)).1 (ht l (Ne.symm e)).2
      rw [st.ρ l (List.getElem?_eq_some_iff.1 hl).1]; exact h
  · rw [List.getElem?_set] at hl
    split at hl
    · rename_i e
      subst e
      simp only [Option.some.injEq, AObj.box.injEq] at hl
      obtain ⟨rfl, rfl⟩ := hl
      exact hr
    · exact hW.refs l ty' ds hl
  · rw [List.getElem?_set] at hl
    split at hl
    · rename_i e
      subst e
      simp only [Option.some.injEq, AObj.box.injEq] at hl
      obtain ⟨rfl, rfl⟩ := hl
      intro hf
      have hm := hW.types loc _ cs0 hH hf
      rw [st.ρ loc hlt, hlen]
      exact st.len _ _ _ hm
    · rename_i e
      rw [st.ρ l (List.getElem?_eq_some_iff.1 hl).1]
      exact fun hf => st.len _ _ _ (hW.types l ty' ds hl hf)

theorem mem_takenAt {cs : List AV} {off : Nat} {y : AV} (h : y ∈ takenAt off cs) : y ∈ cs ∨ ∃ x, x ∈ cs ∧ y = x.drop := by
  obtain ⟨j, hj⟩ := List.getElem?_of_mem h
  rw [modify_get] at hj
  split at hj
  · simp only [Option.map_eq_some_iff] at hj
    obtain ⟨x, hx, rfl⟩ := hj
    exact .inr ⟨x, List.mem_of_getElem? hx, rfl⟩
  · exact .inl (List.mem_of_getElem? hj)

theorem takenAt_refs {cs : List AV} {off loc : Nat} (h : cs.all (heapCell loc) = true) : (takenAt off cs).all (heapCell loc) = true := by
  refine List.all_eq_true.2 fun y hy => ?_
  rcases mem_takenAt hy with hy | ⟨x, hx, rfl⟩
  · exact List.all_eq_true.1 h y hy
  · exact heapCell_drop (List.all_eq_true.1 h x hx)

theorem sr_of_slot {n : Nat} {T : AFrame} {gen : Nat} {tm : Nat → Value} {i : Nat} {v : Value} {x : AV} (hx : frameCell x = true) (h : CR gh n w (.sl i) v x) : SR gh n nt w T gen tm i v x := by
  cases x <;> first | exact h | (simp [frameCell] at hx)

theorem CR.frameCell {n : Nat} {p : Owner} {v : Value} {x : AV} (h : CR gh n w p v x) : frameCell x = true := by
  rcases h with h | ⟨e, rfl, _⟩
  · cases h with
    | plain _ _ h => cases h <;> rfl
    | full => rfl
    | ref => rfl
    | sref => rfl
    | func => rfl
    | iface => rfl
    | agg => rfl
    | tuple => rfl
  · rfl

theorem genOf_frameCell {x : AV} (h : Abs.frameCell x = true) : genOf x = none := by cases x <;> first | rfl | (simp [Abs.frameCell] at h)

theorem run_load1 {t : TypeId} (hg : aggT P t = some false) {b off : Nat} {u : Value} (hc : w.cell? ⟨b, off, none⟩ = some u) : (Instr.loadAt t (.pointer (some ⟨b, off, none⟩))).run P w = .ok u w := by
  simp [Instr.loadAt, Instr.sureAddr, loadVar, run_isAgg' hg, hc]

/-- Loads that take the right to append. -/
theorem ev_load_take (hW : WRel G base s.H gh w) (hF : FR L nt gh w a s) {o : Oper} {t : TypeId} {x : Operand} {y : IArg} {take agg : Bool} {sz : Nat} {z : AV} {s' : AS} (ho : o.op = .load t x) (hc : compArg nt x = some y) (hg : aggT P t = some agg) (hs : sizeT P t = some sz)
    (he : loadAV s take agg sz (y.addr G s.T) = some (z, some s')) (hd : ∀ k, o.dst = some k → k < nt) :
    ∃ v' gh' w', Ran P a o w v' w' ∧ Out G base nt L gh w a s o.dst z s' v' gh' w' := by
  have hv := arg_val hW hF hc
  generalize hY : y.addr G s.T = Y at hv he
  cases Y <;> simp only [loadAV] at he <;> try (cases he; done)
  case eptr cs => simp at he
  case ref loc off =>
    obtain ⟨hlt, hax⟩ := VR.inv_ref (hv : VR gh s.H.length w (a.eval x) (.ref loc off))
    split at he
    · rename_i ty0 cs hH
      simp only [Option.map_eq_some_iff, Prod.mk.injEq] at he
      obtain ⟨u, hu, rfl, hn⟩ := he
      cases hq : (take && !agg) with
      | false => rw [hq] at hn; cases hn
      | true =>
        rw [hq] at hn
        simp only [cond_true, Option.some.injEq] at hn
        subst hn
        simp only [Bool.and_eq_true, Bool.not_eq_true'] at hq
        obtain ⟨rfl, rfl⟩ := hq
        simp only [loadCellsAV, cond_false, cond_true, Option.map_eq_some_iff] at hu
        obtain ⟨u', hu, rfl⟩ := hu
        obtain ⟨gh', uv, hSS, st, hE, hs', hk', hB, hcell, hone, hCR⟩ := cell_move hW (hW.boxes loc _ cs hH) hu (slo o.dst) (slo_out _) (by simp) (by simp) s.H.length
        have hρ : gh'.ρ loc = gh.ρ loc := st.ρ loc hlt
        have hW' : WRel G base (s.H.set loc (.box ty0 (takenAt off cs))) gh' w := hW.setBox st hH (by intro l hl; simp [hl]) hs' hk' (by rw [hρ]; exact hB) (takenAt_refs (hW.refs loc _ cs hH)) hSS (by simp [takenAt])
        have hF' : FR L nt gh' w a (s.chg ⟨s.H.set loc (.box ty0 (takenAt off cs)), loc⟩) := hF.grown st (fun i => ⟨by simp, by simp, by simp⟩) (by simp)
        refine ⟨uv, gh', w, .inl ?_, Out.of (s1 := s.chg ⟨s.H.set loc (.box ty0 (takenAt off cs)), loc⟩) (gen' := s.gen) hW' hF' hE (Nat.le_refl _) hd (.inl (genOf_frameCell hCR.frameCell)) (fun k hk => ?_)⟩
        · simp [execOp, ho, hax, run_load1 hg hcell]
        · rw [hk] at hCR
          have : (s.chg ⟨s.H.set loc (.box ty0 (takenAt off cs)), loc⟩).H.length = s.H.length := by simp [AS.chg]
          rw [this]
          exact sr_of_slot hCR.frameCell hCR
    · cases he
  case lref b g off =>
    obtain ⟨hb, hg0, hr⟩ := (hv : _ ∧ _ ∧ _)
    split at he
    · rename_i g' cs hT
      obtain ⟨h0, he2⟩ := cond_some he
      clear he
      have hgg : g = g' := by simpa [nbeq] using h0
      subst hgg
      rename _ = some (z, some s') => he
      simp only [Option.map_eq_some_iff, Prod.mk.injEq] at he
      obtain ⟨u, hu, rfl, hn⟩ := he
      cases hq : (take && !agg) with
      | false => rw [hq] at hn; cases hn
      | true =>
        rw [hq] at hn
        simp only [cond_true, Option.some.injEq] at hn
        subst hn
        simp only [Bool.and_eq_true, Bool.not_eq_true'] at hq
        obtain ⟨rfl, rfl⟩ := hq
        simp only [loadCellsAV, cond_false, cond_true, Option.map_eq_some_iff] at hu
        obtain ⟨u', hu, rfl⟩ := hu
        obtain ⟨k, hk, hbox⟩ := sr_lbox hF hb hT
        have hax := hr (by rw [hT]; rfl) k hk
        obtain ⟨gh', uv, hSS, st, hE, hs', hk', hB, hcell, hone, hCR⟩ := cell_move hW hbox hu (slo o.dst) (slo_out _) (by simp) (by simp) s.H.length
        have hW' : WRel G base s.H gh' w := hW.step st (by simp) hs' hk' (fun b o _ h => .inl (hSS b o h))
        have hF' : FR L nt gh' w a (s.setT b (.lbox g (takenAt off cs))) :=
          hF.setT (H' := s.H) (lo' := s.lo) st (Nat.le_refl _) (fun i hi => ⟨by simp, by simp, by intro j e; injection e with e _; exact hi e⟩) (.inl ⟨hb, by rw [hT]; rfl⟩) (fun _ => ⟨by
            have h := hF.slot b hb
            rw [hT] at h
            exact h.1, k, hk, hB⟩)
        refine ⟨uv, gh', w, .inl ?_, Out.of (s1 := s.setT b (.lbox g (takenAt off cs))) (gen' := s.gen) hW' hF' hE (Nat.le_refl _) hd (.inl (genOf_frameCell hCR.frameCell)) (fun k hk => ?_)⟩
        · simp [execOp, ho, hax, run_load1 hg hcell]
        · rw [hk] at hCR
          exact sr_of_slot hCR.frameCell hCR
    · cases he
  case eref b g i zz off =>
    split at he
    · obtain ⟨_, he⟩ := cond_some he
      simp only [Option.bind_eq_some_iff] at he
      obtain ⟨r, _, he⟩ := he
      obtain ⟨_, he⟩ := cond_some he
      simp at he
    · cases he

end
end Go.Abs
