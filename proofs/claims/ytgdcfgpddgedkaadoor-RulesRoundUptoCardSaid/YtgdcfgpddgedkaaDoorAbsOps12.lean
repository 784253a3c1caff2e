/-
  Appends, as operations.
-/
import Derived.Test.YtgdcfgpddgedkaaDoorAbsOps11
namespace Go.Abs
set_option linter.unusedSimpArgs false
set_option linter.unusedVariables false

section
variable {P : Program} {G : Nat → List AV} {base nt : Nat} {L : List Nat} {gh : Gh} {w w' : World} {a : Act} {s : AS} {H : AHeap}

/-- An append to a slice that a slot keeps to write into. -/
theorem append_wr (hW : WRel G base s.H gh w) (hF : FR L nt gh w a s) {t tx ty e : TypeId} {sz bytes : Nat} (hT : ElemT P t e sz bytes) {t0 : Nat} {X : Value} {E F : List (List AV)} {news : List Value}
    (h : RowAt gh w (.bx t0) (tmv a t0) E) (hs : Src P sz tx X F.length news w) (hrows : RowsP gh.S w sz news.toArray F) (hfit : fitsRows sz bytes E F = true) (d : Option Nat) :
    ∃ v' gh' w', (Builtin.append_ #[t, tx] ty #[tmv a t0, X]).run P w = .ok v' w' ∧ WRel G base s.H gh' w' ∧ FR L nt gh' w' a (s.setT t0 .any) ∧ Ext s.H.length gh w gh' w' ∧ RowAt gh' w' (bxo d) v' (E ++ F) := by
  simp only [fitsRows, Bool.and_eq_true, Nat.ble_eq] at hfit
  obtain ⟨⟨⟨hb1, hb2⟩, hE⟩, hFo⟩ := hfit
  have hfresh := fun b hb => hW.not_outer (gh := gh) b hb
  have hdo := bxo_out d
  obtain ⟨i, z, hi, _, rfl, _⟩ := hT.hi
  have hone : (tmv a t0).oneCell' = true := by obtain ⟨ad, cap, hv, _⟩ := h; rw [hv]; rfl
  have hany : ∀ {gh' : Gh} {w' : World} {n gen : Nat} {T : AFrame}, SR gh' n nt w' T gen (tmv a) t0 (tmv a t0) .any := fun {_ _ _ _ _} => (.inl (.plain _ _ (.any _ hone)) : CR _ _ _ _ _ _)
  have stay : FR L nt gh w a (s.setT t0 .any) := hF.setT (touch := fun _ => False) (H' := s.H) (lo' := s.lo) (Step.refl _ _ _ _ hfresh) (Nat.le_refl _) (fun i _ => ⟨id, id, fun _ => id⟩) (.inr rfl) (fun _ => hany)
  -- a new row
  have new : ∀ ao cap olds, tmv a t0 = .slice ao E.length cap → cap < E.length + F.length → Src P i.size t (.slice ao E.length cap) E.length olds w → RowsP gh.S w i.size olds.toArray E →
      ∃ v' gh' w', (Builtin.append_ #[t, tx] ty #[tmv a t0, X]).run P w = .ok v' w' ∧ WRel G base s.H gh' w' ∧ FR L nt gh' w' a (s.setT t0 .any) ∧ Ext s.H.length gh w gh' w' ∧ RowAt gh' w' (bxo d) v' (E ++ F) := by
    intro ao cap olds hV hlt hsV hrV
    obtain ⟨cap', C', hrun, hcap, hC', hpre⟩ := grow (P := P) (ty := ty) hT hsV.cellsD hsV.newsLen hs hlt hb2 hb1
    have hall := hrV.append hrows
    have hp' : Pushed w (w.drew.alloc (.cells C' e)) (.cells C' e) := .drew w _
    have st := alloc_step hW hp' hdo (fun _ => False) s.H.length
    have hW' := hW.alloc hp' hdo (fun _ => False) (fun _ _ h => h.elim)
    rw [hV]
    have hF' : FR L nt (gh.alloc w.heap.size (bxo d) fun _ => False) (w.drew.alloc (.cells C' e)) a (s.setT t0 .any) :=
      stay.grown (H' := s.H) (lo' := s.lo) st (fun i => ⟨id, id, fun _ => id⟩) (Nat.le_refl _)
    refine ⟨_, _, _, hrun, hW', hF', alloc_ext hW hp' hdo _ _, some ⟨w.heap.size, 0, none⟩, cap', by rw [List.length_append], .inr ⟨w.heap.size, C', e, i.size, ?_, rfl, by simp [Gh.alloc], ?_, hp'.new, hC', by rw [List.length_append]; exact hcap, hall.2.1, ?_⟩⟩
    · intro h0
      have := congrArg List.length h0
      simp at this
      simp [this] at hlt
    · rintro o (ho | ⟨_, ho⟩)
      · have := hW.sLt _ o ho; omega
      · exact ho
    · intro k j r x hk hj
      obtain ⟨v, hv, hp⟩ := hall.2.2 k j r x hk hj
      refine ⟨v, ?_, hp.mono st.S st.cell⟩
      rw [hpre _ (Array.getElem?_eq_some_iff.1 hv).1, hv]
  obtain ⟨ao, cap, hV, ⟨rfl, hcap0, hspot⟩ | ⟨b, C, ty', sz', hne, ha, hk, hS, hb, hC, hl, hr, hcs⟩⟩ := h
  · subst hcap0
    have hsV : Src P i.size t (.slice ao 0 0) 0 [] w := by
      refine ⟨.inl ⟨_, hT.ht⟩, fun _ => rfl, ?_, ?_, by simp, fun _ h => by cases h⟩
      · cases ao with
        | none => exact run_firstCells_none w _ 0 0 0
        | some ad => exact run_firstCells_some w _ 0 ad 0 0 [] (by simp) (fun j v h => by simp at h)
      · cases ao with
        | none => exact run_firstCells_none w.drew _ 0 0 0
        | some ad => exact run_firstCells_some w.drew _ 0 ad 0 0 [] (by simp) (fun j v h => by simp at h)
    cases F with
    | nil =>
      have hn : news = [] := by have := hs.newsLen; simp at this; exact this
      subst hn
      refine ⟨_, gh, w, ?_, hW, stay, Ext.refl _ _ _ hfresh, ao, 0, rfl, .inl ⟨rfl, rfl, hspot⟩⟩
      rw [hV]
      exact run_append_nothing w t tx ty e i hT.ht hi ao 0 0 (Nat.le_refl _) X hs
    | cons f F => exact new ao 0 [] hV (by simp) hsV ⟨by simp, fun i r h => by simp at h, fun i j r x h => by simp at h⟩
  · subst ha
    have hsz : sz' = i.size := width_eq hE hr hne
    subst hsz
    have hEC : E.length * i.size ≤ C.size := by rw [hC]; exact Nat.mul_le_mul_right _ hl
    have holen : (C.toList.take (E.length * i.size)).length = E.length * i.size := by simp; omega
    have hrV : RowsP gh.S w i.size (C.toList.take (E.length * i.size)).toArray E := by
      refine ⟨by simp; omega, hr, fun k j r x hk hj => ?_⟩
      obtain ⟨u, hu, hp⟩ := hcs k j r x hk hj
      refine ⟨u, ?_, hp⟩
      have h1 := (List.getElem?_eq_some_iff.1 hk).1
      have h2 : j < i.size := by rw [← hr k r hk]; exact (List.getElem?_eq_some_iff.1 hj).1
      simp only [List.getElem?_toArray, List.getElem?_take, if_pos (mul_lt h1 h2)]
      simpa using hu
    have hone' : ∀ u ∈ C.toList.take (E.length * i.size), u.oneCell' = true := by
      intro u hu
      obtain ⟨k, hk⟩ := List.getElem?_of_mem hu
      have hlt : k < E.length * i.size := by rw [← holen]; exact (List.getElem?_eq_some_iff.1 hk).1
      obtain ⟨h1, h2, h3⟩ := split_index hlt
      have hr0 := List.getElem?_eq_getElem h1
      have hx0 := List.getElem?_eq_getElem (show k % i.size < E[k / i.size].length by rw [hr _ _ hr0]; exact h2)
      obtain ⟨u', hu', hp⟩ := hrV.2.2 _ _ _ _ hr0 hx0
      rw [h3] at hu'
      simp only [List.getElem?_toArray] at hu'
      rw [hk] at hu'
      injection hu' with hu'
      subst hu'
      exact hp.oneCell
    have hcell : ∀ j u, (C.toList.take (E.length * i.size))[j]? = some u → w.cell? ((⟨b, 0, none⟩ : Addr).add j) = some u := by
      intro j u hj
      rw [addr_add, Nat.zero_add, cell_of_row w b j C ty' _ hb]
      rw [List.getElem?_take] at hj
      split at hj
      · simpa using hj
      · cases hj
    have hsV : Src P i.size t (.slice (some ⟨b, 0, none⟩) E.length cap) E.length (C.toList.take (E.length * i.size)) w := .ofSlice w hT.ht ⟨b, 0, none⟩ E.length cap _ holen hcell hone'
    by_cases hlt : cap < E.length + F.length
    · exact new _ cap _ hV hlt hsV hrV
    · have hroom : E.length + F.length ≤ cap := by omega
      have hfit : E.length * i.size + news.length ≤ C.size := by rw [hs.newsLen, hC, ← Nat.add_mul]; exact Nat.mul_le_mul_right _ hroom
      have hrun := room (P := P) (ty := ty) hT hs hb (Nat.zero_le _) hroom hfit
      have hfit' : E.length * i.size + news.toArray.size ≤ C.size := by simpa using hfit
      have hno : ∀ o, gh.S b o → (rowPut C (E.length * i.size) news.toArray)[o]? = C[o]? := fun o ho => (hS o ho).elim
      have st := row_step hW hb (rowPut_size hfit') (fun _ => False) hno (bxo d) s.H.length
      have hn : gh.κ b ≠ .none := by rw [hk]; simp
      have hE' := row_ext hW hb (rowPut_size hfit') (fun _ => False) hno hdo hn (by rw [hk]; simp) s.H.length
      have hW' := row_W hW hb (rowPut_size hfit') (fun _ => False) hno (fun _ _ h => h.elim) (bxo d) hn (by rw [hk]; simp)
      rw [hk] at st
      have hF' := hF.setT (t := t0) (X := .any) (H' := s.H) (lo' := s.lo) st (Nat.le_refl _) (fun i hi => ⟨by simpa using hi, by simp, by simp⟩) (.inr rfl) (fun _ => hany)
      rw [hV]
      have hall := hrV.append hrows
      refine ⟨_, _, _, hrun, hW', hF', hE', some ⟨b, 0, none⟩, cap, by rw [List.length_append], .inr ⟨b, _, ty', i.size, by simp [hne], rfl, by simp, ?_, setRow_heap w b C _ ty' _ hb, by rw [rowPut_size hfit', hC], by rw [List.length_append]; exact hroom, hall.2.1, ?_⟩⟩
      · rintro o (ho | ⟨_, ho⟩)
        · exact hS o ho
        · exact ho
      · intro k j r x hk' hj
        obtain ⟨v, hv, hp⟩ := hall.2.2 k j r x hk' hj
        refine ⟨v, ?_, hp.mono st.S st.cell⟩
        rw [rowPut_get hfit']
        simp only [List.getElem?_toArray, List.size_toArray] at hv ⊢
        rw [List.getElem?_append, holen] at hv
        have hnl : news.length = F.length * i.size := hs.newsLen
        split at hv
        · rename_i h1
          rw [if_neg (by omega)]
          rw [List.getElem?_take, if_pos h1] at hv
          simpa using hv
        · rename_i h1
          have h2 := (List.getElem?_eq_some_iff.1 hv).1
          rw [if_pos (by omega)]
          exact hv

/-- What an append hands on. -/
theorem src_arg (hW : WRel G base s.H gh w) (hF : FR L nt gh w a s) {x : Operand} {y : IArg} (hc : compArg nt x = some y) {sz : Nat} {f : List (List AV)} (he : elemsOf sz (y.eval G s.T) = some f) (hh : headOk sz f = true) {tx : TypeId}
    (hk : (∃ e', P.underlying tx = some (.slice e')) ∨ P.underlying tx = some .string) : ∃ news, Src P sz tx (a.eval x) f.length news w ∧ RowsP gh.S w sz news.toArray f := by
  generalize hY : y.eval G s.T = Y at he
  cases Y <;> simp only [elemsOf] at he <;> try (cases he; done)
  · rename_i l
    obtain ⟨h0, h1⟩ := cond_some he
    have h0 : sz = 1 := by simpa [nbeq] using h0
    subst h0
    injection h1 with h1
    subst h1
    obtain ⟨q, hq, hl⟩ := (arg_VR hW hF hc hY rfl).inv_str
    rw [hq, List.length_map]
    exact src_str hl hk
  · rename_i el own
    injection he with he
    subst he
    obtain ⟨news, h1, h2, _⟩ := src_slice (P := P) (tx := tx) (sz := sz) (arg_VR hW hF hc hY rfl).inv_slice hk hh
    exact ⟨news, h1, h2⟩

theorem run_call_append {o : Oper} {c : Call} {x y : Operand} {t u : TypeId} (ho : o.op = .call c) (hcal : c.callee = .builtin .append) (hargs : c.args.toList = [x, y]) (htys : c.argTypes.toList = [t, u]) {v : Value}
    (hrun : (Builtin.append_ #[t, u] o.type #[a.eval x, a.eval y]).run P w = .ok v w') : (execOp a.eval o).run P w = .ok (.value v) w' := by
  have e1 : c.args = #[x, y] := by apply Array.ext'; simpa using hargs
  have e2 : c.argTypes = #[t, u] := by apply Array.ext'; simpa using htys
  unfold execOp
  simp only [ho, resolve, hcal, e1, e2, invoke, builtin, Sem.run_bind, Sem.run_pure, Result.andThen_ok, List.map_toArray, List.map_cons, List.map_nil, hrun]

theorem slice_shape {S : Nat → Nat → Prop} {V : Value} {e : List (List AV)} (h : PR S w V (.slice e false)) : ∃ ao cap, V = .slice ao e.length cap ∧ e.length ≤ cap := by
  cases h with
  | sliceNil => exact ⟨none, 0, rfl, Nat.le_refl _⟩
  | slice b o n cap sz _ _ hn hcap => subst hn; exact ⟨_, cap, rfl, hcap⟩

theorem ev_append (hW : WRel G base s.H gh w) (hF : FR L nt gh w a s) {o : Oper} {c : Call} {x y : Operand} {t u e : TypeId} {sz bytes : Nat} {yx yy : IArg} {isB wr : Bool} {z : AV} {s' : Option AS}
    (ho : o.op = .call c) (hcal : c.callee = .builtin .append) (hargs : c.args.toList = [x, y]) (htys : c.argTypes.toList = [t, u]) (hT : ElemT P t e sz bytes) (hisB : isB = true → e = byteTy) (hu : (∃ e', P.underlying u = some (.slice e')) ∨ P.underlying u = some .string)
    (hcx : compArg nt x = some yx) (hcy : compArg nt y = some yy) (he : evAppend G s isB wr sz bytes yx yy = some (z, s')) (hd : ∀ k, o.dst = some k → k < nt) (hL : wr = true → ∀ k, o.dst = some k → k ∈ L) :
    ∃ v' gh' w', Ran P a o w v' w' ∧ Out G base nt L gh w a s o.dst z (s'.getD s) v' gh' w' := by
  have hfresh := fun b hb => hW.not_outer (gh := gh) b hb
  -- an append by the holder of the right, the right told by '.ret'
  have core : ∀ (s1 : AS) (gh1 : Gh) (el : List (List AV)) (own : Bool), s1.H = s.H → WRel G base s1.H gh1 w → FR L nt gh1 w a s1 → Ext s.H.length gh w gh1 w → (∀ b o, gh.S b o → gh1.S b o) →
      CR gh1 s1.H.length w .ret (a.eval x) (.slice el own) → appendAV isB sz bytes (.slice el own) (yy.eval G s.T) = some z →
      ∃ v' gh' w', Ran P a o w v' w' ∧ Out G base nt L gh w a s o.dst z s1 v' gh' w' := by
    intro s1 gh1 el own hH hW1 hF1 hE1 hmono hCR hap
    simp only [appendAV, Option.bind_eq_some_iff] at hap
    obtain ⟨f, hf, hap⟩ := hap
    cases f with
    | nil =>
      simp only [Option.some.injEq] at hap
      subst hap
      obtain ⟨news, hs, hr⟩ := src_arg (P := P) hW hF hcy hf rfl hu
      have hn : news = [] := by have := hs.newsLen; simp at this; exact this
      subst hn
      obtain ⟨gh2, hW2, hF2, hE2, hCR2⟩ := hCR.given hW1 hF1 (slo o.dst) (slo_out _)
      obtain ⟨ao, cap, hV, hle⟩ := slice_shape (w := w) (hCR.dropped).inv_slice
      obtain ⟨i, z, hi, _, rfl, _⟩ := hT.hi
      refine ⟨a.eval x, gh2, w, .inl (run_call_append ho hcal hargs htys ?_), Out.of (s1 := s1) (gen' := s1.gen) hW2 hF2 (hE1.trans hE2 (by rw [hH]; exact Nat.le_refl _)) (Nat.le_refl _) hd (.inl rfl) (fun k hk => ?_)⟩
      · rw [hV]
        exact run_append_nothing w t u o.type e i hT.ht hi ao _ cap hle _ hs
      · rw [hk] at hCR2
        exact hCR2
    | cons f0 fr =>
      obtain ⟨h0, hap⟩ := cond_some hap
      injection hap with hap
      subst hap
      simp only [Bool.and_eq_true] at h0
      obtain ⟨⟨rfl, hfit⟩, hok⟩ := h0
      have hh : headOk sz (f0 :: fr) = true := by simp only [fitsRows, Bool.and_eq_true] at hfit; exact hfit.2
      obtain ⟨news, hs, hr⟩ := src_arg (P := P) hW hF hcy hf hh hu
      have hr1 : RowsP gh1.S w sz news.toArray (f0 :: fr) := ⟨hr.1, hr.2.1, fun i j r x hi hj => by
        obtain ⟨v, hv, hp⟩ := hr.2.2 i j r x hi hj
        exact ⟨v, hv, hp.mono hmono (fun _ _ _ => rfl)⟩⟩
      obtain ⟨v', gh2, w2, hrun, hW2, hF2, hE2, hCR2⟩ := append_own (P := P) (ty := o.type) hW1 hF1 hT hCR hs hr1 hfit hok hisB (by simp) (slo o.dst) (slo_out _)
      refine ⟨v', gh2, w2, .inl (run_call_append ho hcal hargs htys hrun), Out.of (s1 := s1) (gen' := s1.gen) hW2 hF2 (hE1.trans hE2 (by rw [hH]; exact Nat.le_refl _)) (Nat.le_refl _) hd (.inl rfl) (fun k hk => ?_)⟩
      rw [hk] at hCR2
      exact hCR2
  -- an append to a slice that is kept to be written into
  have wcore : ∀ (t0 : Nat) (el f : List (List AV)), x = .tmp t0 → t0 < nt → RowAt gh w (.bx t0) (tmv a t0) el → elemsOf sz (yy.eval G s.T) = some f → fitsRows sz bytes el f = true → wr = true →
      ∃ v' gh' w', Ran P a o w v' w' ∧ Out G base nt L gh w a s o.dst (.lsl s.gen (el ++ f)) { s.setT t0 .any with gen := s.gen + 1 } v' gh' w' := by
    intro t0 el f hx ht hrow hf hfit hwr
    have hh : headOk sz f = true := by simp only [fitsRows, Bool.and_eq_true] at hfit; exact hfit.2
    obtain ⟨news, hs, hr⟩ := src_arg (P := P) hW hF hcy hf hh hu
    obtain ⟨v', gh2, w2, hrun, hW2, hF2, hE2, hrow2⟩ := append_wr (P := P) (ty := o.type) hW hF hT hrow hs hr hfit o.dst
    have hxe : a.eval x = tmv a t0 := by rw [hx]; rfl
    refine ⟨v', gh2, w2, .inl (run_call_append ho hcal hargs htys (by rw [hxe]; exact hrun)), Out.of (s1 := s.setT t0 .any) (gen' := s.gen + 1) hW2 hF2 hE2 (Nat.le_succ _) hd (.inr ⟨⟨s.gen, Nat.le_refl _, rfl⟩, hL hwr⟩) (fun k hk => ⟨Nat.lt_succ_self _, ?_⟩)⟩
    rw [hk] at hrow2
    exact hrow2
  cases yx with
  | tmp t0 =>
    obtain ⟨rfl, ht⟩ := compArg_tmp hcx
    simp only [evAppend] at he
    split at he
    · rename_i g el hT0
      simp only [Option.bind_eq_some_iff] at he
      obtain ⟨f, hf, he⟩ := he
      obtain ⟨h0, he⟩ := cond_some he
      simp only [Option.some.injEq, Prod.mk.injEq] at he
      obtain ⟨rfl, rfl⟩ := he
      simp only [Bool.and_eq_true] at h0
      exact wcore t0 el f rfl ht (sr_lsl hF ht hT0) hf h0.2 h0.1
    · rename_i el own hT0
      cases hwr : wr with
      | true =>
        rw [hwr] at he
        simp only [cond_true, Option.bind_eq_some_iff] at he
        obtain ⟨f, hf, he⟩ := he
        obtain ⟨h0, he⟩ := cond_some he
        simp only [Option.some.injEq, Prod.mk.injEq] at he
        obtain ⟨rfl, rfl⟩ := he
        simp only [Bool.and_eq_true, List.isEmpty_iff] at h0
        obtain ⟨⟨rfl, rfl⟩, hfit⟩ := h0
        have hCR := arg_own hF ht hT0
        have hrow : RowAt gh w (.bx t0) (tmv a t0) [] := by
          rcases hCR with h | ⟨e', heq, _, b, cap, C, ty, lo, hi, sz', hval, hk, hne, _⟩
          · change VR gh s.H.length w (tmv a t0) _ at h
            generalize tmv a t0 = V at h
            cases h with
            | plain _ _ h => cases h
            | full ao k _ h hz =>
              cases h with
              | sliceNil => exact ⟨none, 0, rfl, .inl ⟨rfl, rfl, fun ad h => by cases h⟩⟩
              | slice b o _ _ sz' _ _ hn =>
                simp at hn
                subst hn
                exact ⟨_, 0, rfl, .inl ⟨rfl, rfl, fun ad h => ⟨by injection h with h; subst h; rfl, hz ad h rfl⟩⟩⟩
          · injection heq with h1; subst h1; exact absurd rfl hne
        exact wcore t0 [] f rfl ht hrow hf hfit hwr
      | false =>
        rw [hwr] at he
        simp only [cond_false, Option.map_eq_some_iff, Prod.mk.injEq] at he
        obtain ⟨z', hap, rfl, rfl⟩ := he
        obtain ⟨gh1, hW1, hF1, hE1, st1, hCR⟩ := own_move hW hF ht hT0 .ret (by simp)
        exact core (s.setT t0 (.slice el false)) gh1 el own rfl hW1 hF1 hE1 st1.S hCR hap
    · cases he
  | con v =>
    simp only [evAppend] at he
    cases hwr : wr with
    | true => rw [hwr] at he; cases he
    | false =>
      rw [hwr] at he
      simp only [cond_false, Option.map_eq_some_iff, Prod.mk.injEq] at he
      obtain ⟨z', hap, rfl, rfl⟩ := he
      simp only [IArg.eval] at hap
      cases v <;> simp only [appendAV] at hap <;> try (cases hap; done)
      rename_i el own
      have hv : VR gh s.H.length w (a.eval x) (.slice el own) := by
        cases x with
        | tmp k =>
          simp only [compArg] at hcx
          rcases Bool.eq_false_or_eq_true (Nat.blt k nt) with hb | hb <;> rw [hb] at hcx <;> simp at hcx
        | const u =>
          simp only [compArg, Option.map_eq_some_iff] at hcx
          obtain ⟨zz, hz, h⟩ := hcx
          injection h with h
          subst h
          exact const_VR hz
        | global g => simp [compArg] at hcx
        | func f => simp [compArg] at hcx
      exact core s gh el own rfl hW hF (Ext.refl _ _ _ hfresh) (fun _ _ h => h) (.inl hv) hap
  | glob g =>
    simp only [evAppend] at he
    cases hwr : wr with
    | true => rw [hwr] at he; cases he
    | false =>
      rw [hwr] at he
      simp [IArg.eval, appendAV] at he
  | fn f =>
    simp only [evAppend] at he
    cases hwr : wr with
    | true => rw [hwr] at he; cases he
    | false =>
      rw [hwr] at he
      simp [IArg.eval, appendAV] at he

end
end Go.Abs
