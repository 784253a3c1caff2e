/-
  Stores.
-/
import Derived.Test.YtgdcfgpddgedkaaDoorAbsOps9
namespace Go.Abs
set_option linter.unusedSimpArgs false
set_option linter.unusedVariables false

section
variable {P : Program} {G : Nat → List AV} {base nt : Nat} {L : List Nat} {gh : Gh} {w w' : World} {a : Act} {s : AS} {H : AHeap}

/-- An operand that hands its right to append on. -/
theorem arg_spent (hW : WRel G base s.H gh w) (hF : FR L nt gh w a s) {x : Operand} {y : IArg} (hc : compArg nt x = some y) (hf : frameCell (y.eval G s.T) = true) (p : Owner) (hp : p ≠ .outer) :
    ∃ gh', WRel G base s.H gh' w ∧ FR L nt gh' w a (s.spent y) ∧ Ext s.H.length gh w gh' w ∧ Step (fun r => ∃ t, r = .sl t) s.H.length gh w gh' w ∧ CR gh' s.H.length w p (a.eval x) (y.eval G s.T) := by
  have hfresh := fun b hb => hW.not_outer (gh := gh) b hb
  have stay : s.spent y = s → VR gh s.H.length w (a.eval x) (y.eval G s.T) → ∃ gh', WRel G base s.H gh' w ∧ FR L nt gh' w a (s.spent y) ∧ Ext s.H.length gh w gh' w ∧ Step (fun r => ∃ t, r = .sl t) s.H.length gh w gh' w ∧ CR gh' s.H.length w p (a.eval x) (y.eval G s.T) := by
    intro h1 h2
    rw [h1]
    exact ⟨gh, hW, hF, Ext.refl _ _ _ hfresh, Step.refl _ _ _ _ hfresh, .inl h2⟩
  cases y with
  | tmp t =>
    obtain ⟨rfl, ht⟩ := compArg_tmp hc
    have hd := arg_VR hW hF hc rfl hf
    simp only [IArg.eval] at hf hd stay ⊢
    cases hT : s.T t with
    | slice e own =>
      cases own with
      | false =>
        rw [hT] at hd stay
        exact stay (by simp [AS.spent, hT]) hd
      | true =>
        obtain ⟨gh', h1, h2, h3, h4, h5⟩ := own_move hW hF ht hT p hp
        refine ⟨gh', h1, ?_, h3, h4.mono (fun r h => ⟨t, h⟩), h5⟩
        simpa [AS.spent, hT] using h2
    | _ =>
      rw [hT] at hd stay
      exact stay (by simp [AS.spent, hT]) hd
  | con v =>
    refine stay rfl ?_
    cases x with
    | tmp k =>
      simp only [compArg] at hc
      rcases Bool.eq_false_or_eq_true (Nat.blt k nt) with hb | hb <;> rw [hb] at hc <;> simp at hc
    | const u =>
      simp only [compArg, Option.map_eq_some_iff] at hc
      obtain ⟨z, hz, h⟩ := hc
      injection h with h
      subst h
      exact const_VR hz
    | global g => simp [compArg] at hc
    | func f => simp [compArg] at hc
  | glob g =>
    refine stay rfl ?_
    have := arg_VR hW hF hc rfl hf
    exact this
  | fn f =>
    refine stay rfl ?_
    have := arg_VR hW hF hc rfl hf
    exact this

theorem row_same {b : Nat} : ({ S := fun b' o => gh.S b' o ∨ (b' = b ∧ (fun _ => False) o), κ := fun b' => if b' = b then gh.κ b else gh.κ b', ρ := gh.ρ } : Gh) = gh := by
  obtain ⟨S, κ, ρ⟩ := gh
  congr 1
  · funext b' o
    simp
  · funext b'
    by_cases h : b' = b
    · subst h; simp
    · simp [h]

theorem row_step0 (hW : WRel G base H gh w) {b : Nat} {C C' : Array Value} {ty : TypeId} {fr : Nat × Nat} (hb : w.heap[b]? = some (.cells C ty fr)) (hsz : C'.size = C.size) (hcell : ∀ o, gh.S b o → C'[o]? = C[o]?) (n : Nat) :
    Step (fun r => r = gh.κ b) n gh w gh (w.setRow b C') := by
  have h := row_step hW hb hsz (fun _ => False) hcell (gh.κ b) n
  rw [row_same] at h
  exact h

theorem row_ext0 (hW : WRel G base H gh w) {b : Nat} {C C' : Array Value} {ty : TypeId} {fr : Nat × Nat} (hb : w.heap[b]? = some (.cells C ty fr)) (hsz : C'.size = C.size) (hcell : ∀ o, gh.S b o → C'[o]? = C[o]?) (h0 : gh.κ b ≠ .none) (h1 : gh.κ b ≠ .outer) (n : Nat) :
    Ext n gh w gh (w.setRow b C') :=
  ⟨(row_step0 hW hb hsz hcell n).mono (fun r h => by rw [h]; exact ⟨h0, h1⟩), fun _ h => h⟩

/-- A row with cells put. -/
def rowPut (C : Array Value) (off : Nat) (D : Array Value) : Array Value := (C.toList.take off ++ D.toList ++ C.toList.drop (off + D.toList.length)).toArray

theorem rowPut_get {C D : Array Value} {off : Nat} (h : off + D.size ≤ C.size) (j : Nat) : (rowPut C off D)[j]? = if off ≤ j ∧ j < off + D.size then D[j - off]? else C[j]? := by
  have hmin : min off C.size = off := by omega
  unfold rowPut
  simp only [List.getElem?_toArray, List.getElem?_append, List.length_append, List.length_take, List.getElem?_take, List.getElem?_drop, Array.length_toList, Array.getElem?_toList, hmin]
  by_cases h1 : j < off
  · have e1 : j < off + D.size := by omega
    rw [if_pos e1, if_pos h1, if_pos h1, if_neg (by omega)]
  · by_cases h2 : j < off + D.size
    · rw [if_pos h2, if_neg h1, if_pos ⟨by omega, h2⟩]
    · rw [if_neg h2, if_neg (by omega)]
      congr 1; omega

theorem rowPut_size {C D : Array Value} {off : Nat} (h : off + D.size ≤ C.size) : (rowPut C off D).size = C.size := by
  unfold rowPut; simp; omega

theorem run_storeAt {t : TypeId} {sz : Nat} (hs : sizeT P t = some sz) {b off : Nat} {C : Array Value} {ty : TypeId} (hb : w.heap[b]? = some (.cells C ty (0, 0))) {v : Value} (hv : v.cells.size = sz) (hfit : off + sz ≤ C.size) (hone : ∀ u ∈ v.cells.toList, u.oneCell' = true) :
    (Instr.storeAt t (.pointer (some ⟨b, off, none⟩)) v).run P w = .ok () (w.setRow b (rowPut C off v.cells)) := by
  have h := run_storeCells_at P b off ty v.cells.toList 0 C w hb (by simp; omega) hone
  simp only [Nat.add_zero] at h
  simp [Instr.storeAt, Instr.sureAddr, storeVar, run_sizeOf' hs, hv, h, rowPut]

/-- A write into a variable. -/
theorem box_write (hW : WRel G base H gh w) {b : Nat} {p : Owner} {q : Nat → Owner} {n : Nat} {cs vs : List AV} (hB : BoxAt gh n w b p q cs) {off sz : Nat} {t : TypeId} (hs : sizeT P t = some sz) {v : Value} (hvs : vs.length = sz) (hoff : off + sz ≤ cs.length)
    (hv : v.cells.size = sz) (hrel : ∀ (j : Nat) (u : Value) (x : AV), v.cells[j]? = some u → vs[j]? = some x → u.oneCell' = true ∧ CR gh n w (q (off + j)) u x) (hq : ∀ j, q j ≠ p) (hp : p ≠ .none ∧ p ≠ .outer) (m : Nat) :
    ∃ w', (Instr.storeAt t (.pointer (some ⟨b, off, none⟩)) v).run P w = .ok () w' ∧ Step (fun r => r = p) m gh w gh w' ∧ Ext m gh w gh w' ∧ w'.heap.size = w.heap.size ∧ BoxAt gh n w' b p q (putAt cs off vs) := by
  obtain ⟨hκ, hS, C, ty, hb, hC, hcs⟩ := hB
  have hno : ∀ o, gh.S b o → (rowPut C off v.cells)[o]? = C[o]? := fun o ho => (hS o ho).elim
  have hrs : (rowPut C off v.cells).size = C.size := rowPut_size (by omega)
  have st := row_step0 hW hb hrs hno m
  have stn := row_step0 hW hb hrs hno n
  have hE := row_ext0 hW hb hrs hno (by rw [hκ]; exact hp.1) (by rw [hκ]; exact hp.2) m
  rw [hκ] at st stn
  have hfit : off + v.cells.size ≤ C.size := by omega
  refine ⟨_, run_storeAt hs hb hv (by omega) ?_, st, hE, by simp, hκ, hS, _, ty, setRow_heap w b C _ ty _ hb, by rw [rowPut_size hfit, putAt_len (by omega)]; exact hC, fun j u x hju hjx => ?_⟩
  · intro u hu
    obtain ⟨j, hj⟩ := List.getElem?_of_mem hu
    have hj' : v.cells[j]? = some u := by simpa using hj
    have hlt : j < vs.length := by rw [hvs, ← hv]; exact (Array.getElem?_eq_some_iff.1 hj').1
    exact (hrel j u _ hj' (List.getElem?_eq_getElem hlt)).1
  · rw [rowPut_get hfit] at hju
    rw [putAt_get (by omega)] at hjx
    have e1 : v.cells.size = vs.length := by omega
    rw [e1] at hju
    split at hju
    · rename_i hc
      rw [if_pos hc] at hjx
      obtain ⟨k1, k2⟩ := hrel _ u x hju hjx
      rw [show off + (j - off) = j by omega] at k2
      exact ⟨k1, k2.mono stn (Nat.le_refl _) (hq j)⟩
    · rename_i hc
      rw [if_neg hc] at hjx
      obtain ⟨k1, k2⟩ := hcs j u x hju hjx
      exact ⟨k1, k2.mono stn (Nat.le_refl _) (hq j)⟩

/-- The cells of a value that a place 'q off' holds. -/
theorem cells_CR {n : Nat} {v : Value} {x : AV} {vs : List AV} {q : Nat → Owner} {off : Nat} (h : CR gh n w (q off) v x) (hc : x.cells = some vs) :
    v.cells.size = vs.length ∧ ∀ (j : Nat) (u : Value) (y : AV), v.cells[j]? = some u → vs[j]? = some y → u.oneCell' = true ∧ CR gh n w (q (off + j)) u y := by
  rcases h with h | ⟨e, rfl, hPR, hO⟩
  · have hr := cells_rel h hc
    exact ⟨hr.1, fun j u y hu hy => ⟨(hr.2 j u y hu hy).2, .inl (hr.2 j u y hu hy).1⟩⟩
  · have e1 : vs = [.slice e true] := by simpa [AV.cells] using hc.symm
    subst e1
    have hone := hPR.oneCell
    have : v.cells = #[v] := by obtain ⟨b, cap, _, _, _, _, _, rfl, _⟩ := hO; rfl
    rw [this]
    refine ⟨rfl, fun j u y hu hy => ?_⟩
    cases j with
    | zero => simp at hu hy; subst hu hy; exact ⟨hone, .inr ⟨e, rfl, hPR, hO⟩⟩
    | succ j => simp at hu

theorem frameCell_of_cells {x : AV} {vs : List AV} (h : x.cells = some vs) : frameCell x = true := by cases x <;> first | rfl | cases h

theorem spent_H (s : AS) (y : IArg) : (s.spent y).H = s.H ∧ (s.spent y).gen = s.gen ∧ (s.spent y).lo = s.lo := by
  cases y with
  | tmp t => simp only [AS.spent]; split <;> exact ⟨rfl, rfl, rfl⟩
  | _ => exact ⟨rfl, rfl, rfl⟩

theorem spent_T (s : AS) (y : IArg) (b : Nat) (h : ∀ e, s.T b ≠ .slice e true) : (s.spent y).T b = s.T b := by
  cases y <;> simp only [AS.spent]
  rename_i t
  split
  · rename_i e hT
    by_cases hb : b = t
    · subst hb; exact absurd hT (h e)
    · simp [AS.setT, put_T, hb]
  · rfl

theorem spent_not (s : AS) (t : Nat) (h : ∀ e, s.T t ≠ .slice e true) : s.spent (.tmp t) = s := by
  simp only [AS.spent]

theorem spent_own (s : AS) (t : Nat) {e : List (List AV)} (h : s.T t = .slice e true) : s.spent (.tmp t) = s.setT t (.slice e false) := by
  simp only [AS.spent, h]

theorem spent_setT (s : AS) (y : IArg) (b : Nat) (X : AV) (h : ∀ e, s.T b ≠ .slice e true) (hX : ∀ e, X ≠ .slice e true) : (s.setT b X).spent y = (s.spent y).setT b X := by
  cases y <;> try rfl
  rename_i t
  by_cases hb : t = b
  · subst hb
    rw [spent_not s t h, spent_not _ t (by simpa [AS.setT, put_T] using hX)]
  · have e1 : (s.setT b X).T t = s.T t := by simp [AS.setT, put_T, hb]
    by_cases ho : ∃ e, s.T t = .slice e true
    · obtain ⟨e, ho⟩ := ho
      rw [spent_own s t ho, spent_own (s.setT b X) t (by rw [e1, ho])]
      simp only [AS.setT]
      congr 1
      funext k
      simp only [put_T]
      by_cases h1 : k = t
      · subst h1; simp [hb]
      · by_cases h2 : k = b
        · subst h2; simp [h1]
        · simp [h1, h2]
    · have ho' : ∀ e, s.T t ≠ .slice e true := fun e he => ho ⟨e, he⟩
      rw [spent_not s t ho', spent_not (s.setT b X) t (by rw [e1]; exact ho')]

theorem spent_chg (s : AS) (y : IArg) (c : Chg) : (s.chg c).spent y = (s.spent y).chg c := by
  cases y <;> simp only [AS.spent]
  rename_i t
  show (match s.T t with | .slice e true => (s.chg c).setT t (.slice e false) | _ => s.chg c) = _
  cases hT : s.T t <;> try rfl
  rename_i e own
  cases own <;> rfl

/-- A state, told anew: none of its slots' values turns. -/
theorem Out.skip {gh' : Gh} {s1 : AS} {d : Option Nat} (hW : WRel G base s1.H gh' w') (hF : FR L nt gh' w' a s1) (hE : Ext s.H.length gh w gh' w') (hd : ∀ k, d = some k → k < nt) : Out G base nt L gh w a s d .undef s1 undef gh' w' :=
  Out.of (gen' := s1.gen) hW hF hE (Nat.le_refl _) hd (.inl rfl) (fun k hk => .inl VR.undef)

theorem putAt_all {cs vs : List AV} {off : Nat} {f : AV → Bool} (h1 : cs.all f = true) (h2 : vs.all f = true) : (putAt cs off vs).all f = true := by
  refine List.all_eq_true.2 fun x hx => ?_
  unfold putAt at hx
  rcases List.mem_append.1 hx with hx | hx
  · rcases List.mem_append.1 hx with hx | hx
    · exact List.all_eq_true.1 h1 x (List.mem_of_mem_take hx)
    · exact List.all_eq_true.1 h2 x hx
  · exact List.all_eq_true.1 h1 x (List.mem_of_mem_drop hx)

theorem ev_store (hW : WRel G base s.H gh w) (hF : FR L nt gh w a s) {o : Oper} {t : TypeId} {xa xv : Operand} {ya yv : IArg} {sz : Nat} {s' : AS} (ho : o.op = .store t xa xv) (hca : compArg nt xa = some ya) (hcv : compArg nt xv = some yv) (hs : sizeT P t = some sz)
    (he : storeAV s sz (ya.addr G s.T) (yv.eval G s.T) = some s') (hd : ∀ k, o.dst = some k → k < nt) :
    ∃ v' gh' w', Ran P a o w v' w' ∧ Out G base nt L gh w a s o.dst .undef (s'.spent yv) v' gh' w' := by
  have ha := arg_val hW hF hca
  unfold storeAV at he
  split at he
  · cases he
  rename_i vs hvs
  obtain ⟨hlen, he⟩ := cond_some he
  have hlen : vs.length = sz := by simpa [nbeq] using hlen
  have hfr := frameCell_of_cells hvs
  generalize hY : ya.addr G s.T = Y at ha he
  cases Y <;> simp only at he <;> try (cases he; done)
  case ref loc off =>
    obtain ⟨hlt, hax⟩ := VR.inv_ref (ha : VR gh s.H.length w (a.eval xa) (.ref loc off))
    split at he
    · rename_i ty0 cs hH
      obtain ⟨h0, he⟩ := cond_some he
      injection he with he
      subst he
      simp only [Bool.and_eq_true, Nat.ble_eq] at h0
      obtain ⟨gh1, hW1, hF1, hE1, st1, hCR⟩ := arg_spent hW hF hcv hfr (.hs loc off) (by simp)
      have hρ : gh1.ρ loc = gh.ρ loc := st1.ρ loc hlt
      obtain ⟨hsz, hrel⟩ := cells_CR (q := fun j => .hs loc j) hCR hvs
      obtain ⟨w', hrun, st2, hE2, hsize, hB⟩ := box_write (P := P) hW1 (hW1.boxes loc _ cs hH) hs hlen h0.1 (by omega) hrel (by simp) (by simp) s.H.length
      have hW2 : WRel G base (s.H.set loc (.box ty0 (putAt cs off vs))) gh1 w' := hW1.setBox st2 hH (by intro l hl; simp [hl]) (fun b o ho => by rw [hsize]; exact hW1.sLt b o ho) (fun b hb => by rw [hsize]; exact hW1.kLt b hb) hB (putAt_all (hW1.refs loc _ cs hH) h0.2) (fun _ _ h => h) (putAt_len (by omega))
      have hS := spent_H s yv
      have hF2 : FR L nt gh1 w' a ((s.spent yv).chg ⟨s.H.set loc (.box ty0 (putAt cs off vs)), loc⟩) := hF1.grown (by rw [hS.1]; exact st2) (fun i => ⟨by simp, by simp, by simp⟩) (by rw [hS.1]; simp)
      refine ⟨undef, gh1, w', .inr ⟨?_, rfl⟩, ?_⟩
      · simp [execOp, ho, hax, ← hρ, hrun]
      · rw [spent_chg]
        exact Out.skip (s1 := (s.spent yv).chg ⟨s.H.set loc (.box ty0 (putAt cs off vs)), loc⟩) hW2 hF2 (hE1.trans hE2 (Nat.le_refl _)) hd
    · cases he
  case lref b g off =>
    obtain ⟨hb, hg0, hr⟩ := (ha : _ ∧ _ ∧ _)
    split at he
    · rename_i g' cs hT
      obtain ⟨h0, he⟩ := cond_some he
      injection he with he
      subst he
      simp only [Bool.and_eq_true, Nat.ble_eq, nbeq, decide_eq_true_eq] at h0
      obtain ⟨⟨rfl, h0⟩, _⟩ := h0
      obtain ⟨k, hk, _⟩ := sr_lbox hF hb hT
      have hax := hr (by rw [hT]; rfl) k hk
      obtain ⟨gh1, hW1, hF1, hE1, st1, hCR⟩ := arg_spent hW hF hcv hfr (.sc b off) (by simp)
      have hS := spent_H s yv
      have hT1 : (s.spent yv).T b = .lbox g cs := by rw [spent_T _ _ _ (by rw [hT]; simp), hT]
      obtain ⟨k', hk', hB1⟩ := sr_lbox hF1 hb hT1
      have hkk : k' = k := by rw [hk] at hk'; injection hk' with h; injection h with h; injection h with h; exact h.symm
      subst hkk
      rw [hS.1] at hB1
      obtain ⟨hsz, hrel⟩ := cells_CR (q := fun j => .sc b j) hCR hvs
      obtain ⟨w', hrun, st2, hE2, hsize, hB⟩ := box_write (P := P) hW1 hB1 hs hlen h0 (by omega) hrel (by simp) (by simp) s.H.length
      have hW2 : WRel G base s.H gh1 w' := hW1.step st2 (by simp) (fun b o ho => by rw [hsize]; exact hW1.sLt b o ho) (fun b hb => by rw [hsize]; exact hW1.kLt b hb) (fun _ _ _ h => .inl h)
      have hF2 : FR L nt gh1 w' a ((s.spent yv).setT b (.lbox g (putAt cs off vs))) := by
        refine hF1.setT (H' := (s.spent yv).H) (lo' := (s.spent yv).lo) (by rw [hS.1]; exact st2) (Nat.le_refl _) (fun i hi => ⟨by simpa using hi, by simp, by simp⟩) (.inl ⟨hb, by rw [hT1]; rfl⟩) (fun _ => ⟨?_, k', hk, ?_⟩)
        · have h := hF1.slot b hb
          rw [hT1] at h
          exact h.1
        · rw [hS.1]; exact hB
      refine ⟨undef, gh1, w', .inr ⟨?_, rfl⟩, ?_⟩
      · simp [execOp, ho, hax, hrun]
      · rw [spent_setT _ _ _ _ (by rw [hT]; simp) (by simp)]
        exact Out.skip (s1 := (s.spent yv).setT b (.lbox g (putAt cs off vs))) (by show WRel G base (s.spent yv).H gh1 w'; rw [hS.1]; exact hW2) hF2 (hE1.trans hE2 (Nat.le_refl _)) hd
    · cases he
  case eref b g i z off =>
    obtain ⟨hb, hg0, hr⟩ := (ha : _ ∧ _ ∧ _)
    split at he
    · rename_i g' e hT
      obtain ⟨h0, he1⟩ := cond_some he
      have hgg : g = g' := by simpa [nbeq] using h0
      clear he
      subst hgg
      simp only [Option.bind_eq_some_iff] at he1
      obtain ⟨r, hri, he2⟩ := he1
      obtain ⟨h1, he3⟩ := cond_some he2
      injection he3 with he3
      subst he3
      simp only [Bool.and_eq_true, Nat.ble_eq, nbeq, decide_eq_true_eq] at h1
      obtain ⟨⟨hrz, hoff⟩, hpl⟩ := h1
      obtain ⟨gh1, hW1, hF1, hE1, st1, hCR⟩ := arg_spent hW hF hcv hfr .none (by simp)
      have hS := spent_H s yv
      have hT1 : (s.spent yv).T b = .lsl g e := by rw [spent_T _ _ _ (by rw [hT]; simp), hT]
      obtain ⟨ad, cap, hval, hrow⟩ := sr_lsl hF1 hb hT1
      rcases hrow with ⟨rfl, _⟩ | ⟨k, C, ty, sz', hne0, rfl, hκ, hS1, hkb, hC, hl, hrl, hcs⟩
      · simp at hri
      have hax := hr (by rw [hT]; rfl) k _ _ hval
      have hz' : sz' = z := by rw [← hrz, hrl i r hri]
      subst hz'
      have hilt : i < e.length := (List.getElem?_eq_some_iff.1 hri).1
      -- the cells that are put
      obtain ⟨hsz, hrel⟩ := cells_CR (q := fun _ => .none) (off := 0) hCR hvs
      have hrelP : ∀ (j : Nat) (x : AV), (vs.map AV.drop)[j]? = some x → ∃ u, (a.eval xv).cells[j]? = some u ∧ PR gh1.S w u x := by
        intro j x hx
        simp only [List.getElem?_map, Option.map_eq_some_iff] at hx
        obtain ⟨y, hy, rfl⟩ := hx
        have hj : j < (a.eval xv).cells.size := by rw [hsz]; exact (List.getElem?_eq_some_iff.1 hy).1
        have hu := Array.getElem?_eq_getElem hj
        refine ⟨_, hu, (hrel j _ y hu hy).2.dropped.plain_PR (List.all_eq_true.1 hpl _ (List.mem_map.2 ⟨y, List.mem_of_getElem? hy, rfl⟩))⟩
      have hfit : i * sz' + off + (a.eval xv).cells.size ≤ C.size := by
        have h2 : (i + 1) * sz' ≤ e.length * sz' := Nat.mul_le_mul_right _ hilt
        have h3 : e.length * sz' ≤ cap * sz' := Nat.mul_le_mul_right _ hl
        rw [Nat.add_mul] at h2
        omega
      have hno : ∀ o, gh1.S k o → (rowPut C (i * sz' + off) (a.eval xv).cells)[o]? = C[o]? := fun o ho => (hS1 o ho).elim
      have st2 := row_step0 hW1 hkb (rowPut_size hfit) hno s.H.length
      have hE2 := row_ext0 hW1 hkb (rowPut_size hfit) hno (by rw [hκ]; simp) (by rw [hκ]; simp) s.H.length
      rw [hκ] at st2
      have hrun := run_storeAt (P := P) (w := w) (off := i * sz' + off) hs hkb (v := a.eval xv) (by omega) (by omega) (fun u hu => by
        obtain ⟨j, hj⟩ := List.getElem?_of_mem hu
        have hj' : (a.eval xv).cells[j]? = some u := by simpa using hj
        have hlt : j < vs.length := by rw [← hsz]; exact (Array.getElem?_eq_some_iff.1 hj').1
        exact (hrel j u _ hj' (List.getElem?_eq_getElem hlt)).1)
      have hW2 : WRel G base s.H gh1 (w.setRow k (rowPut C (i * sz' + off) (a.eval xv).cells)) := hW1.step st2 (by simp) (fun b o ho => by simpa using hW1.sLt b o ho) (fun b hb => by simpa using hW1.kLt b hb) (fun _ _ _ h => .inl h)
      have hds : off + (vs.map AV.drop).length ≤ r.length := by simp; omega
      have hF2 : FR L nt gh1 (w.setRow k (rowPut C (i * sz' + off) (a.eval xv).cells)) a ((s.spent yv).setT b (.lsl g (e.set i (putAt r off (vs.map AV.drop))))) := by
        refine hF1.setT (H' := (s.spent yv).H) (lo' := (s.spent yv).lo) (by rw [hS.1]; exact st2) (Nat.le_refl _) (fun i hi => ⟨by simpa using hi, by simp, by simp⟩) (.inl ⟨hb, by rw [hT1]; rfl⟩) (fun _ => ⟨?_, ?_⟩)
        · have h := hF1.slot b hb
          rw [hT1] at h
          exact h.1
        · refine ⟨some ⟨k, 0, none⟩, cap, by simpa using hval, .inr ⟨k, _, ty, sz', (by intro h0; have := congrArg List.length h0; simp at this; exact hne0 this), rfl, hκ, hS1, setRow_heap w k C _ ty _ hkb, by rw [rowPut_size hfit, hC], by simpa using hl, ?_, ?_⟩⟩
          · intro i' r' hr'
            rw [List.getElem?_set] at hr'
            split at hr'
            · rename_i hii
              injection hr' with hr'
              subst hr'
              rw [putAt_len hds]; exact hrz
            · exact hrl i' r' hr'
          · intro i' j r' x hr' hj
            rw [rowPut_get hfit]
            rw [List.getElem?_set] at hr'
            split at hr'
            · rename_i hii
              subst hii
              injection hr' with hr'
              subst hr'
              rw [putAt_get hds] at hj
              have hl' : (vs.map AV.drop).length = (a.eval xv).cells.size := by simp [hsz]
              rw [hl'] at hj
              by_cases hc : off ≤ j ∧ j < off + (a.eval xv).cells.size
              · rw [if_pos hc] at hj
                rw [if_pos (by omega)]
                obtain ⟨u, hu, hp⟩ := hrelP _ x hj
                refine ⟨u, ?_, hp.mono st2.S st2.cell⟩
                rw [show i * sz' + j - (i * sz' + off) = j - off by omega]; exact hu
              · rw [if_neg hc] at hj
                rw [if_neg (by omega)]
                obtain ⟨u, hu, hp⟩ := hcs i j r x hri hj
                exact ⟨u, hu, hp.mono st2.S st2.cell⟩
            · rename_i hii
              have hjl : j < sz' := by rw [← hrl i' r' hr']; exact (List.getElem?_eq_some_iff.1 hj).1
              have hne : ¬ (i * sz' + off ≤ i' * sz' + j ∧ i' * sz' + j < i * sz' + off + (a.eval xv).cells.size) := by
                rintro ⟨c1, c2⟩
                have : i = i' := by
                  rcases Nat.lt_trichotomy i i' with h' | h' | h'
                  · have : (i + 1) * sz' ≤ i' * sz' := Nat.mul_le_mul_right _ h'
                    rw [Nat.add_mul] at this; omega
                  · exact h'
                  · have : (i' + 1) * sz' ≤ i * sz' := Nat.mul_le_mul_right _ h'
                    rw [Nat.add_mul] at this; omega
                exact hii this
              rw [if_neg hne]
              obtain ⟨u, hu, hp⟩ := hcs i' j r' x hr' hj
              exact ⟨u, hu, hp.mono st2.S st2.cell⟩
      refine ⟨undef, gh1, w.setRow k (rowPut C (i * sz' + off) (a.eval xv).cells), .inr ⟨?_, rfl⟩, ?_⟩
      · simp [execOp, ho, hax, hrun]
      · rw [spent_setT _ _ _ _ (by rw [hT]; simp) (by simp)]
        exact Out.skip (s1 := (s.spent yv).setT b (.lsl g (e.set i (putAt r off (vs.map AV.drop))))) (by show WRel G base (s.spent yv).H gh1 _; rw [hS.1]; exact hW2) hF2 (hE1.trans hE2 (Nat.le_refl _)) hd
    · cases he

end
end Go.Abs
