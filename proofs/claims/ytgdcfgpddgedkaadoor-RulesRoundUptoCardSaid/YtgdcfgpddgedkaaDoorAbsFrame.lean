/-
  Frames, operands and values: how the relation is kept when a slot is written. No program in sight.
-/
import Derived.Test.YtgdcfgpddgedkaaDoorAbsRel
namespace Go.Abs

def touchAny (p : Owner) : Prop := p ≠ .none ∧ p ≠ .outer

/-- A step of a run: what nobody here owns has stayed. -/
structure Ext (n : Nat) (gh : Gh) (w : World) (gh' : Gh) (w' : World) : Prop where
  step : Step touchAny n gh w gh' w'
  out : ∀ b, gh'.κ b = .outer → gh.κ b = .outer

theorem Ext.refl (n : Nat) (gh : Gh) (w : World) (hf : ∀ b, w.heap.size ≤ b → gh.κ b ≠ .outer) : Ext n gh w gh w := ⟨Step.refl _ n gh w hf, fun _ h => h⟩

theorem Ext.trans {n n' : Nat} {g1 g2 g3 : Gh} {w1 w2 w3 : World} (h : Ext n g1 w1 g2 w2) (h' : Ext n' g2 w2 g3 w3) (hn : n ≤ n') : Ext n g1 w1 g3 w3 := by
  refine ⟨⟨fun b o hs => h'.step.S b o (h.step.S b o hs), fun b o hs => (h'.step.cell b o (h.step.S b o hs)).trans (h.step.cell b o hs), Nat.le_trans h.step.size h'.step.size,
    h'.step.os.trans h.step.os, h'.step.tape.trans h.step.tape, h'.step.output.trans h.step.output, ?_, ?_, fun loc hl => (h'.step.ρ loc (Nat.lt_of_lt_of_le hl hn)).trans (h.step.ρ loc hl), fun b ty m hb => h'.step.len b ty m (h.step.len b ty m hb)⟩, fun b hb => h.out b (h'.out b hb)⟩
  · intro b hb hnt
    obtain ⟨a1, a2, a3⟩ := h.step.blk b hb hnt
    obtain ⟨c1, c2, c3⟩ := h'.step.blk b (Nat.lt_of_lt_of_le hb h.step.size) (by rw [a2]; exact hnt)
    exact ⟨a1.trans c1 a3, c2.trans a2, fun o ho => a3 o (c3 o ho)⟩
  · intro b hb ho
    have := h'.out b ho
    by_cases hb2 : w2.heap.size ≤ b
    · exact h'.step.fresh b hb2 ho
    · exact h.step.fresh b hb this

/-- The frame side, with the slots that may hold variables of the frame's own. -/
structure FR (L : List Nat) (nt : Nat) (gh : Gh) (w : World) (a : Act) (s : AS) : Prop extends FRel nt gh w a s where
  obj : ∀ i, (genOf (s.T i)).isSome = true → i ∈ L

def tmv (a : Act) (k : Nat) : Value := a.tmps.getD k undef

theorem tmv_put (a : Act) (d : Nat) (v : Value) (k : Nat) (hd : d < a.tmps.size) : tmv (a.put (some d) v) k = if k = d then v else tmv a k := by
  unfold tmv Act.put
  by_cases h : k = d
  · subst h; simp [hd]
  · simp [h, Array.getElem?_setIfInBounds_ne (Ne.symm h)]

theorem nbeq (a b : Nat) : Nat.beq a b = decide (a = b) := by
  by_cases h : a = b
  · subst h; simp
  · have h1 : Nat.beq a b ≠ true := fun h' => h (Nat.eq_of_beq_eq_true h')
    rw [decide_eq_false h]
    exact Bool.eq_false_iff.2 h1

theorem put_T (T : AFrame) (d : Nat) (v : AV) (k : Nat) : T.put d v k = if k = d then v else T k := by
  unfold AFrame.put
  rw [nbeq]
  by_cases h : k = d
  · subst h; simp
  · simp [h]

/-- The frame behind a step: slots outside D are as they were, those in D are told. -/
theorem FR.update {L : List Nat} {nt : Nat} {gh gh' : Gh} {w w' : World} {a a' : Act} {s s' : AS} {touch : Owner → Prop} (h : FR L nt gh w a s)
    (st : Step touch s.H.length gh w gh' w') (hdef : a'.defers = []) (hsz : a'.tmps.size = nt) (hn : s.H.length ≤ s'.H.length) (hg : s.gen ≤ s'.gen)
    (D : Nat → Prop)
    (hkeep : ∀ i, ¬ D i → s'.T i = s.T i ∧ (i < nt → tmv a' i = tmv a i ∧ ¬ touch (.bx i) ∧ ¬ touch (.sl i) ∧ ∀ j, ¬ touch (.sc i j)))
    (hgen : ∀ i, D i → (i < nt ∧ genOf (s'.T i) = genOf (s.T i) ∧ tmv a' i = tmv a i) ∨ genOf (s'.T i) = none ∨ (i ∈ L ∧ ∃ g, s.gen ≤ g ∧ genOf (s'.T i) = some g))
    (hnew : ∀ i, D i → i < nt → SR gh' s'.H.length nt w' s'.T s'.gen (tmv a') i (tmv a' i) (s'.T i)) : FR L nt gh' w' a' s' := by
  have hT : ∀ i, i < nt → (genOf (s'.T i) = genOf (s.T i) ∧ tmv a' i = tmv a i) ∨ genOf (s'.T i) = none ∨ ∃ g, s.gen ≤ g ∧ genOf (s'.T i) = some g := by
    intro i hi
    by_cases hD : D i
    · rcases hgen i hD with ⟨_, h⟩ | h | ⟨_, h⟩
      · exact .inl h
      · exact .inr (.inl h)
      · exact .inr (.inr h)
    · obtain ⟨k1, k2⟩ := hkeep i hD
      exact .inl ⟨by rw [k1], (k2 hi).1⟩
  refine ⟨⟨hdef, hsz, fun i hi => ?_⟩, fun i hi => ?_⟩
  · by_cases hD : D i
    · exact hnew i hD hi
    · obtain ⟨k1, k2⟩ := hkeep i hD
      obtain ⟨k3, t1, t2, t3⟩ := k2 hi
      show SR gh' s'.H.length nt w' s'.T s'.gen (tmv a') i (tmv a' i) (s'.T i)
      rw [k1, k3]
      exact SR.mono st hn hg t1 t2 t3 hT (h.slot i hi)
  · by_cases hD : D i
    · rcases hgen i hD with ⟨_, h', _⟩ | h' | ⟨h', _⟩
      · exact h.obj i (by rw [← h']; exact hi)
      · rw [h'] at hi; cases hi
      · exact h'
    · rw [(hkeep i hD).1] at hi
      exact h.obj i hi

/-- A value that is no variable of the frame's own: it may be put anywhere. -/
def Val (gh : Gh) (n nt : Nat) (w : World) (T : AFrame) (gen : Nat) (tm : Nat → Value) (v : Value) (x : AV) : Prop :=
  match x with
  | .lbox .. | .lsl .. => False
  | .lref s g off => s < nt ∧ g < gen ∧ (genOf (T s) = some g → ∀ b, tm s = .pointer (some ⟨b, 0, none⟩) → v = .pointer (some ⟨b, off, none⟩))
  | .lsr s g => s < nt ∧ g < gen ∧ (genOf (T s) = some g → v = tm s)
  | .eref s g r z off => s < nt ∧ g < gen ∧ (genOf (T s) = some g → ∀ b k cap, tm s = .slice (some ⟨b, 0, none⟩) k cap → v = .pointer (some ⟨b, r * z + off, none⟩))
  | x => VR gh n w v x

theorem Val.genOf {gh : Gh} {n nt : Nat} {w : World} {T : AFrame} {gen : Nat} {tm : Nat → Value} {v : Value} {x : AV} (h : Val gh n nt w T gen tm v x) : genOf x = none := by
  cases x <;> first | rfl | exact h.elim

theorem Val.sr {gh : Gh} {n nt : Nat} {w : World} {T : AFrame} {gen : Nat} {tm : Nat → Value} {v : Value} {x : AV} (h : Val gh n nt w T gen tm v x) (i : Nat) : SR gh n nt w T gen tm i v x := by
  cases x <;> first | exact h.elim | exact h | exact .inl h

theorem Val.of_VR {gh : Gh} {n nt : Nat} {w : World} {T : AFrame} {gen : Nat} {tm : Nat → Value} {v : Value} {x : AV} (h : VR gh n w v x) : Val gh n nt w T gen tm v x := by
  cases h with
  | plain v x h => have h0 := h; cases h <;> exact .plain _ _ h0
  | full a k e h hz => exact .full a k e h hz
  | ref loc off h => exact .ref loc off h
  | sref loc off k cap h hk => exact .sref loc off k cap h hk
  | func f fs cs xs ys hf hc h1 h2 => exact .func f fs cs xs ys hf hc h1 h2
  | iface t v x h => exact .iface t v x h
  | agg cs xs hs hone h => exact .agg cs xs hs hone h
  | tuple vs xs hs h => exact .tuple vs xs hs h

theorem putD_T (s : AS) (d : Option Nat) (x : AV) : (s.putD d x).H = s.H ∧ (s.putD d x).gen = s.gen ∧ (s.putD d x).lo = s.lo := by cases d <;> exact ⟨rfl, rfl, rfl⟩

theorem put_size (a : Act) (d : Option Nat) (v : Value) : (a.put d v).tmps.size = a.tmps.size := by cases d <;> simp [Act.put]
theorem put_defers' (a : Act) (d : Option Nat) (v : Value) : (a.put d v).defers = a.defers := by cases d <;> rfl

/-- A plain step: a value is put, the world may have grown. -/
theorem FR.put {L : List Nat} {nt : Nat} {gh gh' : Gh} {w w' : World} {a : Act} {s : AS} {H' : AHeap} {lo' : Nat} {touch : Owner → Prop} (h : FR L nt gh w a s) (st : Step touch s.H.length gh w gh' w')
    (ht : ∀ i, ¬ touch (.bx i) ∧ ¬ touch (.sl i) ∧ ∀ j, ¬ touch (.sc i j)) (hH : s.H.length ≤ H'.length)
    (d : Option Nat) (hd : ∀ k, d = some k → k < nt) {v : Value} {x : AV} (hv : Val gh' H'.length nt w' s.T s.gen (tmv a) v x) :
    FR L nt gh' w' (a.put d v) (({ s with H := H', lo := lo' } : AS).putD d x) := by
  cases d with
  | none =>
    exact h.update st h.defers h.size hH (Nat.le_refl _) (fun _ => False) (fun i _ => ⟨rfl, fun _ => ⟨rfl, ht i⟩⟩) (fun _ h => h.elim) (fun _ h => h.elim)
  | some d =>
    have hlt := hd d rfl
    have hsz : d < a.tmps.size := by rw [h.size]; exact hlt
    refine h.update (s' := ({ s with H := H', lo := lo' } : AS).putD (some d) x) st ((put_defers' a (some d) v).trans h.defers) ((put_size a (some d) v).trans h.size) hH (Nat.le_refl _) (fun i => i = d) ?_ ?_ ?_
    · intro i hi
      refine ⟨by simp [AS.putD, AS.setT, put_T, hi], fun _ => ⟨by rw [tmv_put a d v i hsz, if_neg hi], ht i⟩⟩
    · rintro i rfl
      exact .inr (.inl (by simp [AS.putD, AS.setT, put_T]; exact hv.genOf))
    · rintro i rfl hi
      simp only [AS.putD, AS.setT, put_T, if_true]
      rw [tmv_put a i v i hsz, if_pos rfl]
      refine SR.mono (touch := fun _ => False) (n := H'.length) (gh := gh') (w := w') (Step.refl _ _ _ _ (fun b hb => st.fresh b (Nat.le_trans st.size hb))) (Nat.le_refl _) (Nat.le_refl _) id id (fun _ => id) ?_ (hv.sr i)
      intro k hk
      by_cases hki : k = i
      · subst hki; exact .inr (.inl (by simp [AFrame.put]; exact hv.genOf))
      · exact .inl ⟨by simp [put_T, hki], by rw [tmv_put a i v k hsz, if_neg hki]⟩

end Go.Abs
