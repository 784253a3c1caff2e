/-
  Calls: what a call's abstract result says of it, and the operation that calls.
-/
import Derived.Test.YtgdcfgpddgedkaaDoorAbsOps12
namespace Go.Abs
set_option linter.unusedSimpArgs false
set_option linter.unusedVariables false

def clean (gh : Gh) : Prop := ∀ b, gh.κ b = .none ∨ gh.κ b = .outer ∨ (∃ l, gh.κ b = .hb l) ∨ ∃ l j, gh.κ b = .hs l j

def touchHeap (p : Owner) : Prop := (∃ l, p = .hb l) ∨ ∃ l j, p = .hs l j

def newH (H : AHeap) : Option Chg → AHeap
  | none => H
  | some c => c.heap

/-- What a call has come to. -/
structure RetOK (G : Nat → List AV) (base : Nat) (H : AHeap) (gh : Gh) (w : World) (r : AV) (c : Option Chg) (v : Value) (gh' : Gh) (w' : World) : Prop where
  len : H.length ≤ (newH H c).length
  W : WRel G base (newH H c) gh' w'
  st : Step touchHeap H.length gh w gh' w'
  out : ∀ b, gh'.κ b = .outer → gh.κ b = .outer
  val : CR gh' (newH H c).length w' .ret v r

/-- What a call says of its change. -/
def ChgOK (H : AHeap) (c : Option Chg) : Prop := H.length ≤ (newH H c).length ∧ ∀ c', c = some c' → c'.lo ≤ H.length ∧ ∀ l, l < c'.lo → c'.heap[l]? = H[l]?

/-- The abstract results of calls are right. -/
def CallsSound (P : Program) (G : Nat → List AV) (cf : CallF) : Prop :=
  ∀ f args H r c, cf f args H = some (r, c) → (∃ fn, P.funcs[f]? = some fn ∧ fn.body.isSome = true ∧ fn.name ≠ "runtime.NumGoroutine") ∧ ChgOK H c ∧
    ∀ (base : Nat) (gh : Gh) (w : World) (vs : Array Value), WRel G base H gh w → clean gh → vs.size = args.length → (∀ (j : Nat) (v : Value) (x : AV), vs[j]? = some v → args[j]? = some x → VR gh H.length w v x) →
      Calls P f vs w fun e w' => ∃ v gh', e = .returned v ∧ RetOK G base H gh w r c v gh' w'

section
variable {P : Program} {G : Nat → List AV} {base nt : Nat} {L : List Nat} {gh : Gh} {w w' : World} {a : Act} {s : AS} {H : AHeap}

def slotOwner : Owner → Bool
  | .bx _ | .sl _ | .sc .. | .ret => true
  | _ => false

def Gh.hide (gh : Gh) : Gh := { gh with κ := fun b => bif slotOwner (gh.κ b) then .outer else gh.κ b }

theorem hide_clean (gh : Gh) : clean gh.hide := by
  intro b
  simp only [Gh.hide]
  cases h : gh.κ b <;> simp [slotOwner]

theorem hide_step (hW : WRel G base H gh w) (n : Nat) : Step (fun p => slotOwner p = true) n gh w gh.hide w := by
  refine ⟨fun _ _ h => h, fun _ _ _ => rfl, Nat.le_refl _, rfl, rfl, rfl, fun b hb hn => ⟨.inl rfl, ?_, fun _ h => h⟩, fun b hb => ?_, fun _ _ => rfl, fun _ _ _ h => h⟩
  · simp only [Gh.hide]
    cases h : slotOwner (gh.κ b)
    · rfl
    · exact absurd h hn
  · simp only [Gh.hide, hW.fresh b hb]
    simp [slotOwner]

theorem hide_W (hW : WRel G base H gh w) : WRel G base H gh.hide w := by
  refine hW.step (hide_step hW H.length) (fun l => ⟨by simp [slotOwner], by simp [slotOwner]⟩) hW.sLt (fun b hb => hW.kLt b fun h => hb ?_) (fun _ _ _ h => .inl h)
  simp [Gh.hide, h, slotOwner]

def Gh.back (gh gh' : Gh) : Gh := { gh' with κ := fun b => bif slotOwner (gh.κ b) then gh.κ b else gh'.κ b }

/-- Behind a call. -/
theorem back_all (hW : WRel G base H gh w) {r : AV} {c : Option Chg} {v : Value} {gh' : Gh} (h : RetOK G base H gh.hide w r c v gh' w') :
    WRel G base (newH H c) (gh.back gh') w' ∧ Step touchHeap H.length gh w (gh.back gh') w' ∧ Ext H.length gh w (gh.back gh') w' ∧ CR (gh.back gh') (newH H c).length w' .ret v r := by
  have hout : ∀ b, slotOwner (gh.κ b) = true → gh'.κ b = .outer := by
    intro b hb
    have hlt : b < w.heap.size := (hW.kLt b (by intro h0; rw [h0] at hb; cases hb)).2
    have := (h.st.blk b hlt (by simp [Gh.hide, hb, touchHeap])).2.1
    rw [this]
    simp [Gh.hide, hb]
  have st1' : Step (fun p => p = .outer) (newH H c).length gh' w' (gh.back gh') w' := by
    refine ⟨fun _ _ h => h, fun _ _ _ => rfl, Nat.le_refl _, rfl, rfl, rfl, fun b hb hn => ⟨.inl rfl, ?_, fun _ h => h⟩, fun b hb => ?_, fun _ _ => rfl, fun _ _ _ h => h⟩
    · simp only [Gh.back]
      cases hs : slotOwner (gh.κ b)
      · rfl
      · exact absurd (hout b hs) hn
    · simp only [Gh.back]
      have hb' : w.heap.size ≤ b := Nat.le_trans h.st.size hb
      rw [hW.fresh b hb']
      simp only [slotOwner, cond_false]
      exact h.st.fresh b hb'
  have hlen := h.len
  have hst : Step touchHeap H.length gh w (gh.back gh') w' := by
    refine ⟨h.st.S, h.st.cell, h.st.size, h.st.os, h.st.tape, h.st.output, fun b hb hn => ?_, fun b hb => ?_, h.st.ρ, h.st.len⟩
    · cases hs : slotOwner (gh.κ b) with
      | true =>
        have := h.st.blk b hb (by simp [Gh.hide, hs, touchHeap])
        exact ⟨this.1, by simp [Gh.back, hs], this.2.2⟩
      | false =>
        have e1 : gh.hide.κ b = gh.κ b := by simp [Gh.hide, hs]
        have := h.st.blk b hb (by rw [e1]; exact hn)
        exact ⟨this.1, by simp only [Gh.back, hs, cond_false]; rw [this.2.1, e1], this.2.2⟩
    · simp only [Gh.back]
      rw [hW.fresh b hb]
      simp only [slotOwner, cond_false]
      exact h.st.fresh b hb
  refine ⟨h.W.step st1' (fun l => ⟨by simp, by simp⟩) h.W.sLt (fun b hb => ?_) (fun _ _ _ h => .inl h), hst, ⟨hst.mono (fun p hp => ?_), fun b hb => ?_⟩, h.val.mono st1' (Nat.le_refl _) (by simp)⟩
  · simp only [Gh.back] at hb
    cases hs : slotOwner (gh.κ b) with
    | true =>
      have := hW.kLt b (by intro h0; rw [h0] at hs; cases hs)
      have := h.st.size
      omega
    | false =>
      rw [hs] at hb
      exact h.W.kLt b hb
  · rcases hp with ⟨l, rfl⟩ | ⟨l, j, rfl⟩ <;> simp [touchAny]
  · simp only [Gh.back] at hb
    cases hs : slotOwner (gh.κ b) with
    | true =>
      rw [hs] at hb
      simp only [cond_true] at hb
      rw [hb] at hs
      cases hs
    | false =>
      rw [hs] at hb
      have := h.out b hb
      simpa [Gh.hide, hs] using this

theorem CR.givenX (hW : WRel G base s.H gh w) (hF : FR L nt gh w a s) {v : Value} {x : AV} (h : CR gh s.H.length w .ret v x) (p : Owner) (hp : p ≠ .outer) :
    ∃ gh', WRel G base s.H gh' w ∧ FR L nt gh' w a s ∧ Ext s.H.length gh w gh' w ∧ CR gh' s.H.length w p v x := by
  rcases h with h | ⟨e, rfl, h⟩
  · exact ⟨gh, hW, hF, Ext.refl _ _ _ (fun b hb => hW.not_outer b hb), .inl h⟩
  · exact CR.given hW hF (.inr ⟨e, rfl, h⟩) p hp

theorem dropAll_VR {n : Nat} {v : Value} {x : AV} (h : VR gh n w v x.drop) : VR gh n w v x.dropAll := by
  cases x <;> first | exact h | skip
  rename_i cs
  exact VR.droppedAll (h : VR gh n w v (.agg cs))

theorem ev_call {cf : CallF} (hcf : CallsSound P G cf) (hW : WRel G base s.H gh w) (hF : FR L nt gh w a s) {o : Oper} {c : Call} {fx : Operand} {yf : IArg} {ys : List IArg} {f : FuncId} {fs cs : List AV} {r : AV} {ch : Option Chg}
    (ho : o.op = .call c) (hcal : c.callee = .value fx) (hcx : compArg nt fx = some yf) (hcy : compArgs nt c.args.toList = some ys) (hfun : yf.eval G s.T = .func (.func f) fs cs) (hfr : (ys.map fun y => y.addr G s.T).all frameCell = true)
    (he : cf f (fs ++ ys.map (fun y => (y.addr G s.T).dropAll) ++ cs) s.H = some (r, ch)) (hd : ∀ k, o.dst = some k → k < nt) (K : Act → World → Prop) (Q : Exit → Act → World → Prop)
    (hK : ∀ v' gh' w', Out G base nt L gh w a s o.dst r ((ch.map s.chg).getD s) v' gh' w' → K (a.put o.dst v') w') : o.wp P a w K Q := by
  obtain ⟨⟨fn, hfn, hbody, hname⟩, _, hcall⟩ := hcf f _ _ _ _ he
  have hfv := arg_VR hW hF hcx hfun rfl
  obtain ⟨us, ts, hfe, hfl, hcl, h1, h2⟩ := hfv.inv_func
  have hargs := args_VR hW hF hcy hfr
  have hlen := (compArgs_inv hcy).1
  let vs : Array Value := us ++ c.args.map a.eval ++ ts
  have hvs : vs.size = (fs ++ ys.map (fun y => (y.addr G s.T).dropAll) ++ cs).length := by
    simp [vs, hfl, hcl] at hlen ⊢
    omega
  have hrel : ∀ (j : Nat) (v : Value) (x : AV), vs[j]? = some v → (fs ++ ys.map (fun y => (y.addr G s.T).dropAll) ++ cs)[j]? = some x → VR gh s.H.length w v x := by
    intro j v x hv hx
    have hal : (c.args.map a.eval).size = ys.length := by simpa using hlen
    simp only [vs, Array.getElem?_append, Array.size_append] at hv
    simp only [List.getElem?_append, List.length_append, List.length_map] at hx
    rw [hfl, hal] at hv
    split at hv
    · rename_i c1
      rw [if_pos c1] at hx
      split at hv
      · rename_i c2
        rw [if_pos c2] at hx
        exact h1 j v x hv hx
      · rename_i c2
        rw [if_neg c2] at hx
        simp only [List.getElem?_map, Option.map_eq_some_iff] at hx
        obtain ⟨y, hy, rfl⟩ := hx
        refine dropAll_VR (hargs (j - fs.length) v _ ?_ ?_)
        · rw [← Array.toList_map, Array.getElem?_toList]; exact hv
        · simp only [List.getElem?_map, hy, Option.map_some]
    · rename_i c1
      rw [if_neg c1] at hx
      exact h2 _ v x hv hx
  have hst := hide_step hW s.H.length
  have hC := hcall base gh.hide w vs (hide_W hW) (hide_clean gh) hvs (fun j v x hv hx => (hrel j v x hv hx).mono hst (Nat.le_refl _))
  have hrun : (execOp a.eval o).run P w = .ok (.enter f vs) w := by
    unfold execOp
    cases hb : fn.body with
    | none => rw [hb] at hbody; cases hbody
    | some code =>
      simp [ho, resolve, hcal, hfe, Deferred.ofValue, invoke, callFunc, hfn, hname, hb, vs]
  unfold Oper.wp
  rw [hrun, Oper.upon_enter]
  refine hC.mono ?_
  rintro e w2 ⟨v, gh', rfl, hR⟩
  obtain ⟨hW2, hst2, hE2, hv2⟩ := back_all hW hR
  have hlenH := hR.len
  have key : ∀ s1 : AS, s1.H = newH s.H ch → FR L nt (gh.back gh') w2 a s1 → ∃ gh3, Out G base nt L gh w a s o.dst r s1 v gh3 w2 := by
    intro s1 hs1 hF1
    obtain ⟨gh3, hW3, hF3, hE3, hv3⟩ := CR.givenX (by rw [hs1]; exact hW2) hF1 (by rw [hs1]; exact hv2) (slo o.dst) (slo_out _)
    refine ⟨gh3, Out.of (s1 := s1) (gen' := s1.gen) hW3 hF3 (hE2.trans hE3 (by rw [hs1]; exact hlenH)) (Nat.le_refl _) hd (.inl (genOf_frameCell hv3.frameCell)) (fun k hk => ?_)⟩
    rw [hk] at hv3
    exact sr_of_slot hv3.frameCell hv3
  cases ch with
  | none =>
    obtain ⟨gh3, hO⟩ := key s rfl (hF.grown (H' := s.H) (lo' := s.lo) hst2 (fun i => ⟨by simp [touchHeap], by simp [touchHeap], by simp [touchHeap]⟩) (Nat.le_refl _))
    exact hK v gh3 w2 hO
  | some c' =>
    obtain ⟨gh3, hO⟩ := key (s.chg c') rfl (hF.grown hst2 (fun i => ⟨by simp [touchHeap], by simp [touchHeap], by simp [touchHeap]⟩) hlenH)
    exact hK v gh3 w2 hO

end
end Go.Abs
