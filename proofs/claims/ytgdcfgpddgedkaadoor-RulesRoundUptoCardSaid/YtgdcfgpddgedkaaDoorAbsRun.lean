/-
  Runs: regions, code, functions.
-/
import Derived.Test.YtgdcfgpddgedkaaDoorAbsEvOp
import Derived.LoopN
import Derived.Scope
import Derived.Tactics
namespace Go.Abs
set_option linter.unusedSimpArgs false
set_option linter.unusedVariables false

/-- Below 'lo' nothing has turned since the frame began. -/
structure LoInv (H0 : AHeap) (s : AS) : Prop where
  lo : s.lo ≤ H0.length
  len : H0.length ≤ s.H.length
  same : ∀ l, l < s.lo → s.H[l]? = H0[l]?

def ChgGood (s : AS) (c : Chg) : Prop := s.H.length ≤ c.heap.length ∧ ∀ l, l < c.lo → c.heap[l]? = s.H[l]?

theorem LoInv.chg {H0 : AHeap} {s : AS} (h : LoInv H0 s) {c : Chg} (hc : ChgGood s c) : LoInv H0 (s.chg c) := by
  have e : (s.chg c).lo = if c.lo < s.lo then c.lo else s.lo := by
    simp only [AS.chg]
    by_cases hb : c.lo < s.lo
    · rw [if_pos hb, show Nat.blt c.lo s.lo = true by simpa [Nat.blt_eq] using hb]; rfl
    · rw [if_neg hb, show Nat.blt c.lo s.lo = false by simpa [← Bool.not_eq_true, Nat.blt_eq] using hb]; rfl
  have := h.lo
  refine ⟨?_, Nat.le_trans h.len hc.1, fun l hl => ?_⟩
  · rw [e]; split <;> omega
  · rw [e] at hl
    have h1 : l < c.lo ∧ l < s.lo := by split at hl <;> omega
    exact (hc.2 l h1.1).trans (h.same l h1.2)

theorem LoInv.same_HL {H0 : AHeap} {s s' : AS} (h : LoInv H0 s) (hH : s'.H = s.H) (hl : s'.lo = s.lo) : LoInv H0 s' :=
  ⟨by rw [hl]; exact h.lo, by rw [hH]; exact h.len, fun l hl' => by rw [hH]; exact h.same l (by rw [← hl]; exact hl')⟩

theorem good_set (s : AS) (loc : Nat) (o : AObj) : ChgGood s ⟨s.H.set loc o, loc⟩ := ⟨by simp, fun l hl => by simp only at hl ⊢; rw [List.getElem?_set_ne (by omega)]⟩
theorem good_push (s : AS) (o : AObj) : ChgGood s ⟨s.H ++ [o], s.H.length⟩ := ⟨by simp, fun l hl => by simp only at hl ⊢; rw [List.getElem?_append_left hl]⟩

/-- Does the state behind a step keep the heap? -/
theorem evOp_lo {G : Nat → List AV} {cf : CallF} (hcf : ∀ f args H r c, cf f args H = some (r, c) → ChgOK H c) {H0 : AHeap} {s s' : AS} {o : IOp} {z : AV} (he : evOp G cf s o = some (z, some s')) (h : LoInv H0 s) : LoInv H0 s' := by
  have sT : ∀ t X, LoInv H0 (s.setT t X) := fun t X => h.same_HL rfl rfl
  cases o with
  | mov take obj x =>
    cases x <;> simp only [evOp, evMov] at he <;> try (cases he; done)
    split at he
    · cases he
    · cases take
      · cases he
      · obtain ⟨_, he⟩ := cond_some he
        simp only [Option.some.injEq, Prod.mk.injEq] at he
        rw [← he.2]; exact h.same_HL rfl rfl
    · simp only [Option.some.injEq, Prod.mk.injEq] at he
      obtain ⟨_, he⟩ := he
      obtain ⟨_, he⟩ := cond_some he
      injection he with he
      rw [← he]; exact sT _ _
    · cases he
  | allocL z0 =>
    simp only [evOp, Option.some.injEq, Prod.mk.injEq] at he
    rw [← he.2]; exact h.same_HL rfl rfl
  | allocH ty z0 =>
    simp only [evOp, Option.some.injEq, Prod.mk.injEq] at he
    rw [← he.2]; exact h.chg (good_push s _)
  | box ty x =>
    simp only [evOp, Option.bind_eq_some_iff] at he
    obtain ⟨cs, _, he⟩ := he
    obtain ⟨_, he⟩ := cond_some he
    simp only [Option.some.injEq, Prod.mk.injEq] at he
    rw [← he.2]; exact h.chg (good_push s _)
  | load take agg sz x =>
    simp only [evOp, loadAV] at he
    split at he
    · simp at he
    · split at he
      · simp only [Option.map_eq_some_iff, Prod.mk.injEq] at he
        obtain ⟨u, _, _, he⟩ := he
        obtain ⟨_, he⟩ := cond_some he
        injection he with he
        rw [← he]; exact h.chg (good_set s _ _)
      · cases he
    · split at he
      · obtain ⟨_, he⟩ := cond_some he
        simp only [Option.map_eq_some_iff, Prod.mk.injEq] at he
        obtain ⟨u, _, _, he⟩ := he
        obtain ⟨_, he⟩ := cond_some he
        injection he with he
        rw [← he]; exact sT _ _
      · cases he
    · split at he
      · obtain ⟨_, he⟩ := cond_some he
        simp only [Option.bind_eq_some_iff] at he
        obtain ⟨r, _, he⟩ := he
        obtain ⟨_, he⟩ := cond_some he
        simp at he
      · cases he
    · cases he
  | store sz x y =>
    simp only [evOp, Option.map_eq_some_iff, Prod.mk.injEq, Option.some.injEq] at he
    obtain ⟨s1, he, _, rfl⟩ := he
    have h1 : LoInv H0 s1 := by
      unfold storeAV at he
      split at he
      · cases he
      obtain ⟨_, he⟩ := cond_some he
      split at he
      · split at he
        · obtain ⟨_, he⟩ := cond_some he
          injection he with he
          rw [← he]; exact h.chg (good_set s _ _)
        · cases he
      · split at he
        · obtain ⟨_, he⟩ := cond_some he
          injection he with he
          rw [← he]; exact sT _ _
        · cases he
      · split at he
        · obtain ⟨_, he⟩ := cond_some he
          simp only [Option.bind_eq_some_iff] at he
          obtain ⟨r, _, he⟩ := he
          obtain ⟨_, he⟩ := cond_some he
          injection he with he
          rw [← he]; exact sT _ _
        · cases he
      · cases he
    exact h1.same_HL (spent_H _ _).1 (spent_H _ _).2.2
  | append isB wr sz bytes x y =>
    simp only [evOp, evAppend] at he
    split at he
    · split at he
      · simp only [Option.bind_eq_some_iff] at he
        obtain ⟨f, _, he⟩ := he
        obtain ⟨_, he⟩ := cond_some he
        simp only [Option.some.injEq, Prod.mk.injEq] at he
        rw [← he.2]; exact h.same_HL rfl rfl
      · cases wr
        · simp only [cond_false, Option.map_eq_some_iff, Prod.mk.injEq, Option.some.injEq] at he
          obtain ⟨_, _, _, rfl⟩ := he
          exact sT _ _
        · simp only [cond_true, Option.bind_eq_some_iff] at he
          obtain ⟨f, _, he⟩ := he
          obtain ⟨_, he⟩ := cond_some he
          simp only [Option.some.injEq, Prod.mk.injEq] at he
          rw [← he.2]; exact h.same_HL rfl rfl
      · cases he
    · cases wr
      · simp at he
      · cases he
  | call f args =>
    simp only [evOp] at he
    split at he
    · obtain ⟨_, he⟩ := cond_some he
      simp only [Option.map_eq_some_iff, Prod.mk.injEq] at he
      obtain ⟨⟨r, c⟩, hr, _, he⟩ := he
      simp only [Option.map_eq_some_iff] at he
      obtain ⟨c', rfl, rfl⟩ := he
      obtain ⟨h1, h2⟩ := hcf _ _ _ _ _ hr
      exact h.chg ⟨by simp only [newH] at h1; omega, (h2 c' rfl).2⟩
    · cases he
  | pick => simp only [evOp] at he; split at he <;> simp at he
  | build => simp [evOp] at he
  | mkslice =>
    simp only [evOp, Option.bind_eq_some_iff] at he
    obtain ⟨_, _, he⟩ := he
    obtain ⟨_, he⟩ := cond_some he
    simp at he
  | nilCheck => simp only [evOp] at he; obtain ⟨_, he⟩ := cond_some he; simp at he
  | bin => simp [evOp] at he
  | un => simp [evOp] at he
  | conv => simp [evOp] at he
  | mkiface => simp [evOp] at he
  | slice => simp [evOp] at he
  | fieldAddr => simp only [evOp] at he; obtain ⟨_, he⟩ := cond_some he; simp at he
  | field => simp only [evOp] at he; split at he <;> simp at he
  | ixSl =>
    simp only [evOp] at he
    split at he
    · simp only [Option.bind_eq_some_iff] at he
      obtain ⟨_, _, _, _, he⟩ := he
      obtain ⟨_, he⟩ := cond_some he
      simp at he
    · simp only [Option.bind_eq_some_iff] at he
      obtain ⟨_, _, he⟩ := he
      obtain ⟨_, he⟩ := cond_some he
      simp at he
    · split at he
      · obtain ⟨_, he⟩ := cond_some he
        simp only [Option.bind_eq_some_iff] at he
        obtain ⟨_, _, _, _, he⟩ := he
        obtain ⟨_, he⟩ := cond_some he
        simp at he
      · cases he
    · cases he
  | ixArr =>
    simp only [evOp, Option.bind_eq_some_iff] at he
    obtain ⟨_, _, he⟩ := he
    obtain ⟨_, he⟩ := cond_some he
    simp at he
  | index =>
    simp only [evOp, Option.bind_eq_some_iff] at he
    obtain ⟨_, _, he⟩ := he
    obtain ⟨_, he⟩ := cond_some he
    split at he <;> simp at he
  | indexStr =>
    simp only [evOp] at he
    split at he
    · simp only [Option.bind_eq_some_iff, Option.map_eq_some_iff, Prod.mk.injEq] at he
      obtain ⟨_, _, _, _, _, he⟩ := he
      cases he
    · cases he
  | extract => simp only [evOp] at he; split at he <;> simp at he
  | len =>
    simp only [evOp] at he
    split at he
    · split at he
      · obtain ⟨_, he⟩ := cond_some he
        simp at he
      · cases he
    · simp at he
  | mkfunc => simp only [evOp] at he; obtain ⟨_, he⟩ := cond_some he; simp at he

section
variable {P : Program} {G : Nat → List AV} {base nt : Nat} {L : List Nat} {gh : Gh} {w w' : World} {a : Act} {s : AS} {H : AHeap}

/-- What a run keeps. -/
structure Inv (G : Nat → List AV) (base nt : Nat) (L : List Nat) (H0 : AHeap) (gh0 : Gh) (w0 : World) (s : AS) (gh : Gh) (w : World) (a : Act) : Prop where
  W : WRel G base s.H gh w
  F : FR L nt gh w a s
  E : Ext H0.length gh0 w0 gh w
  lo : LoInv H0 s

theorem Inv.out {H0 : AHeap} {gh0 gh' : Gh} {w0 w' : World} {d : Option Nat} {x : AV} {s' : AS} {v' : Value} (h : Inv G base nt L H0 gh0 w0 s gh w a) (hO : Out G base nt L gh w a s d x s' v' gh' w') (hl : LoInv H0 s') :
    Inv G base nt L H0 gh0 w0 (s'.putD d x) gh' w' (a.put d v') :=
  ⟨by rw [(putD_T s' d x).1]; exact hO.W, hO.F, h.E.trans hO.E h.lo.len, hl.same_HL (putD_T s' d x).1 (putD_T s' d x).2.2⟩

/-- The value that an operation of a region that draws its order gives. -/
def evVal (G : Nat → List AV) (cf : CallF) (draw : Bool) (s : AS) (o : IOper) : Option (AV × AS) :=
  let run : Option (AV × AS) := (evOp G cf s o.op).bind fun r => match r.2 with
    | none => cond (draw && (genOf r.1).isSome) none (some (r.1, s))
    | some s' => cond draw none (some (r.1, s'))
  match o.guard with
  | none => run
  | some (g, want) => match s.T g with
    | .bool b => cond (b == want) run (some (.undef, s))
    | .tuple [] => some (.undef, s)
    | _ => none

theorem evOper_val {G : Nat → List AV} {cf : CallF} {draw : Bool} {s : AS} {o : IOper} : evOper G cf draw s o = (evVal G cf draw s o).map fun r => r.2.putD o.dst r.1 := by
  have hrun : ((evOp G cf s o.op).bind fun r => match r.2 with
      | none => cond (draw && (genOf r.1).isSome) none (some (s.putD o.dst r.1))
      | some s' => cond draw none (some (s'.putD o.dst r.1))) =
    ((evOp G cf s o.op).bind fun r => match r.2 with
      | none => cond (draw && (genOf r.1).isSome) none (some (r.1, s))
      | some s' => cond draw none (some (r.1, s'))).map fun r => r.2.putD o.dst r.1 := by
    cases evOp G cf s o.op with
    | none => rfl
    | some r =>
      obtain ⟨z, s'⟩ := r
      cases s' with
      | none => simp only [Option.bind_some]; cases (draw && (genOf z).isSome) <;> rfl
      | some s' => cases draw <;> rfl
  unfold evOper evVal
  simp only
  cases o.guard with
  | none => exact hrun
  | some g =>
    obtain ⟨g, want⟩ := g
    simp only
    generalize s.T g = X
    cases X with
    | bool b =>
      simp only
      cases (b == want)
      · rfl
      · exact hrun
    | tuple vs => cases vs <;> rfl
    | _ => rfl

theorem compOper_inv {takes locals muts : List Nat} {ops : Array Oper} {o : Oper} {io : IOper} (h : compOper P takes locals muts nt ops o = some io) :
    compOp P takes locals muts nt o.dst o.op = some io.op ∧ compGuard nt ops o.guard = some io.guard ∧ io.dst = o.dst ∧ ∀ k, o.dst = some k → k < nt := by
  simp only [compOper, Option.bind_eq_some_iff] at h
  obtain ⟨p, hp, g, hg, h⟩ := h
  split at h
  · rename_i hd
    injection h with h
    subst h
    exact ⟨hp, hg, hd.symm, fun k hk => by rw [hd] at hk; cases hk⟩
  · rename_i d hd
    obtain ⟨h0, h⟩ := cond_some h
    injection h with h
    subst h
    exact ⟨hp, hg, hd.symm, fun k hk => by rw [hd] at hk; injection hk with hk; subst hk; simpa [Nat.blt_eq] using h0⟩

/-- One operation of a region. -/
theorem oper_step {cf : CallF} (hcf : CallsSound P G cf) {H0 : AHeap} {gh0 : Gh} {w0 : World} (hI : Inv G base nt L H0 gh0 w0 s gh w a) {takes locals muts : List Nat} {ops : Array Oper} {o : Oper} {io : IOper}
    (hc : compOper P takes locals muts nt ops o = some io) (hLl : ∀ x, x ∈ locals → x ∈ L) (hLm : ∀ x, x ∈ muts → x ∈ L) {draw : Bool} {z : AV} {s1 : AS} (he : evVal G cf draw s io = some (z, s1)) (K : Act → World → Prop) (Q : Exit → Act → World → Prop)
    (hK : ∀ a' gh' w', Inv G base nt L H0 gh0 w0 (s1.putD o.dst z) gh' w' a' → K a' w') :
    if Region.wanted o (yielded ops a.tmps) then o.wp P a w K Q ∨ (o.asks P a w ∧ LetsOut Q) else K (a.put o.dst undef) w := by
  obtain ⟨hop, hg, hdst, hd⟩ := compOper_inv hc
  have hskip : s1 = s → z = .undef → K (a.put o.dst undef) w := by
    rintro rfl rfl
    exact hK _ gh w (hI.out (Out.pure hI.W hI.F hd (.of_VR .undef)) hI.lo)
  have hrun : ((evOp G cf s io.op).bind fun r => match r.2 with
      | none => cond (draw && (genOf r.1).isSome) none (some (r.1, s))
      | some s' => cond draw none (some (r.1, s'))) = some (z, s1) → o.wp P a w K Q := by
    intro h
    simp only [Option.bind_eq_some_iff] at h
    obtain ⟨⟨z', s'⟩, hev, h⟩ := h
    cases s' with
    | none =>
      simp only at h
      have h' : z' = z ∧ s = s1 := by
        cases hb : (draw && (genOf z').isSome) with
        | true => rw [hb] at h; cases h
        | false => rw [hb] at h; simpa using h
      obtain ⟨rfl, rfl⟩ := h'
      exact evOp_sound hcf hI.W hI.F hop hLl hLm hev hd K Q (fun v' gh' w' hO => hK _ gh' w' (hI.out hO hI.lo))
    | some s' =>
      simp only at h
      have h' : z' = z ∧ s' = s1 := by
        cases draw with
        | true => cases h
        | false => simpa using h
      obtain ⟨rfl, rfl⟩ := h'
      exact evOp_sound hcf hI.W hI.F hop hLl hLm hev hd K Q (fun v' gh' w' hO => hK _ gh' w' (hI.out hO (evOp_lo (fun f args H r c h => (hcf f args H r c h).2.1) hev hI.lo)))
  cases hog : o.guard with
  | none =>
    rw [hog] at hg
    simp only [compGuard, Option.some.injEq] at hg
    have hw : Region.wanted o (yielded ops a.tmps) = true := by simp [Region.wanted, hog]
    rw [if_pos hw]
    unfold evVal at he
    rw [← hg] at he
    exact .inl (hrun he)
  | some jw =>
    obtain ⟨j, want⟩ := jw
    rw [hog] at hg
    simp only [compGuard, Option.bind_eq_some_iff] at hg
    obtain ⟨t, ⟨oj, hoj, hdj⟩, hg⟩ := hg
    obtain ⟨hlt, hg⟩ := cond_some hg
    injection hg with hg
    have ht : t < nt := by simpa [Nat.blt_eq] using hlt
    have htm : a.tmps[t]? = some (tmv a t) := by
      have : t < a.tmps.size := by rw [hI.F.size]; exact ht
      simp [tmv, this]
    have hy : ∀ v, tmv a t = v → yielded ops a.tmps j = match v with | .bool b => some b | _ => none := by
      intro v hv
      unfold yielded
      rw [hoj]
      simp only [Option.bind_some, hdj, htm, hv]
      cases v <;> rfl
    have hsl := hI.F.slot t ht
    change SR gh s.H.length nt w s.T s.gen (tmv a) t (tmv a t) (s.T t) at hsl
    unfold evVal at he
    rw [← hg] at he
    simp only at he
    split at he
    · rename_i b hT
      rw [hT] at hsl
      have hv := VR.inv_bool (CR.dropped (hsl : CR gh s.H.length w (.sl t) (tmv a t) (.bool b)))
      have hw : Region.wanted o (yielded ops a.tmps) = (b == want) := by
        simp only [Region.wanted, hog, hy _ hv]
        cases b <;> cases want <;> rfl
      rw [hw]
      cases hb : (b == want) with
      | true =>
        rw [hb] at he
        rw [if_pos rfl]
        exact .inl (hrun he)
      | false =>
        rw [hb] at he
        simp only [cond_false, Option.some.injEq, Prod.mk.injEq] at he
        rw [if_neg (by simp)]
        exact hskip he.2.symm he.1.symm
    · rename_i hT
      rw [hT] at hsl
      have hv := VR.inv_undef (CR.dropped (hsl : CR gh s.H.length w (.sl t) (tmv a t) (.tuple [])))
      have hw : Region.wanted o (yielded ops a.tmps) = false := by
        simp only [Region.wanted, hog, hy _ hv]
        rfl
      rw [hw, if_neg (by simp)]
      simp only [Option.some.injEq, Prod.mk.injEq] at he
      exact hskip he.2.symm he.1.symm
    · cases he

/-- The operations of a region, one after another. -/
theorem ops_sound {cf : CallF} (hcf : CallsSound P G cf) {H0 : AHeap} {gh0 : Gh} {w0 : World} {takes locals muts : List Nat} {ops : Array Oper} (hLl : ∀ x, x ∈ locals → x ∈ L) (hLm : ∀ x, x ∈ muts → x ∈ L) (Q : Exit → Act → World → Prop) :
    ∀ (l : List Oper) (is : List IOper) (s s' : AS) (gh : Gh) (w : World) (a : Act), Inv G base nt L H0 gh0 w0 s gh w a → compOpers P takes locals muts nt ops l = some is → evOps G cf false is s = some s' →
      (∀ a' gh' w', Inv G base nt L H0 gh0 w0 s' gh' w' a' → Q .normal a' w') → wpList P ops Q l a w
  | [], is, s, s', gh, w, a, hI, hc, he, hQ => by
    simp only [compOpers, Option.some.injEq] at hc
    subst hc
    simp only [evOps, Option.some.injEq] at he
    subst he
    exact hQ a gh w hI
  | o :: l, is, s, s', gh, w, a, hI, hc, he, hQ => by
    simp only [compOpers, Option.bind_eq_some_iff, Option.map_eq_some_iff] at hc
    obtain ⟨io, hio, is', his, rfl⟩ := hc
    simp only [evOps, Option.bind_eq_some_iff, evOper_val, Option.map_eq_some_iff] at he
    obtain ⟨s1, ⟨⟨z, s2⟩, hz, rfl⟩, he⟩ := he
    unfold wpList
    refine oper_step hcf hI hio hLl hLm hz _ Q (fun a' gh' w' hI' => ?_)
    rw [(compOper_inv hio).2.2.1] at he
    exact ops_sound hcf hLl hLm Q l is' _ s' gh' w' a' hI' his he hQ

end
end Go.Abs
