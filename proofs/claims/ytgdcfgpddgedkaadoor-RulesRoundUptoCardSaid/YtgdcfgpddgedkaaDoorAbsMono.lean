/-
  More fuel, the same answer; functions and code without fuel.
-/
import Derived.Test.YtgdcfgpddgedkaaDoorAbsDefs
namespace Go.Abs
set_option linter.unusedSimpArgs false
set_option linter.unusedVariables false

def CallF.Le (f g : CallF) : Prop := ∀ a b c r, f a b c = some r → g a b c = some r

section
variable {G : Nat → List AV} {f g : CallF}

theorem cond_mono {α : Type} {b : Bool} {x y : Option α} {r : α} (h : cond b x none = some r) (hxy : x = some r → y = some r) : cond b y none = some r := by
  cases b
  · cases h
  · exact hxy h

theorem evOp_mono (h : CallF.Le f g) {s : AS} {o : IOp} {r : AV × Option AS} (he : evOp G f s o = some r) : evOp G g s o = some r := by
  cases o with
  | call fn args =>
    simp only [evOp] at he ⊢
    split at he
    · refine cond_mono he fun he => ?_
      simp only [Option.map_eq_some_iff] at he ⊢
      obtain ⟨r0, h0, rfl⟩ := he
      exact ⟨r0, h _ _ _ _ h0, rfl⟩
    · cases he
  | _ => exact he

theorem evOper_mono (h : CallF.Le f g) {d : Bool} {s : AS} {o : IOper} {r : AS} (he : evOper G f d s o = some r) : evOper G g d s o = some r := by
  have key : ∀ r, ((evOp G f s o.op).bind fun r => match r.2 with
      | none => cond (d && (genOf r.1).isSome) none (some (s.putD o.dst r.1))
      | some s' => cond d none (some (s'.putD o.dst r.1))) = some r → ((evOp G g s o.op).bind fun r => match r.2 with
      | none => cond (d && (genOf r.1).isSome) none (some (s.putD o.dst r.1))
      | some s' => cond d none (some (s'.putD o.dst r.1))) = some r := by
    intro r hr
    simp only [Option.bind_eq_some_iff] at hr ⊢
    obtain ⟨x, h1, h2⟩ := hr
    exact ⟨x, evOp_mono h h1, h2⟩
  unfold evOper at he ⊢
  simp only at he ⊢
  split at he
  · exact key _ he
  · split at he
    · rename_i b hb
      cases hbw : (b == _) with
      | true => rw [hbw] at he; exact key _ he
      | false => rw [hbw] at he; exact he
    · exact he
    · cases he

theorem evOps_mono (h : CallF.Le f g) {d : Bool} : ∀ {os : List IOper} {s r : AS}, evOps G f d os s = some r → evOps G g d os s = some r
  | [], _, _, he => he
  | o :: os, s, r, he => by
    simp only [evOps, Option.bind_eq_some_iff] at he ⊢
    obtain ⟨x, h1, h2⟩ := he
    exact ⟨x, evOper_mono h h1, evOps_mono h h2⟩

theorem iter_mono {F F' : AS → Option (IExit × AS)} (h : ∀ s r, F s = some r → F' s = some r) : ∀ {n m : Nat} {s : AS} {r : IExit × AS}, n ≤ m → iter F n s = some r → iter F' m s = some r
  | 0, _, _, _, _, he => by cases he
  | n + 1, 0, _, _, hn, _ => by omega
  | n + 1, m + 1, s, r, hn, he => by
    simp only [iter, Option.bind_eq_some_iff] at he ⊢
    obtain ⟨x, h1, h2⟩ := he
    refine ⟨x, h _ _ h1, ?_⟩
    split at h2
    · exact iter_mono h (by omega) h2
    · exact h2

theorem evC_mono (h : CallF.Le f g) {n m : Nat} (hn : n ≤ m) : ∀ {c : ICode} {s : AS} {r : IExit × AS}, evC G f n c s = some r → evC G g m c s = some r
  | .skip, _, _, he => he
  | .exit _, _, _, he => he
  | .ret, _, _, he => he
  | .region d os, s, r, he => by
    simp only [evC, Option.map_eq_some_iff] at he ⊢
    obtain ⟨x, h1, h2⟩ := he
    exact ⟨x, evOps_mono h h1, h2⟩
  | .seq a b, s, r, he => by
    simp only [evC, Option.bind_eq_some_iff] at he ⊢
    obtain ⟨x, h1, h2⟩ := he
    refine ⟨x, evC_mono h hn h1, ?_⟩
    split at h2
    · exact evC_mono h hn h2
    · exact h2
  | .cond c a b, s, r, he => by
    simp only [evC] at he ⊢
    split at he
    · rename_i t ht
      cases t
      · exact evC_mono h hn (c := b) he
      · exact evC_mono h hn (c := a) he
    · cases he
  | .block id a, s, r, he => by
    simp only [evC, Option.map_eq_some_iff] at he ⊢
    obtain ⟨x, h1, h2⟩ := he
    exact ⟨x, evC_mono h hn h1, h2⟩
  | .loop a, s, r, he => by
    simp only [evC] at he ⊢
    exact iter_mono (fun s r h' => evC_mono h hn h') hn he

theorem runF_mono (h : CallF.Le f g) {n m : Nat} (hn : n ≤ m) {fn : IFunc} {args : List AV} {H : AHeap} {r : AV × Option Chg} (he : runF G f n fn args H = some r) : runF G g m fn args H = some r := by
  unfold runF at he ⊢
  refine cond_mono he fun he => ?_
  simp only [Option.bind_eq_some_iff] at he ⊢
  obtain ⟨x, h1, h2⟩ := he
  exact ⟨x, evC_mono h hn h1, h2⟩
end

theorem evF_step {A : AP} : ∀ n, CallF.Le (evF A n) (evF A (n + 1))
  | 0 => fun a b c r h => by cases h
  | n + 1 => fun a b c r h => by
    simp only [evF] at h ⊢
    cases ho : A.ov a with
    | some g => rw [ho] at h; exact h
    | none =>
      rw [ho] at h
      cases hf : A.fns a with
      | none => rw [hf] at h; cases h
      | some fn => rw [hf] at h; exact runF_mono (evF_step n) (by omega) h

theorem evF_mono {A : AP} {n m : Nat} (h : n ≤ m) : CallF.Le (evF A n) (evF A m) := by
  induction h with
  | refl => exact fun _ _ _ _ h => h
  | step _ ih => exact fun a b c r hr => evF_step _ a b c r (ih a b c r hr)

/-- A call, fuel left out. -/
noncomputable def callD (A : AP) : CallF := fun f args H => open Classical in if h : ∃ n r, evF A n f args H = some r then some (Classical.choose (Classical.choose_spec h)) else none

theorem callD_eq {A : AP} {f : FuncId} {args : List AV} {H : AHeap} {r : AV × Option Chg} : callD A f args H = some r ↔ ∃ n, evF A n f args H = some r := by
  unfold callD
  constructor
  · intro h
    split at h
    · rename_i hx
      have := Classical.choose_spec (Classical.choose_spec hx)
      injection h with h
      rw [h] at this
      exact ⟨_, this⟩
    · cases h
  · rintro ⟨n, hn⟩
    have hx : ∃ n r, evF A n f args H = some r := ⟨n, r, hn⟩
    rw [dif_pos hx]
    have h1 := Classical.choose_spec (Classical.choose_spec hx)
    have h2 := evF_mono (Nat.le_max_left n (Classical.choose hx)) _ _ _ _ hn
    have h3 := evF_mono (Nat.le_max_right n (Classical.choose hx)) _ _ _ _ h1
    rw [h2] at h3
    injection h3 with h3
    rw [h3]

theorem evF_callD {A : AP} (n : Nat) : CallF.Le (evF A n) (callD A) := fun _ _ _ _ h => callD_eq.2 ⟨n, h⟩

section
variable {A : AP}

theorem evOp_lim {s : AS} {o : IOp} {r : AV × Option AS} (he : evOp A.glob (callD A) s o = some r) : ∃ n, evOp A.glob (evF A n) s o = some r := by
  cases o with
  | call fn args =>
    simp only [evOp] at he ⊢
    split at he
    · rename_i n fs cs hf
      cases hb : ((args.map fun a => a.addr A.glob s.T).all frameCell) with
      | false => rw [hb] at he; cases he
      | true =>
        rw [hb] at he
        simp only [cond_true, Option.map_eq_some_iff] at he
        obtain ⟨r0, h0, rfl⟩ := he
        obtain ⟨k, hk⟩ := callD_eq.1 h0
        exact ⟨k, by simp only [hk, cond_true, Option.map_some]⟩
    · cases he
  | _ => exact ⟨0, he⟩

theorem evOper_lim {d : Bool} {s : AS} {o : IOper} {r : AS} (he : evOper A.glob (callD A) d s o = some r) : ∃ n, evOper A.glob (evF A n) d s o = some r := by
  have key : ∀ r, ((evOp A.glob (callD A) s o.op).bind fun r => match r.2 with
      | none => cond (d && (genOf r.1).isSome) none (some (s.putD o.dst r.1))
      | some s' => cond d none (some (s'.putD o.dst r.1))) = some r → ∃ n, ((evOp A.glob (evF A n) s o.op).bind fun r => match r.2 with
      | none => cond (d && (genOf r.1).isSome) none (some (s.putD o.dst r.1))
      | some s' => cond d none (some (s'.putD o.dst r.1))) = some r := by
    intro r hr
    simp only [Option.bind_eq_some_iff] at hr ⊢
    obtain ⟨x, h1, h2⟩ := hr
    obtain ⟨n, hn⟩ := evOp_lim h1
    exact ⟨n, x, hn, h2⟩
  unfold evOper at he ⊢
  simp only at he ⊢
  split at he
  · exact key _ he
  · split at he
    · rename_i b hb
      cases hbw : (b == _) with
      | true => rw [hbw] at he; exact key _ he
      | false => rw [hbw] at he; exact ⟨0, he⟩
    · exact ⟨0, he⟩
    · cases he

theorem evOps_lim {d : Bool} : ∀ {os : List IOper} {s r : AS}, evOps A.glob (callD A) d os s = some r → ∃ n, evOps A.glob (evF A n) d os s = some r
  | [], _, _, he => ⟨0, he⟩
  | o :: os, s, r, he => by
    simp only [evOps, Option.bind_eq_some_iff] at he ⊢
    obtain ⟨x, h1, h2⟩ := he
    obtain ⟨n, hn⟩ := evOper_lim h1
    obtain ⟨m, hm⟩ := evOps_lim h2
    exact ⟨max n m, x, evOper_mono (evF_mono (Nat.le_max_left n m)) hn, evOps_mono (evF_mono (Nat.le_max_right n m)) hm⟩

theorem iter_lim {F : AS → Option (IExit × AS)} {F' : Nat → AS → Option (IExit × AS)} (hm : ∀ n m s r, n ≤ m → F' n s = some r → F' m s = some r) (h : ∀ s r, F s = some r → ∃ n, F' n s = some r) :
    ∀ {n : Nat} {s : AS} {r : IExit × AS}, iter F n s = some r → ∃ m, iter (F' m) n s = some r
  | 0, _, _, he => by cases he
  | n + 1, s, r, he => by
    simp only [iter, Option.bind_eq_some_iff] at he ⊢
    obtain ⟨x, h1, h2⟩ := he
    obtain ⟨m1, hm1⟩ := h _ _ h1
    split at h2
    · obtain ⟨m2, hm2⟩ := iter_lim hm h h2
      refine ⟨max m1 m2, x, hm _ _ _ _ (Nat.le_max_left _ _) hm1, ?_⟩
      rename_i hx
      simp only [hx]
      exact iter_mono (fun s r => hm _ _ _ _ (Nat.le_max_right _ _)) (Nat.le_refl _) hm2
    · rename_i hx
      refine ⟨m1, x, hm1, ?_⟩
      split
      · rename_i hx'; exact absurd hx' hx
      · exact h2

theorem evC_lim {n : Nat} : ∀ {c : ICode} {s : AS} {r : IExit × AS}, evC A.glob (callD A) n c s = some r → ∃ m, evC A.glob (evF A m) n c s = some r
  | .skip, _, _, he => ⟨0, he⟩
  | .exit _, _, _, he => ⟨0, he⟩
  | .ret, _, _, he => ⟨0, he⟩
  | .region d os, s, r, he => by
    simp only [evC, Option.map_eq_some_iff] at he ⊢
    obtain ⟨x, h1, h2⟩ := he
    obtain ⟨m, hm⟩ := evOps_lim h1
    exact ⟨m, x, hm, h2⟩
  | .seq a b, s, r, he => by
    simp only [evC, Option.bind_eq_some_iff] at he ⊢
    obtain ⟨x, h1, h2⟩ := he
    obtain ⟨m1, hm1⟩ := evC_lim h1
    split at h2
    · rename_i hx
      obtain ⟨m2, hm2⟩ := evC_lim h2
      refine ⟨max m1 m2, x, evC_mono (evF_mono (Nat.le_max_left _ _)) (Nat.le_refl _) hm1, ?_⟩
      simp only [hx]
      exact evC_mono (evF_mono (Nat.le_max_right _ _)) (Nat.le_refl _) hm2
    · rename_i hx
      refine ⟨m1, x, hm1, ?_⟩
      split
      · rename_i hx'; exact absurd hx' hx
      · exact h2
  | .cond c a b, s, r, he => by
    simp only [evC] at he ⊢
    split at he
    · rename_i t ht
      cases t
      · exact evC_lim (c := b) he
      · exact evC_lim (c := a) he
    · cases he
  | .block id a, s, r, he => by
    simp only [evC, Option.map_eq_some_iff] at he ⊢
    obtain ⟨x, h1, h2⟩ := he
    obtain ⟨m, hm⟩ := evC_lim h1
    exact ⟨m, x, hm, h2⟩
  | .loop a, s, r, he => by
    simp only [evC] at he ⊢
    exact iter_lim (F' := fun m => evC A.glob (evF A m) n a) (fun n' m s r hn h => evC_mono (evF_mono hn) (Nat.le_refl _) h) (fun s r h => evC_lim h) he

theorem runF_lim {n : Nat} {fn : IFunc} {args : List AV} {H : AHeap} {r : AV × Option Chg} (he : runF A.glob (callD A) n fn args H = some r) : ∃ m, runF A.glob (evF A m) n fn args H = some r := by
  unfold runF at he ⊢
  cases hb : Nat.beq args.length fn.np with
  | false => rw [hb] at he; cases he
  | true =>
    rw [hb] at he
    simp only [cond_true, Option.bind_eq_some_iff] at he ⊢
    obtain ⟨x, h1, h2⟩ := he
    obtain ⟨m, hm⟩ := evC_lim h1
    exact ⟨m, x, hm, h2⟩

/-- A function's run is a call's answer. -/
theorem callD_run {f : FuncId} {fn : IFunc} (ho : A.ov f = none) (hf : A.fns f = some fn) {n : Nat} {args : List AV} {H : AHeap} {r : AV × Option Chg} (h : runF A.glob (callD A) n fn args H = some r) : callD A f args H = some r := by
  obtain ⟨m, hm⟩ := runF_lim h
  refine callD_eq.2 ⟨max m n + 1, ?_⟩
  simp only [evF, ho, hf]
  exact runF_mono (evF_mono (Nat.le_max_left _ _)) (Nat.le_max_right _ _) hm

/-- What is taken as given. -/
theorem callD_ov {f : FuncId} {g : List AV → AHeap → Option (AV × Option Chg)} (ho : A.ov f = some g) {args : List AV} {H : AHeap} {r : AV × Option Chg} (h : g args H = some r) : callD A f args H = some r :=
  callD_eq.2 ⟨1, by simp only [evF, ho]; exact h⟩
end
end Go.Abs
