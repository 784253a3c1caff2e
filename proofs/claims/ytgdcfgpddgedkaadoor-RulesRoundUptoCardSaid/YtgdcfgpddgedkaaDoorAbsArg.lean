/-
  Operands: what an operand's value is to its abstract value; inversions. No program in sight.
-/
import Derived.Test.YtgdcfgpddgedkaaDoorAbsFrame
namespace Go.Abs

section
variable {gh : Gh} {n : Nat} {w : World} {v : Value}

theorem VR.inv_bool {b : Bool} (h : VR gh n w v (.bool b)) : v = .bool b := by cases h with | plain _ _ h => cases h; rfl
theorem VR.inv_int {k : IntKind} {m : Int} (h : VR gh n w v (.int k m)) : v = .int k m := by cases h with | plain _ _ h => cases h; rfl
theorem VR.inv_str {l : List UInt8} (h : VR gh n w v (.str l)) : ∃ s : ByteArray, v = .string s ∧ s.data.toList = l := by cases h with | plain _ _ h => cases h; exact ⟨_, rfl, ‹_›⟩
theorem VR.inv_niliface (h : VR gh n w v .niliface) : v = .nilIface := by cases h with | plain _ _ h => cases h; rfl
theorem VR.inv_nilfunc (h : VR gh n w v .nilfunc) : v = .nilFunc := by cases h with | plain _ _ h => cases h; rfl
theorem VR.inv_iface {t : TypeId} {x : AV} (h : VR gh n w v (.iface t x)) : ∃ u, v = .iface t u := by
  cases h with
  | plain _ _ h => cases h; exact ⟨_, rfl⟩
  | iface _ _ _ _ => exact ⟨_, rfl⟩
theorem VR.inv_slice {e : List (List AV)} (h : VR gh n w v (.slice e false)) : PR gh.S w v (.slice e false) := by cases h with | plain _ _ h => exact h
theorem VR.inv_eptr {cs : List AV} (h : VR gh n w v (.eptr cs)) : PR gh.S w v (.eptr cs) := by cases h with | plain _ _ h => exact h
theorem VR.inv_ref {loc off : Nat} (h : VR gh n w v (.ref loc off)) : loc < n ∧ v = .pointer (some ⟨gh.ρ loc, off, none⟩) := by
  cases h with
  | plain _ _ h => cases h
  | ref _ _ h => exact ⟨h, rfl⟩
theorem VR.inv_sref {loc off k : Nat} (h : VR gh n w v (.sref loc off k)) : loc < n ∧ ∃ cap, k ≤ cap ∧ v = .slice (some ⟨gh.ρ loc, off, none⟩) k cap := by
  cases h with
  | plain _ _ h => cases h
  | sref _ _ _ cap h hk => exact ⟨h, cap, hk, rfl⟩
theorem VR.inv_func {f : Fn} {xs ys : List AV} (h : VR gh n w v (.func f xs ys)) : ∃ fs cs, v = .func f fs cs ∧ fs.size = xs.length ∧ cs.size = ys.length ∧
    (∀ (j : Nat) (v : Value) (x : AV), fs[j]? = some v → xs[j]? = some x → VR gh n w v x) ∧ (∀ (j : Nat) (v : Value) (x : AV), cs[j]? = some v → ys[j]? = some x → VR gh n w v x) := by
  cases h with
  | plain _ _ h => cases h; exact ⟨#[], #[], rfl, rfl, rfl, fun j v x h => by simp at h, fun j v x h => by simp at h⟩
  | func _ fs cs _ _ hf hc h1 h2 => exact ⟨fs, cs, rfl, hf, hc, h1, h2⟩
theorem VR.inv_agg {xs : List AV} (h : VR gh n w v (.agg xs)) : ∃ cs : Array Value, v = .agg cs ∧ cs.size = xs.length ∧ (∀ (j : Nat) (v : Value), cs[j]? = some v → v.oneCell' = true) ∧
    (∀ (j : Nat) (v : Value) (x : AV), cs[j]? = some v → xs[j]? = some x → VR gh n w v x) := by
  cases h with
  | plain _ _ h => cases h
  | agg cs _ hs hone h => exact ⟨cs, rfl, hs, hone, h⟩
theorem VR.inv_tuple {xs : List AV} (h : VR gh n w v (.tuple xs)) : ∃ vs : Array Value, v = .tuple vs ∧ vs.size = xs.length ∧
    (∀ (j : Nat) (v : Value) (x : AV), vs[j]? = some v → xs[j]? = some x → VR gh n w v x) := by
  cases h with
  | plain _ _ h => cases h
  | tuple vs _ hs h => exact ⟨vs, rfl, hs, h⟩
theorem VR.inv_undef (h : VR gh n w v .undef) : v = undef := by
  obtain ⟨vs, rfl, hs, _⟩ := h.inv_tuple
  have : vs = #[] := Array.eq_empty_of_size_eq_zero (by simpa using hs)
  subst this; rfl
end

theorem VR.undef {gh : Gh} {n : Nat} {w : World} : VR gh n w undef .undef := .tuple #[] [] rfl (fun j v x h => by simp at h)

theorem const_VR {gh : Gh} {n : Nat} {w : World} {v : Value} {x : AV} (h : constAV v = some x) : VR gh n w v x := by
  unfold constAV at h
  split at h <;> first | (injection h with h; subst h) | cases h
  · exact .plain _ _ (.bool _)
  · exact .plain _ _ (.int _ _)
  · exact .plain _ _ (.str _ _ rfl)
  · exact .full none 0 [] .sliceNil (fun ad h => by cases h)
  · exact .plain _ _ .nilptr
  · exact .plain _ _ .nilmap
  · exact .plain _ _ .nilfunc
  · exact .plain _ _ .niliface

theorem constCells_VR {gh : Gh} {n : Nat} {w : World} : ∀ {vs : List Value} {xs : List AV}, constCells vs = some xs → vs.length = xs.length ∧
    ∀ (j : Nat) (v : Value) (x : AV), vs[j]? = some v → xs[j]? = some x → VR gh n w v x ∧ v.oneCell' = true
  | [], xs, h => by simp [constCells] at h; subst h; exact ⟨rfl, fun j v x h => by simp at h⟩
  | v :: r, xs, h => by
    simp only [constCells, Option.bind_eq_some_iff, Option.map_eq_some_iff] at h
    obtain ⟨x, hx, ys, hy, rfl⟩ := h
    obtain ⟨h1, h2⟩ := constCells_VR (gh := gh) (n := n) (w := w) hy
    refine ⟨by simp [h1], fun j u y hu hy => ?_⟩
    cases j with
    | zero =>
      simp at hu hy
      subst hu hy
      refine ⟨const_VR hx, ?_⟩
      unfold constAV at hx
      split at hx <;> first | rfl | cases hx
    | succ j => exact h2 j u y (by simpa using hu) (by simpa using hy)

section
variable {G : Nat → List AV} {base nt : Nat} {L : List Nat} {gh : Gh} {w : World} {a : Act} {s : AS} {x : Operand} {y : IArg}

theorem glob_VR (hW : WRel G base s.H gh w) (g : Nat) : VR gh s.H.length w (.pointer (some ⟨g, 0, none⟩)) (.eptr (G g)) := by
  refine .plain _ _ ?_
  let f : Nat → Value := fun j => (w.cell? ⟨g, j, none⟩).getD undef
  refine .eptr g 0 (G g) f ?_ ?_
  · intro j x h
    obtain ⟨v, hv, hp, hs⟩ := hW.glob g j x h
    refine ⟨by simpa using hs, by simp [f, hv], ?_⟩
    simp only [f, hv, Option.getD_some]; exact hp.oneCell
  · intro j x h
    obtain ⟨v, hv, hp, hs⟩ := hW.glob g j x h
    simp only [f, hv, Option.getD_some]; exact hp

/-- An operand's value, without the right to append. -/
theorem arg_val (hW : WRel G base s.H gh w) (hF : FR L nt gh w a s) (hc : compArg nt x = some y) :
    Val gh s.H.length nt w s.T s.gen (tmv a) (a.eval x) (y.addr G s.T).drop := by
  cases x with
  | tmp t =>
    simp only [compArg] at hc
    rcases Bool.eq_false_or_eq_true (Nat.blt t nt) with hb | hb <;> rw [hb] at hc <;> simp at hc
    subst hc
    have hlt : t < nt := by simpa [Nat.blt_eq] using hb
    have h := hF.slot t hlt
    show Val gh s.H.length nt w s.T s.gen (tmv a) (tmv a t) _
    change SR gh s.H.length nt w s.T s.gen (tmv a) t (tmv a t) (s.T t) at h
    simp only [IArg.addr]
    generalize hX : s.T t = X at h
    cases X
    case lbox g cs =>
      obtain ⟨hg, b, hv, _⟩ := h
      refine ⟨hlt, hg, fun _ b' hb' => hb'⟩
    case lsl g e => exact ⟨hlt, h.1, fun _ => rfl⟩
    case lref => exact h
    case lsr => exact h
    case eref => exact h
    all_goals exact .of_VR (CR.dropped h)
  | const v =>
    simp only [compArg, Option.map_eq_some_iff] at hc
    obtain ⟨z, hz, rfl⟩ := hc
    exact .of_VR (VR.dropped (const_VR hz))
  | global g =>
    simp only [compArg, Option.some.injEq] at hc
    subst hc
    exact .of_VR (VR.dropped (glob_VR hW g))
  | func f =>
    simp only [compArg, Option.some.injEq] at hc
    subst hc
    exact .of_VR (.plain _ _ (.func _))

theorem addr_eval {T : AFrame} (h : genOf (y.eval G T) = none) : y.addr G T = y.eval G T := by
  cases y with
  | tmp t =>
    simp only [IArg.addr, IArg.eval] at h ⊢
    cases hX : T t <;> rw [hX] at h <;> first | rfl | (simp [genOf] at h)
  | con v => rfl
  | glob g => rfl
  | fn f => rfl

theorem Val.vr {n : Nat} {T : AFrame} {gen : Nat} {tm : Nat → Value} {v : Value} {z : AV} (h : Val gh n nt w T gen tm v z) (hz : frameCell z = true) : VR gh n w v z := by
  cases z <;> first | exact h | (simp [frameCell] at hz)

theorem frameCell_drop {z : AV} : frameCell z.drop = frameCell z := by cases z <;> rfl
theorem genOf_drop {z : AV} : genOf z.drop = genOf z := by cases z <;> rfl

/-- An operand whose abstract value is 'z', no variable of the frame's own and no reference into one. -/
theorem arg_VR (hW : WRel G base s.H gh w) (hF : FR L nt gh w a s) (hc : compArg nt x = some y) {z : AV} (hz : y.eval G s.T = z) (hf : frameCell z = true) :
    VR gh s.H.length w (a.eval x) z.drop := by
  have hg : genOf (y.eval G s.T) = none := by rw [hz]; cases z <;> first | rfl | (simp [frameCell] at hf)
  have h := arg_val hW hF hc
  rw [addr_eval hg, hz] at h
  exact h.vr (by rw [frameCell_drop]; exact hf)

theorem arg_VR' (hW : WRel G base s.H gh w) (hF : FR L nt gh w a s) (hc : compArg nt x = some y) {z : AV} (hz : y.addr G s.T = z) (hf : frameCell z = true) :
    VR gh s.H.length w (a.eval x) z.drop := by
  have h := arg_val hW hF hc
  rw [hz] at h
  exact h.vr (by rw [frameCell_drop]; exact hf)

/-- An operand that holds the right to append. -/
theorem arg_own (hF : FR L nt gh w a s) {t : Nat} (hlt : t < nt) {e : List (List AV)} {own : Bool} (hz : s.T t = .slice e own) : CR gh s.H.length w (.sl t) (a.eval (.tmp t)) (.slice e own) := by
  have h := hF.slot t hlt
  rw [hz] at h
  exact h
end
end Go.Abs
