/-
  rules.Enough as taken as given.
-/
import Derived.Test.YtgdcfgpddgedkaaDoorAbsLib6
set_option linter.unusedVariables false
set_option linter.unusedSimpArgs false
namespace Go.Proofs.YtgdcfgpddgedkaaDoor
open Go Go.Abs Go.Proofs Go.Shelf RowKit Go.Maps

theorem intsOf_rows : ∀ {e : List (List AV)} {xs : List Int}, intsOf e = some xs → e.length = xs.length ∧ ∀ (i : Nat) (x : Int), xs[i]? = some x → e[i]? = some [.int .i64 x]
  | [], xs, h => by
    simp only [intsOf, Option.some.injEq] at h
    subst h
    exact ⟨rfl, fun i b h => by simp at h⟩
  | r :: e, xs, h => by
    unfold intsOf at h
    split at h
    · cases ‹_ :: _ = []›
    · rename_i n e' heq
      injection heq with h1 h2
      subst h1 h2
      obtain ⟨l', h3, rfl⟩ := Option.map_eq_some_iff.1 h
      obtain ⟨k1, k2⟩ := intsOf_rows h3
      refine ⟨by simp [k1], fun i b hb => ?_⟩
      cases i with
      | zero => simp at hb; subst hb; rfl
      | succ i => exact k2 i b (by simpa using hb)
    · cases h

theorem ruleOf_row {r : List AV} {x : Int × List Int} (h : ruleOf r = some x) : ∃ s0 s1 ws own, r = [.str s0, .str s1, .int .i64 x.1, .slice ws own] ∧ intsOf ws = some x.2 ∧ x.2.length ≤ 4611686018427387904 := by
  unfold ruleOf at h
  split at h
  · rename_i s0 s1 n ws own
    obtain ⟨xs, h1, h2⟩ := Option.bind_eq_some_iff.1 h
    obtain ⟨h3, h4⟩ := cond_some h2
    injection h4 with h4
    subst h4
    exact ⟨s0, s1, ws, own, rfl, h1, by simpa [Nat.ble_eq] using h3⟩
  · cases h

theorem rulesOf_rows : ∀ {e : List (List AV)} {xs : List (Int × List Int)}, rulesOf e = some xs → e.length = xs.length ∧ ∀ (i : Nat) (x : Int × List Int), xs[i]? = some x → ∃ r, e[i]? = some r ∧ ruleOf r = some x
  | [], xs, h => by
    simp only [rulesOf, Option.some.injEq] at h
    subst h
    exact ⟨rfl, fun i b h => by simp at h⟩
  | r :: e, xs, h => by
    simp only [rulesOf] at h
    obtain ⟨x, h1, h2⟩ := Option.bind_eq_some_iff.1 h
    obtain ⟨l', h3, rfl⟩ := Option.map_eq_some_iff.1 h2
    obtain ⟨k1, k2⟩ := rulesOf_rows h3
    refine ⟨by simp [k1], fun i b hb => ?_⟩
    cases i with
    | zero => simp at hb; subst hb; exact ⟨r, rfl, h1⟩
    | succ i => exact k2 i b (by simpa using hb)

section
variable {gh : Gh} {n : Nat} {w : World} {v : Value} {S : Nat → Nat → Prop}

theorem VR_slice {e : List (List AV)} {own : Bool} (h : VR gh n w v (.slice e own)) : PR gh.S w v (.slice e false) := by
  cases h with
  | plain _ _ h => cases h <;> first | exact .sliceNil | exact .slice _ _ _ _ _ _ _ ‹_› ‹_› ‹_› ‹_› ‹_›
  | full a k e h hz => exact h

theorem PR_ints {e : List (List AV)} {own : Bool} {xs : List Int} (h : PR S w v (.slice e own)) (hx : intsOf e = some xs) : ∃ a cap, v = .slice a xs.length cap ∧ IntsAt w a xs := by
  obtain ⟨hl, hr⟩ := intsOf_rows hx
  cases h with
  | sliceNil =>
    have : xs = [] := List.eq_nil_of_length_eq_zero (by simpa using hl.symm)
    subst this
    exact ⟨none, 0, rfl, .inl rfl⟩
  | slice b o n cap sz _ f hn hcap hrow hcell hrel =>
    refine ⟨_, cap, by rw [← hl, hn], ?_⟩
    by_cases hne : xs = []
    · exact .inl hne
    refine .inr ⟨b, o, rfl, fun j hj => ?_⟩
    have hj' := hr j _ (List.getElem?_eq_getElem hj)
    have hsz : sz = 1 := (hrow j _ hj').symm
    subst hsz
    obtain ⟨_, k2, _⟩ := hcell j 0 _ _ hj' rfl
    have k3 := hrel j 0 _ _ hj' rfl
    simp only [Nat.mul_one, Nat.add_zero] at k2
    rw [k2]
    generalize f j 0 = V at k3
    cases k3
    rw [List.getD, List.getElem?_eq_getElem hj]
    rfl

theorem PR_rules {e : List (List AV)} {own : Bool} {rs : List (Int × List Int)} (h : PR S w v (.slice e own)) (hx : rulesOf e = some rs) :
    ∃ a cap, v = .slice a rs.length cap ∧ (rs = [] ∨ ∃ b o, a = some ⟨b, o, none⟩ ∧ ∀ j r, rs[j]? = some r → RuleAt w b (o + j * 4) r.1 r.2 ∧ r.2.length ≤ 4611686018427387904) := by
  obtain ⟨hl, hr⟩ := rulesOf_rows hx
  cases h with
  | sliceNil =>
    have : rs = [] := List.eq_nil_of_length_eq_zero (by simpa using hl.symm)
    subst this
    exact ⟨none, 0, rfl, .inl rfl⟩
  | slice b o n cap sz _ f hn hcap hrow hcell hrel =>
    refine ⟨_, cap, by rw [← hl, hn], ?_⟩
    refine .inr ⟨b, o, rfl, fun j r hj => ?_⟩
    obtain ⟨row, he, hrl⟩ := hr j r hj
    obtain ⟨s0, s1, ws, own', rfl, hi, hlen⟩ := ruleOf_row hrl
    have hsz : sz = 4 := (hrow j _ he).symm
    subst hsz
    have c0 := (hcell j 0 _ _ he rfl).2.1
    have c1 := (hcell j 1 _ _ he rfl).2.1
    have c2 := (hcell j 2 _ _ he rfl).2.1
    have c3 := (hcell j 3 _ _ he rfl).2.1
    have r0 := hrel j 0 _ _ he rfl
    have r1 := hrel j 1 _ _ he rfl
    have r2 := hrel j 2 _ _ he rfl
    have r3 := hrel j 3 _ _ he rfl
    generalize f j 0 = V0 at c0 r0
    generalize f j 1 = V1 at c1 r1
    generalize f j 2 = V2 at c2 r2
    generalize f j 3 = V3 at c3 r3
    obtain ⟨a, cap', rfl, hin⟩ := PR_ints r3 hi
    cases r0 with | str S0 _ _ => ?_
    cases r1 with | str S1 _ _ => ?_
    cases r2
    exact ⟨⟨S0, S1, a, cap', c0, c1, c2, c3, hin⟩, hlen⟩
end

theorem enough_sound {G : Nat → List AV} : OvSound Tryd.prog G 22 ovEnough := by
  intro args H r c he
  refine ⟨fnOK 22 _ Tryd.func22 (by kernel_rfl) (by decide), ?_⟩
  unfold ovEnough at he
  split at he
  · rename_i l _ author who _
    obtain ⟨ws, hws, he⟩ := Option.bind_eq_some_iff.1 he
    obtain ⟨rs, hrs, he⟩ := Option.bind_eq_some_iff.1 he
    obtain ⟨h0, he⟩ := cond_some he
    simp only [Bool.and_eq_true] at h0
    simp only [Option.some.injEq, Prod.mk.injEq] at he
    obtain ⟨rfl, rfl⟩ := he
    refine ⟨chg_none, fun base gh w vs hW _ hs hrel => ?_⟩
    obtain ⟨t, u, v, rfl, ht, hu, hv⟩ := args3 hs hrel
    rw [hu.inv_int]
    obtain ⟨al, cl, rfl, hl⟩ := PR_rules (VR_slice ht) hrs
    obtain ⟨aw, cw, rfl, hw⟩ := PR_ints (VR_slice hv) hws
    refine (enough_walk al cl rs author aw cw ws w hw (fun x hx => ?_) (by simpa [Nat.ble_eq] using h0.1.1) (by simpa [Nat.ble_eq] using h0.1.2) hl).mono ?_
    · have := List.all_eq_true.1 h0.2 x hx
      simp only [Bool.and_eq_true, decide_eq_true_eq] at this
      have h1 : IntKind.i64.min = -9223372036854775808 := by decide
      have h2 : IntKind.i64.max = 9223372036854775807 := by decide
      simp only [Lit.wf, h1, h2, Bool.and_eq_true, decide_eq_true_eq]
      exact this
    · rintro e w' ⟨rfl, hb⟩
      exact ⟨_, gh, rfl, ret_below hW hb (.plain _ _ (.bool _))⟩
  · cases he
end Go.Proofs.YtgdcfgpddgedkaaDoor
