/-
  Operations that read and reckon: slices of slices and strings, numbers and comparisons, literals of structs and arrays.
-/
import Derived.Test.YtgdcfgpddgedkaaDoorAbsOps3
namespace Go.Abs
set_option linter.unusedSimpArgs false
set_option linter.unusedVariables false

section
variable {P : Program} {G : Nat → List AV} {base nt : Nat} {L : List Nat} {gh : Gh} {w : World} {a : Act} {s : AS}

/-- A bound of a slice expression. -/
theorem bound_inv (hW : WRel G base s.H gh w) (hF : FR L nt gh w a s) {x : Option Operand} {ix : Option IArg} (hc : optArg nt x = some ix) {d most n : Nat} (hb : bound d (ix.map (·.eval G s.T)) most = some n) :
    (x.map a.eval = none ∧ ix = none ∧ n = d) ∨ (ix.isSome = true ∧ n ≤ most ∧ ∃ k, x.map a.eval = some (.int k (n : Int))) := by
  cases x with
  | none => simp [optArg] at hc; subst hc; simp [bound] at hb; exact .inl ⟨rfl, rfl, hb.symm⟩
  | some x =>
    simp only [optArg, Option.map_eq_some_iff] at hc
    obtain ⟨y, hy, rfl⟩ := hc
    simp only [bound, Option.map_some, Option.bind_eq_some_iff] at hb
    obtain ⟨m, hm, hb⟩ := hb
    obtain ⟨h1, h2⟩ := cond_some hb
    injection h2 with h2
    subst h2
    obtain ⟨k, hk⟩ := asNat_inv hW hF hy hm
    exact .inr ⟨rfl, by simpa [Nat.ble_eq] using h1, k, by simp [hk]⟩

theorem run_bounds {isSlice : Bool} {len cap l h m : Nat} {lo hi mx : Option Value}
    (hm : (mx = none ∧ m = cap) ∨ (m ≤ cap ∧ ∃ k, mx = some (.int k (m : Int)))) (hh : (hi = none ∧ h = len ∧ mx = none) ∨ (h ≤ m ∧ ∃ k, hi = some (.int k (h : Int))))
    (hl : (lo = none ∧ l = 0) ∨ (l ≤ h ∧ ∃ k, lo = some (.int k (l : Int)))) :
    (Instr.sliceBounds isSlice len cap lo hi mx).run P w = .ok (l, h, m) w := by
  have sb : ∀ (k : IntKind) (n y : Nat) (code : BoundsCode), n ≤ y → (Instr.sliceBound (.int k (n : Int)) y code).run P w = .ok n w := by
    intro k n y code hn
    rw [run_sliceBound w k n y code (by omega) (by omega)]; simp
  rcases hm with ⟨rfl, rfl⟩ | ⟨hm, km, rfl⟩ <;> rcases hh with ⟨rfl, rfl, hx⟩ | ⟨hh, kh, rfl⟩ <;> rcases hl with ⟨rfl, rfl⟩ | ⟨hl, kl, rfl⟩ <;>
    first | (cases hx; done) | simp [Instr.sliceBounds, sb, *]

theorem ev_slice_str (hW : WRel G base s.H gh w) (hF : FR L nt gh w a s) {o : Oper} {t : TypeId} {x : Operand} {lo hi mx : Option Operand} {ix : IArg} {ilo ihi imx : Option IArg} {z : AV}
    (ho : o.op = .slice t x lo hi mx) (hc : compArg nt x = some ix) (h1 : optArg nt lo = some ilo) (h2 : optArg nt hi = some ihi) (h3 : optArg nt mx = some imx) (hu : P.underlying t = some .string)
    (he : sliceAV .str (ix.eval G s.T) (ilo.map (·.eval G s.T)) (ihi.map (·.eval G s.T)) (imx.map (·.eval G s.T)) = some z) :
    ∃ v, (execOp a.eval o).run P w = .ok (.value v) w ∧ Val gh s.H.length nt w s.T s.gen (tmv a) v z := by
  generalize hz : ix.eval G s.T = X at he
  cases X <;> simp only [sliceAV, reduceCtorEq, Option.bind_eq_some_iff] at he
  rename_i l
  obtain ⟨h, hh, l0, hl, he⟩ := he
  obtain ⟨hn, he⟩ := cond_some he
  injection he with he
  subst he
  obtain ⟨q, hA, hq⟩ := (arg_VR hW hF hc hz rfl).inv_str
  have hsz : q.size = l.length := by rw [← hq]; simp
  have hmn : mx.map a.eval = none ∧ imx = none := by
    cases mx with
    | none => simp [optArg] at h3; subst h3; exact ⟨rfl, rfl⟩
    | some m => simp only [optArg, Option.map_eq_some_iff] at h3; obtain ⟨_, _, rfl⟩ := h3; simp at hn
  have bh := bound_inv hW hF h2 hh
  have bl := bound_inv hW hF h1 hl
  have hb : (Instr.sliceBounds false q.size q.size (lo.map a.eval) (hi.map a.eval) none).run P w = .ok (l0, h, q.size) w := by
    refine run_bounds (.inl ⟨rfl, rfl⟩) ?_ ?_
    · rcases bh with ⟨e1, _, e2⟩ | ⟨_, e1, k, e2⟩
      · exact .inl ⟨e1, by omega, rfl⟩
      · exact .inr ⟨by omega, k, e2⟩
    · rcases bl with ⟨e1, _, e2⟩ | ⟨_, e1, k, e2⟩
      · exact .inl ⟨e1, e2⟩
      · exact .inr ⟨e1, k, e2⟩
  refine ⟨.string (q.extract l0 h), ?_, .of_VR (.plain _ _ (.str _ _ ?_))⟩
  · have hA' := hA
    have hsl : (Instr.slice t (.string q) (lo.map a.eval) (hi.map a.eval) none).run P w = .ok (.string (q.extract l0 h)) w := by
      simp [Instr.slice, run_underlying hu, hb]
    simp only [execOp, ho, hA', hmn.1, Sem.run_bind, run_sliceAt_string w t (.string q) _ _ _ hu, hsl, Result.andThen_ok, Sem.run_pure]
  · rw [← hq]
    rw [ByteArray.data_extract, Array.toList_extract, List.extract_eq_take_drop, List.drop_take]

theorem headOk_inv {sz sz' : Nat} {e : List (List AV)} (h : headOk sz e = true) (hr : ∀ (i : Nat) (r : List AV), e[i]? = some r → r.length = sz') (hne : e ≠ []) : sz' = sz := by
  cases e with
  | nil => exact absurd rfl hne
  | cons r e =>
    simp [headOk, nbeq] at h
    rw [← hr 0 r rfl, h]

/-- A part of a slice that stays as it is. -/
theorem PR.part {S : Nat → Nat → Prop} {b o n cap : Nat} {e : List (List AV)} (hv : PR S w (.slice (some ⟨b, o, none⟩) n cap) (.slice e false)) {sz : Nat} (hsz : e ≠ [] → ∀ (i : Nat) (r : List AV), e[i]? = some r → r.length = sz)
    {l h c : Nat} (hl : l ≤ h) (hh : h ≤ n) (hc : h - l ≤ c) : PR S w (.slice (some ⟨b, o + l * sz, none⟩) (h - l) c) (.slice ((e.take h).drop l) false) := by
  cases hv with
  | slice _ _ _ _ sz' _ f hn hcap hrow hcell hrel =>
    have idx : ∀ (i : Nat) (r : List AV), ((e.take h).drop l)[i]? = some r → e[l + i]? = some r := by
      intro i r hi
      rw [List.getElem?_drop, List.getElem?_take] at hi
      split at hi
      · exact hi
      · cases hi
    have hz : ∀ (i : Nat) (r : List AV), e[i]? = some r → sz' = sz := by
      intro i r hi
      have hne : e ≠ [] := by rintro rfl; simp at hi
      rw [← hrow i r hi, hsz hne i r hi]
    refine .slice b (o + l * sz) (h - l) c sz _ (fun i j => f (l + i) j) (by simp; omega) hc ?_ ?_ ?_
    · intro i r hi
      rw [hrow _ r (idx i r hi), hz _ r (idx i r hi)]
    · intro i j r x hi hj
      have h1 := hcell (l + i) j r x (idx i r hi) hj
      rw [hz _ r (idx i r hi)] at h1
      rw [show o + l * sz + i * sz + j = o + (l + i) * sz + j by rw [Nat.add_mul]; omega]
      exact h1
    · intro i j r x hi hj
      exact hrel (l + i) j r x (idx i r hi) hj

theorem PR.none_part {S : Nat → Nat → Prop} {b o c : Nat} {e : List (List AV)} {l h : Nat} (hl : h ≤ l) : PR S w (.slice (some ⟨b, o, none⟩) 0 c) (.slice ((e.take h).drop l) false) := by
  have : (e.take h).drop l = [] := by simp; omega
  rw [this]
  exact .slice b o 0 c 0 [] (fun _ _ => undef) rfl (Nat.zero_le _) (fun i r h => by simp at h) (fun i j r x h => by simp at h) (fun i j r x h => by simp at h)

theorem ev_slice_sl (hW : WRel G base s.H gh w) (hF : FR L nt gh w a s) {o : Oper} {t e0 : TypeId} {x : Operand} {lo hi mx : Option Operand} {ix : IArg} {ilo ihi imx : Option IArg} {sz : Nat} {z : AV}
    (ho : o.op = .slice t x lo hi mx) (hc : compArg nt x = some ix) (h1 : optArg nt lo = some ilo) (h2 : optArg nt hi = some ihi) (h3 : optArg nt mx = some imx) (hu : P.underlying t = some (.slice e0)) (hs : sizeT P e0 = some sz)
    (he : sliceAV (.sl sz) (ix.eval G s.T) (ilo.map (·.eval G s.T)) (ihi.map (·.eval G s.T)) (imx.map (·.eval G s.T)) = some z) :
    ∃ v, (execOp a.eval o).run P w = .ok (.value v) w ∧ Val gh s.H.length nt w s.T s.gen (tmv a) v z := by
  generalize hz : ix.eval G s.T = X at he
  cases X <;> simp only [sliceAV, reduceCtorEq, Option.bind_eq_some_iff] at he
  rename_i e own
  obtain ⟨m, hm, h, hh, l0, hl, he⟩ := he
  obtain ⟨hn, he⟩ := cond_some he
  injection he with he
  subst he
  have hp := VR.inv_slice (arg_VR hW hF hc hz rfl)
  have bm := bound_inv hW hF h3 hm
  have bh := bound_inv hW hF h2 hh
  have bl := bound_inv hW hF h1 hl
  have hmx : imx = none → mx.map a.eval = none := by
    rintro rfl
    cases mx with
    | none => rfl
    | some m => simp only [optArg, Option.map_eq_some_iff, reduceCtorEq, and_false, exists_false] at h3
  have hlo : lo.map a.eval = none → l0 = 0 := by
    intro hlo
    rcases bl with ⟨_, _, e2⟩ | ⟨_, _, k, e2⟩
    · exact e2
    · rw [hlo] at e2; cases e2
  simp only [Bool.and_eq_true, Bool.or_eq_true, Option.isNone_iff_eq_none, Option.map_eq_none_iff] at hn
  obtain ⟨hn1, hn2⟩ := hn
  have hlh : l0 ≤ h := by rcases bl with ⟨_, _, e⟩ | ⟨_, e, _⟩ <;> omega
  have hhm : h ≤ m := by
    rcases bh with ⟨_, e1, e2⟩ | ⟨_, e, _⟩
    · subst e1
      rcases hn1 with rfl | hx
      · simp [bound] at hm; omega
      · simp at hx
    · exact e
  have hml : m ≤ e.length := by rcases bm with ⟨_, _, e⟩ | ⟨_, e, _⟩ <;> omega
  have key : ∀ len cap : Nat, len = e.length → len ≤ cap → ∀ ad, ∃ m', (m' = if imx = none then cap else m) ∧
      (Instr.slice t (.slice ad len cap) (lo.map a.eval) (hi.map a.eval) (mx.map a.eval)).run P w = .ok (.slice (if m' = l0 then ad else ad.map (·.add (l0 * sz))) (h - l0) (m' - l0)) w := by
    intro len cap hlen hcap ad
    refine ⟨_, rfl, ?_⟩
    have hb : (Instr.sliceBounds true len cap (lo.map a.eval) (hi.map a.eval) (mx.map a.eval)).run P w = .ok (l0, h, if imx = none then cap else m) w := by
      refine run_bounds ?_ ?_ ?_
      · rcases bm with ⟨e1, e2, _⟩ | ⟨e1, e2, k, e3⟩
        · exact .inl ⟨e1, by rw [if_pos e2]⟩
        · have hne : imx ≠ none := by rintro rfl; cases e1
          rw [if_neg hne]
          exact .inr ⟨by omega, k, e3⟩
      · rcases bh with ⟨e1, e2, e3⟩ | ⟨_, e1, k, e2⟩
        · refine .inl ⟨e1, by omega, ?_⟩
          subst e2
          rcases hn1 with hx | hx
          · exact hmx hx
          · simp at hx
        · refine .inr ⟨?_, k, e2⟩
          split <;> omega
      · rcases bl with ⟨e1, _, e2⟩ | ⟨_, e1, k, e2⟩
        · exact .inl ⟨e1, e2⟩
        · exact .inr ⟨e1, k, e2⟩
    simp [Instr.slice, run_underlying hu, hb, run_sizeOf' hs]
  have fin : ∀ {V : Value} {R : Value}, a.eval x = V → (Instr.slice t V (lo.map a.eval) (hi.map a.eval) (mx.map a.eval)).run P w = .ok R w → (∃ ad n c, V = .slice ad n c) →
      (execOp a.eval o).run P w = .ok (.value R) w := by
    rintro V R hA hR ⟨ad, n, c, rfl⟩
    have : (Instr.sliceAt t (.slice ad n c) (lo.map a.eval) (hi.map a.eval) (mx.map a.eval)).run P w = .ok R w := by simp [Instr.sliceAt, run_underlying hu, hR]
    simp only [execOp, ho, hA, Sem.run_bind, this, Result.andThen_ok, Sem.run_pure]
  generalize hA : a.eval x = V at hp
  have hp0 := hp
  cases hp with
  | sliceNil =>
    have hlen : ([] : List (List AV)).length = 0 := rfl
    simp only [List.length_nil] at hml
    have e1 : m = 0 := by omega
    have e2 : h = 0 := by omega
    have e3 : l0 = 0 := by omega
    subst e1 e2 e3
    obtain ⟨m', hm', hr⟩ := key 0 0 rfl (Nat.le_refl _) none
    have : m' = 0 := by rw [hm']; split <;> rfl
    subst this
    refine ⟨_, fin hA hr ⟨_, _, _, rfl⟩, .of_VR ?_⟩
    simp
    generalize imx.isSome = q
    cases q <;> exact .plain _ _ .sliceNil
  | slice b of n cap sz' _ f hn' hcap hrow hcell hrel =>
    obtain ⟨m', hm', hr⟩ := key n cap hn'.symm hcap (some ⟨b, of, none⟩)
    refine ⟨_, fin hA hr ⟨_, _, _, rfl⟩, .of_VR ?_⟩
    have hm'h : h ≤ m' := by rw [hm']; split <;> omega
    have hpr : PR gh.S w (.slice (if m' = l0 then some ⟨b, of, none⟩ else (some (⟨b, of, none⟩ : Addr)).map (·.add (l0 * sz))) (h - l0) (m' - l0)) (.slice ((e.take h).drop l0) false) := by
      by_cases hml0 : m' = l0
      · rw [if_pos hml0]
        have : h - l0 = 0 := by omega
        rw [this]
        exact PR.none_part (by omega)
      · rw [if_neg hml0, Option.map_some, addr_add]
        by_cases hl00 : l0 = 0
        · have := PR.part hp0 (sz := sz') (fun _ => hrow) hlh (c := m' - l0) (by omega) (by omega)
          rw [hl00, Nat.zero_mul] at this ⊢
          exact this
        · refine PR.part hp0 (fun hne i r hi => ?_) hlh (by omega) (by omega)
          have hloN : ¬ (ilo = none) := by
            rintro rfl
            rcases bl with ⟨_, _, e2⟩ | ⟨e1, _⟩
            · exact hl00 e2
            · cases e1
          have := headOk_inv (hn2.resolve_left hloN) hrow hne
          rw [hrow i r hi, this]
    generalize hq : ((Option.map (fun x => IArg.eval G s.T x) imx).isSome && m.beq h && solid e) = q
    cases q
    · exact .plain _ _ hpr
    · simp only [Bool.and_eq_true, Option.isSome_map, nbeq, decide_eq_true_eq] at hq
      have hne : imx ≠ none := by rintro rfl; simp at hq
      have : m' = h := by rw [hm', if_neg hne]; exact hq.1.2
      subst this
      refine .full _ _ _ hpr (fun ad ha _ => ?_)
      have hbk : ad.block = b := by
        split at ha
        · injection ha with ha; rw [← ha]
        · rw [Option.map_some, addr_add] at ha; injection ha with ha; rw [← ha]
      rw [hbk]
      obtain ⟨x, r, e2, rfl⟩ : ∃ x r e2, e = (x :: r) :: e2 := by
        have hs := hq.2
        unfold solid at hs
        split at hs
        · exact ⟨_, _, _, rfl⟩
        · cases hs
      exact hW.sLt b _ (hcell 0 0 _ x rfl rfl).1

theorem chunks_get (sz : Nat) : ∀ (n : Nat) (l : List AV) (i : Nat), (chunks sz n l)[i]? = if i < n then some ((l.drop (i * sz)).take sz) else none
  | 0, l, i => by simp [chunks]
  | n + 1, l, 0 => by simp [chunks]
  | n + 1, l, i + 1 => by
    simp only [chunks, List.getElem?_cons_succ, chunks_get sz n, List.drop_drop, Nat.add_lt_add_iff_right]
    congr 3
    rw [Nat.add_mul, Nat.one_mul, Nat.add_comm]

theorem chunks_len (sz : Nat) : ∀ (n : Nat) (l : List AV), (chunks sz n l).length = n
  | 0, l => rfl
  | n + 1, l => by simp [chunks, chunks_len sz n]

theorem PR.chunks {S : Nat → Nat → Prop} {b o n sz : Nat} {cs : List AV} (hv : PR S w (.pointer (some ⟨b, o, none⟩)) (.eptr cs)) (hl : cs.length = n * sz) :
    PR S w (.slice (some ⟨b, o, none⟩) n n) (.slice (chunks sz n cs) false) := by
  cases hv with
  | eptr _ _ _ f hcell hrel =>
    have idx : ∀ (i j : Nat) (r : List AV) (x : AV), (Abs.chunks sz n cs)[i]? = some r → r[j]? = some x → cs[i * sz + j]? = some x := by
      intro i j r x hi hj
      rw [chunks_get] at hi
      split at hi
      · injection hi with hi
        subst hi
        rw [List.getElem?_take, List.getElem?_drop] at hj
        split at hj
        · exact hj
        · cases hj
      · cases hi
    refine .slice b o n n sz _ (fun i j => f (i * sz + j)) (chunks_len sz n cs) (Nat.le_refl _) ?_ ?_ ?_
    · intro i r hi
      rw [chunks_get] at hi
      split at hi
      · rename_i hlt
        injection hi with hi
        subst hi
        have : (i + 1) * sz ≤ n * sz := Nat.mul_le_mul_right _ hlt
        rw [Nat.add_mul] at this
        simp; omega
      · cases hi
    · intro i j r x hi hj
      rw [Nat.add_assoc]
      exact hcell _ x (idx i j r x hi hj)
    · intro i j r x hi hj
      exact hrel _ x (idx i j r x hi hj)

theorem ev_slice_arr (hW : WRel G base s.H gh w) (hF : FR L nt gh w a s) {o : Oper} {t e0 : TypeId} {x : Operand} {lo hi mx : Option Operand} {ix : IArg} {ilo ihi imx : Option IArg} {n sz : Nat} {z : AV}
    (ho : o.op = .slice t x lo hi mx) (hc : compArg nt x = some ix) (h1 : optArg nt lo = some ilo) (h2 : optArg nt hi = some ihi) (h3 : optArg nt mx = some imx) (hu : P.underlying t = some (.array n e0)) (hs : sizeT P e0 = some sz) (h0 : 0 < sz)
    (he : sliceAV (.arr n sz) (ix.eval G s.T) (ilo.map (·.eval G s.T)) (ihi.map (·.eval G s.T)) (imx.map (·.eval G s.T)) = some z) :
    ∃ v, (execOp a.eval o).run P w = .ok (.value v) w ∧ Val gh s.H.length nt w s.T s.gen (tmv a) v z := by
  generalize hz : ix.eval G s.T = X at he
  cases X <;> simp only [sliceAV, reduceCtorEq] at he
  rename_i cs
  obtain ⟨hlen, he⟩ := cond_some he
  simp only [Option.bind_eq_some_iff] at he
  obtain ⟨h, hh, l0, hl, he⟩ := he
  obtain ⟨hn, he⟩ := cond_some he
  injection he with he
  subst he
  have hlen' : cs.length = n * sz := by simpa [nbeq] using hlen
  have hp := VR.inv_eptr (arg_VR hW hF hc hz rfl)
  have hmn : mx.map a.eval = none := by
    cases mx with
    | none => rfl
    | some m => simp only [optArg, Option.map_eq_some_iff] at h3; obtain ⟨_, _, rfl⟩ := h3; simp at hn
  have bh := bound_inv hW hF h2 hh
  have bl := bound_inv hW hF h1 hl
  have hlh : l0 ≤ h := by rcases bl with ⟨_, _, e⟩ | ⟨_, e, _⟩ <;> omega
  have hhn : h ≤ n := by rcases bh with ⟨_, _, e⟩ | ⟨_, e, _⟩ <;> omega
  have hb : (Instr.sliceBounds false n n (lo.map a.eval) (hi.map a.eval) none).run P w = .ok (l0, h, n) w := by
    refine run_bounds (.inl ⟨rfl, rfl⟩) ?_ ?_
    · rcases bh with ⟨e1, _, e2⟩ | ⟨_, e1, k, e2⟩
      · exact .inl ⟨e1, by omega, rfl⟩
      · exact .inr ⟨by omega, k, e2⟩
    · rcases bl with ⟨e1, _, e2⟩ | ⟨_, e1, k, e2⟩
      · exact .inl ⟨e1, e2⟩
      · exact .inr ⟨e1, k, e2⟩
  generalize hA : a.eval x = V at hp
  have hp0 := hp
  cases hp with
  | eptr b of _ f hcell hrel =>
    refine ⟨.slice (some (if n = l0 then ⟨b, of, none⟩ else (⟨b, of, none⟩ : Addr).add (l0 * sz))) (h - l0) (n - l0), ?_, .of_VR (.plain _ _ ?_)⟩
    · simp [execOp, ho, hA, hmn, Instr.sliceAt, run_underlying hu, Instr.sureAddr, hb, run_sizeOf' hs]
    · have hc := PR.chunks (sz := sz) hp0 hlen'
      by_cases hnl : n = l0
      · have : h - l0 = 0 := by omega
        rw [this]
        simp only [hnl, if_true]
        rw [← hnl]
        exact PR.none_part (by omega)
      · rw [if_neg hnl, addr_add]
        refine PR.part hc (fun _ i r hi => ?_) hlh hhn (by omega)
        cases hc with
        | slice _ _ _ _ sz' _ f' hn' hcap hrow hcell' hrel' =>
          rw [chunks_get] at hi
          split at hi
          · rename_i hlt
            injection hi with hi
            subst hi
            have : (i + 1) * sz ≤ n * sz := Nat.mul_le_mul_right _ hlt
            rw [Nat.add_mul] at this
            simp; omega
          · cases hi

end
end Go.Abs
