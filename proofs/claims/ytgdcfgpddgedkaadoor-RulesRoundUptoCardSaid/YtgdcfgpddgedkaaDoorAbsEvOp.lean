/-
  Each operation, as it is compiled.
-/
import Derived.Test.YtgdcfgpddgedkaaDoorAbsCall
namespace Go.Abs
set_option linter.unusedSimpArgs false
set_option linter.unusedVariables false

section
variable {P : Program} {G : Nat → List AV} {base nt : Nat} {L : List Nat} {gh : Gh} {w w' : World} {a : Act} {s : AS} {H : AHeap}

theorem isLocal_mem {locals : List Nat} {d : Option Nat} (h : isLocal locals d = true) : ∃ k, d = some k ∧ k ∈ locals := by
  cases d with
  | none => cases h
  | some k => exact ⟨k, rfl, by simpa [isLocal] using h⟩

theorem isTake_mem {l : List Nat} {d : Option Nat} (h : isTake l d = true) : ∃ k, d = some k ∧ k ∈ l := by
  cases d with
  | none => cases h
  | some k => exact ⟨k, rfl, by simpa [isTake] using h⟩

theorem run_call_len {o : Oper} {c : Call} {x : Operand} {t : TypeId} (ho : o.op = .call c) (hcal : c.callee = .builtin .len) (hargs : c.args.toList = [x]) (htys : c.argTypes.toList = [t]) {v : Value}
    (hrun : (Builtin.len_ #[t] o.type #[a.eval x]).run P w = .ok v w') : (execOp a.eval o).run P w = .ok (.value v) w' := by
  have e1 : c.args = #[x] := by apply Array.ext'; simpa using hargs
  have e2 : c.argTypes = #[t] := by apply Array.ext'; simpa using htys
  unfold execOp
  simp only [ho, resolve, hcal, e1, e2, invoke, builtin, Sem.run_bind, Sem.run_pure, Result.andThen_ok, List.map_toArray, List.map_cons, List.map_nil, hrun]

theorem len_slice {k : LenKind} {V : Value} {e : List (List AV)} {z : AV} {t : TypeId} {ao : Option Addr} {cap : Nat} (hV : V = .slice ao e.length cap) (ht : match k with | .str => P.underlying t = some .string | .sl => ∃ e, P.underlying t = some (.slice e) | .arr m => ∃ e, P.underlying t = some (.array m e))
    (he : lenAV k (.slice e false) = some z) (ty : TypeId) {n : Nat} : ∃ v, (Builtin.len_ #[t] ty #[V]).run P w = .ok v w ∧ VR gh n w v z := by
  subst hV
  cases k <;> simp only [lenAV, Option.some.injEq, reduceCtorEq] at he <;> subst he
  · obtain ⟨e', ht⟩ := ht
    exact ⟨.int .i64 e.length, by simp [Builtin.len_, run_underlying ht, goInt], .plain _ _ (.int _ _)⟩
  · obtain ⟨e', ht⟩ := ht
    exact ⟨.int .i64 _, by simp [Builtin.len_, run_underlying ht, goInt], .plain _ _ (.int _ _)⟩

theorem len_arr {m : Nat} {V : Value} {t e : TypeId} (ht : P.underlying t = some (.array m e)) (ty : TypeId) {n : Nat} : ∃ v, (Builtin.len_ #[t] ty #[V]).run P w = .ok v w ∧ VR gh n w v (.int .i64 m) :=
  ⟨.int .i64 _, by simp [Builtin.len_, run_underlying ht, goInt], .plain _ _ (.int _ _)⟩

theorem ev_len (hW : WRel G base s.H gh w) (hF : FR L nt gh w a s) {o : Oper} {c : Call} {x : Operand} {t : TypeId} {y : IArg} {k : LenKind} {z : AV} {s' : Option AS} {cf : CallF}
    (ho : o.op = .call c) (hcal : c.callee = .builtin .len) (hargs : c.args.toList = [x]) (htys : c.argTypes.toList = [t]) (hc : compArg nt x = some y)
    (ht : match k with | .str => P.underlying t = some .string | .sl => ∃ e, P.underlying t = some (.slice e) | .arr m => ∃ e, P.underlying t = some (.array m e))
    (he : evOp G cf s (.len k y) = some (z, s')) : s' = none ∧ ∃ v, (execOp a.eval o).run P w = .ok (.value v) w ∧ Val gh s.H.length nt w s.T s.gen (tmv a) v z := by
  simp only [evOp] at he
  have fin : ∀ {zz : AV}, (∃ v, (Builtin.len_ #[t] o.type #[a.eval x]).run P w = .ok v w ∧ VR gh s.H.length w v zz) → ∃ v, (execOp a.eval o).run P w = .ok (.value v) w ∧ Val gh s.H.length nt w s.T s.gen (tmv a) v zz :=
    fun ⟨v, h1, h2⟩ => ⟨v, run_call_len ho hcal hargs htys h1, .of_VR h2⟩
  split at he
  · rename_i tt g hy
    split at he
    · rename_i g' e hT
      obtain ⟨h0, he⟩ := cond_some he
      have hgg : g = g' := by simpa [nbeq] using h0
      simp only [Option.map_eq_some_iff, Prod.mk.injEq] at he
      obtain ⟨z', hz, rfl, rfl⟩ := he
      refine ⟨rfl, fin ?_⟩
      have hv := arg_val hW hF hc
      rw [hy] at hv
      obtain ⟨hb, _, hr⟩ := (hv : _ ∧ _ ∧ _)
      have hax := hr (by rw [hT, ← hgg]; rfl)
      obtain ⟨ad, cap, hV, _⟩ := sr_lsl hF hb hT
      exact len_slice (hax.trans hV) ht hz o.type
    · cases he
  · simp only [Option.map_eq_some_iff, Prod.mk.injEq] at he
    obtain ⟨z', hz, rfl, rfl⟩ := he
    refine ⟨rfl, fin ?_⟩
    cases k with
    | arr m =>
      obtain ⟨e, ht⟩ := ht
      simp only [lenAV, Option.some.injEq] at hz
      subst hz
      exact len_arr ht o.type
    | _ =>
      have hfr : frameCell (y.addr G s.T) = true := by
        generalize y.addr G s.T = Y at hz
        cases Y <;> first | rfl | (simp [lenAV] at hz)
      exact ev_lenV (arg_VR' hW hF hc rfl hfr) ht hz o.type

theorem evOp_sound {cf : CallF} (hcf : CallsSound P G cf) (hW : WRel G base s.H gh w) (hF : FR L nt gh w a s) {takes locals muts : List Nat} {o : Oper} {io : IOp} (hco : compOp P takes locals muts nt o.dst o.op = some io)
    (hLl : ∀ x, x ∈ locals → x ∈ L) (hLm : ∀ x, x ∈ muts → x ∈ L) {z : AV} {s' : Option AS} (he : evOp G cf s io = some (z, s')) (hd : ∀ k, o.dst = some k → k < nt) (K : Act → World → Prop) (Q : Exit → Act → World → Prop)
    (hK : ∀ v' gh' w', Out G base nt L gh w a s o.dst z (s'.getD s) v' gh' w' → K (a.put o.dst v') w') : o.wp P a w K Q := by
  have fin : s' = none → (∃ v, (execOp a.eval o).run P w = .ok (.value v) w ∧ Val gh s.H.length nt w s.T s.gen (tmv a) v z) → o.wp P a w K Q := by
    rintro rfl ⟨v, h1, h2⟩
    exact Ran.wp (.inl h1) (hK v gh w (Out.pure hW hF hd h2))
  have fin2 : (∃ v' gh' w', Ran P a o w v' w' ∧ Out G base nt L gh w a s o.dst z (s'.getD s) v' gh' w') → o.wp P a w K Q := by
    rintro ⟨v', gh', w', h1, h2⟩
    exact Ran.wp h1 (hK v' gh' w' h2)
  have hmov : ∀ x y, (o.op = .move x ∨ o.op = .assign x) → compArg nt x = some y → io = .mov (isTake takes o.dst) (isTake muts o.dst) y → o.wp P a w K Q := by
    intro x y ho hc hio
    subst hio
    simp only [evOp] at he
    cases s' with
    | none =>
      refine fin rfl ⟨a.eval x, ?_, ev_mov hW hF hc he⟩
      rcases ho with ho | ho <;> simp [execOp, ho]
    | some s' =>
      refine fin2 (ev_mov_state hW hF ho hc he hd (fun h k hk => ?_))
      obtain ⟨k', h1, h2⟩ := isTake_mem h
      rw [h1] at hk; injection hk with hk; subst hk
      exact hLm _ h2
  cases hop : o.op with
  | move x =>
    rw [hop] at hco
    simp only [compOp, Option.map_eq_some_iff] at hco
    obtain ⟨y, hc, rfl⟩ := hco
    exact hmov x y (.inl hop) hc rfl
  | assign x =>
    rw [hop] at hco
    simp only [compOp, Option.map_eq_some_iff] at hco
    obtain ⟨y, hc, rfl⟩ := hco
    exact hmov x y (.inr hop) hc rfl
  | pick c x y =>
    rw [hop] at hco
    simp only [compOp, Option.bind_eq_some_iff, Option.map_eq_some_iff] at hco
    obtain ⟨ic, hc, ix, hx, iy, hy, rfl⟩ := hco
    simp only [evOp] at he
    split at he
    · rename_i t ht
      simp only [Option.some.injEq, Prod.mk.injEq] at he
      obtain ⟨rfl, rfl⟩ := he
      exact fin rfl (ev_pick hW hF hop hc hx hy ht)
    · cases he
  | alloc t =>
    rw [hop] at hco
    simp only [compOp, Option.bind_eq_some_iff] at hco
    obtain ⟨zz, hz, hco⟩ := hco
    cases hl : isLocal locals o.dst with
    | true =>
      rw [hl] at hco
      simp only [cond_true, Option.some.injEq] at hco
      subst hco
      simp only [evOp, Option.some.injEq, Prod.mk.injEq] at he
      obtain ⟨rfl, rfl⟩ := he
      obtain ⟨k, hk, hkl⟩ := isLocal_mem hl
      exact fin2 (ev_allocL hW hF hop hz (fun k' hk' => ⟨hd k' hk', by rw [hk] at hk'; injection hk' with e; subst e; exact hLl _ hkl⟩))
    | false =>
      rw [hl] at hco
      simp only [cond_false, Option.some.injEq] at hco
      subst hco
      simp only [evOp, Option.some.injEq, Prod.mk.injEq] at he
      obtain ⟨rfl, rfl⟩ := he
      exact fin2 (ev_allocH hW hF hop hz hd)
  | box t x =>
    rw [hop] at hco
    simp only [compOp, Option.map_eq_some_iff] at hco
    obtain ⟨y, hc, rfl⟩ := hco
    simp only [evOp, Option.bind_eq_some_iff] at he
    obtain ⟨cs, hcs, he⟩ := he
    obtain ⟨h0, he⟩ := cond_some he
    simp only [Option.some.injEq, Prod.mk.injEq] at he
    obtain ⟨rfl, rfl⟩ := he
    exact fin2 (ev_box hW hF hop hc hcs h0 hd)
  | build t parts =>
    rw [hop] at hco
    simp only [compOp, Option.bind_eq_some_iff] at hco
    obtain ⟨zz, hz, hco⟩ := hco
    split at hco
    · rename_i fs hu
      obtain ⟨h0, hco⟩ := cond_some hco
      simp only [Option.map_eq_some_iff] at hco
      obtain ⟨ps, hp, rfl⟩ := hco
      simp only [evOp, Option.map_eq_some_iff, Prod.mk.injEq] at he
      obtain ⟨Z, hZ, rfl, rfl⟩ := he
      exact fin rfl (ev_build_struct hW hF hop hz hu hp (Option.isSome_iff_exists.1 h0) hZ)
    · rename_i n e hu
      simp only [Option.bind_eq_some_iff, Option.map_eq_some_iff] at hco
      obtain ⟨sz, hs, ps, hp, rfl⟩ := hco
      simp only [evOp, Option.map_eq_some_iff, Prod.mk.injEq] at he
      obtain ⟨Z, hZ, rfl, rfl⟩ := he
      exact fin rfl (ev_build_array hW hF hop hz hu hs hp hZ)
    · cases hco
  | buildSlice t len parts =>
    rw [hop] at hco
    simp only [compOp] at hco
    split at hco
    · rename_i e hu
      simp only [Option.bind_eq_some_iff] at hco
      obtain ⟨sz, hs, zz, hz, ps, hp, hco⟩ := hco
      obtain ⟨h0, hco⟩ := cond_some hco
      injection hco with hco
      subst hco
      simp only [Bool.and_eq_true, Nat.ble_eq, nbeq, decide_eq_true_eq, Nat.blt_eq] at h0
      simp only [evOp, Option.bind_eq_some_iff] at he
      obtain ⟨E, hE, he⟩ := he
      obtain ⟨hok, he⟩ := cond_some he
      simp only [Option.some.injEq, Prod.mk.injEq] at he
      obtain ⟨rfl, rfl⟩ := he
      exact fin2 (ev_mkslice hW hF hop hu hs hz hp hok (fun h => Nat.eq_of_beq_eq_true h) h0.1.1 h0.1.2 h0.2 hE hd)
    · cases hco
  | load t x =>
    rw [hop] at hco
    simp only [compOp, Option.bind_eq_some_iff, Option.map_eq_some_iff] at hco
    obtain ⟨y, hc, g, hg, sz, hs, rfl⟩ := hco
    simp only [evOp] at he
    cases s' with
    | none =>
      obtain ⟨v, h1, h2⟩ := ev_load (P := P) hW hF hc hg hs he
      exact fin rfl ⟨v, by simp [execOp, hop, h1], h2⟩
    | some s' => exact fin2 (ev_load_take hW hF hop hc hg hs he hd)
  | store t x y =>
    rw [hop] at hco
    simp only [compOp, Option.bind_eq_some_iff, Option.map_eq_some_iff] at hco
    obtain ⟨ya, hca, yv, hcv, sz, hs, rfl⟩ := hco
    simp only [evOp, Option.map_eq_some_iff, Prod.mk.injEq] at he
    obtain ⟨s1, he, rfl, rfl⟩ := he
    exact fin2 (ev_store hW hF hop hca hcv hs he hd)
  | nilCheck x =>
    rw [hop] at hco
    simp only [compOp, Option.map_eq_some_iff] at hco
    obtain ⟨y, hc, rfl⟩ := hco
    simp only [evOp] at he
    obtain ⟨h0, he⟩ := cond_some he
    simp only [Option.some.injEq, Prod.mk.injEq] at he
    obtain ⟨rfl, rfl⟩ := he
    exact fin rfl (ev_nilCheck hW hF hop hc h0)
  | binOp op t x y u =>
    rw [hop] at hco
    simp only [compOp, Option.bind_eq_some_iff, Option.map_eq_some_iff] at hco
    obtain ⟨ix, hx, iy, hy, rfl⟩ := hco
    simp only [evOp, Option.map_eq_some_iff, Prod.mk.injEq] at he
    obtain ⟨z', hz, rfl, rfl⟩ := he
    exact fin rfl (ev_bin hW hF hop hx hy hz)
  | unOp op t x =>
    rw [hop] at hco
    simp only [compOp, Option.map_eq_some_iff] at hco
    obtain ⟨y, hc, rfl⟩ := hco
    simp only [evOp, Option.map_eq_some_iff, Prod.mk.injEq] at he
    obtain ⟨z', hz, rfl, rfl⟩ := he
    exact fin rfl (ev_un hW hF hop hc hz)
  | convert st dt x =>
    rw [hop] at hco
    simp only [compOp, Option.bind_eq_some_iff] at hco
    obtain ⟨y, hc, hco⟩ := hco
    split at hco
    · rename_i k' k h1 h2
      injection hco with hco
      subst hco
      simp only [evOp, Option.map_eq_some_iff, Prod.mk.injEq] at he
      obtain ⟨z', hz, rfl, rfl⟩ := he
      exact fin rfl (ev_toInt hW hF hop hc h1 h2 hz)
    · rename_i h1 h2
      injection hco with hco
      subst hco
      simp only [evOp, Option.map_eq_some_iff, Prod.mk.injEq] at he
      obtain ⟨z', hz, rfl, rfl⟩ := he
      exact fin rfl (ev_strSame hW hF hop hc h1 h2 hz)
    · rename_i e h1 h2
      split at hco
      · rename_i hE
        injection hco with hco
        subst hco
        simp only [evOp, Option.map_eq_some_iff, Prod.mk.injEq] at he
        obtain ⟨z', hz, rfl, rfl⟩ := he
        exact fin rfl (ev_bytesStr hW hF hop hc h1 hE h2 hz)
      · cases hco
    · cases hco
  | makeInterface t x =>
    rw [hop] at hco
    simp only [compOp, Option.bind_eq_some_iff] at hco
    obtain ⟨y, hc, hco⟩ := hco
    split at hco
    · cases hco
    · rename_i d hn hu
      injection hco with hco
      subst hco
      simp only [evOp, Option.map_eq_some_iff, Prod.mk.injEq] at he
      obtain ⟨z', hz, rfl, rfl⟩ := he
      exact fin rfl (ev_mkiface hW hF hop hc ⟨_, hu, fun m h => hn m h⟩ hz)
    · cases hco
  | makeFunc f first captured =>
    rw [hop] at hco
    simp only [compOp, Option.bind_eq_some_iff, Option.map_eq_some_iff] at hco
    obtain ⟨fs, h1, cs, h2, rfl⟩ := hco
    simp only [evOp] at he
    obtain ⟨h0, he⟩ := cond_some he
    simp only [Option.some.injEq, Prod.mk.injEq] at he
    obtain ⟨rfl, rfl⟩ := he
    simp only [Bool.and_eq_true] at h0
    exact fin rfl (ev_mkfunc hW hF hop h1 h2 h0.1 h0.2)
  | slice t x lo hi mx =>
    rw [hop] at hco
    simp only [compOp, Option.bind_eq_some_iff] at hco
    obtain ⟨ix, hc, ilo, h1, ihi, h2, imx, h3, hco⟩ := hco
    split at hco
    · rename_i hu
      injection hco with hco
      subst hco
      simp only [evOp, Option.map_eq_some_iff, Prod.mk.injEq] at he
      obtain ⟨z', hz, rfl, rfl⟩ := he
      exact fin rfl (ev_slice_str hW hF hop hc h1 h2 h3 hu hz)
    · rename_i e hu
      simp only [Option.map_eq_some_iff] at hco
      obtain ⟨sz, hs, rfl⟩ := hco
      simp only [evOp, Option.map_eq_some_iff, Prod.mk.injEq] at he
      obtain ⟨z', hz, rfl, rfl⟩ := he
      exact fin rfl (ev_slice_sl hW hF hop hc h1 h2 h3 hu hs hz)
    · rename_i n e hu
      simp only [Option.bind_eq_some_iff] at hco
      obtain ⟨sz, hs, hco⟩ := hco
      obtain ⟨h0, hco⟩ := cond_some hco
      injection hco with hco
      subst hco
      simp only [evOp, Option.map_eq_some_iff, Prod.mk.injEq] at he
      obtain ⟨z', hz, rfl, rfl⟩ := he
      exact fin rfl (ev_slice_arr hW hF hop hc h1 h2 h3 hu hs (by simpa [Nat.blt_eq] using h0) hz)
    · cases hco
  | fieldAddr t x f =>
    rw [hop] at hco
    simp only [compOp, Option.bind_eq_some_iff] at hco
    obtain ⟨ix, hc, hco⟩ := hco
    split at hco
    · rename_i fs hu
      simp only [Option.bind_eq_some_iff] at hco
      obtain ⟨q, hq, sz, hs, hco⟩ := hco
      obtain ⟨h0, hco⟩ := cond_some hco
      injection hco with hco
      subst hco
      simp only [evOp] at he
      obtain ⟨hl, he⟩ := cond_some he
      simp only [Option.map_eq_some_iff, Prod.mk.injEq] at he
      obtain ⟨z', hz, rfl, rfl⟩ := he
      exact fin rfl (ev_fieldAddr hW hF hop hc hu hq hs (by simpa [Nat.blt_eq] using h0) hl hz)
    · cases hco
  | field t x f =>
    rw [hop] at hco
    simp only [compOp, Option.bind_eq_some_iff] at hco
    obtain ⟨ix, hc, hco⟩ := hco
    split at hco
    · rename_i fs hu
      simp only [Option.bind_eq_some_iff, Option.map_eq_some_iff] at hco
      obtain ⟨q, hq, sz, hs, g, hg, rfl⟩ := hco
      simp only [evOp] at he
      split at he
      · rename_i cs hz
        simp only [Option.map_eq_some_iff, Prod.mk.injEq] at he
        obtain ⟨z', hl, rfl, rfl⟩ := he
        exact fin rfl (ev_field hW hF hop hc hu hq hs hg hz hl)
      · cases he
    · cases hco
  | indexAddr t x i =>
    rw [hop] at hco
    simp only [compOp, Option.bind_eq_some_iff] at hco
    obtain ⟨ix, hc, ii, hi, hco⟩ := hco
    split at hco
    · rename_i e hu
      simp only [Option.map_eq_some_iff] at hco
      obtain ⟨sz, hs, rfl⟩ := hco
      simp only [evOp] at he
      split at he
      · rename_i el own hy
        simp only [Option.bind_eq_some_iff] at he
        obtain ⟨k, hk, r, hr, he⟩ := he
        obtain ⟨h0, he⟩ := cond_some he
        simp only [Option.some.injEq, Prod.mk.injEq] at he
        obtain ⟨rfl, rfl⟩ := he
        exact fin rfl (ev_ixSl hW hF hop hc hi hu hs hk hy hr (by simpa [nbeq] using h0))
      · rename_i l of m hy
        simp only [Option.bind_eq_some_iff] at he
        obtain ⟨k, hk, he⟩ := he
        obtain ⟨h0, he⟩ := cond_some he
        simp only [Option.some.injEq, Prod.mk.injEq] at he
        obtain ⟨rfl, rfl⟩ := he
        exact fin rfl (ev_ixSref hW hF hop hc hi hu hs hk hy (by simpa [Nat.blt_eq] using h0))
      · rename_i b g hy
        split at he
        · rename_i g' el hT
          obtain ⟨h0, he⟩ := cond_some he
          have hgg : g = g' := by simpa [nbeq] using h0
          simp only [Option.bind_eq_some_iff] at he
          obtain ⟨k, hk, r, hr, he⟩ := he
          obtain ⟨h0, he⟩ := cond_some he
          simp only [Option.some.injEq, Prod.mk.injEq] at he
          obtain ⟨rfl, rfl⟩ := he
          exact fin rfl (ev_ixLsr hW hF hop hc hi hu hs hk hy (by rw [hT, hgg]) hr (by simpa [nbeq] using h0))
        · cases he
      · cases he
    · rename_i n e hu
      simp only [Option.map_eq_some_iff] at hco
      obtain ⟨sz, hs, rfl⟩ := hco
      simp only [evOp, Option.bind_eq_some_iff] at he
      obtain ⟨k, hk, he⟩ := he
      obtain ⟨h0, he⟩ := cond_some he
      simp only [Bool.and_eq_true, Nat.blt_eq] at h0
      simp only [Option.map_eq_some_iff, Prod.mk.injEq] at he
      obtain ⟨z', hz, rfl, rfl⟩ := he
      exact fin rfl (ev_ixArr hW hF hop hc hi hu hs hk h0.1 h0.2 hz)
    · cases hco
  | index t x i =>
    rw [hop] at hco
    simp only [compOp, Option.bind_eq_some_iff] at hco
    obtain ⟨ix, hc, ii, hi, hco⟩ := hco
    split at hco
    · rename_i hu
      injection hco with hco
      subst hco
      simp only [evOp] at he
      split at he
      · rename_i l hz
        simp only [Option.bind_eq_some_iff, Option.map_eq_some_iff, Prod.mk.injEq] at he
        obtain ⟨k, hk, b, hb, rfl, rfl⟩ := he
        exact fin rfl (ev_indexStr hW hF hop hc hi hu hk hz hb)
      · cases he
    · rename_i n e hu
      simp only [Option.bind_eq_some_iff, Option.map_eq_some_iff] at hco
      obtain ⟨sz, hs, g, hg, rfl⟩ := hco
      simp only [evOp, Option.bind_eq_some_iff] at he
      obtain ⟨k, hk, he⟩ := he
      obtain ⟨h0, he⟩ := cond_some he
      split at he
      · rename_i cs hz
        simp only [Option.map_eq_some_iff, Prod.mk.injEq] at he
        obtain ⟨z', hl, rfl, rfl⟩ := he
        exact fin rfl (ev_index hW hF hop hc hi hu hs hg hk (by simpa [Nat.blt_eq] using h0) hz hl)
      · cases he
    · cases hco
  | extract x i =>
    rw [hop] at hco
    simp only [compOp, Option.map_eq_some_iff] at hco
    obtain ⟨y, hc, rfl⟩ := hco
    simp only [evOp] at he
    split at he
    · rename_i vs hz
      simp only [Option.map_eq_some_iff, Prod.mk.injEq] at he
      obtain ⟨z', hz', rfl, rfl⟩ := he
      exact fin rfl (ev_extract hW hF hop hc hz hz')
    · cases he
  | call c =>
    rw [hop] at hco
    simp only [compOp, compCall] at hco
    split at hco
    · rename_i fx hcal
      simp only [Option.bind_eq_some_iff, Option.map_eq_some_iff] at hco
      obtain ⟨yf, hcx, ys, hcy, rfl⟩ := hco
      simp only [evOp] at he
      split at he
      · rename_i f fs cs hfun
        obtain ⟨h0, he⟩ := cond_some he
        simp only [Option.map_eq_some_iff, Prod.mk.injEq] at he
        obtain ⟨⟨r, ch⟩, hr, rfl, rfl⟩ := he
        exact ev_call hcf hW hF hop hcal hcx hcy hfun h0 hr hd K Q hK
      · cases he
    · rename_i hcal
      split at hco
      · rename_i x t hargs htys
        simp only [Option.bind_eq_some_iff] at hco
        obtain ⟨y, hc, hco⟩ := hco
        split at hco
        · rename_i hu
          injection hco with hco
          subst hco
          obtain ⟨h1, h2⟩ := ev_len (P := P) hW hF hop hcal hargs htys hc (k := .str) hu he
          exact fin h1 h2
        · rename_i e hu
          injection hco with hco
          subst hco
          obtain ⟨h1, h2⟩ := ev_len (P := P) hW hF hop hcal hargs htys hc (k := .sl) ⟨_, hu⟩ he
          exact fin h1 h2
        · rename_i n e hu
          injection hco with hco
          subst hco
          obtain ⟨h1, h2⟩ := ev_len (P := P) hW hF hop hcal hargs htys hc (k := .arr n) ⟨_, hu⟩ he
          exact fin h1 h2
        · cases hco
      · cases hco
    · rename_i hcal
      split at hco
      · rename_i x y t u hargs htys
        simp only [Option.bind_eq_some_iff] at hco
        obtain ⟨yx, hcx, yy, hcy, hco⟩ := hco
        have go : ∀ e, P.underlying t = some (.slice e) → ((∃ e', P.underlying u = some (.slice e')) ∨ P.underlying u = some .string) →
            ((P.info? e).bind fun i => cond (Nat.blt 0 i.size && (i.zero.map fun z => Nat.beq z.cells.size i.size).getD false) (some (IOp.append (Nat.beq e byteTy) (isTake muts o.dst) i.size i.bytes yx yy)) none) = some io → o.wp P a w K Q := by
          intro e ht hu hco
          simp only [Option.bind_eq_some_iff] at hco
          obtain ⟨i, hi, hco⟩ := hco
          obtain ⟨h0, hco⟩ := cond_some hco
          injection hco with hco
          subst hco
          simp only [Bool.and_eq_true, Nat.blt_eq] at h0
          obtain ⟨h0, h1⟩ := h0
          have hT : ElemT P t e i.size i.bytes := by
            cases hz : i.zero with
            | none => rw [hz] at h1; cases h1
            | some zv => rw [hz] at h1; exact ⟨ht, ⟨i, zv, hi, hz, rfl, rfl, by simpa [nbeq] using h1⟩, h0⟩
          simp only [evOp] at he
          refine fin2 (ev_append hW hF hop hcal hargs htys hT (fun h => Nat.eq_of_beq_eq_true h) hu hcx hcy he hd (fun h k hk => ?_))
          obtain ⟨k', h1, h2⟩ := isTake_mem h
          rw [h1] at hk; injection hk with hk; subst hk
          exact hLm _ h2
        split at hco
        · rename_i e e' ht hu
          exact go e ht (.inl ⟨_, hu⟩) hco
        · rename_i e ht hu
          exact go e ht (.inr hu) hco
        · cases hco
      · cases hco
    · cases hco
  | _ => rw [hop] at hco; simp [compOp] at hco

end
end Go.Abs
