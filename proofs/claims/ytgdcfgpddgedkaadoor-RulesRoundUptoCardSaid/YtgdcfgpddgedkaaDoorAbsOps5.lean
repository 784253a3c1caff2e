/-
  Operations that reckon: numbers, strings, comparisons.
-/
import Derived.Test.YtgdcfgpddgedkaaDoorAbsOps4
namespace Go.Abs
set_option linter.unusedSimpArgs false
set_option linter.unusedVariables false

section
variable {P : Program} {G : Nat → List AV} {base nt : Nat} {L : List Nat} {gh : Gh} {w : World} {a : Act} {s : AS}

theorem run_eqGuard_other {op : BinOp} {t : TypeId} {x y : Operand} {u v : Value} (h1 : ∀ c, u ≠ .agg c) (h2 : u ≠ .nilIface ∨ v ≠ .nilIface) : (eqGuard op t x y u v).run P w = .ok () w := by
  have key : ∀ (op : BinOp), op = .eql ∨ op = .neq ∨ (eqGuard op t x y u v) = pure () := by
    intro op
    cases op <;> first | exact .inl rfl | exact .inr (.inl rfl) | exact .inr (.inr rfl)
  have k2 : ∀ op, op = BinOp.eql ∨ op = .neq → (eqGuard op t x y u v).run P w = .ok () w := by
    rintro op (rfl | rfl) <;> simp only [eqGuard, Bool.not_true, Bool.false_eq_true, if_false] <;>
      (cases u <;> first | rfl | exact absurd rfl (h1 _) | skip) <;> (cases v <;> first | rfl | (simp at h2))
  rcases key op with h | h | h
  · exact k2 op (.inl h)
  · exact k2 op (.inr h)
  · rw [h]; rfl

theorem binInt_run {op : BinOp} {k : IntKind} {m n : Int} {z : AV} (h : binInt op k m n = some z) (t : TypeId) : ∃ v, (binOp op t (.int k m) (.int k n)).run P w = .ok v w ∧ PR gh.S w v z := by
  unfold binInt at h
  cases op <;> simp only [reduceCtorEq, Option.some.injEq] at h
  case quo => 
    rcases Bool.eq_false_or_eq_true (decide (n = 0)) with hb | hb <;> rw [hb] at h <;> simp at h
    subst h
    have hn : ¬ n = 0 := by simpa using hb
    exact ⟨_, by simp [binOp, Op.intDiv, hn], .int _ _⟩
  case rem => 
    rcases Bool.eq_false_or_eq_true (decide (n = 0)) with hb | hb <;> rw [hb] at h <;> simp at h
    subst h
    have hn : ¬ n = 0 := by simpa using hb
    exact ⟨_, by simp [binOp, Op.intDiv, hn], .int _ _⟩
  all_goals
    subst h
    first
      | exact ⟨_, by simp [binOp, Op.intArith], .int _ _⟩
      | exact ⟨_, by simp [binOp, Op.intCmp], .bool _⟩

theorem binStr_run {op : BinOp} {x y : ByteArray} {z : AV} (h : binStr op x.data.toList y.data.toList = some z) (t : TypeId) : ∃ v, (binOp op t (.string x) (.string y)).run P w = .ok v w ∧ PR gh.S w v z := by
  have hx := ByteArray.toList_eq x
  have hy := ByteArray.toList_eq y
  unfold binStr at h
  cases op <;> simp only [reduceCtorEq, Option.some.injEq] at h
  case add =>
    obtain ⟨h1, h2⟩ := cond_some h
    injection h2 with h2
    subst h2
    have h1' : x.size + y.size ≤ 4611686018427387904 := by simpa using h1
    have h3 : ¬ (((x.size + y.size : Nat) : Int) > IntKind.i64.max) := by
      have : IntKind.i64.max = 9223372036854775807 := by decide
      rw [this]; omega
    exact ⟨.string (x ++ y), by simp only [binOp, Op.stringOp]; rw [if_neg h3]; rfl, .str _ _ (by simp)⟩
  all_goals
    subst h
    exact ⟨_, by simp [binOp, Op.stringOp, hx, hy], .bool _⟩

theorem eqFlat_append : ∀ (k ks : List CK) (X Y : List AV) (b : Bool), eqFlat (k ++ ks) X Y = some b →
    ∃ b1 b2, eqFlat k X Y = some b1 ∧ eqFlat ks (X.drop k.length) (Y.drop k.length) = some b2 ∧ b = (b1 && b2)
  | [], ks, X, Y, b, h => ⟨true, b, rfl, by simpa using h, by simp⟩
  | c :: k, ks, X, Y, b, h => by
    have step : ∀ (e : Bool) (X' Y' : List AV), (eqFlat (k ++ ks) X' Y').map (e && ·) = some b → ∃ b1 b2, (eqFlat k X' Y').map (e && ·) = some b1 ∧ eqFlat ks (X'.drop k.length) (Y'.drop k.length) = some b2 ∧ b = (b1 && b2) := by
      intro e X' Y' h
      simp only [Option.map_eq_some_iff] at h
      obtain ⟨b', hb', rfl⟩ := h
      obtain ⟨b1, b2, h1, h2, rfl⟩ := eqFlat_append k ks X' Y' b' hb'
      exact ⟨e && b1, b2, by simp [h1], h2, by rw [Bool.and_assoc]⟩
    cases c <;> cases X <;> try (cases h; done)
    all_goals (rename_i x X'; cases x <;> try (cases h; done))
    all_goals (cases Y <;> try (cases h; done))
    all_goals (rename_i y Y'; cases y <;> try (cases h; done))
    · exact step _ _ _ h
    · simp only [List.cons_append, eqFlat] at h
      obtain ⟨h0, h⟩ := cond_some h
      obtain ⟨b1, b2, h1, h2, h3⟩ := step _ _ _ h
      exact ⟨b1, b2, by simp only [eqFlat]; rw [h0]; exact h1, h2, h3⟩
    · exact step _ _ _ h

theorem eqFlat_take : ∀ (k : List CK) (X Y : List AV) (n : Nat), k.length ≤ n → eqFlat k (X.take n) (Y.take n) = eqFlat k X Y
  | [], X, Y, n, _ => rfl
  | c :: k, [], Y, n, h => by rw [List.take_nil]; cases c <;> rfl
  | c :: k, x :: X, [], n, h => by
    obtain ⟨m, rfl⟩ : ∃ m, n = m + 1 := ⟨n - 1, by simp at h; omega⟩
    rw [List.take_nil, List.take_succ_cons]; cases c <;> cases x <;> rfl
  | c :: k, x :: X, y :: Y, n, h => by
    obtain ⟨m, rfl⟩ : ∃ m, n = m + 1 := ⟨n - 1, by simp at h; omega⟩
    have ih := eqFlat_take k X Y m (by simp at h; omega)
    rw [List.take_succ_cons, List.take_succ_cons]
    cases c <;> cases x <;> first | rfl | (cases y <;> first | rfl | simp only [eqFlat, ih])

/-- Two rows of cells, read. -/
def Row (gh : Gh) (n : Nat) (w : World) (cs : Array Value) (X : List AV) : Prop :=
  cs.size = X.length ∧ ∀ (j : Nat) (v : Value) (x : AV), cs[j]? = some v → X[j]? = some x → VR gh n w v x

theorem Row.extract {n : Nat} {cs : Array Value} {X : List AV} (h : Row gh n w cs X) (o k : Nat) : Row gh n w (cs.extract o (o + k)) ((X.drop o).take k) := by
  refine ⟨by have := h.1; simp; omega, fun j v x hj hx => ?_⟩
  rw [Array.getElem?_extract] at hj
  rw [List.getElem?_take, List.getElem?_drop] at hx
  split at hj
  · split at hx
    · exact h.2 _ v x hj hx
    · cases hx
  · cases hj

theorem aggT_scalar {t : TypeId} {d : TypeDesc} (h : P.underlying t = some d) (hd : (match d with | .struct _ => true | .array _ _ => true | _ => false) = false) : aggT P t = some false := by
  unfold aggT; rw [h]; simp [hd]; cases d <;> simp_all

theorem eqFlat_cell {n : Nat} {c : CK} {t : TypeId} {D o : Nat} {cs ds : Array Value} {X Y : List AV} {b : Bool} (hX : Row gh n w cs X) (hY : Row gh n w ds Y) (hD : 1 ≤ D)
    (ht : match c with | .b => P.underlying t = some .bool | .i => ∃ k, P.underlying t = some (.int k) | .s => P.underlying t = some .string)
    (h : eqFlat [c] (X.drop o) (Y.drop o) = some b) : ∃ u v, (part t cs o).run P w = .ok u w ∧ (part t ds o).run P w = .ok v w ∧ (Op.equalIn D t u v).run P w = .ok b w := by
  obtain ⟨D, rfl⟩ : ∃ m, D = m + 1 := ⟨D - 1, by omega⟩
  have hg : aggT P t = some false := by cases c <;> first | exact aggT_scalar ht rfl | (obtain ⟨k, ht⟩ := ht; exact aggT_scalar ht rfl)
  have get : ∀ {cs : Array Value} {X : List AV} {x : AV} {X' : List AV}, Row gh n w cs X → X.drop o = x :: X' → ∃ u, (part t cs o).run P w = .ok u w ∧ VR gh n w u x := by
    intro cs X x X' hR hd
    have hx : X[o]? = some x := by
      have : (X.drop o)[0]? = some x := by rw [hd]; rfl
      rw [List.getElem?_drop] at this; simpa using this
    have hlt : o < cs.size := by rw [hR.1]; exact (List.getElem?_eq_some_iff.1 hx).1
    have hv : cs[o]? = some cs[o] := Array.getElem?_eq_getElem hlt
    exact ⟨cs[o], by simp [part, run_isAgg' hg, hv], hR.2 o _ x hv hx⟩
  generalize hXd : X.drop o = Xd at h
  generalize hYd : Y.drop o = Yd at h
  cases c <;> cases Xd <;> try (cases h; done)
  all_goals (rename_i x X'; cases x <;> try (cases h; done))
  all_goals (cases Yd <;> try (cases h; done))
  all_goals (rename_i y Y'; cases y <;> try (cases h; done))
  all_goals
    obtain ⟨u, hu1, hu2⟩ := get hX hXd
    obtain ⟨v, hv1, hv2⟩ := get hY hYd
  · obtain rfl := hu2.inv_bool
    obtain rfl := hv2.inv_bool
    simp [eqFlat] at h
    exact ⟨_, _, hu1, hv1, by rw [run_equalIn_bool' w D t _ _ ht, h]⟩
  · obtain rfl := hu2.inv_int
    obtain rfl := hv2.inv_int
    obtain ⟨k, ht⟩ := ht
    simp only [eqFlat] at h
    obtain ⟨h0, h'⟩ := cond_some h
    simp at h' h0
    exact ⟨_, _, hu1, hv1, by rw [h0, run_equalIn_int w D t _ _ _ _ ht, h']⟩
  · obtain ⟨p, rfl, rfl⟩ := hu2.inv_str
    obtain ⟨q, rfl, rfl⟩ := hv2.inv_str
    simp [eqFlat] at h
    refine ⟨_, _, hu1, hv1, ?_⟩
    rw [run_equalIn_string w D t _ _ ht, ByteArray.toList_eq, ByteArray.toList_eq, ← h]
    simp

def FlatRun (P : Program) (gh : Gh) (w : World) (d : Nat) : Prop :=
  ∀ (t : TypeId) (k : List CK), flatK P d t = some k → ∀ (n D o : Nat) (cs ds : Array Value) (X Y : List AV) (b : Bool), Row gh n w cs X → Row gh n w ds Y → d ≤ D →
    eqFlat k (X.drop o) (Y.drop o) = some b → ∃ u v, (part t cs o).run P w = .ok u w ∧ (part t ds o).run P w = .ok v w ∧ (Op.equalIn D t u v).run P w = .ok b w

theorem fields_run {d : Nat} (hd : FlatRun P gh w d) {n D : Nat} (hD : d ≤ D) {cs ds : Array Value} {X Y : List AV} (hX : Row gh n w cs X) (hY : Row gh n w ds Y) :
    ∀ (fs : List Go.Field) (q : Nat) (ks : List CK) (b : Bool), fieldsK (flatK P d) fs q = some ks → eqFlat ks (X.drop q) (Y.drop q) = some b → (Op.eqFields D cs ds fs).run P w = .ok b w := by
  intro fs
  induction fs with
  | nil => intro q ks b h1 h2; simp [fieldsK] at h1; subst h1; simp [eqFlat] at h2; subst h2; rfl
  | cons f fs ih =>
    intro q ks b h1 h2
    unfold fieldsK at h1
    obtain ⟨h3, h1⟩ := cond_some h1
    simp only [Option.bind_eq_some_iff, Option.map_eq_some_iff] at h1
    obtain ⟨kf, hkf, kr, hkr, rfl⟩ := h1
    simp only [Bool.and_eq_true, nbeq, decide_eq_true_eq, bne_iff_ne] at h3
    obtain ⟨hof, hnm⟩ := h3
    obtain ⟨b1, b2, e1, e2, rfl⟩ := eqFlat_append kf kr _ _ b h2
    rw [List.drop_drop, List.drop_drop] at e2
    obtain ⟨u, v, p1, p2, p3⟩ := hd f.type kf hkf n D q cs ds X Y b1 hX hY hD e1
    have hr := ih (q + kf.length) kr b2 hkr e2
    unfold Op.eqFields
    rw [if_pos hnm, hof]
    simp only [Sem.run_bind, p1, p2, p3, Result.andThen_ok]
    cases b1
    · simp
    · simp only [Bool.not_true, Bool.false_eq_true, if_false, hr, Bool.true_and]

theorem struct_inv {d : Nat} {t : TypeId} {k : List CK} {fs : Array Go.Field} (h : flatK P (d + 1) t = some k) (hu : P.underlying t = some (.struct fs)) :
    P.stoodInHeld t = false ∧ fieldsK (flatK P d) fs.toList 0 = some k ∧ ∃ sz, sizeT P t = some sz ∧ sz = k.length := by
  unfold flatK at h
  rw [hu] at h
  obtain ⟨h1, h⟩ := cond_some h
  simp only [Option.bind_eq_some_iff] at h
  obtain ⟨ks, hks, h⟩ := h
  obtain ⟨h2, h⟩ := cond_some h
  injection h with h
  subst h
  refine ⟨by simpa using h1, hks, ?_⟩
  cases hq : sizeT P t with
  | none => rw [hq] at h2; cases h2
  | some m => rw [hq] at h2; exact ⟨m, rfl, by simpa [nbeq] using h2⟩

theorem struct_run {d : Nat} (hd : FlatRun P gh w d) {t : TypeId} {k : List CK} {fs : Array Go.Field} (h : flatK P (d + 1) t = some k) (hu : P.underlying t = some (.struct fs))
    {n D : Nat} (hD : d ≤ D) {cs ds : Array Value} {X Y : List AV} {b : Bool} (hX : Row gh n w cs X) (hY : Row gh n w ds Y) (he : eqFlat k X Y = some b) :
    (Op.equalIn (D + 1) t (.agg cs) (.agg ds)).run P w = .ok b w := by
  obtain ⟨hso, hks, _⟩ := struct_inv h hu
  have hf : P.fieldsOf t = fs := by unfold Program.fieldsOf; rw [hu]
  rw [run_equalIn_struct w D t _ _ (by rw [hf]; exact hu) hso, hf]
  exact fields_run hd hD hX hY fs.toList 0 k b hks (by simpa using he)

theorem flatK_run : ∀ d : Nat, FlatRun P gh w d
  | 0 => fun t k h => by cases h
  | d + 1 => by
    intro t k h n D o cs ds X Y b hX hY hD he
    have h0 := h
    unfold flatK at h
    cases hu : P.underlying t with
    | none => rw [hu] at h; cases h
    | some dd =>
      rw [hu] at h
      cases dd <;> try (cases h; done)
      case bool => injection h with h; subst h; exact eqFlat_cell (c := .b) hX hY (by omega) hu he
      case int kk => injection h with h; subst h; exact eqFlat_cell (c := .i) hX hY (by omega) ⟨kk, hu⟩ he
      case string => injection h with h; subst h; exact eqFlat_cell (c := .s) hX hY (by omega) hu he
      case struct fs =>
        obtain ⟨_, _, sz, hsz, hlen⟩ := struct_inv h0 hu
        have hg : aggT P t = some true := by unfold aggT; rw [hu]; rfl
        refine ⟨.agg (cs.extract o (o + sz)), .agg (ds.extract o (o + sz)), by simp [part, run_isAgg' hg, run_sizeOf' hsz], by simp [part, run_isAgg' hg, run_sizeOf' hsz], ?_⟩
        obtain ⟨D, rfl⟩ : ∃ m, D = m + 1 := ⟨D - 1, by omega⟩
        rw [← eqFlat_take k _ _ sz (by omega)] at he
        exact struct_run (flatK_run d) h0 hu (by omega) (hX.extract o sz) (hY.extract o sz) he

theorem nilCmp_inv {op : BinOp} {b : Bool} {z : AV} (h : nilCmp op b = some z) : (op = .eql ∧ z = .bool b) ∨ (op = .neq ∧ z = .bool !b) := by
  cases op <;> simp [nilCmp] at h
  · exact .inl ⟨rfl, h.symm⟩
  · exact .inr ⟨rfl, h.symm⟩

/-- '==' and '!=' by Op.equal. -/
theorem equal_run {op : BinOp} {t : TypeId} {u v : Value} {b : Bool} {z : AV} (h : nilCmp op b = some z) (hr : (Op.equal t u v).run P w = .ok b w)
    (h1 : ∀ q, (binOp .eql t u v) = q → q = (do pure (.bool (← Op.equal t u v)))) (h2 : (binOp .neq t u v) = (do pure (.bool (!(← Op.equal t u v))))) :
    ∃ r, (binOp op t u v).run P w = .ok r w ∧ PR gh.S w r z := by
  rcases nilCmp_inv h with ⟨rfl, rfl⟩ | ⟨rfl, rfl⟩
  · exact ⟨.bool b, by rw [h1 _ rfl]; simp [hr], .bool _⟩
  · exact ⟨.bool !b, by rw [h2]; simp [hr], .bool _⟩

theorem ev_bin (hW : WRel G base s.H gh w) (hF : FR L nt gh w a s) {o : Oper} {op : BinOp} {t u : TypeId} {x y : Operand} {ix iy : IArg} {z : AV}
    (ho : o.op = .binOp op t x y u) (hx : compArg nt x = some ix) (hy : compArg nt y = some iy)
    (he : binAV op (eqKind P t) (isCon ix || isCon iy) (ix.eval G s.T) (iy.eval G s.T) = some z) :
    ∃ v, (execOp a.eval o).run P w = .ok (.value v) w ∧ Val gh s.H.length nt w s.T s.gen (tmv a) v z := by
  generalize hX : ix.eval G s.T = X at he
  generalize hY : iy.eval G s.T = Y at he
  have fin : ∀ {U V : Value}, a.eval x = U → a.eval y = V → (eqGuard op t x y U V).run P w = .ok () w → (∃ r, (binOp op t U V).run P w = .ok r w ∧ PR gh.S w r z) →
      ∃ v, (execOp a.eval o).run P w = .ok (.value v) w ∧ Val gh s.H.length nt w s.T s.gen (tmv a) v z := by
    rintro U V hU hV hg ⟨r, hr, hp⟩
    exact ⟨r, by simp [execOp, ho, hU, hV, hg, hr], .of_VR (.plain _ _ hp)⟩
  have con_op : (isCon ix || isCon iy) = true → (∃ v, x = .const v) ∨ (∃ v, y = .const v) := by
    intro h
    rcases Bool.or_eq_true_iff.1 h with h | h
    · left
      cases x <;> simp only [compArg] at hx
      · have := (cond_some hx).2; injection this with this; subst this; cases h
      · exact ⟨_, rfl⟩
      · injection hx with hx; subst hx; cases h
      · injection hx with hx; subst hx; cases h
    · right
      cases y <;> simp only [compArg] at hy
      · have := (cond_some hy).2; injection this with this; subst this; cases h
      · exact ⟨_, rfl⟩
      · injection hy with hy; subst hy; cases h
      · injection hy with hy; subst hy; cases h
  unfold binAV at he
  split at he
  · -- numbers
    obtain ⟨h0, he'⟩ := cond_some he
    have hk := of_decide_eq_true h0
    have h1 := (arg_VR hW hF hx hX rfl).inv_int
    have h2 := (arg_VR hW hF hy hY rfl).inv_int
    rw [← hk] at h2
    exact fin h1 h2 (run_eqGuard_other (by intro c; simp) (.inl (by simp))) (binInt_run he' t)
  · -- strings
    obtain ⟨p, h1, hp⟩ := (arg_VR hW hF hx hX rfl).inv_str
    obtain ⟨q, h2, hq⟩ := (arg_VR hW hF hy hY rfl).inv_str
    subst hp hq
    exact fin h1 h2 (run_eqGuard_other (by intro c; simp) (.inl (by simp))) (binStr_run he t)
  · -- bools
    rename_i p q
    have h1 := (arg_VR hW hF hx hX rfl).inv_bool
    have h2 := (arg_VR hW hF hy hY rfl).inv_bool
    generalize hQ : eqKind P t = Q at he
    cases Q <;> simp only [reduceCtorEq] at he
    have ht : P.underlying t = some .bool := by
      unfold eqKind at hQ
      split at hQ <;> first | assumption | (cases hQ) | skip
      cases hb : (!P.eqGuardType P.depth t) <;> rw [hb] at hQ <;> simp at hQ
      split at hQ <;> cases hQ
    exact fin h1 h2 (run_eqGuard_other (by intro c; simp) (.inl (by simp))) (equal_run he (run_equal_bool w t p q ht) (by rintro _ rfl; rfl) rfl)
  · -- structs
    rename_i xs ys
    obtain ⟨cs, h1, hs1, _, hr1⟩ := (arg_VR hW hF hx hX rfl).inv_agg
    obtain ⟨ds, h2, hs2, _, hr2⟩ := (arg_VR hW hF hy hY rfl).inv_agg
    generalize hQ : eqKind P t = Q at he
    cases Q <;> simp only [reduceCtorEq, Option.bind_eq_some_iff] at he
    rename_i ks
    obtain ⟨b, hb, he⟩ := he
    obtain ⟨hg, hk⟩ : P.eqGuardType P.depth t = false ∧ flatK P 8 t = some ks := by
      unfold eqKind at hQ
      split at hQ <;> first | (cases hQ; done) | skip
      cases hb : (P.eqGuardType P.depth t) <;> rw [hb] at hQ <;> simp at hQ
      split at hQ <;> first | (cases hQ; done) | skip
      injection hQ with hQ
      subst hQ
      exact ⟨rfl, by assumption⟩
    obtain ⟨fs, hu⟩ : ∃ fs, P.underlying t = some (.struct fs) := by
      unfold eqKind at hQ
      cases hu : P.underlying t with
      | none => rw [hu] at hQ; cases hQ
      | some d =>
        rw [hu] at hQ
        cases d <;> simp only [reduceCtorEq] at hQ
        exact ⟨_, rfl⟩
    have hrun : (Op.equal t (.agg cs) (.agg ds)).run P w = .ok b w :=
      struct_run (flatK_run 7) hk hu (D := 9999) (by omega) (n := s.H.length) ⟨hs1, hr1⟩ ⟨hs2, hr2⟩ hb
    exact fin h1 h2 (run_eqGuard_agg w op t x y cs ds hg) (equal_run he hrun (by rintro _ rfl; rfl) rfl)
  · -- interfaces and nil
    obtain ⟨h0, he⟩ := cond_some he
    obtain ⟨hcon, hq⟩ := Bool.and_eq_true_iff.1 h0
    simp only [Option.bind_eq_some_iff] at he
    obtain ⟨b, hb, he⟩ := he
    have ht : ∃ m, P.underlying t = some (.interface m) := by
      generalize hQ : eqKind P t = Q at hq
      cases Q <;> simp only [reduceCtorEq] at hq
      unfold eqKind at hQ
      split at hQ <;> first | exact ⟨_, by assumption⟩ | (cases hQ; done) | skip
      cases hb : (!P.eqGuardType P.depth t) <;> rw [hb] at hQ <;> simp at hQ
      split at hQ <;> cases hQ
    obtain ⟨m, ht⟩ := ht
    have h2 := (arg_VR hW hF hy hY rfl).inv_niliface
    split at hb
    · injection hb with hb
      subst hb
      have h1 := (arg_VR hW hF hx hX rfl).inv_niliface
      have hr : (Op.equal t .nilIface .nilIface).run P w = .ok true w := (fun d => (by simp [Op.equalIn, run_underlying ht] : (Op.equalIn (d + 1) t .nilIface .nilIface).run P w = .ok true w)) 9999
      refine fin h1 h2 ?_ (equal_run he hr (by rintro _ rfl; rfl) rfl)
      rcases con_op hcon with ⟨v, rfl⟩ | ⟨v, rfl⟩
      · cases op <;> simp [eqGuard]
      · cases op <;> simp [eqGuard]
    · injection hb with hb
      subst hb
      obtain ⟨q, h1⟩ := (arg_VR hW hF hx hX rfl).inv_iface
      have hr : ∀ ti, (Op.equal t (.iface ti q) .nilIface).run P w = .ok false w := fun ti => (fun d => (by simp [Op.equalIn, run_underlying ht] : (Op.equalIn (d + 1) t (.iface ti q) .nilIface).run P w = .ok false w)) 9999
      exact fin h1 h2 (run_eqGuard_other (by intro c; simp) (.inl (by simp))) (equal_run he (hr _) (by rintro _ rfl; rfl) rfl)
    · cases hb
  · -- functions and nil
    obtain ⟨h0, he⟩ := cond_some he
    simp only [Option.bind_eq_some_iff] at he
    obtain ⟨b, hb, he⟩ := he
    have ht : ∃ p q r, P.underlying t = some (.func p q r) := by
      generalize hQ : eqKind P t = Q at h0
      cases Q <;> simp only [reduceCtorEq] at h0
      unfold eqKind at hQ
      split at hQ <;> first | exact ⟨_, _, _, by assumption⟩ | (cases hQ; done) | skip
      cases hb : (!P.eqGuardType P.depth t) <;> rw [hb] at hQ <;> simp at hQ
      split at hQ <;> cases hQ
    obtain ⟨p, q, r, ht⟩ := ht
    have h2 := (arg_VR hW hF hy hY rfl).inv_nilfunc
    split at hb
    · injection hb with hb
      subst hb
      have h1 := (arg_VR hW hF hx hX rfl).inv_nilfunc
      have hr : (Op.equal t .nilFunc .nilFunc).run P w = .ok true w := (fun d => (by simp [Op.equalIn, run_underlying ht] : (Op.equalIn (d + 1) t .nilFunc .nilFunc).run P w = .ok true w)) 9999
      exact fin h1 h2 (run_eqGuard_other (by intro c; simp) (.inl (by simp))) (equal_run he hr (by rintro _ rfl; rfl) rfl)
    · injection hb with hb
      subst hb
      obtain ⟨fs, cs, h1, _⟩ := (arg_VR hW hF hx hX rfl).inv_func
      have hr : ∀ f, (Op.equal t (.func f fs cs) .nilFunc).run P w = .ok false w := fun f => (fun d => (by simp [Op.equalIn, run_underlying ht] : (Op.equalIn (d + 1) t (.func f fs cs) .nilFunc).run P w = .ok false w)) 9999
      exact fin h1 h2 (run_eqGuard_other (by intro c; simp) (.inl (by simp))) (equal_run he (hr _) (by rintro _ rfl; rfl) rfl)
    · cases hb
  · cases he

end
end Go.Abs
