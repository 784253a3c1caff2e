/-
  Operations that read and reckon: interfaces, fields of values, indexes, lengths, functions, slices, comparisons.
-/
import Derived.Test.YtgdcfgpddgedkaaDoorAbsOps2
namespace Go.Abs
set_option linter.unusedSimpArgs false
set_option linter.unusedVariables false

section
variable {P : Program} {G : Nat → List AV} {base nt : Nat} {L : List Nat} {gh : Gh} {w : World} {a : Act} {s : AS}

theorem plain_frame {x : AV} (h : x.plain = true) : frameCell x = true := by cases x <;> first | rfl | (simp [AV.plain] at h)

theorem ev_mkiface (hW : WRel G base s.H gh w) (hF : FR L nt gh w a s) {o : Oper} {t : TypeId} {x : Operand} {ix : IArg} {z : AV}
    (ho : o.op = .makeInterface t x) (hc : compArg nt x = some ix) (hd : ∃ d, P.underlying t = some d ∧ ∀ m, d ≠ .interface m) (he : mkifaceAV t (ix.eval G s.T) = some z) :
    ∃ v, (execOp a.eval o).run P w = .ok (.value v) w ∧ Val gh s.H.length nt w s.T s.gen (tmv a) v z := by
  generalize hz : ix.eval G s.T = X at he
  unfold mkifaceAV at he
  obtain ⟨h0, h1⟩ := cond_some he
  injection h1 with h1
  subst h1
  have hf : frameCell X = true := by
    rcases Bool.or_eq_true_iff.1 h0 with h | h
    · rw [← frameCell_drop]; exact plain_frame h
    · cases X <;> first | rfl | (simp at h)
  have hv := arg_VR hW hF hc hz hf
  obtain ⟨d, hd, hn⟩ := hd
  have hcon : P.concrete t = true := by unfold Program.concrete; rw [hd]; cases d <;> first | rfl | exact absurd rfl (hn _)
  exact ⟨_, by simp [execOp, ho, run_makeInterface w t _ hcon], .of_VR (.iface _ _ _ hv)⟩

/-- A part of an aggregate. -/
theorem part_agg {n : Nat} {agg : Bool} {sz off : Nat} {xs : List AV} {z : AV} (hl : loadCellsAV false agg sz off xs = some z) {t : TypeId} (hg : aggT P t = some agg) (hs : sizeT P t = some sz)
    {cs : Array Value} (hsz : cs.size = xs.length) (hone : ∀ (j : Nat) (v : Value), cs[j]? = some v → v.oneCell' = true)
    (h : ∀ (j : Nat) (v : Value) (x : AV), cs[j]? = some v → xs[j]? = some x → VR gh n w v x) :
    ∃ v, (part t cs off).run P w = .ok v w ∧ VR gh n w v z := by
  unfold loadCellsAV at hl
  cases agg
  · simp only [cond_false, Option.map_eq_some_iff] at hl
    obtain ⟨x, hx, rfl⟩ := hl
    have hj : off < cs.size := by rw [hsz]; exact (List.getElem?_eq_some_iff.1 hx).1
    have hv : cs[off]? = some cs[off] := Array.getElem?_eq_getElem hj
    exact ⟨cs[off], by simp [part, run_isAgg' hg, hv], VR.dropped (h off _ x hv hx)⟩
  · simp only [cond_true] at hl
    obtain ⟨h0, h1⟩ := cond_some hl
    have h0' : off + sz ≤ xs.length := by simpa [Nat.ble_eq] using h0
    injection h1 with h1
    subst h1
    refine ⟨.agg (cs.extract off (off + sz)), by simp [part, run_isAgg' hg, run_sizeOf' hs], .agg _ _ (by simp; omega) ?_ ?_⟩
    · intro j v hj
      rw [Array.getElem?_extract] at hj
      split at hj
      · exact hone _ v hj
      · cases hj
    · intro j v x hj hx
      rw [Array.getElem?_extract] at hj
      split at hj
      · rename_i hlt
        simp only [List.getElem?_map, Option.map_eq_some_iff] at hx
        obtain ⟨y, hy, rfl⟩ := hx
        rw [List.getElem?_take, List.getElem?_drop] at hy
        split at hy
        · exact VR.dropped (h _ v y hj hy)
        · cases hy
      · cases hj

theorem ev_field (hW : WRel G base s.H gh w) (hF : FR L nt gh w a s) {o : Oper} {t : TypeId} {x : Operand} {f : Nat} {ix : IArg} {fs : Array Go.Field} {q : Go.Field} {agg : Bool} {sz : Nat} {xs : List AV} {z : AV}
    (ho : o.op = .field t x f) (hc : compArg nt x = some ix) (hu : P.underlying t = some (.struct fs)) (hq : fs[f]? = some q) (hs : sizeT P q.type = some sz) (hg : aggT P q.type = some agg)
    (hz : ix.eval G s.T = .agg xs) (he : loadCellsAV false agg sz q.offset xs = some z) :
    ∃ v, (execOp a.eval o).run P w = .ok (.value v) w ∧ Val gh s.H.length nt w s.T s.gen (tmv a) v z := by
  obtain ⟨cs, hA, hsz, hone, h⟩ := (arg_VR hW hF hc hz rfl).inv_agg
  obtain ⟨v, h1, h2⟩ := part_agg he hg hs hsz hone h
  exact ⟨v, by simp [execOp, ho, hA, Instr.field, run_underlying hu, hq, asAgg, h1], .of_VR h2⟩

theorem ev_index (hW : WRel G base s.H gh w) (hF : FR L nt gh w a s) {o : Oper} {t e : TypeId} {x i : Operand} {n sz k : Nat} {ix ii : IArg} {agg : Bool} {xs : List AV} {z : AV}
    (ho : o.op = .index t x i) (hc : compArg nt x = some ix) (hi : compArg nt i = some ii) (hu : P.underlying t = some (.array n e)) (hs : sizeT P e = some sz) (hg : aggT P e = some agg)
    (hk : asNat (ii.eval G s.T) = some k) (hkn : k < n) (hz : ix.eval G s.T = .agg xs) (he : loadCellsAV false agg sz (k * sz) xs = some z) :
    ∃ v, (execOp a.eval o).run P w = .ok (.value v) w ∧ Val gh s.H.length nt w s.T s.gen (tmv a) v z := by
  obtain ⟨cs, hA, hsz, hone, h⟩ := (arg_VR hW hF hc hz rfl).inv_agg
  obtain ⟨kd, hik⟩ := asNat_inv hW hF hi hk
  obtain ⟨v, h1, h2⟩ := part_agg he hg hs hsz hone h
  exact ⟨v, by simp [execOp, ho, hA, hik, Instr.index, asIntOf, run_underlying hu, run_sizeOf' hs, hkn, h1], .of_VR h2⟩

theorem ev_indexStr (hW : WRel G base s.H gh w) (hF : FR L nt gh w a s) {o : Oper} {t : TypeId} {x i : Operand} {k : Nat} {ix ii : IArg} {l : List UInt8} {b : UInt8}
    (ho : o.op = .index t x i) (hc : compArg nt x = some ix) (hi : compArg nt i = some ii) (hu : P.underlying t = some .string)
    (hk : asNat (ii.eval G s.T) = some k) (hz : ix.eval G s.T = .str l) (hb : l[k]? = some b) :
    ∃ v, (execOp a.eval o).run P w = .ok (.value v) w ∧ Val gh s.H.length nt w s.T s.gen (tmv a) v (.int .u8 b.toNat) := by
  obtain ⟨q, hA, hl⟩ := (arg_VR hW hF hc hz rfl).inv_str
  obtain ⟨kd, hik⟩ := asNat_inv hW hF hi hk
  have hq : q[k]? = some b := by
    obtain ⟨⟨d⟩⟩ := q
    simp at hl; subst hl
    have hkl := (List.getElem?_eq_some_iff.1 hb).1
    have hks : k < (ByteArray.mk ⟨d⟩).size := hkl
    rw [ByteArray.getElem?_lt' _ _ hks]
    rw [List.getElem?_eq_getElem hkl] at hb
    exact hb
  exact ⟨_, by simp [execOp, ho, hA, hik, Instr.index, asIntOf, run_underlying hu, hq], .of_VR (.plain _ _ (.int _ _))⟩

theorem VR.droppedAll {n : Nat} {v : Value} {x : AV} (h : VR gh n w v x) : VR gh n w v x.dropAll := by
  cases x <;> try exact VR.dropped h
  obtain ⟨cs, rfl, hs, hone, h⟩ := h.inv_agg
  refine .agg _ _ (by simp [hs]) hone fun j v x hj hx => ?_
  simp only [List.getElem?_map, Option.map_eq_some_iff] at hx
  obtain ⟨y, hy, rfl⟩ := hx
  exact VR.dropped (h j v y hj hy)

theorem ev_extract (hW : WRel G base s.H gh w) (hF : FR L nt gh w a s) {o : Oper} {x : Operand} {i : Nat} {ix : IArg} {vs : List AV} {z : AV}
    (ho : o.op = .extract x i) (hc : compArg nt x = some ix) (hz : ix.eval G s.T = .tuple vs) (hi : vs[i]? = some z) :
    ∃ v, (execOp a.eval o).run P w = .ok (.value v) w ∧ Val gh s.H.length nt w s.T s.gen (tmv a) v z.dropAll := by
  obtain ⟨us, hA, hsz, h⟩ := (arg_VR hW hF hc hz rfl).inv_tuple
  have hj : i < us.size := by rw [hsz]; exact (List.getElem?_eq_some_iff.1 hi).1
  have hv : us[i]? = some us[i] := Array.getElem?_eq_getElem hj
  exact ⟨us[i], by simp [execOp, ho, hA, Instr.extract, hv], .of_VR (VR.droppedAll (h i _ z hv hi))⟩

/-- A length. -/
theorem ev_lenV {t : TypeId} {k : LenKind} {V : Value} {X z : AV} {n : Nat} (hv : VR gh n w V X.drop) (ht : match k with | .str => P.underlying t = some .string | .sl => ∃ e, P.underlying t = some (.slice e) | .arr m => ∃ e, P.underlying t = some (.array m e))
    (he : lenAV k X = some z) (ty : TypeId) : ∃ v, (Builtin.len_ #[t] ty #[V]).run P w = .ok v w ∧ VR gh n w v z := by
  cases k <;> cases X <;> simp only [lenAV, Option.some.injEq, reduceCtorEq] at he <;> subst he
  case str.str l =>
    obtain ⟨q, rfl, rfl⟩ := hv.inv_str
    refine ⟨.int .i64 q.size, by simp [Builtin.len_, run_underlying ht, goInt], ?_⟩
    exact .plain _ _ (by rw [show (q.data.toList.length : Int) = (q.size : Int) by simp]; exact .int _ _)
  case sl.slice el own =>
    obtain ⟨e, ht⟩ := ht
    have hp := hv.inv_slice
    cases hp with
    | sliceNil => exact ⟨.int .i64 0, by simp [Builtin.len_, run_underlying ht, goInt], .plain _ _ (.int _ _)⟩
    | slice b of m cap sz _ f hn hcap hrow hcell hrel => exact ⟨.int .i64 el.length, by simp [Builtin.len_, run_underlying ht, goInt, hn], .plain _ _ (.int _ _)⟩
  case sl.sref loc off m =>
    obtain ⟨e, ht⟩ := ht
    obtain ⟨_, cap, _, rfl⟩ := hv.inv_sref
    exact ⟨.int .i64 m, by simp [Builtin.len_, run_underlying ht, goInt], .plain _ _ (.int _ _)⟩
  all_goals
    obtain ⟨e, ht⟩ := ht
    exact ⟨.int .i64 _, by simp [Builtin.len_, run_underlying ht, goInt], .plain _ _ (.int _ _)⟩

theorem compArgs_inv : ∀ {xs : List Operand} {ys : List IArg}, compArgs nt xs = some ys → xs.length = ys.length ∧ ∀ (j : Nat) (x : Operand) (y : IArg), xs[j]? = some x → ys[j]? = some y → compArg nt x = some y
  | [], ys, h => by simp [compArgs] at h; subst h; exact ⟨rfl, fun j x y h => by simp at h⟩
  | x :: r, ys, h => by
    simp only [compArgs, Option.bind_eq_some_iff, Option.map_eq_some_iff] at h
    obtain ⟨y, hy, zs, hz, rfl⟩ := h
    obtain ⟨h1, h2⟩ := compArgs_inv hz
    refine ⟨by simp [h1], fun j u v hu hv => ?_⟩
    cases j with
    | zero => simp at hu hv; subst hu hv; exact hy
    | succ j => exact h2 j u v (by simpa using hu) (by simpa using hv)

/-- A list of operands, none of them a variable of the frame's own. -/
theorem args_VR (hW : WRel G base s.H gh w) (hF : FR L nt gh w a s) {xs : List Operand} {ys : List IArg} (hc : compArgs nt xs = some ys) (hf : (ys.map fun y => y.addr G s.T).all frameCell = true) :
    ∀ (j : Nat) (v : Value) (x : AV), (xs.map a.eval)[j]? = some v → (ys.map fun y => (y.addr G s.T).drop)[j]? = some x → VR gh s.H.length w v x := by
  obtain ⟨hl, h⟩ := compArgs_inv hc
  intro j v x hj hx
  simp only [List.getElem?_map, Option.map_eq_some_iff] at hj hx
  obtain ⟨o, ho, rfl⟩ := hj
  obtain ⟨y, hy, rfl⟩ := hx
  have hfy : frameCell (y.addr G s.T) = true := List.all_eq_true.1 hf _ (List.mem_map.2 ⟨y, List.mem_of_getElem? hy, rfl⟩)
  exact arg_VR' hW hF (h j o y ho hy) rfl hfy

theorem ev_mkfunc (hW : WRel G base s.H gh w) (hF : FR L nt gh w a s) {o : Oper} {f : Fn} {fs cs : Array Operand} {ifs ics : List IArg}
    (ho : o.op = .makeFunc f fs cs) (h1 : compArgs nt fs.toList = some ifs) (h2 : compArgs nt cs.toList = some ics)
    (hf1 : (ifs.map fun y => y.addr G s.T).all frameCell = true) (hf2 : (ics.map fun y => y.addr G s.T).all frameCell = true) :
    ∃ v, (execOp a.eval o).run P w = .ok (.value v) w ∧ Val gh s.H.length nt w s.T s.gen (tmv a) v (.func f (ifs.map fun y => (y.addr G s.T).drop) (ics.map fun y => (y.addr G s.T).drop)) := by
  refine ⟨.func f (fs.map a.eval) (cs.map a.eval), by simp [execOp, ho, Instr.makeFunc], .of_VR (.func _ _ _ _ _ ?_ ?_ ?_ ?_)⟩
  · simpa using (compArgs_inv h1).1
  · simpa using (compArgs_inv h2).1
  · intro j v x hj hx
    exact args_VR hW hF h1 hf1 j v x (by simpa using hj) hx
  · intro j v x hj hx
    exact args_VR hW hF h2 hf2 j v x (by simpa using hj) hx

end
end Go.Abs
