/-
  Operations that make blocks.
-/
import Derived.Test.YtgdcfgpddgedkaaDoorAbsOps7
import Derived.Great.BuildSlice
namespace Go.Abs
set_option linter.unusedSimpArgs false
set_option linter.unusedVariables false

section
variable {P : Program} {G : Nat → List AV} {base nt : Nat} {L : List Nat} {gh : Gh} {w w' : World} {a : Act} {s : AS} {H : AHeap}

def slo : Option Nat → Owner
  | some d => .sl d
  | none => .none

def bxo : Option Nat → Owner
  | some d => .bx d
  | none => .none

theorem slo_out (d : Option Nat) : slo d ≠ .outer := by cases d <;> simp [slo]
theorem bxo_out (d : Option Nat) : bxo d ≠ .outer := by cases d <;> simp [bxo]

theorem FR.grown {gh' : Gh} {touch : Owner → Prop} (h : FR L nt gh w a s) (st : Step touch s.H.length gh w gh' w') (ht : ∀ i, ¬ touch (.bx i) ∧ ¬ touch (.sl i) ∧ ∀ j, ¬ touch (.sc i j))
    {H' : AHeap} {lo' : Nat} (hH : s.H.length ≤ H'.length) : FR L nt gh' w' a { s with H := H', lo := lo' } :=
  h.update st h.defers h.size hH (Nat.le_refl _) (fun _ => False) (fun i _ => ⟨rfl, fun _ => ⟨rfl, ht i⟩⟩) (fun _ h => h.elim) (fun _ h => h.elim)

def Gh.pushBox (gh : Gh) (b n : Nat) : Gh := { gh.alloc b (.hb n) (fun _ => False) with ρ := fun l => if l = n then b else gh.ρ l }

theorem pushBox_step (hW : WRel G base H gh w) {o : Obj} (hp : Pushed w w' o) : Step (fun _ => False) H.length gh w (gh.pushBox w.heap.size H.length) w' := by
  have h := alloc_step hW hp (p := .hb H.length) (by simp) (fun _ => False) H.length
  refine ⟨h.S, h.cell, h.size, h.os, h.tape, h.output, h.blk, h.fresh, fun loc hl => ?_, h.len⟩
  show (if loc = H.length then _ else _) = _
  rw [if_neg (by omega)]

theorem pushBox_ext (hW : WRel G base H gh w) {o : Obj} (hp : Pushed w w' o) : Ext H.length gh w (gh.pushBox w.heap.size H.length) w' := by
  refine ⟨(pushBox_step hW hp).mono (fun _ h => h.elim), fun b hb => ?_⟩
  have hb' : (if b = w.heap.size then Owner.hb H.length else gh.κ b) = .outer := hb
  split at hb'
  · cases hb'
  · exact hb'

theorem WRel.pushBox (hW : WRel G base H gh w) {C : Array Value} {ty : TypeId} (hp : Pushed w w' (.cells C ty)) {cs : List AV} (hrow : RowC gh H.length w C cs) (hr : cs.all (heapCell H.length) = true) :
    WRel G base (H ++ [.box ty cs]) (gh.pushBox w.heap.size H.length) w' := by
  have st := pushBox_step hW hp
  refine ⟨Nat.le_trans hW.size st.size, ?_, ?_, fun g j x hx => ?_, fun loc ty' ds hl => ?_, fun loc ty' ds hl => ?_, fun g hg => (hW.tabs g hg).imp fun ty h => st.len g ty _ h, hW.bytes_step st (fun b o m h => h.elim .inl (fun h => h.2.elim)), fun loc ty' ds hl => ?_⟩
  · intro b o ho
    rw [hp.size]
    rcases ho with ho | ⟨_, ho⟩
    · have := hW.sLt b o ho; omega
    · exact ho.elim
  · intro b hb
    rw [hp.size]
    have hb' : (if b = w.heap.size then Owner.hb H.length else gh.κ b) ≠ .none := hb
    split at hb'
    · rename_i e
      have := hW.size
      omega
    · have := hW.kLt b hb'; omega
  · obtain ⟨v, h1, h2, h3⟩ := hW.glob g j x hx
    exact ⟨v, (st.cell g j h3).trans h1, h2.mono st.S st.cell, st.S g j h3⟩
  · rw [List.length_append, List.length_singleton]
    by_cases hlt : loc < H.length
    · rw [List.getElem?_append_left hlt] at hl
      have h := (hW.boxes loc ty' ds hl).mono st (n' := H.length + 1) (Nat.le_succ _) id (fun _ => id)
      rw [st.ρ loc hlt]; exact h
    · rw [List.getElem?_append_right (by omega)] at hl
      have hz : loc = H.length := by
        have := (List.getElem?_eq_some_iff.1 hl).1
        simp at this; omega
      subst hz
      simp only [Nat.sub_self, List.getElem?_cons_zero, Option.some.injEq, AObj.box.injEq] at hl
      obtain ⟨rfl, rfl⟩ := hl
      have hρ : (gh.pushBox w.heap.size H.length).ρ H.length = w.heap.size := by simp [Gh.pushBox]
      rw [hρ]
      refine ⟨by simp [Gh.pushBox, Gh.alloc], ?_, C, ty, hp.new, Nat.le_of_eq hrow.1.symm, fun j v x hv hx => ?_⟩
      · rintro o (ho | ⟨_, ho⟩)
        · have := hW.sLt _ o ho; omega
        · exact ho
      · obtain ⟨h1, h2⟩ := hrow.2 j v x hv hx
        exact ⟨h2, .inl (h1.mono st (Nat.le_succ _))⟩
  · by_cases hlt : loc < H.length
    · rw [List.getElem?_append_left hlt] at hl
      exact hW.refs loc ty' ds hl
    · rw [List.getElem?_append_right (by omega)] at hl
      have hz : loc = H.length := by
        have := (List.getElem?_eq_some_iff.1 hl).1
        simp at this; omega
      subst hz
      simp only [Nat.sub_self, List.getElem?_cons_zero, Option.some.injEq, AObj.box.injEq] at hl
      obtain ⟨rfl, rfl⟩ := hl
      exact hr
  · by_cases hlt : loc < H.length
    · rw [List.getElem?_append_left hlt] at hl
      rw [st.ρ loc hlt]
      exact fun hf => st.len _ _ _ (hW.types loc ty' ds hl hf)
    · rw [List.getElem?_append_right (by omega)] at hl
      have hz : loc = H.length := by
        have := (List.getElem?_eq_some_iff.1 hl).1
        simp at this; omega
      subst hz
      simp only [Nat.sub_self, List.getElem?_cons_zero, Option.some.injEq, AObj.box.injEq] at hl
      obtain ⟨rfl, rfl⟩ := hl
      have hρ : (gh.pushBox w.heap.size H.length).ρ H.length = w.heap.size := by simp [Gh.pushBox]
      rw [hρ]
      exact fun _ => ⟨C, (0, 0), hp.new, hrow.1⟩

/-- A new variable of the abstract heap. -/
theorem Out.pushBox (hW : WRel G base s.H gh w) (hF : FR L nt gh w a s) {d : Option Nat} (hd : ∀ k, d = some k → k < nt) {C : Array Value} {ty : TypeId} (hp : Pushed w w' (.cells C ty)) {cs : List AV} (hrow : RowC gh s.H.length w C cs)
    (hr : cs.all (heapCell s.H.length) = true) :
    Out G base nt L gh w a s d (.ref s.H.length 0) (s.chg ⟨s.H ++ [.box ty cs], s.H.length⟩) (.pointer (some ⟨w.heap.size, 0, none⟩)) (gh.pushBox w.heap.size s.H.length) w' := by
  have hρ : (gh.pushBox w.heap.size s.H.length).ρ s.H.length = w.heap.size := by simp [Gh.pushBox]
  have hv : VR (gh.pushBox w.heap.size s.H.length) (s.H ++ [AObj.box ty cs]).length w' (.pointer (some ⟨w.heap.size, 0, none⟩)) (.ref s.H.length 0) := by
    have := VR.ref (gh := gh.pushBox w.heap.size s.H.length) (w := w') (n := (s.H ++ [AObj.box ty cs]).length) s.H.length 0 (by simp)
    rw [hρ] at this; exact this
  exact ⟨hW.pushBox hp hrow hr, hF.put (pushBox_step hW hp) (fun i => ⟨id, id, fun _ => id⟩) (by simp) d hd (.of_VR hv), pushBox_ext hW hp⟩

theorem constAV_plain {v : Value} {x : AV} (h : constAV v = some x) : x.drop.plain = true := by
  unfold constAV at h
  split at h <;> first | (injection h with h; subst h; rfl) | cases h

theorem constCells_all : ∀ {vs : List Value} {xs : List AV}, constCells vs = some xs → ∀ x, x ∈ xs → x.drop.plain = true
  | [], xs, h => by simp [constCells] at h; subst h; simp
  | v :: r, xs, h => by
    simp only [constCells, Option.bind_eq_some_iff, Option.map_eq_some_iff] at h
    obtain ⟨x, hx, ys, hy, rfl⟩ := h
    intro z hz
    rcases List.mem_cons.1 hz with rfl | hz
    · exact constAV_plain hx
    · exact constCells_all hy z hz

theorem zeroT_all {t : TypeId} {z : List AV} (h : zeroT P t = some z) : ∀ x, x ∈ z → x.drop.plain = true := by
  simp only [zeroT, Option.bind_eq_some_iff] at h
  obtain ⟨zv, _, hc⟩ := h
  exact constCells_all hc

theorem heapCell_of_plain {loc : Nat} {x : AV} (h : x.drop.plain = true) : heapCell loc x = true := by
  cases x <;> first | exact h | (simp [AV.drop, AV.plain] at h)

theorem heapCell_drop {loc : Nat} {x : AV} (h : heapCell loc x = true) : heapCell loc x.drop = true := by
  cases x <;> exact h

theorem run_alloc {t : TypeId} {i : TypeInfo} {zv : Value} (hi : P.info? t = some i) (hz : i.zero = some zv) (w : World) :
    (Instr.alloc t true (.tuple #[])).run P w = .ok (.pointer (some ⟨w.heap.size, 0, none⟩)) (w.alloc (.cells zv.cells t)) := by
  simp [Instr.alloc, zeroValue, typeInfo, hi, hz, newVar, newRow]

theorem ev_allocH (hW : WRel G base s.H gh w) (hF : FR L nt gh w a s) {o : Oper} {t : TypeId} {z : List AV} (ho : o.op = .alloc t) (hz : zeroT P t = some z) (hd : ∀ k, o.dst = some k → k < nt) :
    ∃ v' gh' w', Ran P a o w v' w' ∧ Out G base nt L gh w a s o.dst (.ref s.H.length 0) (s.chg ⟨s.H ++ [.box t z], s.H.length⟩) v' gh' w' := by
  obtain ⟨i, zv, hi, hzv, hrow⟩ := zero_row (gh := gh) (n := s.H.length) (w := w) hz
  refine ⟨_, _, _, .inl ?_, Out.pushBox hW hF hd (.alloc w (.cells zv.cells t)) hrow ?_⟩
  · simp [execOp, ho, run_alloc hi hzv]
  · exact List.all_eq_true.2 fun x hx => heapCell_of_plain (zeroT_all hz x hx)

theorem ev_box (hW : WRel G base s.H gh w) (hF : FR L nt gh w a s) {o : Oper} {t : TypeId} {x : Operand} {y : IArg} {cs : List AV} (ho : o.op = .box t x) (hc : compArg nt x = some y) (hcs : (y.eval G s.T).drop.cells = some cs)
    (hall : cs.all (heapCell s.H.length) = true) (hd : ∀ k, o.dst = some k → k < nt) :
    ∃ v' gh' w', Ran P a o w v' w' ∧ Out G base nt L gh w a s o.dst (.ref s.H.length 0) (s.chg ⟨s.H ++ [.box t (cs.map AV.drop)], s.H.length⟩) v' gh' w' := by
  have hrow := (part_rel hW hF hc cs hcs).dropped
  refine ⟨_, _, _, .inl ?_, Out.pushBox hW hF hd (.alloc w (.cells (a.eval x).cells t)) hrow ?_⟩
  · simp [execOp, ho, Instr.box, newVar, newRow]
  · refine List.all_eq_true.2 fun x hx => ?_
    obtain ⟨y, hy, rfl⟩ := List.mem_map.1 hx
    exact heapCell_drop (List.all_eq_true.1 hall y hy)

/-- A new variable of the frame's own. -/
theorem ev_allocL (hW : WRel G base s.H gh w) (hF : FR L nt gh w a s) {o : Oper} {t : TypeId} {z : List AV} (ho : o.op = .alloc t) (hz : zeroT P t = some z) (hd : ∀ k, o.dst = some k → k < nt ∧ k ∈ L) :
    ∃ v' gh' w', Ran P a o w v' w' ∧ Out G base nt L gh w a s o.dst (.lbox s.gen z) { s with gen := s.gen + 1 } v' gh' w' := by
  obtain ⟨i, zv, hi, hzv, hrow⟩ := zero_row (gh := gh) (n := s.H.length) (w := w) hz
  have hp := Pushed.alloc w (.cells zv.cells t)
  have hne := bxo_out o.dst
  have st := alloc_step hW hp hne (fun _ => False) s.H.length
  have hF' : FR L nt (gh.alloc w.heap.size (bxo o.dst) fun _ => False) (w.alloc (.cells zv.cells t)) a s := hF.grown (H' := s.H) (lo' := s.lo) st (fun i => ⟨id, id, fun _ => id⟩) (Nat.le_refl _)
  have hW' := hW.alloc hp hne (fun _ => False) (fun _ _ h => h.elim)
  refine ⟨.pointer (some ⟨w.heap.size, 0, none⟩), _, _, .inl ?_, hW', hF'.putG (gen' := s.gen + 1) (Nat.le_succ _) (fun b hb => hW'.not_outer b hb) o.dst (fun k hk => (hd k hk).1) (.inr ⟨⟨s.gen, Nat.le_refl _, rfl⟩, fun k hk => (hd k hk).2⟩) ?_, alloc_ext hW hp hne _ _⟩
  · simp [execOp, ho, run_alloc hi hzv]
  · intro k hk
    refine ⟨Nat.lt_succ_self _, w.heap.size, rfl, ?_⟩
    rw [hk] at st ⊢
    refine ⟨by simp [Gh.alloc, bxo], ?_, zv.cells, t, hp.new, Nat.le_of_eq hrow.1.symm, fun j v x hv hx => ?_⟩
    · rintro o (ho | ⟨_, ho⟩)
      · have := hW.sLt _ o ho; omega
      · exact ho
    · obtain ⟨h1, h2⟩ := hrow.2 j v x hv hx
      exact ⟨h2, .inl (h1.mono st (Nat.le_refl _))⟩

/-- An array's literal. -/
theorem ev_build_array (hW : WRel G base s.H gh w) (hF : FR L nt gh w a s) {o : Oper} {t e : TypeId} {n sz : Nat} {parts : Array (Nat × Operand)} {z Z : List AV} {ps : List (Nat × Nat × IArg)}
    (ho : o.op = .build t parts) (hz : zeroT P t = some z) (hu : P.underlying t = some (.array n e)) (hs : sizeT P e = some sz) (hp : compArrParts nt sz parts.toList = some ps)
    (he : buildParts z (ps.map fun p => (p.1, p.2.1, (p.2.2.eval G s.T).drop)) = some Z) :
    ∃ v, (execOp a.eval o).run P w = .ok (.value v) w ∧ Val gh s.H.length nt w s.T s.gen (tmv a) v (.agg Z) := by
  obtain ⟨i, zv, hi, hzv, hrow⟩ := zero_row (gh := gh) (n := s.H.length) (w := w) hz
  obtain ⟨ie, hie, hies⟩ := info_of_size hs
  have inv : ∀ (l : List (Nat × Operand)) (ps : List (Nat × Nat × IArg)), compArrParts nt sz l = some ps → l.length = ps.length ∧
      ∀ (j : Nat) (p : Nat × Operand) (q : Nat × Nat × IArg), l[j]? = some p → ps[j]? = some q → q.1 = p.1 * sz ∧ q.2.1 = sz ∧ compArg nt p.2 = some q.2.2 := by
    intro l
    induction l with
    | nil => intro ps h; simp [compArrParts] at h; subst h; exact ⟨rfl, fun j p q h => by simp at h⟩
    | cons p l ih =>
      intro ps h
      obtain ⟨k, x⟩ := p
      simp only [compArrParts, Option.bind_eq_some_iff, Option.map_eq_some_iff] at h
      obtain ⟨y, hy, rest, hr, rfl⟩ := h
      obtain ⟨h1, h2⟩ := ih rest hr
      refine ⟨by simp [h1], fun j p q hp hq => ?_⟩
      cases j with
      | zero => simp at hp hq; subst hp hq; exact ⟨rfl, rfl, hy⟩
      | succ j => exact h2 j p q (by simpa using hp) (by simpa using hq)
  obtain ⟨hl, hinv⟩ := inv _ _ hp
  obtain ⟨C', hf, hrow'⟩ := fill_rel (gh := gh) (w := w) (n := s.H.length) (place := fun i => some (i * ie.size, ie.size)) ((parts.map fun p => (p.1, a.eval p.2)).toList) (ps.map fun p => (p.1, p.2.1, (p.2.2.eval G s.T).drop)) zv.cells z Z hrow he (by simpa using hl) (by
    intro j p q hp hq
    simp only [Array.toList_map, List.getElem?_map, Option.map_eq_some_iff] at hp hq
    obtain ⟨p0, hp0, rfl⟩ := hp
    obtain ⟨q0, hq0, rfl⟩ := hq
    obtain ⟨h1, h2, hc⟩ := hinv j p0 q0 hp0 hq0
    exact ⟨by simp [h1, h2, hies], part_rel hW hF hc⟩)
  have hb : P.built t (parts.map fun p => (p.1, a.eval p.2)).toList = some C' := by
    unfold Program.built
    rw [hi, hu]
    simp only [hzv, hie]
    exact hf
  refine ⟨.agg C', by simp [execOp, ho, run_build w t _ C' hb], .of_VR (.agg _ _ hrow'.1 (fun j v hj => ?_) (fun j v x hv hx => (hrow'.2 j v x hv hx).1))⟩
  have hlt : j < Z.length := by rw [← hrow'.1]; exact (Array.getElem?_eq_some_iff.1 hj).1
  exact (hrow'.2 j v _ hj (List.getElem?_eq_getElem hlt)).2

/-- The zero row of a literal. -/
theorem zero_rows {t : TypeId} {z : List AV} {zv : Value} {sz len : Nat} (hrow : RowC gh H.length w zv.cells z) (hall : ∀ x, x ∈ z → x.drop.plain = true) (hz : z.length = sz) (hpos : 0 < sz) :
    RowsP gh.S w sz ((Array.range (len * sz)).map (zv.cells[· % zv.cells.size]!)) (List.replicate len (z.map AV.drop)) := by
  have hsz : zv.cells.size = sz := by rw [hrow.1, hz]
  refine ⟨by simp, fun i r hi => ?_, fun i j r x hi hj => ?_⟩
  · rw [List.getElem?_replicate] at hi
    split at hi
    · injection hi with hi; subst hi; simpa using hz
    · cases hi
  · rw [List.getElem?_replicate] at hi
    split at hi
    · rename_i hlt
      injection hi with hi; subst hi
      simp only [List.getElem?_map, Option.map_eq_some_iff] at hj
      obtain ⟨y, hy, rfl⟩ := hj
      have hj : j < sz := by rw [← hz]; exact (List.getElem?_eq_some_iff.1 hy).1
      have hj' : j < zv.cells.size := by omega
      have hmod : (i * sz + j) % zv.cells.size = j := by rw [hsz, Nat.mul_add_mod', Nat.mod_eq_of_lt hj]
      refine ⟨zv.cells[j], ?_, ?_⟩
      · have hlt2 : i * sz + j < len * sz := mul_lt hlt hj
        rw [Array.getElem?_map, Array.getElem?_eq_getElem (by simpa using hlt2)]
        simp only [Array.getElem_range, Option.map_some, hmod]
        congr 1
        exact getElem!_pos zv.cells j hj'
      · have hv : zv.cells[j]? = some zv.cells[j] := Array.getElem?_eq_getElem hj'
        exact (VR.dropped (hrow.2 j _ y hv hy).1).plain_PR (hall y (List.mem_of_getElem? hy))
    · cases hi

theorem split_index {k n sz : Nat} (h : k < n * sz) : k / sz < n ∧ k % sz < sz ∧ k / sz * sz + k % sz = k := by
  have hsz : 0 < sz := by rcases Nat.eq_zero_or_pos sz with h0 | h0; · subst h0; simp at h
                          · exact h0
  refine ⟨Nat.div_lt_of_lt_mul (by rw [Nat.mul_comm]; exact h), Nat.mod_lt _ hsz, ?_⟩
  have := Nat.div_add_mod k sz
  rw [Nat.mul_comm] at this
  exact this

/-- A byte among rows that may become a block that stays. -/
theorem rows_bytes {S : Nat → Nat → Prop} {sz : Nat} {A : Array Value} {E : List (List AV)} {isB : Bool} {ty : TypeId} (h : RowsP S w sz A E) (hok : rowsOK isB E = true) (hB : isB = true → ty = byteTy) {k : Nat} {m : Int} (hk : k < E.length * sz)
    (hc : A[k]? = some (.int .u8 m)) : ty = byteTy := by
  cases isB with
  | true => exact hB rfl
  | false =>
    exfalso
    obtain ⟨h1, h2, h3⟩ := split_index hk
    have hr := List.getElem?_eq_getElem h1
    obtain ⟨x, hx⟩ : ∃ x, E[k / sz][k % sz]? = some x := ⟨_, List.getElem?_eq_getElem (show k % sz < E[k / sz].length by rw [h.2.1 _ _ hr]; exact h2)⟩
    obtain ⟨v, hv, hp⟩ := h.2.2 _ _ _ _ hr hx
    rw [h3, hc] at hv
    injection hv with hv
    subst hv
    have hn : noByte E = true := hok
    have h4 := List.all_eq_true.1 (List.all_eq_true.1 hn _ (List.mem_of_getElem? hr)) _ (List.mem_of_getElem? hx)
    cases hp <;> simp at h4

theorem PR.full {n : Nat} {b k : Nat} {e : List (List AV)} (h : PR gh.S w (.slice (some ⟨b, 0, none⟩) k k) (.slice e false)) (hb : b < w.heap.size) : VR gh n w (.slice (some ⟨b, 0, none⟩) k k) (.slice e true) := .full _ _ _ h (fun ad ha _ => by injection ha with ha; subst ha; exact hb)

/-- A slice's literal. -/
theorem ev_mkslice (hW : WRel G base s.H gh w) (hF : FR L nt gh w a s) {o : Oper} {t e : TypeId} {len sz : Nat} {parts : Array (Nat × Operand)} {z : List AV} {E : List (List AV)} {ps : List (Nat × IArg)} {isB : Bool}
    (ho : o.op = .buildSlice t len parts) (hu : P.underlying t = some (.slice e)) (hs : sizeT P e = some sz) (hz : zeroT P e = some z) (hp : compElems nt parts.toList = some ps)
    (hok : rowsOK isB E = true) (hisB : isB = true → e = byteTy) (hsmall : len * sz ≤ 16777216) (hzl : z.length = sz) (hpos : 0 < sz)
    (he : sliceParts sz (List.replicate len (z.map AV.drop)) (ps.map fun p => (p.1, (p.2.eval G s.T).drop)) = some E) (hd : ∀ k, o.dst = some k → k < nt) :
    ∃ v' gh' w', Ran P a o w v' w' ∧ Out G base nt L gh w a s o.dst (.slice E true) s v' gh' w' := by
  obtain ⟨i, zv, hi, hzv, hrow⟩ := zero_row (gh := gh) (n := s.H.length) (w := w) hz
  obtain ⟨ie, hie, hies⟩ := info_of_size hs
  rw [hi] at hie; injection hie with hie; subst hie
  have inv : ∀ (l : List (Nat × Operand)) (ps : List (Nat × IArg)), compElems nt l = some ps → l.length = ps.length ∧
      ∀ (j : Nat) (p : Nat × Operand) (q : Nat × IArg), l[j]? = some p → ps[j]? = some q → q.1 = p.1 ∧ compArg nt p.2 = some q.2 := by
    intro l
    induction l with
    | nil => intro ps h; simp [compElems] at h; subst h; exact ⟨rfl, fun j p q h => by simp at h⟩
    | cons p l ih =>
      intro ps h
      obtain ⟨k, x⟩ := p
      simp only [compElems, Option.bind_eq_some_iff, Option.map_eq_some_iff] at h
      obtain ⟨y, hy, rest, hr, rfl⟩ := h
      obtain ⟨h1, h2⟩ := ih rest hr
      refine ⟨by simp [h1], fun j p q hp hq => ?_⟩
      cases j with
      | zero => simp at hp hq; subst hp hq; exact ⟨rfl, hy⟩
      | succ j => exact h2 j p q (by simpa using hp) (by simpa using hq)
  obtain ⟨hl, hinv⟩ := inv _ _ hp
  obtain ⟨C', hf, hrows⟩ := fill_rows (w := w) (S := gh.S) (sz := sz) ((parts.map fun p => (p.1, a.eval p.2)).toList) (ps.map fun p => (p.1, (p.2.eval G s.T).drop)) _ _ E (zero_rows (t := e) (len := len) hrow (zeroT_all hz) hzl hpos) he (by simpa using hl) (by
    intro j p q hp hq
    simp only [Array.toList_map, List.getElem?_map, Option.map_eq_some_iff] at hp hq
    obtain ⟨p0, hp0, rfl⟩ := hp
    obtain ⟨q0, hq0, rfl⟩ := hq
    obtain ⟨h1, hc⟩ := hinv j p0 q0 hp0 hq0
    exact ⟨h1.symm, fun cs hcs => elem_rel (part_rel hW hF hc) hcs⟩)
  have hlenE : E.length = len := by
    have : ∀ (ip : List (Nat × AV)) (es E : List (List AV)), sliceParts sz es ip = some E → E.length = es.length := by
      intro ip
      induction ip with
      | nil => intro es E h; simp [sliceParts] at h; rw [h]
      | cons q ip ih =>
        intro es E h
        obtain ⟨i, v⟩ := q
        simp only [sliceParts] at h
        split at h
        · cases h
        · obtain ⟨_, h⟩ := cond_some h
          rw [ih _ _ h]; simp
    rw [this _ _ _ he]; simp
  have hp' := Pushed.alloc w (.cells C' e)
  have hne := slo_out o.dst
  have hrun : (Instr.buildSlice t len (parts.map fun p => (p.1, a.eval p.2))).run P w = .ok (.slice (some ⟨w.heap.size, 0, none⟩) len len) (w.alloc (.cells C' e)) := by
    by_cases h0 : len * sz = 0
    · have hlen0 : len = 0 := by rcases Nat.mul_eq_zero.1 h0 with h | h <;> omega
      subst hlen0
      have hE : ps = [] := by
        cases hps : ps with
        | nil => rfl
        | cons q r =>
          rw [hps] at he
          simp only [List.map_cons, sliceParts, List.replicate_zero, List.length_nil] at he
          split at he
          · cases he
          · obtain ⟨h, _⟩ := cond_some he
            simp [Nat.blt_eq] at h
      have hpl : parts.toList = [] := by
        have : parts.toList.length = 0 := by rw [hl, hE]; rfl
        exact List.length_eq_zero_iff.1 this
      have hpa : parts = #[] := by simpa using hpl
      subst hpa
      have hr0 : Array.range 0 = #[] := rfl
      have hC' : C' = #[] := by simpa [Instr.fill, hr0] using hf.symm
      subst hC'
      simp [Instr.buildSlice, run_underlying hu, sizeOf, typeInfo, hi, Instr.fill, newRow, hr0]
    · exact run_buildSlice w t e len _ C' i zv hu hi hzv (by rw [hies]; omega) (by rw [hies]; exact h0) (by rw [hies]; exact hf)
  have hPR := hrows.slice (gh := gh) rfl hp' (p := slo o.dst) hW.sLt (fun j _ => rfl) (q := fun _ => True) (fun _ _ => trivial) E.length (Nat.le_refl _)
  have hv : VR (gh.alloc w.heap.size (slo o.dst) fun _ => True) s.H.length (w.alloc (.cells C' e)) (.slice (some ⟨w.heap.size, 0, none⟩) E.length E.length) (.slice E true) := .full _ _ _ hPR (fun ad ha _ => by injection ha with ha; subst ha; simp)
  rw [hlenE] at hv
  have st := alloc_step hW hp' hne (fun _ => True) s.H.length
  have hF' : FR L nt (gh.alloc w.heap.size (slo o.dst) fun _ => True) (w.alloc (.cells C' e)) a s := hF.grown (H' := s.H) (lo' := s.lo) st (fun i => ⟨id, id, fun _ => id⟩) (Nat.le_refl _)
  have hW' := hW.alloc hp' hne (fun _ => True) (fun k m _ hc => by
    rw [cell_of_row _ _ k _ _ _ hp'.new] at hc
    have hk : k < E.length * sz := by rw [← hrows.1]; exact (Array.getElem?_eq_some_iff.1 hc).1
    have := rows_bytes hrows hok hisB hk hc
    subst this
    exact ⟨C', (0, 0), hp'.new⟩)
  refine ⟨.slice (some ⟨w.heap.size, 0, none⟩) len len, _, _, .inl ?_, hW', hF'.putG (gen' := s.gen) (Nat.le_refl _) (fun b hb => hW'.not_outer b hb) o.dst hd (.inl rfl) (fun k hk => ?_), alloc_ext hW hp' hne _ _⟩
  · have : (parts.map fun x => (x.1, a.eval x.2)) = parts.map fun p => (p.1, a.eval p.2) := rfl
    simp [execOp, ho, hrun]
  · exact sr_of_CR (.inl hv)

end
end Go.Abs
