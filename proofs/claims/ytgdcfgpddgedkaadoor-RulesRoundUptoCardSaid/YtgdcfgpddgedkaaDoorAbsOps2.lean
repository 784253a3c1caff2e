/-
  Operations that read and reckon, more of them.
-/
import Derived.Test.YtgdcfgpddgedkaaDoorAbsOps1
namespace Go.Abs
set_option linter.unusedSimpArgs false
set_option linter.unusedVariables false

section
variable {P : Program} {G : Nat → List AV} {base nt : Nat} {L : List Nat} {gh : Gh} {w : World} {a : Act} {s : AS}

/-- A live address is a pointer. -/
theorem live_ptr (hF : FR L nt gh w a s) {v : Value} {z : AV} (hv : Val gh s.H.length nt w s.T s.gen (tmv a) v z) (hl : liveAddr s z = true) :
    ∃ b o, v = .pointer (some ⟨b, o, none⟩) := by
  cases z <;> simp only [liveAddr, Bool.false_eq_true] at hl
  case eptr cs =>
    have hp := VR.inv_eptr (hv : VR gh s.H.length w v (.eptr cs))
    cases hp; exact ⟨_, _, rfl⟩
  case ref loc off => exact ⟨_, _, (VR.inv_ref (hv : VR gh s.H.length w v (.ref loc off))).2⟩
  case lref b g off =>
    obtain ⟨hb, hg, hr⟩ := (hv : _ ∧ _ ∧ _)
    split at hl
    · rename_i g' cs hT
      have hgg : g = g' := by simpa [nbeq] using hl
      obtain ⟨k, hk, _⟩ := sr_lbox hF hb hT
      exact ⟨_, _, hr (by rw [hT, hgg]; rfl) k hk⟩
    · cases hl
  case eref b g i zz off =>
    obtain ⟨hb, hg, hr⟩ := (hv : _ ∧ _ ∧ _)
    split at hl
    · rename_i g' e hT
      obtain ⟨h1, h2⟩ := by simpa [nbeq, Nat.blt_eq] using hl
      obtain ⟨ad, cap, hv', hrow⟩ := sr_lsl hF hb hT
      rcases hrow with ⟨rfl, _⟩ | ⟨k, _, _, _, _, rfl, _⟩
      · simp at h2
      · exact ⟨_, _, hr (by rw [hT, h1]; rfl) k _ _ hv'⟩
    · cases hl

theorem ev_nilCheck (hW : WRel G base s.H gh w) (hF : FR L nt gh w a s) {o : Oper} {x : Operand} {y : IArg} (ho : o.op = .nilCheck x) (hc : compArg nt x = some y) (hl : liveAddr s (y.addr G s.T) = true) :
    ∃ v, (execOp a.eval o).run P w = .ok (.value v) w ∧ Val gh s.H.length nt w s.T s.gen (tmv a) v (y.addr G s.T) := by
  have hv := arg_val hW hF hc
  have hd : (y.addr G s.T).drop = y.addr G s.T := by cases hz : y.addr G s.T <;> rw [hz] at hl <;> first | rfl | (simp [liveAddr] at hl)
  rw [hd] at hv
  obtain ⟨b, of, hp⟩ := live_ptr hF hv hl
  refine ⟨a.eval x, ?_, hv⟩
  simp [execOp, ho, hp]

/-- An address further on. -/
theorem off_val (hF : FR L nt gh w a s) {v : Value} {z z' : AV} (hv : Val gh s.H.length nt w s.T s.gen (tmv a) v z) (hl : liveAddr s z = true) {off : Nat} (ho : offAddr off z = some z') :
    ∃ b o, v = .pointer (some ⟨b, o, none⟩) ∧ Val gh s.H.length nt w s.T s.gen (tmv a) (.pointer (some ⟨b, o + off, none⟩)) z' := by
  cases z <;> simp only [offAddr, Option.some.injEq, reduceCtorEq] at ho <;> subst ho
  case eptr cs =>
    have hp := VR.inv_eptr (hv : VR gh s.H.length w v (.eptr cs))
    cases hp with
    | eptr b o _ f hcell hrel =>
      refine ⟨b, o, rfl, .of_VR (.plain _ _ (.eptr b (o + off) _ (fun j => f (off + j)) ?_ ?_))⟩
      · intro j x hx
        rw [List.getElem?_drop] at hx
        have := hcell (off + j) x hx
        rw [Nat.add_assoc]
        exact this
      · intro j x hx
        rw [List.getElem?_drop] at hx
        exact hrel (off + j) x hx
  case ref loc of =>
    obtain ⟨hlt, rfl⟩ := VR.inv_ref (hv : VR gh s.H.length w v (.ref loc of))
    exact ⟨_, _, rfl, .of_VR (.ref loc (of + off) hlt)⟩
  case lref b g of =>
    obtain ⟨k, o, rfl⟩ := live_ptr hF hv hl
    obtain ⟨hb, hg, hr⟩ := (hv : _ ∧ _ ∧ _)
    refine ⟨k, o, rfl, hb, hg, fun h1 b' h2 => ?_⟩
    have := hr h1 b' h2
    injection this with this; injection this with this; injection this with e1 e2
    rw [e1, e2]
  case eref b g i zz of =>
    obtain ⟨k, o, rfl⟩ := live_ptr hF hv hl
    obtain ⟨hb, hg, hr⟩ := (hv : _ ∧ _ ∧ _)
    refine ⟨k, o, rfl, hb, hg, fun h1 b' c1 c2 h2 => ?_⟩
    have := hr h1 b' c1 c2 h2
    injection this with this; injection this with this; injection this with e1 e2
    rw [e1, e2, Nat.add_assoc]

theorem live_drop {z : AV} (hl : liveAddr s z = true) : z.drop = z := by cases z <;> first | rfl | (simp [liveAddr] at hl)

theorem ev_fieldAddr (hW : WRel G base s.H gh w) (hF : FR L nt gh w a s) {o : Oper} {t : TypeId} {x : Operand} {f : Nat} {y : IArg} {fs : Array Go.Field} {q : Go.Field} {sz : Nat} {z : AV}
    (ho : o.op = .fieldAddr t x f) (hc : compArg nt x = some y) (hu : P.underlying t = some (.struct fs)) (hq : fs[f]? = some q) (hs : sizeT P q.type = some sz) (h0 : 0 < sz)
    (hl : liveAddr s (y.addr G s.T) = true) (he : offAddr q.offset (y.addr G s.T) = some z) :
    ∃ v, (execOp a.eval o).run P w = .ok (.value v) w ∧ Val gh s.H.length nt w s.T s.gen (tmv a) v z := by
  have hv := arg_val hW hF hc
  rw [live_drop hl] at hv
  obtain ⟨b, of, hp, hv'⟩ := off_val hF hv hl he
  refine ⟨_, ?_, hv'⟩
  have hne : ¬ sz = 0 := by omega
  simp [execOp, ho, hp, Instr.fieldAt, run_underlying hu, hq, Instr.sureAddr, fieldPlace, run_sizeOf' hs, hne, addr_add]

theorem ev_ixArr (hW : WRel G base s.H gh w) (hF : FR L nt gh w a s) {o : Oper} {t e : TypeId} {x i : Operand} {n sz k : Nat} {y yi : IArg} {z : AV}
    (ho : o.op = .indexAddr t x i) (hc : compArg nt x = some y) (hi : compArg nt i = some yi) (hu : P.underlying t = some (.array n e)) (hs : sizeT P e = some sz)
    (hk : asNat (yi.eval G s.T) = some k) (hkn : k < n) (hl : liveAddr s (y.addr G s.T) = true) (he : offAddr (k * sz) (y.addr G s.T) = some z) :
    ∃ v, (execOp a.eval o).run P w = .ok (.value v) w ∧ Val gh s.H.length nt w s.T s.gen (tmv a) v z := by
  have hv := arg_val hW hF hc
  rw [live_drop hl] at hv
  obtain ⟨b, of, hp, hv'⟩ := off_val hF hv hl he
  obtain ⟨kd, hik⟩ := asNat_inv hW hF hi hk
  refine ⟨_, ?_, hv'⟩
  have h1 : k < n := hkn
  simp [execOp, ho, hp, hik, Instr.indexAt, asIntOf, run_underlying hu, Instr.sureAddr, run_sizeOf' hs, h1, addr_add]

theorem ev_ixSl (hW : WRel G base s.H gh w) (hF : FR L nt gh w a s) {o : Oper} {t e : TypeId} {x i : Operand} {sz k : Nat} {y yi : IArg} {el : List (List AV)} {own : Bool} {r : List AV}
    (ho : o.op = .indexAddr t x i) (hc : compArg nt x = some y) (hi : compArg nt i = some yi) (hu : P.underlying t = some (.slice e)) (hs : sizeT P e = some sz)
    (hk : asNat (yi.eval G s.T) = some k) (hy : y.addr G s.T = .slice el own) (hr : el[k]? = some r) (hrl : r.length = sz) :
    ∃ v, (execOp a.eval o).run P w = .ok (.value v) w ∧ Val gh s.H.length nt w s.T s.gen (tmv a) v (.eptr r) := by
  have hv := VR.inv_slice (arg_VR' hW hF hc hy rfl)
  obtain ⟨kd, hik⟩ := asNat_inv hW hF hi hk
  generalize hA : a.eval x = V at hv
  cases hv with
  | sliceNil => simp at hr
  | slice b of n cap sz' _ f hn hcap hrow hcell hrel =>
    have hkl : k < el.length := (List.getElem?_eq_some_iff.1 hr).1
    have hsz : sz' = sz := by rw [← hrl, hrow k r hr]
    subst hsz
    refine ⟨.pointer (some ⟨b, of + k * sz', none⟩), ?_, .of_VR (.plain _ _ (.eptr b (of + k * sz') r (f k) (fun j x hx => hcell k j r x hr hx) (fun j x hx => hrel k j r x hr hx)))⟩
    have h1 : k < n := by omega
    simp [execOp, ho, hA, hik, Instr.indexAt, asIntOf, run_underlying hu, run_sizeOf' hs, h1, addr_add]

theorem ev_ixSref (hW : WRel G base s.H gh w) (hF : FR L nt gh w a s) {o : Oper} {t e : TypeId} {x i : Operand} {sz k l of m : Nat} {y yi : IArg}
    (ho : o.op = .indexAddr t x i) (hc : compArg nt x = some y) (hi : compArg nt i = some yi) (hu : P.underlying t = some (.slice e)) (hs : sizeT P e = some sz)
    (hk : asNat (yi.eval G s.T) = some k) (hy : y.addr G s.T = .sref l of m) (hkm : k < m) :
    ∃ v, (execOp a.eval o).run P w = .ok (.value v) w ∧ Val gh s.H.length nt w s.T s.gen (tmv a) v (.ref l (of + k * sz)) := by
  obtain ⟨hlt, cap, _, hA⟩ := VR.inv_sref (arg_VR' hW hF hc hy rfl)
  obtain ⟨kd, hik⟩ := asNat_inv hW hF hi hk
  refine ⟨.pointer (some ⟨gh.ρ l, of + k * sz, none⟩), ?_, .of_VR (.ref l (of + k * sz) hlt)⟩
  simp [execOp, ho, hA, hik, Instr.indexAt, asIntOf, run_underlying hu, run_sizeOf' hs, hkm, addr_add]

theorem ev_ixLsr (hW : WRel G base s.H gh w) (hF : FR L nt gh w a s) {o : Oper} {t e : TypeId} {x i : Operand} {sz k b g : Nat} {y yi : IArg} {el : List (List AV)} {r : List AV}
    (ho : o.op = .indexAddr t x i) (hc : compArg nt x = some y) (hi : compArg nt i = some yi) (hu : P.underlying t = some (.slice e)) (hs : sizeT P e = some sz)
    (hk : asNat (yi.eval G s.T) = some k) (hy : y.addr G s.T = .lsr b g) (hT : s.T b = .lsl g el) (hr : el[k]? = some r) (hrl : r.length = sz) :
    ∃ v, (execOp a.eval o).run P w = .ok (.value v) w ∧ Val gh s.H.length nt w s.T s.gen (tmv a) v (.eref b g k sz 0) := by
  have hv := arg_val hW hF hc
  rw [hy] at hv
  obtain ⟨hb, hg, hrr⟩ := (hv : _ ∧ _ ∧ _)
  obtain ⟨kd, hik⟩ := asNat_inv hW hF hi hk
  have hax := hrr (by rw [hT]; rfl)
  have hkl : k < el.length := (List.getElem?_eq_some_iff.1 hr).1
  obtain ⟨ad, cap, hv', hrow⟩ := sr_lsl hF hb hT
  rcases hrow with ⟨rfl, _⟩ | ⟨c, C, ty, sz', _, rfl, hκ, hS, hkb, hC, hl, hrw, hcs⟩
  · simp at hr
  · have h1 : k < el.length := hkl
    refine ⟨.pointer (some ⟨c, k * sz, none⟩), ?_, hb, hg, fun _ b' c1 c2 h2 => ?_⟩
    · simp [execOp, ho, hax, hv', hik, Instr.indexAt, asIntOf, run_underlying hu, run_sizeOf' hs, h1, addr_add]
    · rw [hv'] at h2
      injection h2 with h2 _ _
      injection h2 with h2
      injection h2 with h2
      subst h2; simp

theorem ev_pick (hW : WRel G base s.H gh w) (hF : FR L nt gh w a s) {o : Oper} {c x y : Operand} {ic ix iy : IArg} {t : Bool}
    (ho : o.op = .pick c x y) (hc : compArg nt c = some ic) (hx : compArg nt x = some ix) (hy : compArg nt y = some iy) (ht : ic.eval G s.T = .bool t) :
    ∃ v, (execOp a.eval o).run P w = .ok (.value v) w ∧ Val gh s.H.length nt w s.T s.gen (tmv a) v (cond t (ix.addr G s.T).drop (iy.addr G s.T).drop) := by
  have hb := (arg_VR hW hF hc ht rfl).inv_bool
  have h1 := arg_val hW hF hx
  have h2 := arg_val hW hF hy
  cases t
  · exact ⟨_, by simp [execOp, ho, hb, asBool], h2⟩
  · exact ⟨_, by simp [execOp, ho, hb, asBool], h1⟩

theorem ev_un (hW : WRel G base s.H gh w) (hF : FR L nt gh w a s) {o : Oper} {op : UnOp} {t : TypeId} {x : Operand} {ix : IArg} {z : AV}
    (ho : o.op = .unOp op t x) (hc : compArg nt x = some ix) (he : unAV op (ix.eval G s.T) = some z) :
    ∃ v, (execOp a.eval o).run P w = .ok (.value v) w ∧ Val gh s.H.length nt w s.T s.gen (tmv a) v z := by
  generalize hz : ix.eval G s.T = X at he
  unfold unAV at he
  split at he <;> first | (injection he with he; subst he) | cases he
  · have hv := (arg_VR hW hF hc hz rfl).inv_int
    exact ⟨_, by simp [execOp, ho, hv, Op.unary, Op.intArith], .of_VR (.plain _ _ (.int _ _))⟩
  · have hv := (arg_VR hW hF hc hz rfl).inv_bool
    exact ⟨_, by simp [execOp, ho, hv, Op.unary], .of_VR (.plain _ _ (.bool _))⟩

theorem ev_toInt (hW : WRel G base s.H gh w) (hF : FR L nt gh w a s) {o : Oper} {st dt : TypeId} {x : Operand} {ix : IArg} {k k' : IntKind} {z : AV}
    (ho : o.op = .convert st dt x) (hc : compArg nt x = some ix) (hs : P.underlying st = some (.int k')) (hd : P.underlying dt = some (.int k)) (he : convAV (.toInt k) (ix.eval G s.T) = some z) :
    ∃ v, (execOp a.eval o).run P w = .ok (.value v) w ∧ Val gh s.H.length nt w s.T s.gen (tmv a) v z := by
  generalize hz : ix.eval G s.T = X at he
  cases X <;> simp [convAV] at he
  subst he
  have hv := (arg_VR hW hF hc hz rfl).inv_int
  exact ⟨_, by simp [execOp, ho, hv, convert, run_underlying hs, run_underlying hd, Conv.intToInt], .of_VR (.plain _ _ (.int _ _))⟩

theorem ev_strSame (hW : WRel G base s.H gh w) (hF : FR L nt gh w a s) {o : Oper} {st dt : TypeId} {x : Operand} {ix : IArg} {z : AV}
    (ho : o.op = .convert st dt x) (hc : compArg nt x = some ix) (hs : P.underlying st = some .string) (hd : P.underlying dt = some .string) (he : convAV .strSame (ix.eval G s.T) = some z) :
    ∃ v, (execOp a.eval o).run P w = .ok (.value v) w ∧ Val gh s.H.length nt w s.T s.gen (tmv a) v z := by
  generalize hz : ix.eval G s.T = X at he
  cases X <;> simp [convAV] at he
  subst he
  obtain ⟨b, hv, hl⟩ := (arg_VR hW hF hc hz rfl).inv_str
  exact ⟨_, by simp [execOp, ho, hv, convert, run_underlying hs, run_underlying hd], .of_VR (.plain _ _ (.str _ _ hl))⟩

theorem foldl_push (ns : List Int) : ∀ s : ByteArray, (ns.foldl (fun r n => r.push (UInt8.ofNat n.toNat)) s).data.toList = s.data.toList ++ ns.map fun n => UInt8.ofNat n.toNat := by
  induction ns with
  | nil => intro s; simp
  | cons n ns ih => intro s; rw [List.foldl_cons, ih]; simp [ByteArray.push]

theorem bytesOf_inv : ∀ {e : List (List AV)} {l : List UInt8}, bytesOf e = some l → ∃ ns : List Int, e = ns.map (fun n => [AV.int .u8 n]) ∧ l = ns.map fun n => UInt8.ofNat n.toNat
  | [], l, h => by simp [bytesOf] at h; exact ⟨[], rfl, by simp [h]⟩
  | r :: e, l, h => by
    unfold bytesOf at h
    split at h
    · rename_i hh; cases hh
    · rename_i n r' heq
      injection heq with h1 h2
      subst h1 h2
      simp only [Option.map_eq_some_iff] at h
      obtain ⟨l', hl', rfl⟩ := h
      obtain ⟨ns, rfl, rfl⟩ := bytesOf_inv hl'
      exact ⟨n :: ns, rfl, rfl⟩
    · cases h

theorem run_bytes {n0 : Nat} {V : Value} {ns : List Int} (hv : PR gh.S w V (.slice (ns.map fun n => [AV.int .u8 n]) false)) :
    ∃ q : ByteArray, (Conv.bytesToString V).run P w = .ok (.string q) w ∧ q.data.toList = ns.map (fun n => UInt8.ofNat n.toNat) ∧ ∃ b c d, V = .slice b c d := by
  generalize hE : (ns.map fun n => [AV.int .u8 n]) = E at hv
  cases hv with
  | sliceNil =>
    have : ns = [] := by simpa using hE
    subst this
    exact ⟨ByteArray.empty, by simp [Conv.bytesToString], rfl, _, _, _, rfl⟩
  | slice b of n cap sz' _ f hn hcap hrow hcell hrel =>
    subst hE
    have hlen : n = ns.length := by rw [← hn]; simp
    have hload : (loadCells ⟨b, of, none⟩ n).run P w = .ok (ns.map (Value.int .u8)).toArray w := by
      have := run_loadCells_list (P := P) w ⟨b, of, none⟩ (ns.map (Value.int .u8)) (fun j v hj => by
        simp only [List.getElem?_map, Option.map_eq_some_iff] at hj
        obtain ⟨m, hm, rfl⟩ := hj
        have hr : (ns.map fun n => [AV.int .u8 n])[j]? = some [AV.int .u8 m] := by simp [hm]
        have hs1 : sz' = 1 := by rw [← hrow j _ hr]; rfl
        subst hs1
        obtain ⟨_, h1, _⟩ := hcell j 0 _ _ hr rfl
        have h2 := hrel j 0 _ _ hr rfl
        have h3 : f j 0 = .int .u8 m := by generalize f j 0 = F at h2; cases h2; rfl
        rw [addr_add, ← h3, ← h1]; simp)
      rw [List.length_map, ← hlen] at this
      exact this
    refine ⟨_, run_bytesToString w _ n cap ns hload, ?_, _, _, _, rfl⟩
    rw [foldl_push]; simp [ByteArray.empty, ByteArray.emptyWithCapacity]; rfl

theorem ev_bytesStr (hW : WRel G base s.H gh w) (hF : FR L nt gh w a s) {o : Oper} {st dt e : TypeId} {x : Operand} {ix : IArg} {z : AV}
    (ho : o.op = .convert st dt x) (hc : compArg nt x = some ix) (hs : P.underlying st = some (.slice e)) (hE : P.underlying e = some (.int .u8)) (hd : P.underlying dt = some .string) (he : convAV .bytesStr (ix.eval G s.T) = some z) :
    ∃ v, (execOp a.eval o).run P w = .ok (.value v) w ∧ Val gh s.H.length nt w s.T s.gen (tmv a) v z := by
  generalize hz : ix.eval G s.T = X at he
  cases X <;> simp only [convAV, reduceCtorEq, Option.map_eq_some_iff] at he
  obtain ⟨l, hl, rfl⟩ := he
  obtain ⟨ns, rfl, rfl⟩ := bytesOf_inv hl
  have hv := VR.inv_slice (arg_VR hW hF hc hz rfl)
  obtain ⟨q, h1, h2, b, c, d, hV⟩ := run_bytes (P := P) (n0 := 0) hv
  refine ⟨.string q, ?_, .of_VR (.plain _ _ (.str _ _ h2))⟩
  have h3 : (convert st dt (a.eval x)).run P w = .ok (.string q) w := by rw [hV] at h1 ⊢; rw [run_convert_bytes_string w st dt e b c d hs hE hd, h1]
  simp [execOp, ho, h3]

end
end Go.Abs
