/-
  The relation between abstract values and the model's worlds, and how it is kept. No program in sight.
-/
import Derived.Test.YtgdcfgpddgedkaaDoorAbsDefs
import Derived.Laws.AppendOwn
import Derived.Below
namespace Go.Abs

/-- Who may write a block. -/
inductive Owner where
  | none | outer | ret
  | hb (loc : Nat)
  | hs (loc j : Nat)
  | bx (i : Nat)
  | sl (i : Nat)
  | sc (i j : Nat)
  deriving DecidableEq, Inhabited

/-- What is kept beside the world: the cells that stay as they are; who may write a block; the block of each object. -/
structure Gh where
  S : Nat → Nat → Prop
  κ : Nat → Owner
  ρ : Nat → Nat

/-- A value that reads as an abstract one, in memory that stays as it is. -/
inductive PR (S : Nat → Nat → Prop) (w : World) : Value → AV → Prop where
  | bool (b : Bool) : PR S w (.bool b) (.bool b)
  | int (k : IntKind) (n : Int) : PR S w (.int k n) (.int k n)
  | str (s : ByteArray) (l : List UInt8) (h : s.data.toList = l) : PR S w (.string s) (.str l)
  | any (v : Value) (h : v.oneCell' = true) : PR S w v .any
  | nilptr : PR S w (.pointer none) .nilptr
  | nilmap : PR S w (.map none) .nilmap
  | nilfunc : PR S w .nilFunc .nilfunc
  | niliface : PR S w .nilIface .niliface
  | func (f : Fn) : PR S w (.func f #[] #[]) (.func f [] [])
  | iface (t : TypeId) (v : Value) (x : AV) (h : PR S w v x) : PR S w (.iface t v) (.iface t x)
  | sliceNil : PR S w (.slice none 0 0) (.slice [] false)
  | slice (b o n cap sz : Nat) (e : List (List AV)) (f : Nat → Nat → Value) (hn : e.length = n) (hcap : n ≤ cap)
      (hrow : ∀ (i : Nat) (r : List AV), e[i]? = some r → r.length = sz)
      (hcell : ∀ (i j : Nat) (r : List AV) (x : AV), e[i]? = some r → r[j]? = some x → S b (o + i * sz + j) ∧ w.cell? ⟨b, o + i * sz + j, none⟩ = some (f i j) ∧ (f i j).oneCell' = true)
      (hrel : ∀ (i j : Nat) (r : List AV) (x : AV), e[i]? = some r → r[j]? = some x → PR S w (f i j) x) :
      PR S w (.slice (some ⟨b, o, none⟩) n cap) (.slice e false)
  | eptr (b o : Nat) (cs : List AV) (f : Nat → Value)
      (hcell : ∀ (j : Nat) (x : AV), cs[j]? = some x → S b (o + j) ∧ w.cell? ⟨b, o + j, none⟩ = some (f j) ∧ (f j).oneCell' = true)
      (hrel : ∀ (j : Nat) (x : AV), cs[j]? = some x → PR S w (f j) x) :
      PR S w (.pointer (some ⟨b, o, none⟩)) (.eptr cs)

theorem PR.oneCell {S : Nat → Nat → Prop} {w : World} {v : Value} {x : AV} (h : PR S w v x) : v.oneCell' = true := by
  cases h <;> first | rfl | assumption

/-- What stays stays read. -/
theorem PR.mono {S S' : Nat → Nat → Prop} {w w' : World} (hS : ∀ b o, S b o → S' b o) (hc : ∀ b o, S b o → w'.cell? ⟨b, o, none⟩ = w.cell? ⟨b, o, none⟩)
    {v : Value} {x : AV} (h : PR S w v x) : PR S' w' v x := by
  induction h with
  | bool b => exact .bool b
  | int k n => exact .int k n
  | str s l h => exact .str s l h
  | any v h => exact .any v h
  | nilptr => exact .nilptr
  | nilmap => exact .nilmap
  | nilfunc => exact .nilfunc
  | niliface => exact .niliface
  | func f => exact .func f
  | iface t v x _ ih => exact .iface t v x ih
  | sliceNil => exact .sliceNil
  | slice b o n cap sz e f hn hcap hrow hcell _ ih =>
    exact .slice b o n cap sz e f hn hcap hrow (fun i j r x h1 h2 => by
      obtain ⟨a, c, d⟩ := hcell i j r x h1 h2
      exact ⟨hS _ _ a, (hc _ _ a).trans c, d⟩) ih
  | eptr b o cs f hcell _ ih =>
    exact .eptr b o cs f (fun j x h => by
      obtain ⟨a, c, d⟩ := hcell j x h
      exact ⟨hS _ _ a, (hc _ _ a).trans c, d⟩) ih

/-- A value of a slot, without the right to append in place. 'n': the abstract heap's size. -/
inductive VR (gh : Gh) (n : Nat) (w : World) : Value → AV → Prop where
  | plain (v : Value) (x : AV) (h : PR gh.S w v x) : VR gh n w v x
  | full (a : Option Addr) (k : Nat) (e : List (List AV)) (h : PR gh.S w (.slice a k k) (.slice e false)) (hz : ∀ ad, a = some ad → e = [] → ad.block < w.heap.size) : VR gh n w (.slice a k k) (.slice e true)
  | ref (loc off : Nat) (h : loc < n) : VR gh n w (.pointer (some ⟨gh.ρ loc, off, none⟩)) (.ref loc off)
  | sref (loc off k cap : Nat) (h : loc < n) (hk : k ≤ cap) : VR gh n w (.slice (some ⟨gh.ρ loc, off, none⟩) k cap) (.sref loc off k)
  | func (f : Fn) (fs cs : Array Value) (xs ys : List AV) (hf : fs.size = xs.length) (hc : cs.size = ys.length)
      (h1 : ∀ (j : Nat) (v : Value) (x : AV), fs[j]? = some v → xs[j]? = some x → VR gh n w v x)
      (h2 : ∀ (j : Nat) (v : Value) (x : AV), cs[j]? = some v → ys[j]? = some x → VR gh n w v x) : VR gh n w (.func f fs cs) (.func f xs ys)
  | iface (t : TypeId) (v : Value) (x : AV) (h : VR gh n w v x) : VR gh n w (.iface t v) (.iface t x)
  | agg (cs : Array Value) (xs : List AV) (hs : cs.size = xs.length)
      (hone : ∀ (j : Nat) (v : Value), cs[j]? = some v → v.oneCell' = true)
      (h : ∀ (j : Nat) (v : Value) (x : AV), cs[j]? = some v → xs[j]? = some x → VR gh n w v x) : VR gh n w (.agg cs) (.agg xs)
  | tuple (vs : Array Value) (xs : List AV) (hs : vs.size = xs.length)
      (h : ∀ (j : Nat) (v : Value) (x : AV), vs[j]? = some v → xs[j]? = some x → VR gh n w v x) : VR gh n w (.tuple vs) (.tuple xs)

/-- A block of n cells. -/
def BlkLen (w : World) (b : Nat) (ty : TypeId) (n : Nat) : Prop := ∃ C fr, w.heap[b]? = some (.cells C ty fr) ∧ C.size = n

/-- A block that nobody has written: only bytes that stay as they are may have been frozen. -/
def Kept (S : Nat → Prop) (x y : Option Obj) : Prop :=
  y = x ∨ ∃ C ty lo hi lo' hi', x = some (.cells C ty (lo, hi)) ∧ y = some (.cells C ty (lo', hi')) ∧ (∃ o n, S o ∧ C[o]? = some (Value.int .u8 n)) ∧ ∀ m, hi ≤ m → (∀ o, m ≤ o → ¬ S o) → hi' ≤ m

theorem Kept.none {S : Nat → Prop} {x y : Option Obj} (h : Kept S x y) (hS : ∀ o, ¬ S o) : y = x := by
  rcases h with h | ⟨_, _, _, _, _, _, _, _, ⟨o, _, ho, _⟩, _⟩
  · exact h
  · exact absurd ho (hS o)

theorem Kept.trans {S T : Nat → Prop} {x y z : Option Obj} (h : Kept S x y) (h' : Kept T y z) (hT : ∀ o, T o → S o) : Kept S x z := by
  rcases h with rfl | ⟨C, ty, lo, hi, lo', hi', h1, h2, h3, h4⟩
  · rcases h' with rfl | ⟨C, ty, lo, hi, lo', hi', h1, h2, ⟨o, n, ho, hn⟩, h4⟩
    · exact .inl rfl
    · exact .inr ⟨C, ty, lo, hi, lo', hi', h1, h2, ⟨o, n, hT o ho, hn⟩, fun m hm hS => h4 m hm (fun o ho ht => hS o ho (hT o ht))⟩
  · rcases h' with rfl | ⟨C2, ty2, lo2, hi2, lo3, hi3, k1, k2, _, k4⟩
    · exact .inr ⟨C, ty, lo, hi, lo', hi', h1, h2, h3, h4⟩
    · rw [h2] at k1
      injection k1 with k1
      injection k1 with e1 e2 e3
      injection e3 with e3 e4
      subst e1 e2 e3 e4
      exact .inr ⟨C, ty, lo, hi, lo3, hi3, h1, k2, h3, fun m hm hS => k4 m (h4 m hm hS) (fun o ho ht => hS o ho (hT o ht))⟩

/-- A step: only blocks whose owner is in 'touch' may have turned. -/
structure Step (touch : Owner → Prop) (n : Nat) (gh : Gh) (w : World) (gh' : Gh) (w' : World) : Prop where
  S : ∀ b o, gh.S b o → gh'.S b o
  cell : ∀ b o, gh.S b o → w'.cell? ⟨b, o, none⟩ = w.cell? ⟨b, o, none⟩
  size : w.heap.size ≤ w'.heap.size
  os : w'.os = w.os
  tape : w'.tape = w.tape
  output : w'.output = w.output
  blk : ∀ b, b < w.heap.size → ¬ touch (gh.κ b) → Kept (gh.S b) (w.heap[b]?) (w'.heap[b]?) ∧ gh'.κ b = gh.κ b ∧ ∀ o, gh'.S b o → gh.S b o
  fresh : ∀ b, w.heap.size ≤ b → gh'.κ b ≠ .outer
  ρ : ∀ loc, loc < n → gh'.ρ loc = gh.ρ loc
  len : ∀ b ty m, BlkLen w b ty m → BlkLen w' b ty m

theorem Step.refl (touch : Owner → Prop) (n : Nat) (gh : Gh) (w : World) (hf : ∀ b, w.heap.size ≤ b → gh.κ b ≠ .outer) : Step touch n gh w gh w :=
  ⟨fun _ _ h => h, fun _ _ _ => rfl, Nat.le_refl _, rfl, rfl, rfl, fun _ _ _ => ⟨.inl rfl, rfl, fun _ h => h⟩, hf, fun _ _ => rfl, fun _ _ _ h => h⟩

theorem Step.mono {touch touch' : Owner → Prop} {n : Nat} {gh gh' : Gh} {w w' : World} (h : Step touch n gh w gh' w') (ht : ∀ p, touch p → touch' p) : Step touch' n gh w gh' w' :=
  { h with blk := fun b hb hn => h.blk b hb (fun x => hn (ht _ x)) }

theorem VR.mono {touch : Owner → Prop} {n n' : Nat} {gh gh' : Gh} {w w' : World} (st : Step touch n gh w gh' w') (hn : n ≤ n')
    {v : Value} {x : AV} (h : VR gh n w v x) : VR gh' n' w' v x := by
  induction h with
  | plain v x h => exact .plain v x (h.mono st.S st.cell)
  | full a k e h hz => exact .full a k e (h.mono st.S st.cell) (fun ad ha he => Nat.lt_of_lt_of_le (hz ad ha he) st.size)
  | ref loc off h => rw [← st.ρ loc h]; exact .ref loc off (Nat.lt_of_lt_of_le h hn)
  | sref loc off k cap h hk => rw [← st.ρ loc h]; exact .sref loc off k cap (Nat.lt_of_lt_of_le h hn) hk
  | func f fs cs xs ys hf hc _ _ ih1 ih2 => exact .func f fs cs xs ys hf hc ih1 ih2
  | iface t v x _ ih => exact .iface t v x ih
  | agg cs xs hs hone _ ih => exact .agg cs xs hs hone ih
  | tuple vs xs hs _ ih => exact .tuple vs xs hs ih

/-- The right to append in place: the block's spare cells are nobody's. -/
def Owned (gh : Gh) (w : World) (p : Owner) (v : Value) (e : List (List AV)) : Prop :=
  ∃ b cap C ty lo hi sz, v = .slice (some ⟨b, 0, none⟩) e.length cap ∧ gh.κ b = p ∧ e ≠ [] ∧ w.heap[b]? = some (.cells C ty (lo, hi)) ∧ C.size = cap * sz ∧
    (∀ (i : Nat) (r : List AV), e[i]? = some r → r.length = sz) ∧ e.length ≤ cap ∧ hi ≤ e.length * sz ∧ (∀ o, e.length * sz ≤ o → ¬ gh.S b o)

theorem Owned.mono {touch : Owner → Prop} {n : Nat} {gh gh' : Gh} {w w' : World} (st : Step touch n gh w gh' w') {p : Owner} (hp : ¬ touch p)
    {v : Value} {e : List (List AV)} (h : Owned gh w p v e) : Owned gh' w' p v e := by
  obtain ⟨b, cap, C, ty, lo, hi, sz, hv, hk, he, hb, hC, hr, hl, hh, hS⟩ := h
  have hlt : b < w.heap.size := (Array.getElem?_eq_some_iff.1 hb).1
  obtain ⟨h1, h2, h3⟩ := st.blk b hlt (by rw [hk]; exact hp)
  rcases h1 with h1 | ⟨C', ty', lo1, hi1, lo', hi', k1, k2, _, k4⟩
  · exact ⟨b, cap, C, ty, lo, hi, sz, hv, by rw [h2, hk], he, by rw [h1, hb], hC, hr, hl, hh, fun o ho hs => hS o ho (h3 o hs)⟩
  · rw [hb] at k1
    injection k1 with k1
    injection k1 with e1 e2 e3
    injection e3 with e3 e4
    subst e1 e2 e3 e4
    exact ⟨b, cap, C, ty, lo', hi', sz, hv, by rw [h2, hk], he, k2, hC, hr, hl, k4 _ hh hS, fun o ho hs => hS o ho (h3 o hs)⟩

/-- A value that a place 'p' holds. -/
def CR (gh : Gh) (n : Nat) (w : World) (p : Owner) (v : Value) (x : AV) : Prop :=
  VR gh n w v x ∨ ∃ e, x = .slice e true ∧ PR gh.S w v (.slice e false) ∧ Owned gh w p v e

theorem CR.mono {touch : Owner → Prop} {n n' : Nat} {gh gh' : Gh} {w w' : World} (st : Step touch n gh w gh' w') (hn : n ≤ n') {p : Owner} (hp : ¬ touch p)
    {v : Value} {x : AV} (h : CR gh n w p v x) : CR gh' n' w' p v x := by
  rcases h with h | ⟨e, rfl, h1, h2⟩
  · exact .inl (h.mono st hn)
  · exact .inr ⟨e, rfl, h1.mono st.S st.cell, h2.mono st hp⟩

/-- Without the right to append. -/
theorem CR.dropped {gh : Gh} {n : Nat} {w : World} {p : Owner} {v : Value} {x : AV} (h : CR gh n w p v x) : VR gh n w v x.drop := by
  rcases h with h | ⟨e, rfl, h1, _⟩
  · cases h with
    | plain v x h =>
      cases x <;> try exact .plain _ _ h
      cases h <;> first | exact .plain _ _ .sliceNil | exact .plain _ _ (.slice _ _ _ _ _ _ _ ‹_› ‹_› ‹_› ‹_› ‹_›)
    | full a k e h => exact .plain _ _ h
    | ref loc off h => exact .ref loc off h
    | sref loc off k cap h hk => exact .sref loc off k cap h hk
    | func f fs cs xs ys hf hc h1 h2 => exact .func f fs cs xs ys hf hc h1 h2
    | iface t v x h => exact .iface t v x h
    | agg cs xs hs hone h => exact .agg cs xs hs hone h
    | tuple vs xs hs h => exact .tuple vs xs hs h
  · exact .plain _ _ h1

theorem VR.dropped {gh : Gh} {n : Nat} {w : World} {v : Value} {x : AV} (h : VR gh n w v x) : VR gh n w v x.drop := CR.dropped (p := .none) (.inl h)

/-- A block of cells that one place owns. -/
def BoxAt (gh : Gh) (n : Nat) (w : World) (b : Nat) (p : Owner) (q : Nat → Owner) (cs : List AV) : Prop :=
  gh.κ b = p ∧ (∀ o, ¬ gh.S b o) ∧ ∃ C ty, w.heap[b]? = some (.cells C ty (0, 0)) ∧ cs.length ≤ C.size ∧
    ∀ (j : Nat) (v : Value) (x : AV), C[j]? = some v → cs[j]? = some x → v.oneCell' = true ∧ CR gh n w (q j) v x

theorem BoxAt.mono {touch : Owner → Prop} {n n' : Nat} {gh gh' : Gh} {w w' : World} (st : Step touch n gh w gh' w') (hn : n ≤ n') {b : Nat} {p : Owner} {q : Nat → Owner}
    (hp : ¬ touch p) (hq : ∀ j, ¬ touch (q j)) {cs : List AV} (h : BoxAt gh n w b p q cs) : BoxAt gh' n' w' b p q cs := by
  obtain ⟨hk, hS, C, ty, hb, hC, hcs⟩ := h
  have hlt : b < w.heap.size := (Array.getElem?_eq_some_iff.1 hb).1
  obtain ⟨h1, h2, h3⟩ := st.blk b hlt (by rw [hk]; exact hp)
  have h1 := h1.none hS
  exact ⟨by rw [h2, hk], fun o ho => hS o (h3 o ho), C, ty, by rw [h1, hb], hC, fun j v x hv hx => ⟨(hcs j v x hv hx).1, (hcs j v x hv hx).2.mono st hn (hq j)⟩⟩

/-- A slice that a slot keeps to write into. -/
def RowAt (gh : Gh) (w : World) (p : Owner) (v : Value) (e : List (List AV)) : Prop :=
  ∃ a cap, v = .slice a e.length cap ∧ ((e = [] ∧ cap = 0 ∧ ∀ ad, a = some ad → ad.spot = none ∧ ad.block < w.heap.size) ∨ ∃ b C ty sz, e ≠ [] ∧ a = some ⟨b, 0, none⟩ ∧ gh.κ b = p ∧ (∀ o, ¬ gh.S b o) ∧ w.heap[b]? = some (.cells C ty (0, 0)) ∧ C.size = cap * sz ∧
    e.length ≤ cap ∧ (∀ (i : Nat) (r : List AV), e[i]? = some r → r.length = sz) ∧
    ∀ (i j : Nat) (r : List AV) (x : AV), e[i]? = some r → r[j]? = some x → ∃ u, C[i * sz + j]? = some u ∧ PR gh.S w u x)

theorem RowAt.mono {touch : Owner → Prop} {n : Nat} {gh gh' : Gh} {w w' : World} (st : Step touch n gh w gh' w') {p : Owner} (hp : ¬ touch p)
    {v : Value} {e : List (List AV)} (h : RowAt gh w p v e) : RowAt gh' w' p v e := by
  obtain ⟨a, cap, hv, h⟩ := h
  refine ⟨a, cap, hv, ?_⟩
  rcases h with h | ⟨b, C, ty, sz, hne, ha, hk, hS, hb, hC, hl, hr, hcs⟩
  · exact .inl ⟨h.1, h.2.1, fun ad ha => ⟨(h.2.2 ad ha).1, Nat.lt_of_lt_of_le (h.2.2 ad ha).2 st.size⟩⟩
  · have hlt : b < w.heap.size := (Array.getElem?_eq_some_iff.1 hb).1
    obtain ⟨h1, h2, h3⟩ := st.blk b hlt (by rw [hk]; exact hp)
    have h1 := h1.none hS
    exact .inr ⟨b, C, ty, sz, hne, ha, by rw [h2, hk], fun o ho => hS o (h3 o ho), by rw [h1, hb], hC, hl, hr, fun i j r x hi hj => by
      obtain ⟨u, hu, hp⟩ := hcs i j r x hi hj
      exact ⟨u, hu, hp.mono st.S st.cell⟩⟩

/-- What slot i holds. 'T', 'gen': the abstract frame; 'tm': the slots' values. -/
def SR (gh : Gh) (n nt : Nat) (w : World) (T : AFrame) (gen : Nat) (tm : Nat → Value) (i : Nat) (v : Value) (x : AV) : Prop :=
  match x with
  | .lbox g cs => g < gen ∧ ∃ b, v = .pointer (some ⟨b, 0, none⟩) ∧ BoxAt gh n w b (.bx i) (fun j => .sc i j) cs
  | .lsl g e => g < gen ∧ RowAt gh w (.bx i) v e
  | .lref s g off => s < nt ∧ g < gen ∧ (genOf (T s) = some g → ∀ b, tm s = .pointer (some ⟨b, 0, none⟩) → v = .pointer (some ⟨b, off, none⟩))
  | .lsr s g => s < nt ∧ g < gen ∧ (genOf (T s) = some g → v = tm s)
  | .eref s g r z off => s < nt ∧ g < gen ∧ (genOf (T s) = some g → ∀ b k cap, tm s = .slice (some ⟨b, 0, none⟩) k cap → v = .pointer (some ⟨b, r * z + off, none⟩))
  | x => CR gh n w (.sl i) v x

/-- The heap side. -/
structure WRel (G : Nat → List AV) (base : Nat) (H : AHeap) (gh : Gh) (w : World) : Prop where
  size : base ≤ w.heap.size
  sLt : ∀ b o, gh.S b o → b < w.heap.size
  kLt : ∀ b, gh.κ b ≠ .none → base ≤ b ∧ b < w.heap.size
  glob : ∀ (g j : Nat) (x : AV), (G g)[j]? = some x → ∃ v, w.cell? ⟨g, j, none⟩ = some v ∧ PR gh.S w v x ∧ gh.S g j
  boxes : ∀ (loc : Nat) (ty : TypeId) (cs : List AV), H[loc]? = some (AObj.box ty cs) → BoxAt gh H.length w (gh.ρ loc) (.hb loc) (fun j => .hs loc j) cs
  refs : ∀ (loc : Nat) (ty : TypeId) (cs : List AV), H[loc]? = some (AObj.box ty cs) → cs.all (heapCell loc) = true
  tabs : ∀ g, G g ≠ [] → ∃ ty, BlkLen w g ty (G g).length
  bytes : ∀ b o n, gh.S b o → w.cell? ⟨b, o, none⟩ = some (.int .u8 n) → ∃ C fr, w.heap[b]? = some (.cells C byteTy fr)
  types : ∀ (loc : Nat) (ty : TypeId) (cs : List AV), H[loc]? = some (AObj.box ty cs) → ty ≠ freeTy → BlkLen w (gh.ρ loc) ty cs.length

/-- The frame side. -/
structure FRel (nt : Nat) (gh : Gh) (w : World) (a : Act) (s : AS) : Prop where
  defers : a.defers = []
  size : a.tmps.size = nt
  slot : ∀ i, i < nt → SR gh s.H.length nt w s.T s.gen (fun k => a.tmps.getD k undef) i (a.tmps.getD i undef) (s.T i)

/-- Bytes that stay lie in blocks of bytes: behind a step. -/
theorem WRel.bytes_step {G : Nat → List AV} {base : Nat} {H : AHeap} {gh gh' : Gh} {w w' : World} {touch : Owner → Prop} {n : Nat} (h : WRel G base H gh w) (st : Step touch n gh w gh' w')
    (hnew : ∀ b o m, gh'.S b o → gh.S b o ∨ (w'.cell? ⟨b, o, none⟩ = some (.int .u8 m) → ∃ C fr, w'.heap[b]? = some (.cells C byteTy fr))) :
    ∀ b o m, gh'.S b o → w'.cell? ⟨b, o, none⟩ = some (.int .u8 m) → ∃ C fr, w'.heap[b]? = some (.cells C byteTy fr) := by
  intro b o m hs hc
  rcases hnew b o m hs with ho | hn
  · obtain ⟨C, fr, h1⟩ := h.bytes b o m ho (by rw [← st.cell b o ho]; exact hc)
    obtain ⟨C', fr', h2, _⟩ := st.len b byteTy C.size ⟨C, fr, h1, rfl⟩
    exact ⟨C', fr', h2⟩
  · exact hn hc

theorem WRel.fresh {G : Nat → List AV} {base : Nat} {H : AHeap} {gh : Gh} {w : World} (h : WRel G base H gh w) (b : Nat) (hb : w.heap.size ≤ b) : gh.κ b = .none := by
  by_cases hk : gh.κ b = .none
  · exact hk
  · have := (h.kLt b hk).2; omega

/-- Slots that the step has not touched. -/
theorem SR.mono {touch : Owner → Prop} {n n' nt : Nat} {gh gh' : Gh} {w w' : World} (st : Step touch n gh w gh' w') (hn : n ≤ n') {T T' : AFrame} {gen gen' : Nat} (hg : gen ≤ gen')
    {tm tm' : Nat → Value} {i : Nat} (h1 : ¬ touch (.bx i)) (h2 : ¬ touch (.sl i)) (h3 : ∀ j, ¬ touch (.sc i j))
    (hT : ∀ s, s < nt → (genOf (T' s) = genOf (T s) ∧ tm' s = tm s) ∨ genOf (T' s) = none ∨ ∃ g, gen ≤ g ∧ genOf (T' s) = some g)
    {v : Value} {x : AV} (h : SR gh n nt w T gen tm i v x) : SR gh' n' nt w' T' gen' tm' i v x := by
  have key : ∀ s g, s < nt → g < gen → genOf (T' s) = some g → genOf (T s) = some g ∧ tm' s = tm s := by
    intro s g hs hgg hgs
    rcases hT s hs with ⟨h, h'⟩ | h | ⟨g', hg', h⟩
    · exact ⟨h ▸ hgs, h'⟩
    · rw [h] at hgs; cases hgs
    · rw [h] at hgs; injection hgs with e; omega
  cases x
  case lbox g cs =>
    obtain ⟨hg0, b, hv, hb⟩ := h
    exact ⟨by omega, b, hv, hb.mono st hn h1 h3⟩
  case lsl g e => exact ⟨by have := h.1; omega, h.2.mono st h1⟩
  case lref s g off =>
    obtain ⟨hs, hg0, hr⟩ := h
    refine ⟨hs, by omega, fun hgs b hb => ?_⟩
    obtain ⟨k1, k2⟩ := key s g hs hg0 hgs
    exact hr k1 b (k2 ▸ hb)
  case lsr s g =>
    obtain ⟨hs, hg0, hr⟩ := h
    refine ⟨hs, by omega, fun hgs => ?_⟩
    obtain ⟨k1, k2⟩ := key s g hs hg0 hgs
    rw [k2]; exact hr k1
  case eref s g r z off =>
    obtain ⟨hs, hg0, hr⟩ := h
    refine ⟨hs, by omega, fun hgs b k cap hb => ?_⟩
    obtain ⟨k1, k2⟩ := key s g hs hg0 hgs
    exact hr k1 b k cap (k2 ▸ hb)
  all_goals exact CR.mono st hn h2 h

end Go.Abs
