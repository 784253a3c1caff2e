/-
  An abstract, deterministic, value-based semantics of the model's code: definitions. No program in sight.
-/
import Derived.Orders
namespace Go.Abs

/-- Abstract values. A slice is the list of its elements, each the list of its cells; 'own': the holder may append to it. -/
inductive AV where
  | bool (b : Bool)
  | int (k : IntKind) (n : Int)
  | str (l : List UInt8)
  | any
  | nilptr | nilmap | nilfunc | niliface
  | slice (elems : List (List AV)) (own : Bool)
  | eptr (cells : List AV)
  | ref (loc off : Nat)
  | sref (loc off n : Nat)
  | lbox (g : Nat) (cells : List AV)
  | lref (s g off : Nat)
  | lsl (g : Nat) (elems : List (List AV))
  | lsr (s g : Nat)
  | eref (s g i z off : Nat)
  | func (f : Fn) (first captured : List AV)
  | iface (t : TypeId) (v : AV)
  | agg (cells : List AV)
  | tuple (vs : List AV)
  deriving Inhabited, Repr

abbrev AV.undef : AV := .tuple []

/-- Objects of the abstract heap: variables whose address is handed on. -/
inductive AObj where
  | box (ty : TypeId) (cells : List AV)
  deriving Inhabited, Repr

abbrev AHeap := List AObj
abbrev AFrame := Nat → AV

def AFrame.put (T : AFrame) (d : Nat) (v : AV) : AFrame := fun i => cond (Nat.beq i d) v (T i)

/-- A heap behind a step: below 'lo' nothing has turned. -/
structure Chg where
  heap : AHeap
  lo : Nat
  deriving Inhabited

abbrev CallF := FuncId → List AV → AHeap → Option (AV × Option Chg)

inductive IArg where
  | tmp (t : Nat)
  | con (v : AV)
  | glob (g : Nat)
  | fn (f : FuncId)
  deriving Inhabited, Repr

inductive ConvKind where
  | toInt (k : IntKind)
  | strSame
  | bytesStr
  deriving Inhabited, Repr

inductive SliceKind where
  | str
  | sl (sz : Nat)
  | arr (n sz : Nat)
  deriving Inhabited, Repr

/-- What '==' compares. -/
inductive CK where
  | b | i | s
  deriving Inhabited, Repr, DecidableEq

inductive EqKind where
  | other | bool | iface | func
  | flat (ks : List CK)
  deriving Inhabited, Repr

inductive LenKind where
  | str | sl
  | arr (n : Nat)
  deriving Inhabited, Repr

inductive IOp where
  | mov (take obj : Bool) (x : IArg)
  | pick (c a b : IArg)
  | allocL (zero : List AV)
  | allocH (ty : TypeId) (zero : List AV)
  | box (ty : TypeId) (x : IArg)
  | build (zero : List AV) (parts : List (Nat × Nat × IArg))
  | mkslice (isB : Bool) (sz : Nat) (zeros : List (List AV)) (parts : List (Nat × IArg))
  | load (take agg : Bool) (sz : Nat) (x : IArg)
  | store (sz : Nat) (a v : IArg)
  | nilCheck (x : IArg)
  | bin (op : BinOp) (k : EqKind) (x y : IArg)
  | un (op : UnOp) (x : IArg)
  | conv (c : ConvKind) (x : IArg)
  | mkiface (t : TypeId) (x : IArg)
  | slice (k : SliceKind) (x : IArg) (lo hi mx : Option IArg)
  | fieldAddr (off : Nat) (x : IArg)
  | field (agg : Bool) (off sz : Nat) (x : IArg)
  | ixSl (sz : Nat) (x i : IArg)
  | ixArr (n sz : Nat) (x i : IArg)
  | index (agg : Bool) (n sz : Nat) (x i : IArg)
  | indexStr (x i : IArg)
  | extract (x : IArg) (i : Nat)
  | len (k : LenKind) (x : IArg)
  | append (isB wr : Bool) (sz bytes : Nat) (x y : IArg)
  | call (f : IArg) (args : List IArg)
  | mkfunc (f : Fn) (first captured : List IArg)
  deriving Inhabited, Repr

structure IOper where
  dst : Option Nat
  guard : Option (Nat × Bool)
  op : IOp
  deriving Inhabited, Repr

inductive ICode where
  | skip
  | region (draw : Bool) (ops : List IOper)
  | seq (a b : ICode)
  | cond (c : IArg) (a b : ICode)
  | block (id : Nat) (a : ICode)
  | loop (a : ICode)
  | exit (id : Nat)
  | ret
  deriving Inhabited, Repr

inductive IRes where
  | tmp (t : Nat)
  | cell (a : Nat) (agg : Bool) (sz : Nat)
  deriving Inhabited, Repr

structure IFunc where
  takes : List Nat
  locals : List Nat
  muts : List Nat
  nt : Nat
  np : Nat
  results : List IRes
  body : ICode
  deriving Inhabited, Repr

inductive IExit where
  | normal
  | exit (id : Nat)
  | ret
  deriving Inhabited, Repr, DecidableEq

structure AS where
  T : AFrame
  H : AHeap
  lo : Nat
  gen : Nat

/-! ### values -/

/-- The cells of a value. -/
def AV.cells : AV → Option (List AV)
  | .agg cs => some cs
  | .any => none
  | .tuple _ => none
  | .lbox .. => none
  | .lref .. => none
  | .lsl .. => none
  | .lsr .. => none
  | .eref .. => none
  | v => some [v]

/-- Without the right to append. -/
def AV.drop : AV → AV
  | .slice e _ => .slice e false
  | v => v

def AV.dropAll : AV → AV
  | .agg cs => .agg (cs.map AV.drop)
  | v => v.drop

/-- What may be an element's cell: no reference to the abstract heap or frame, no right to append. -/
def AV.plain : AV → Bool
  | .bool _ | .int .. | .str _ | .any | .nilptr | .nilmap | .nilfunc | .niliface | .eptr _ => true
  | .slice _ own => !own
  | .func _ [] [] => true
  | .iface _ (.bool _) | .iface _ (.int ..) | .iface _ (.str _) | .iface _ .any | .iface _ .nilptr => true
  | _ => false

/-- The cells of an element, without the right to append; none: something is not plain. -/
def AV.elem (sz : Nat) (v : AV) : Option (List AV) :=
  match v.cells with
  | none => none
  | some cs =>
    let ds := cs.map AV.drop
    cond (Nat.beq ds.length sz && ds.all AV.plain) (some ds) none

/-- May a cell leave a frame whose heap began at 'base'? -/
def AV.cellOut (base : Nat) : AV → Bool
  | .ref loc _ => Nat.blt loc base
  | .sref loc _ _ => Nat.blt loc base
  | v => v.plain

/-- May a part of a tuple? -/
def AV.partOut (base : Nat) : AV → Bool
  | .agg cs => cs.all (AV.cellOut base)
  | v => v.cellOut base

/-- May a value? -/
def AV.leaves (base : Nat) : AV → Bool
  | .func _ fs cs => fs.all (AV.cellOut base) && cs.all (AV.cellOut base)
  | .iface _ v => v.cellOut base
  | .tuple vs => vs.all (AV.partOut base)
  | .slice .. => true
  | v => v.partOut base

def genOf : AV → Option Nat
  | .lbox g _ => some g
  | .lsl g _ => some g
  | _ => none

def IArg.eval (G : Nat → List AV) (T : AFrame) : IArg → AV
  | .tmp t => T t
  | .con v => v
  | .glob g => .eptr (G g)
  | .fn f => .func (.func f) [] []

def asNat : AV → Option Nat
  | .int _ n => cond (decide (0 ≤ n)) (some n.toNat) none
  | _ => none

/-- Are two flat rows of cells, of these kinds, equal? -/
def eqFlat : List CK → List AV → List AV → Option Bool
  | [], _, _ => some true
  | .b :: ks, .bool a :: xs, .bool b :: ys => (eqFlat ks xs ys).map (a == b && ·)
  | .i :: ks, .int j a :: xs, .int k b :: ys => cond (decide (j = k)) ((eqFlat ks xs ys).map (a == b && ·)) none
  | .s :: ks, .str a :: xs, .str b :: ys => (eqFlat ks xs ys).map (a == b && ·)
  | _, _, _ => none

def binInt (op : BinOp) (k : IntKind) (a b : Int) : Option AV :=
  match op with
  | .add => some (.int k (k.wrap (a + b)))
  | .sub => some (.int k (k.wrap (a - b)))
  | .mul => some (.int k (k.wrap (a * b)))
  | .quo => cond (decide (b = 0)) none (some (.int k (k.wrap (a.tdiv b))))
  | .rem => cond (decide (b = 0)) none (some (.int k (a.tmod b)))
  | .eql => some (.bool (a == b))
  | .neq => some (.bool (a != b))
  | .lss => some (.bool (decide (a < b)))
  | .leq => some (.bool (decide (a ≤ b)))
  | .gtr => some (.bool (decide (a > b)))
  | .geq => some (.bool (decide (a ≥ b)))
  | _ => none

def binStr (op : BinOp) (a b : List UInt8) : Option AV :=
  match op with
  | .add => cond (decide (a.length + b.length ≤ 4611686018427387904)) (some (.str (a ++ b))) none
  | .eql => some (.bool (a == b))
  | .neq => some (.bool !(a == b))
  | .lss => some (.bool (Op.bytesLess a b))
  | .leq => some (.bool (Op.bytesLess a b || a == b))
  | .gtr => some (.bool !(Op.bytesLess a b || a == b))
  | .geq => some (.bool !(Op.bytesLess a b))
  | _ => none

def isNil : AV → Option Bool
  | .nilptr | .nilfunc | .niliface | .nilmap => some true
  | .ref .. | .func .. | .iface .. => some false
  | _ => none

def nilCmp (op : BinOp) (b : Bool) : Option AV :=
  match op with
  | .eql => some (.bool b)
  | .neq => some (.bool !b)
  | _ => none

def isCon : IArg → Bool
  | .con _ => true
  | _ => false

def binAV (op : BinOp) (q : EqKind) (con : Bool) (x y : AV) : Option AV :=
  match x, y with
  | .int j a, .int k b => cond (decide (j = k)) (binInt op j a b) none
  | .str a, .str b => binStr op a b
  | .bool a, .bool b => (match q with | .bool => nilCmp op (a == b) | _ => none)
  | .agg xs, .agg ys => (match q with | .flat ks => (eqFlat ks xs ys).bind fun b => nilCmp op b | _ => none)
  | x, .niliface => cond (con && (match q with | .iface => true | _ => false)) ((match x with | .niliface => some true | .iface .. => some false | _ => none).bind fun b => nilCmp op b) none
  | x, .nilfunc => cond (match q with | .func => true | _ => false) ((match x with | .nilfunc => some true | .func .. => some false | _ => none).bind fun b => nilCmp op b) none
  | _, _ => none

def unAV (op : UnOp) (x : AV) : Option AV :=
  match op, x with
  | .neg, .int k n => some (.int k (k.wrap (0 - n)))
  | .not, .bool b => some (.bool !b)
  | _, _ => none

def bytesOf : List (List AV) → Option (List UInt8)
  | [] => some []
  | [.int .u8 n] :: r => (bytesOf r).map (UInt8.ofNat n.toNat :: ·)
  | _ => none

def convAV (c : ConvKind) (x : AV) : Option AV :=
  match c, x with
  | .toInt k, .int _ n => some (.int k (k.wrap n))
  | .strSame, .str l => some (.str l)
  | .bytesStr, .slice e _ => (bytesOf e).map .str
  | _, _ => none

/-- The cells of a row, cut into pieces of sz. -/
def chunks (sz : Nat) : Nat → List AV → List (List AV)
  | 0, _ => []
  | n + 1, l => l.take sz :: chunks sz n (l.drop sz)

def bound (dflt : Nat) (x : Option AV) (most : Nat) : Option Nat :=
  match x with
  | none => some dflt
  | some v => (asNat v).bind fun n => cond (Nat.ble n most) (some n) none

/-- The first element is as wide as it should be. (All are of one width.) -/
def headOk (sz : Nat) (e : List (List AV)) : Bool := (e.head?.map fun r => Nat.beq r.length sz).getD true

/-- A first element with a first cell. -/
def solid : List (List AV) → Bool
  | (_ :: _) :: _ => true
  | _ => false

def sliceAV (k : SliceKind) (x : AV) (lo hi mx : Option AV) : Option AV :=
  match k, x with
  | .str, .str l => (bound l.length hi l.length).bind fun h => (bound 0 lo h).bind fun a => cond mx.isNone (some (.str ((l.take h).drop a))) none
  | .sl sz, .slice e _ => (bound e.length mx e.length).bind fun m => (bound e.length hi m).bind fun h => (bound 0 lo h).bind fun a =>
      cond ((mx.isNone || hi.isSome) && (lo.isNone || headOk sz e)) (some (.slice ((e.take h).drop a) (mx.isSome && Nat.beq m h && solid e))) none
  | .arr n sz, .eptr cs => cond (Nat.beq cs.length (n * sz)) ((bound n hi n).bind fun h => (bound 0 lo h).bind fun a => cond mx.isNone (some (.slice (((chunks sz n cs).take h).drop a) false)) none) none
  | _, _ => none

def lenAV (k : LenKind) (x : AV) : Option AV :=
  match k, x with
  | .str, .str l => some (.int .i64 l.length)
  | .sl, .slice e _ => some (.int .i64 e.length)
  | .sl, .sref _ _ n => some (.int .i64 n)
  | .arr n, _ => some (.int .i64 n)
  | _, _ => none

/-- Put cells at an offset. -/
def putAt (l : List AV) (off : Nat) (cs : List AV) : List AV := l.take off ++ cs ++ l.drop (off + cs.length)

def buildParts : List AV → List (Nat × Nat × AV) → Option (List AV)
  | cells, [] => some cells
  | cells, (off, sz, v) :: r =>
    match v.cells with
    | none => none
    | some cs => cond (Nat.beq cs.length sz && Nat.ble (off + cs.length) cells.length) (buildParts (putAt cells off (cs.map AV.drop)) r) none

def sliceParts (sz : Nat) : List (List AV) → List (Nat × AV) → Option (List (List AV))
  | es, [] => some es
  | es, (i, v) :: r =>
    match v.elem sz with
    | none => none
    | some cs => cond (Nat.blt i es.length) (sliceParts sz (es.set i cs) r) none

def loadCellsAV (take agg : Bool) (sz off : Nat) (cs : List AV) : Option AV :=
  cond agg (cond (Nat.ble (off + sz) cs.length) (some (.agg (((cs.drop off).take sz).map AV.drop))) none)
    ((cs[off]?).map fun v => cond take v v.drop)

/-- The cells behind a load that takes the right to append away. -/
def takenAt (off : Nat) (cs : List AV) : List AV := cs.modify off AV.drop

def AS.setT (s : AS) (t : Nat) (v : AV) : AS := { s with T := s.T.put t v }

def AS.chg (s : AS) (c : Chg) : AS := { s with H := c.heap, lo := cond (Nat.blt c.lo s.lo) c.lo s.lo }

/-- An operand as an address: a tmp that holds a variable of the frame's own stands for its address. -/
def IArg.addr (G : Nat → List AV) (T : AFrame) : IArg → AV
  | .tmp t => match T t with
    | .lbox g _ => .lref t g 0
    | .lsl g _ => .lsr t g
    | v => v
  | .con v => v
  | .glob g => .eptr (G g)
  | .fn f => .func (.func f) [] []

/-- 'none' in the place of a state: the state is as it was. -/
def loadAV (s : AS) (take agg : Bool) (sz : Nat) (x : AV) : Option (AV × Option AS) :=
  match x with
  | .eptr cs => (loadCellsAV false agg sz 0 cs).map (·, none)
  | .ref loc off => match s.H[loc]? with
    | some (.box ty cs) => (loadCellsAV take agg sz off cs).map fun v => (v, cond (take && !agg) (some (s.chg ⟨s.H.set loc (.box ty (takenAt off cs)), loc⟩)) none)
    | none => none
  | .lref b g off => match s.T b with
    | .lbox g' cs => cond (Nat.beq g g') ((loadCellsAV take agg sz off cs).map fun v => (v, cond (take && !agg) (some (s.setT b (.lbox g (takenAt off cs)))) none)) none
    | _ => none
  | .eref b g i z off => match s.T b with
    | .lsl g' e => cond (Nat.beq g g') ((e[i]?).bind fun r => cond (Nat.beq r.length z) ((loadCellsAV false agg sz off r).map (·, none)) none) none
    | _ => none
  | _ => none

def heapCell (loc : Nat) : AV → Bool
  | .ref l _ => Nat.ble l loc
  | .sref l _ _ => Nat.ble l loc
  | v => v.drop.plain

def frameCell : AV → Bool
  | .lref .. => false
  | .lbox .. => false
  | .lsl .. => false
  | .lsr .. => false
  | .eref .. => false
  | _ => true

def storeAV (s : AS) (sz : Nat) (a v : AV) : Option AS :=
  match v.cells with
  | none => none
  | some vs => cond (Nat.beq vs.length sz)
    (match a with
      | .ref loc off => match s.H[loc]? with
        | some (.box ty cs) => cond (Nat.ble (off + sz) cs.length && vs.all (heapCell loc)) (some (s.chg ⟨s.H.set loc (.box ty (putAt cs off vs)), loc⟩)) none
        | none => none
      | .lref b g off => match s.T b with
        | .lbox g' cs => cond (Nat.beq g g' && Nat.ble (off + sz) cs.length && vs.all frameCell) (some (s.setT b (.lbox g (putAt cs off vs)))) none
        | _ => none
      | .eref b g i z off => match s.T b with
        | .lsl g' e => cond (Nat.beq g g') ((e[i]?).bind fun r => cond (Nat.beq r.length z && Nat.ble (off + sz) r.length && (vs.map AV.drop).all AV.plain) (some (s.setT b (.lsl g (e.set i (putAt r off (vs.map AV.drop)))))) none) none
        | _ => none
      | _ => none)
    none

/-- A tmp whose right to append has gone on. -/
def AS.spent (s : AS) : IArg → AS
  | .tmp t => match s.T t with
    | .slice e true => s.setT t (.slice e false)
    | _ => s
  | _ => s

/-- The elements that an append hands on. -/
def elemsOf (sz : Nat) : AV → Option (List (List AV))
  | .slice f _ => some f
  | .str l => cond (Nat.beq sz 1) (some (l.map fun (b : UInt8) => [AV.int .u8 b.toNat])) none
  | _ => none

/-- The number of the type of bytes. -/
abbrev byteTy : TypeId := 5

def noByte (e : List (List AV)) : Bool := e.all fun r => r.all fun | .int .u8 _ => false | .any => false | _ => true

def byteRows (e : List (List AV)) : Bool := e.all fun | [.int .u8 _] => true | _ => false

/-- Rows that may become a block that stays: of bytes in a block of bytes, or of none. -/
def rowsOK (isB : Bool) (e : List (List AV)) : Bool := cond isB (byteRows e) (noByte e)

def fitsRows (sz bytes : Nat) (e f : List (List AV)) : Bool :=
  Nat.ble ((e.length + f.length) * bytes) 70368744177664 && Nat.ble (e.length + f.length) 70368744177664 && headOk sz e && headOk sz f

def appendAV (isB : Bool) (sz bytes : Nat) (x y : AV) : Option AV :=
  match x with
  | .slice e own => (elemsOf sz y).bind fun f =>
    match f with
    | [] => some (.slice e own)
    | f => cond (own && fitsRows sz bytes e f && rowsOK isB (e ++ f)) (some (.slice (e ++ f) true)) none
  | _ => none

def offAddr (off : Nat) : AV → Option AV
  | .ref l o => some (.ref l (o + off))
  | .lref b g o => some (.lref b g (o + off))
  | .eref b g i z o => some (.eref b g i z (o + off))
  | .eptr cs => some (.eptr (cs.drop off))
  | _ => none

/-- An address that leads somewhere. -/
def liveAddr (s : AS) : AV → Bool
  | .ref .. => true
  | .eptr _ => true
  | .lref b g _ => (match s.T b with | .lbox g' _ => Nat.beq g g' | _ => false)
  | .eref b g i _ _ => (match s.T b with | .lsl g' e => Nat.beq g g' && Nat.blt i e.length | _ => false)
  | _ => false

def mkifaceAV (t : TypeId) (v : AV) : Option AV :=
  cond (AV.plain v.drop || (match v with | .ref .. => true | _ => false)) (some (.iface t v.drop)) none

section
variable (G : Nat → List AV) (cf : CallF)

def evMov (s : AS) (take obj : Bool) (x : IArg) : Option (AV × Option AS) :=
  match x with
  | .tmp t => match s.T t with
    | .lbox g _ => some (.lref t g 0, none)
    | .lsl g e => cond take (cond obj (some (.lsl s.gen e, some { s.setT t .any with gen := s.gen + 1 }) ) none) (some (.lsr t g, none))
    | .slice e own => some (.slice e (take && own), cond (take && own) (some (s.setT t (.slice e false))) none)
    | v => some (v, none)
  | x => some (x.eval G s.T, none)

/-- An append to a slice that is kept to be written into: 'wr'. -/
def evAppend (s : AS) (isB wr : Bool) (sz bytes : Nat) (x y : IArg) : Option (AV × Option AS) :=
  match x with
  | .tmp t => match s.T t with
    | .lsl _ e => (elemsOf sz (y.eval G s.T)).bind fun f => cond (wr && fitsRows sz bytes e f) (some (.lsl s.gen (e ++ f), some { s.setT t .any with gen := s.gen + 1 })) none
    | .slice e own => cond wr
        ((elemsOf sz (y.eval G s.T)).bind fun f => cond (e.isEmpty && own && fitsRows sz bytes [] f) (some (.lsl s.gen f, some { s.setT t .any with gen := s.gen + 1 })) none)
        ((appendAV isB sz bytes (.slice e own) (y.eval G s.T)).map (·, some (s.setT t (.slice e false))))
    | _ => none
  | x => cond wr none ((appendAV isB sz bytes (x.eval G s.T) (y.eval G s.T)).map (·, none))

def evOp (s : AS) (o : IOp) : Option (AV × Option AS) :=
  match o with
  | .mov take obj x => evMov G s take obj x
  | .pick c a b => match c.eval G s.T with
    | .bool t => some (cond t (a.addr G s.T).drop (b.addr G s.T).drop, none)
    | _ => none
  | .allocL zero => some (.lbox s.gen zero, some { s with gen := s.gen + 1 })
  | .allocH ty zero => some (.ref s.H.length 0, some (s.chg ⟨s.H ++ [.box ty zero], s.H.length⟩))
  | .box ty x => (x.eval G s.T).drop.cells.bind fun cs => cond (cs.all (heapCell s.H.length)) (some (.ref s.H.length 0, some (s.chg ⟨s.H ++ [.box ty (cs.map AV.drop)], s.H.length⟩))) none
  | .build zero parts => (buildParts zero (parts.map fun p => (p.1, p.2.1, (p.2.2.eval G s.T).drop))).map (.agg ·, none)
  | .mkslice isB sz zeros parts => (sliceParts sz zeros (parts.map fun p => (p.1, (p.2.eval G s.T).drop))).bind fun E => cond (rowsOK isB E) (some (.slice E true, none)) none
  | .load take agg sz x => loadAV s take agg sz (x.addr G s.T)
  | .store sz a v => (storeAV s sz (a.addr G s.T) (v.eval G s.T)).map fun s' => (.undef, some (s'.spent v))
  | .nilCheck x => cond (liveAddr s (x.addr G s.T)) (some (x.addr G s.T, none)) none
  | .bin op q x y => (binAV op q (isCon x || isCon y) (x.eval G s.T) (y.eval G s.T)).map (·, none)
  | .un op x => (unAV op (x.eval G s.T)).map (·, none)
  | .conv c x => (convAV c (x.eval G s.T)).map (·, none)
  | .mkiface t x => (mkifaceAV t (x.eval G s.T)).map (·, none)
  | .slice k x lo hi mx => (sliceAV k (x.eval G s.T) (lo.map (·.eval G s.T)) (hi.map (·.eval G s.T)) (mx.map (·.eval G s.T))).map (·, none)
  | .fieldAddr off x => cond (liveAddr s (x.addr G s.T)) ((offAddr off (x.addr G s.T)).map (·, none)) none
  | .field agg off sz x => match x.eval G s.T with
    | .agg cs => (loadCellsAV false agg sz off cs).map (·, none)
    | _ => none
  | .ixSl sz x i => match x.addr G s.T with
    | .slice e _ => (asNat (i.eval G s.T)).bind fun n => (e[n]?).bind fun r => cond (Nat.beq r.length sz) (some (.eptr r, none)) none
    | .sref l o m => (asNat (i.eval G s.T)).bind fun n => cond (Nat.blt n m) (some (.ref l (o + n * sz), none)) none
    | .lsr t g => match s.T t with
      | .lsl g' e => cond (Nat.beq g g') ((asNat (i.eval G s.T)).bind fun n => (e[n]?).bind fun r => cond (Nat.beq r.length sz) (some (.eref t g n sz 0, none)) none) none
      | _ => none
    | _ => none
  | .ixArr n sz x i => (asNat (i.eval G s.T)).bind fun k => cond (Nat.blt k n && liveAddr s (x.addr G s.T)) ((offAddr (k * sz) (x.addr G s.T)).map (·, none)) none
  | .index agg n sz x i => (asNat (i.eval G s.T)).bind fun k => cond (Nat.blt k n)
      (match x.eval G s.T with
        | .agg cs => (loadCellsAV false agg sz (k * sz) cs).map (·, none)
        | _ => none) none
  | .indexStr x i => match x.eval G s.T with
    | .str l => (asNat (i.eval G s.T)).bind fun n => (l[n]?).map fun (b : UInt8) => (AV.int .u8 b.toNat, none)
    | _ => none
  | .extract x i => match x.eval G s.T with
    | .tuple vs => (vs[i]?).map fun v => (v.dropAll, none)
    | _ => none
  | .len k x => match x.addr G s.T with
    | .lsr t g => match s.T t with
      | .lsl g' e => cond (Nat.beq g g') ((lenAV k (.slice e false)).map (·, none)) none
      | _ => none
    | v => (lenAV k v).map (·, none)
  | .append isB wr sz bytes x y => evAppend G s isB wr sz bytes x y
  | .call f args => match f.eval G s.T with
    | .func (.func n) fs cs => cond ((args.map fun a => a.addr G s.T).all frameCell)
        ((cf n (fs ++ args.map (fun a => (a.addr G s.T).dropAll) ++ cs) s.H).map fun r => (r.1, r.2.map s.chg)) none
    | _ => none
  | .mkfunc f first captured => cond ((first.map fun a => a.addr G s.T).all frameCell && (captured.map fun a => a.addr G s.T).all frameCell)
      (some (.func f (first.map fun a => (a.addr G s.T).drop) (captured.map fun a => (a.addr G s.T).drop), none)) none

def AS.putD (s : AS) (d : Option Nat) (v : AV) : AS := match d with | none => s | some d => s.setT d v

def evOper (draw : Bool) (s : AS) (o : IOper) : Option AS :=
  let run : Option AS := (evOp G cf s o.op).bind fun r => match r.2 with
    | none => cond (draw && (genOf r.1).isSome) none (some (s.putD o.dst r.1))
    | some s' => cond draw none (some (s'.putD o.dst r.1))
  match o.guard with
  | none => run
  | some (g, want) => match s.T g with
    | .bool b => cond (b == want) run (some (s.putD o.dst .undef))
    | .tuple [] => some (s.putD o.dst .undef)
    | _ => none

def evOps (draw : Bool) : List IOper → AS → Option AS
  | [], s => some s
  | o :: r, s => (evOper G cf draw s o).bind (evOps draw r)

def iter (f : AS → Option (IExit × AS)) : Nat → AS → Option (IExit × AS)
  | 0, _ => none
  | n + 1, s => (f s).bind fun r => match r.1 with
    | .normal => iter f n r.2
    | _ => some r

def evC (n : Nat) : ICode → AS → Option (IExit × AS)
  | .skip, s => some (.normal, s)
  | .region d ops, s => (evOps G cf d ops s).map (.normal, ·)
  | .seq a b, s => (evC n a s).bind fun r => match r.1 with
    | .normal => evC n b r.2
    | _ => some r
  | .cond c a b, s => match c.eval G s.T with
    | .bool t => cond t (evC n a s) (evC n b s)
    | _ => none
  | .block id a, s => (evC n a s).map fun r => match r.1 with
    | .exit i => (cond (Nat.beq i id) .normal (.exit i), r.2)
    | e => (e, r.2)
  | .loop a, s => iter (evC n a) n s
  | .exit id, s => some (.exit id, s)
  | .ret, s => some (.ret, s)
end

/-- A result that is no variable of the frame's own. -/
def resOf (s : AS) : IRes → Option AV
  | .tmp t => cond (frameCell (s.T t)) (some (s.T t)) none
  | .cell a agg sz => match s.T a with
    | .lbox _ cs => loadCellsAV false agg sz 0 cs
    | .ref loc 0 => match s.H[loc]? with
      | some (.box _ cs) => loadCellsAV false agg sz 0 cs
      | none => none
    | _ => none

/-- The slot of a slice that the frame keeps to write into. -/
def resRow (s : AS) : IRes → Option Nat
  | .tmp t => match s.T t with
    | .lsl _ _ => some t
    | .lsr b g => match s.T b with
      | .lsl g' _ => cond (Nat.beq g g') (some b) none
      | _ => none
    | _ => none
  | .cell .. => none

def resAll (s : AS) : List IRes → Option (List AV)
  | [] => some []
  | r :: rs => (resOf s r).bind fun v => (resAll s rs).map (v.dropAll :: ·)

def resVal (s : AS) (rs : List IRes) : Option AV :=
  match rs with
  | [r] => match resRow s r with
    | some b => (match s.T b with | .lsl _ e => cond (noByte e) (some (.slice e true)) none | _ => none)
    | none => resOf s r
  | rs => (resAll s rs).map .tuple

def finish0 (base : Nat) (rs : List IRes) (s : AS) : Option (AV × Option Chg) :=
  (resVal s rs).bind fun r =>
    cond (r.leaves base) (some (r, cond (Nat.beq s.lo base) none (some ⟨s.H.take base, s.lo⟩))) none

/-- The type of a block that nobody asks for. -/
abbrev freeTy : TypeId := 4294967295

/-- The results, one of which is a slice that the frame keeps to write into: it becomes the object 'base'. -/
def resPub (s : AS) (base : Nat) : List IRes → Option (List AV × Option (List (List AV)))
  | [] => some ([], none)
  | r :: rs => (resPub s base rs).bind fun q => match resRow s r with
    | some b => match s.T b with
      | .lsl _ e => cond (q.2.isNone && !e.isEmpty && e.all (fun r => r.all AV.plain)) (some (.sref base 0 e.length :: q.1, some e)) none
      | _ => none
    | none => (resOf s r).bind fun v => cond (v.dropAll.partOut base) (some (v.dropAll :: q.1, q.2)) none

def finPub (base : Nat) (rs : List IRes) (s : AS) : Option (AV × Option Chg) :=
  cond (Nat.beq rs.length 1) none ((resPub s base rs).bind fun q => q.2.map fun e => (.tuple q.1, some ⟨s.H.take base ++ [.box freeTy e.flatten], s.lo⟩))

def finish (base : Nat) (fn : IFunc) (s : AS) : Option (AV × Option Chg) :=
  match finish0 base fn.results s with
  | some r => some r
  | none => finPub base fn.results s

def initT (args : List AV) : AFrame := fun i => args.getD i .undef

def runF (G : Nat → List AV) (cf : CallF) (n : Nat) (fn : IFunc) (args : List AV) (H : AHeap) : Option (AV × Option Chg) :=
  cond (Nat.beq args.length fn.np)
    ((evC G cf n fn.body { T := initT args, H, lo := H.length, gen := 0 }).bind fun r => match r.1 with
      | .exit _ => none
      | _ => finish H.length fn r.2)
    none

/-- The abstract program: its functions, what is taken as given, the package-level tables. -/
structure AP where
  fns : FuncId → Option IFunc
  ov : FuncId → Option (List AV → AHeap → Option (AV × Option Chg))
  glob : Nat → List AV

def evF (A : AP) : Nat → CallF
  | 0 => fun _ _ _ => none
  | n + 1 => fun f args H => match A.ov f with
    | some g => g args H
    | none => match A.fns f with
      | none => none
      | some fn => runF A.glob (evF A n) n fn args H

/-! ### from the model's code -/

def constAV : Value → Option AV
  | .bool b => some (.bool b)
  | .int k n => some (.int k n)
  | .string s => some (.str s.data.toList)
  | .slice none 0 0 => some (.slice [] true)
  | .pointer none => some .nilptr
  | .map none => some .nilmap
  | .nilFunc => some .nilfunc
  | .nilIface => some .niliface
  | _ => none

def constCells : List Value → Option (List AV)
  | [] => some []
  | v :: r => (constAV v).bind fun x => (constCells r).map (x :: ·)

section
variable (P : Program) (takes locals muts : List Nat) (nt : Nat)

def compArg : Operand → Option IArg
  | .tmp t => cond (Nat.blt t nt) (some (.tmp t)) none
  | .const v => (constAV v).map .con
  | .global g => some (.glob g)
  | .func f => some (.fn f)

def compArgs : List Operand → Option (List IArg)
  | [] => some []
  | x :: r => (compArg nt x).bind fun a => (compArgs r).map (a :: ·)

def sizeT (t : TypeId) : Option Nat := (P.info? t).map (·.size)
def zeroT (t : TypeId) : Option (List AV) := ((P.info? t).bind (·.zero)).bind fun z => constCells z.cells.toList
def aggT (t : TypeId) : Option Bool := (P.underlying t).map fun | .struct _ => true | .array _ _ => true | _ => false

def optArg : Option Operand → Option (Option IArg)
  | none => some none
  | some x => (compArg nt x).map some

/-- The kinds of the cells of fields that follow each other without a gap. -/
def fieldsK (flat : TypeId → Option (List CK)) : List Go.Field → Nat → Option (List CK)
  | [], _ => some []
  | f :: fs, o => cond (Nat.beq f.offset o && f.name != "_") ((flat f.type).bind fun k => (fieldsK flat fs (o + k.length)).map (k ++ ·)) none

/-- A type whose values are flat rows of bools, ints and strings, compared part by part. -/
def flatK : Nat → TypeId → Option (List CK)
  | 0, _ => none
  | d + 1, t => match P.underlying t with
    | some .bool => some [.b]
    | some (.int _) => some [.i]
    | some .string => some [.s]
    | some (.struct fs) => cond (!P.stoodInHeld t) ((fieldsK (flatK d) fs.toList 0).bind fun ks => cond (match sizeT P t with | some n => Nat.beq n ks.length | none => false) (some ks) none) none
    | _ => none

def eqKind (t : TypeId) : EqKind :=
  match P.underlying t with
  | some .bool => .bool
  | some (.interface _) => .iface
  | some (.func _ _ _) => .func
  | some (.struct _) => cond (!P.eqGuardType P.depth t) (match flatK P 8 t with | some ks => .flat ks | none => .other) .other
  | _ => .other

def compParts (fs : List Go.Field) : List (Nat × Operand) → Option (List (Nat × Nat × IArg))
  | [] => some []
  | (i, x) :: r => (fs[i]?).bind fun f => (sizeT P f.type).bind fun z => (compArg nt x).bind fun a => (compParts fs r).map ((f.offset, z, a) :: ·)

def compArrParts (sz : Nat) : List (Nat × Operand) → Option (List (Nat × Nat × IArg))
  | [] => some []
  | (i, x) :: r => (compArg nt x).bind fun a => (compArrParts sz r).map ((i * sz, sz, a) :: ·)

def compElems : List (Nat × Operand) → Option (List (Nat × IArg))
  | [] => some []
  | (i, x) :: r => (compArg nt x).bind fun a => (compElems r).map ((i, a) :: ·)

def isTake (d : Option Nat) : Bool := match d with | some d => takes.contains d | none => false
def isLocal (d : Option Nat) : Bool := match d with | some d => locals.contains d | none => false

def compCall (d : Option Nat) (c : Call) : Option IOp :=
  match c.callee with
  | .value f => (compArg nt f).bind fun g => (compArgs nt c.args.toList).map (.call g ·)
  | .builtin .len => match c.args.toList, c.argTypes.toList with
    | [x], [t] => (compArg nt x).bind fun a => match P.underlying t with
      | some .string => some (.len .str a)
      | some (.slice _) => some (.len .sl a)
      | some (.array n _) => some (.len (.arr n) a)
      | _ => none
    | _, _ => none
  | .builtin .append => match c.args.toList, c.argTypes.toList with
    | [x, y], [t, u] => (compArg nt x).bind fun a => (compArg nt y).bind fun b => match P.underlying t, P.underlying u with
      | some (.slice e), some (.slice _) | some (.slice e), some .string => (P.info? e).bind fun i => cond (Nat.blt 0 i.size && (i.zero.map fun z => Nat.beq z.cells.size i.size).getD false) (some (.append (Nat.beq e byteTy) (isTake muts d) i.size i.bytes a b)) none
      | _, _ => none
    | _, _ => none
  | _ => none

def compOp (d : Option Nat) (o : Op) : Option IOp :=
  match o with
  | .move x | .assign x => (compArg nt x).map (.mov (isTake takes d) (isTake muts d) ·)
  | .pick c a b => (compArg nt c).bind fun c => (compArg nt a).bind fun a => (compArg nt b).map (.pick c a ·)
  | .alloc t => (zeroT P t).bind fun z => cond (isLocal locals d) (some (.allocL z)) (some (.allocH t z))
  | .box t x => (compArg nt x).map (.box t ·)
  | .build t parts => (zeroT P t).bind fun z => match P.underlying t with
    | some (.struct fs) => cond ((fs.toList.mapM fun f => (P.info? f.type).map fun i => (f.offset, i.size)).isSome) ((compParts P nt fs.toList parts.toList).map (.build z ·)) none
    | some (.array _ e) => (sizeT P e).bind fun sz => (compArrParts nt sz parts.toList).map (.build z ·)
    | _ => none
  | .buildSlice t len parts => match P.underlying t with
    | some (.slice e) => (sizeT P e).bind fun sz => (zeroT P e).bind fun z => (compElems nt parts.toList).bind fun ps =>
        cond (Nat.ble (len * sz) 16777216 && Nat.beq z.length sz && Nat.blt 0 sz) (some (.mkslice (Nat.beq e byteTy) sz (List.replicate len (z.map AV.drop)) ps)) none
    | _ => none
  | .load t x => (compArg nt x).bind fun a => (aggT P t).bind fun g => (sizeT P t).map fun sz => .load (isTake takes d) g sz a
  | .store t x y => (compArg nt x).bind fun a => (compArg nt y).bind fun b => (sizeT P t).map fun sz => .store sz a b
  | .nilCheck x => (compArg nt x).map .nilCheck
  | .binOp op t x y _ => (compArg nt x).bind fun a => (compArg nt y).map fun b => .bin op (eqKind P t) a b
  | .unOp op _ x => (compArg nt x).map (.un op ·)
  | .convert s t x => (compArg nt x).bind fun a => match P.underlying s, P.underlying t with
    | some (.int _), some (.int k) => some (.conv (.toInt k) a)
    | some .string, some .string => some (.conv .strSame a)
    | some (.slice e), some .string => match P.underlying e with
      | some (.int .u8) => some (.conv .bytesStr a)
      | _ => none
    | _, _ => none
  | .makeInterface t x => (compArg nt x).bind fun a => match P.underlying t with
    | some (.interface _) => none
    | some _ => some (.mkiface t a)
    | none => none
  | .makeFunc f first captured => (compArgs nt first.toList).bind fun a => (compArgs nt captured.toList).map (.mkfunc f a ·)
  | .slice t x lo hi mx => (compArg nt x).bind fun a => (optArg nt lo).bind fun lo => (optArg nt hi).bind fun hi => (optArg nt mx).bind fun mx => match P.underlying t with
    | some .string => some (.slice .str a lo hi mx)
    | some (.slice e) => (sizeT P e).map fun sz => .slice (.sl sz) a lo hi mx
    | some (.array n e) => (sizeT P e).bind fun sz => cond (Nat.blt 0 sz) (some (.slice (.arr n sz) a lo hi mx)) none
    | _ => none
  | .fieldAddr t x f => (compArg nt x).bind fun a => match P.underlying t with
    | some (.struct fs) => (fs[f]?).bind fun q => (sizeT P q.type).bind fun sz => cond (Nat.blt 0 sz) (some (.fieldAddr q.offset a)) none
    | _ => none
  | .field t x f => (compArg nt x).bind fun a => match P.underlying t with
    | some (.struct fs) => (fs[f]?).bind fun q => (sizeT P q.type).bind fun sz => (aggT P q.type).map fun g => .field g q.offset sz a
    | _ => none
  | .indexAddr t x i => (compArg nt x).bind fun a => (compArg nt i).bind fun b => match P.underlying t with
    | some (.slice e) => (sizeT P e).map fun sz => .ixSl sz a b
    | some (.array n e) => (sizeT P e).map fun sz => .ixArr n sz a b
    | _ => none
  | .index t x i => (compArg nt x).bind fun a => (compArg nt i).bind fun b => match P.underlying t with
    | some .string => some (.indexStr a b)
    | some (.array n e) => (sizeT P e).bind fun sz => (aggT P e).map fun g => .index g n sz a b
    | _ => none
  | .extract x i => (compArg nt x).map (.extract · i)
  | .call c => compCall P muts nt d c
  | _ => none

def compGuard (ops : Array Oper) : Option (Nat × Bool) → Option (Option (Nat × Bool))
  | none => some none
  | some (j, want) => ((ops[j]?).bind (·.dst)).bind fun s => cond (Nat.blt s nt) (some (some (s, want))) none

def compOper (ops : Array Oper) (o : Oper) : Option IOper :=
  (compOp P takes locals muts nt o.dst o.op).bind fun p => (compGuard nt ops o.guard).bind fun g =>
    match o.dst with
    | none => some ⟨none, g, p⟩
    | some d => cond (Nat.blt d nt) (some ⟨some d, g, p⟩) none

def compOpers (ops : Array Oper) : List Oper → Option (List IOper)
  | [] => some []
  | o :: r => (compOper P takes locals muts nt ops o).bind fun p => (compOpers ops r).map (p :: ·)

def IArg.tmps : IArg → List Nat
  | .tmp t => [t]
  | _ => []

def IOp.tmps : IOp → List Nat
  | .mov _ _ x | .box _ x | .load _ _ _ x | .nilCheck x | .un _ x | .conv _ x | .mkiface _ x | .fieldAddr _ x | .field _ _ _ x | .extract x _ | .len _ x => x.tmps
  | .pick c a b => c.tmps ++ a.tmps ++ b.tmps
  | .allocL _ | .allocH _ _ => []
  | .build _ ps => ps.flatMap fun p => p.2.2.tmps
  | .mkslice _ _ _ ps => ps.flatMap fun p => p.2.tmps
  | .store _ a v => a.tmps ++ v.tmps
  | .bin _ _ x y | .ixSl _ x y | .ixArr _ _ x y | .index _ _ _ x y | .indexStr x y | .append _ _ _ _ x y => x.tmps ++ y.tmps
  | .slice _ x lo hi mx => x.tmps ++ (lo.toList.flatMap IArg.tmps) ++ (hi.toList.flatMap IArg.tmps) ++ (mx.toList.flatMap IArg.tmps)
  | .call f xs => f.tmps ++ xs.flatMap IArg.tmps
  | .mkfunc _ a b => a.flatMap IArg.tmps ++ b.flatMap IArg.tmps

def IOper.looks (o : IOper) : List Nat := o.op.tmps ++ (match o.guard with | some (g, _) => [g] | none => [])

/-- Stands operation j ahead of operation o by an edge of its own? -/
def edgeTo (o : Oper) (j : Nat) : Bool := o.after.any fun e => Region.binds .any e && Nat.beq e.on j

/-- In a region that draws its order: whatever writes a tmp that another operation names is ordered with it; no tmp is written twice; edges lead back; no variable of the frame's own is written. -/
def orderOk (L : List Nat) (ops : List (Oper × IOper)) : Bool :=
  let l := ops.zipIdx
  l.all fun p => (p.1.1.after.all fun e => !Region.binds .any e || Nat.blt e.on p.2) && (match p.1.2.dst with | some d => !(L.contains d) | none => true) &&
    l.all fun q => Nat.beq p.2 q.2 || (match q.1.2.dst with
      | none => true
      | some d => (match p.1.2.dst with | some d' => !(Nat.beq d d') | none => true) &&
        (!(p.1.2.looks.contains d) || cond (Nat.blt q.2 p.2) (edgeTo p.1.1 q.2) (edgeTo q.1.1 p.2)))

def compC : Code → Option ICode
  | .skip => some .skip
  | .region _ ops draw => (compOpers P takes locals muts nt ops ops.toList).bind fun is => cond (!draw || orderOk (locals ++ muts) (ops.toList.zip is)) (some (.region draw is)) none
  | .seq a b => (compC a).bind fun x => (compC b).map (.seq x ·)
  | .cond c a b => (compArg nt c).bind fun c => (compC a).bind fun x => (compC b).map (.cond c x ·)
  | .block id a => (compC a).map (.block id ·)
  | .loop a => (compC a).map .loop
  | .exit id => some (.exit id)
  | .ret => some .ret
  | .label _ => some .skip
  | .scope a => compC a
  | _ => none

def compRes : List ResultVar → Option (List IRes)
  | [] => some []
  | .tmp t :: r => cond (Nat.blt t nt) ((compRes r).map (.tmp t :: ·)) none
  | .cell a t :: r => cond (Nat.blt a nt) ((aggT P t).bind fun g => (sizeT P t).bind fun sz => (compRes r).map (.cell a g sz :: ·)) none
end

def compF (P : Program) (takes locals muts : List Nat) (f : Func) : Option IFunc :=
  f.body.bind fun c => (compC P takes locals muts f.ntmps c).bind fun b => (compRes P f.ntmps f.results.toList).bind fun rs =>
    cond (Nat.ble (f.params.size + f.nfree) f.ntmps && f.name != "runtime.NumGoroutine") (some { takes, locals, muts, nt := f.ntmps, np := f.params.size + f.nfree, results := rs, body := b }) none

end Go.Abs
