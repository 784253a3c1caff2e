/-
  A part of the proof of PrintKept: AbsDefs.
-/
import Derived.Orders
set_option linter.unusedSimpArgs false
set_option linter.unusedVariables false
section
namespace Go.Abs
inductive AV where
 | bool (b:Bool)
 | int (k:IntKind) (n:Int)
 | str (l:List UInt8)
 | any
 | nilptr|nilmap|nilfunc|niliface
 | slice (elems:List (List AV)) (own:Bool)
 | eptr (cells:List AV)
 | ref (loc off:Nat)
 | sref (loc off n z:Nat)
 | mref (loc:Nat)
 | fmap (kz:Nat) (ka va:Bool) (es:List (List AV))
 | gmap (kz:Nat) (ka va:Bool) (es:List (List AV))
 | iter (g kz:Nat) (ka va:Bool) (cur:List AV) (todo:List (List AV))
 | lbox (g:Nat) (cells:List AV)
 | lref (s g off:Nat)
 | lsl (g:Nat) (elems:List (List AV))
 | lsr (s g:Nat)
 | eref (s g i z off:Nat)
 | func (f:Fn) (first captured:List AV)
 | iface (t:TypeId) (v:AV)
 | agg (cells:List AV)
 | tuple (vs:List AV)
 | nilsl
 deriving Inhabited,Repr
abbrev AV.undef:AV:=.tuple []
inductive AObj where
 | box (ty:TypeId) (cells:List AV)
 | map (kz:Nat) (ka va:Bool) (es:List (List AV))
 | fmap (kz:Nat) (ka va:Bool) (es:List (List AV))
 | fbox (cells:List AV)
 | obox (cells:List AV)
 | dead
 deriving Inhabited,Repr
abbrev AHeap:=List AObj
abbrev AFrame:=Nat→AV
def AFrame.put (T:AFrame) (d:Nat) (v:AV):AFrame:=fun i=>cond (Nat.beq i d) v (T i)
structure Chg where
 heap:AHeap
 lo:Nat
 deriving Inhabited
abbrev CallF:=FuncId→List AV→AHeap→Option (AV × Option Chg)
inductive IArg where
 | tmp (t:Nat)
 | con (v:AV)
 | glob (g:Nat)
 | fn (f:FuncId)
 deriving Inhabited,Repr
inductive ConvKind where
 | toInt (k:IntKind)
 | strSame
 | bytesStr
 deriving Inhabited,Repr
inductive SliceKind where
 | str
 | sl (sz:Nat)
 | arr (n sz:Nat)
 deriving Inhabited,Repr
inductive CK where
 | b|i|s
 deriving Inhabited,Repr,DecidableEq
inductive EqKind where
 | other|bool|iface|func
 | flat (ks:List CK)
 deriving Inhabited,Repr
inductive LenKind where
 | str|sl
 | arr (n:Nat)
 deriving Inhabited,Repr
inductive Cls where
 | frame (b:Nat)
 | imm|heap
 deriving Inhabited,Repr
inductive IOp where
 | chk (c:Cls) (x:IArg)
 | mov (take obj:Bool) (x:IArg)
 | pick (c a b:IArg)
 | allocL (zero:List AV)
 | allocH (ty:TypeId) (zero:List AV)
 | boxL (x:IArg)
 | box (ty:TypeId) (x:IArg)
 | build (zero:List AV) (parts:List (Nat × Nat × IArg))
 | mkslice (isB:Bool) (sz:Nat) (zeros:List (List AV)) (parts:List (Nat × IArg))
 | mksliceO (sz:Nat) (zeros:List (List AV)) (parts:List (Nat × IArg))
 | load (take agg:Bool) (sz:Nat) (x:IArg)
 | store (sz:Nat) (a v:IArg)
 | nilCheck (x:IArg)
 | bin (op:BinOp) (k:EqKind) (x y:IArg)
 | un (op:UnOp) (x:IArg)
 | mm (mx:Bool) (x y:IArg)
 | conv (c:ConvKind) (x:IArg)
 | mkiface (t:TypeId) (x:IArg)
 | slice (k:SliceKind) (x:IArg) (lo hi mx:Option IArg)
 | fieldAddr (off:Nat) (x:IArg)
 | field (agg:Bool) (off sz:Nat) (x:IArg)
 | ixSl (sz:Nat) (x i:IArg)
 | ixArr (n sz:Nat) (x i:IArg)
 | index (agg:Bool) (n sz:Nat) (x i:IArg)
 | indexStr (x i:IArg)
 | extract (x:IArg) (i:Nat)
 | len (k:LenKind) (x:IArg)
 | append (isB wr:Bool) (sz bytes:Nat) (x y:IArg)
 | appendO (sz bytes:Nat) (x y:IArg)
 | copyO (x y:IArg)
 | boxO (x:IArg)
 | nilS (neg:Bool) (x:IArg)
 | mkarr (sz bytes:Nat) (zero:List AV) (n:IArg)
 | call (f:IArg) (args:List IArg)
 | callP (f:IArg) (args:List IArg)
 | callT (f:FuncId) (pre:List IArg) (x:IArg) (post:List IArg)
 | mkfunc (f:Fn) (first captured:List IArg)
 | mkmap (kz:Nat) (ka va:Bool)
 | look (ok:Bool) (kz:Nat) (ka va:Bool) (ks:List CK) (zero:List AV) (m k:IArg)
 | lookT (kz:Nat) (ka:Bool) (ks:List CK) (zero:List AV) (m k:IArg)
 | mset (kz:Nat) (ka va:Bool) (vz:Nat) (ks:List CK) (m k v:IArg)
 | mlen (m:IArg)
 | rng (kz:Nat) (ka va:Bool) (m:IArg)
 | next (it:IArg)
 | ent (it:IArg)
 deriving Inhabited,Repr
structure IOper where
 dst:Option Nat
 guard:Option (Nat × Bool)
 op:IOp
 deriving Inhabited,Repr
inductive ICode where
 | skip
 | region (draw:Bool) (ops:List IOper)
 | anyr (nt:Nat) (ops:List IOper) (pre:List (List Nat))
 | seq (a b:ICode)
 | cond (c:IArg) (a b:ICode)
 | block (id:Nat) (a:ICode)
 | loop (a:ICode)
 | exit (id:Nat)
 | ret
 deriving Inhabited,Repr
inductive IRes where
 | tmp (t:Nat)
 | cell (a:Nat) (agg:Bool) (sz:Nat)
 deriving Inhabited,Repr
structure IFunc where
 takes:List Nat
 locals:List Nat
 muts:List Nat
 nt:Nat
 np:Nat
 results:List IRes
 body:ICode
 deriving Inhabited,Repr
inductive IExit where
 | normal
 | exit (id:Nat)
 | ret
 deriving Inhabited,Repr,DecidableEq
structure AS where
 T:AFrame
 H:AHeap
 lo:Nat
 gen:Nat
def AV.cells:AV→Option (List AV)
 | .agg cs=>some cs
 | .any=>none
 | .tuple _=>none
 | .lbox ..=>none
 | .lref ..=>none
 | .lsl ..=>none
 | .lsr ..=>none
 | .eref ..=>none
 | .iter ..=>none
 | v=>some [v]
def AV.drop:AV→AV
 | .slice e _=>.slice e false
 | v=>v
def AV.dropAll:AV→AV
 | .agg cs=>.agg (cs.map AV.drop)
 | v=>v.drop
def AV.plain:AV→Bool
 | .bool _|.int ..|.str _|.any|.nilptr|.nilmap|.nilfunc|.niliface|.eptr _|.fmap ..|.gmap ..|.nilsl=>true
 | .slice _ own=>!own
 | .func _ [] []=>true
 | .iface _ (.bool _)|.iface _ (.int ..)|.iface _ (.str _)|.iface _ .any|.iface _ .nilptr=>true
 | _=>false
def AV.elem (sz:Nat) (v:AV):Option (List AV) :=
 match v.cells with
 | none=>none
 | some cs =>
  let ds:=cs.map AV.drop
  cond (Nat.beq ds.length sz&&ds.all AV.plain) (some ds) none
def AV.cellOut (base:Nat):AV→Bool
 | .ref loc _=>Nat.blt loc base
 | .sref loc _ _ _=>Nat.blt loc base
 | .mref loc=>Nat.blt loc base
 | v=>v.plain
def AV.partOut (base:Nat):AV→Bool
 | .agg cs=>cs.all (AV.cellOut base)
 | v=>v.cellOut base
def AV.leaves (base:Nat):AV→Bool
 | .func _ fs cs=>fs.all (AV.cellOut base)&&cs.all (AV.cellOut base)
 | .iface _ v=>v.cellOut base
 | .tuple vs=>vs.all (AV.partOut base)
 | .slice ..=>true
 | v=>v.partOut base
def genOf:AV→Option Nat
 | .lbox g _=>some g
 | .lsl g _=>some g
 | .iter g ..=>some g
 | _=>none
def IArg.eval (G:Nat→List AV) (T:AFrame):IArg→AV
 | .tmp t=>T t
 | .con v=>v
 | .glob g=>.eptr (G g)
 | .fn f=>.func (.func f) [] []
def asNat:AV→Option Nat
 | .int _ n=>cond (decide (0≤n)) (some n.toNat) none
 | _=>none
def eqFlat:List CK→List AV→List AV→Option Bool
 | [],_,_=>some true
 | .b :: ks,.bool a :: xs,.bool b :: ys=>(eqFlat ks xs ys).map (a==b&&·)
 | .i :: ks,.int j a :: xs,.int k b :: ys=>cond (decide (j=k)) ((eqFlat ks xs ys).map (a==b&&·)) none
 | .s :: ks,.str a :: xs,.str b :: ys=>(eqFlat ks xs ys).map (a==b&&·)
 | _,_,_=>none
def binInt (op:BinOp) (k:IntKind) (a b:Int):Option AV :=
 match op with
 | .add=>some (.int k (k.wrap (a+b)))
 | .sub=>some (.int k (k.wrap (a-b)))
 | .mul=>some (.int k (k.wrap (a*b)))
 | .quo=>cond (decide (b=0)) none (some (.int k (k.wrap (a.tdiv b))))
 | .rem=>cond (decide (b=0)) none (some (.int k (a.tmod b)))
 | .eql=>some (.bool (a==b))
 | .neq=>some (.bool (a != b))
 | .lss=>some (.bool (decide (a<b)))
 | .leq=>some (.bool (decide (a≤b)))
 | .gtr=>some (.bool (decide (a>b)))
 | .geq=>some (.bool (decide (a≥b)))
 | _=>none
def binStr (op:BinOp) (a b:List UInt8):Option AV :=
 match op with
 | .add=>cond (decide (a.length+b.length≤4611686018427387904)) (some (.str (a++b))) none
 | .eql=>some (.bool (a==b))
 | .neq=>some (.bool !(a==b))
 | .lss=>some (.bool (Op.bytesLess a b))
 | .leq=>some (.bool (Op.bytesLess a b || a==b))
 | .gtr=>some (.bool !(Op.bytesLess a b || a==b))
 | .geq=>some (.bool !(Op.bytesLess a b))
 | _=>none
def nilCmp (op:BinOp) (b:Bool):Option AV :=
 match op with
 | .eql=>some (.bool b)
 | .neq=>some (.bool !b)
 | _=>none
def isCon:IArg→Bool
 | .con _=>true
 | _=>false
def binAV (op:BinOp) (q:EqKind) (con:Bool) (x y:AV):Option AV :=
 match x,y with
 | .int j a,.int k b=>cond (decide (j=k)) (binInt op j a b) none
 | .str a,.str b=>binStr op a b
 | .bool a,.bool b=>(match q with|.bool=>nilCmp op (a==b)|_=>none)
 | .agg xs,.agg ys=>(match q with|.flat ks=>(eqFlat ks xs ys).bind fun b=>nilCmp op b|_=>none)
 | x,.niliface=>cond (con&&(match q with|.iface=>true|_=>false)) ((match x with|.niliface=>some true|.iface ..=>some false|_=>none).bind fun b=>nilCmp op b) none
 | x,.nilfunc=>cond (match q with|.func=>true|_=>false) ((match x with|.nilfunc=>some true|.func ..=>some false|_=>none).bind fun b=>nilCmp op b) none
 | _,_=>none
def unAV (op:UnOp) (x:AV):Option AV :=
 match op,x with
 | .neg,.int k n=>some (.int k (k.wrap (0-n)))
 | .not,.bool b=>some (.bool !b)
 | _,_=>none
def mmAV (mx:Bool) (x y:AV):Option AV :=
 match x,y with
 | .int k a,.int j b=>cond (decide (k=j)) (some (.int k (cond mx (if b>a then b else a) (if b<a then b else a)))) none
 | _,_=>none
def bytesOf:List (List AV)→Option (List UInt8)
 | []=>some []
 | [.int .u8 n] :: r=>(bytesOf r).map (UInt8.ofNat n.toNat :: ·)
 | _=>none
def convAV (c:ConvKind) (x:AV):Option AV :=
 match c,x with
 | .toInt k,.int _ n=>some (.int k (k.wrap n))
 | .strSame,.str l=>some (.str l)
 | .bytesStr,.slice e _=>(bytesOf e).map .str
 | _,_=>none
def chunks (sz:Nat):Nat→List AV→List (List AV)
 | 0,_=>[]
 | n+1,l=>l.take sz :: chunks sz n (l.drop sz)
def bound (dflt:Nat) (x:Option AV) (most:Nat):Option Nat :=
 match x with
 | none=>some dflt
 | some v=>(asNat v).bind fun n=>cond (Nat.ble n most) (some n) none
def headOk (sz:Nat) (e:List (List AV)):Bool:=(e.head?.map fun r=>Nat.beq r.length sz).getD true
def solid:List (List AV)→Bool
 | (_ :: _) :: _=>true
 | _=>false
def sliceAV (k:SliceKind) (x:AV) (lo hi mx:Option AV):Option AV :=
 match k,x with
 | .str,.str l=>(bound l.length hi l.length).bind fun h=>(bound 0 lo h).bind fun a=>cond mx.isNone (some (.str ((l.take h).drop a))) none
 | .sl sz,.slice e _=>(bound e.length mx e.length).bind fun m=>(bound e.length hi m).bind fun h=>(bound 0 lo h).bind fun a =>
   cond ((mx.isNone || hi.isSome)&&(lo.isNone || headOk sz e)) (some (.slice ((e.take h).drop a) (mx.isSome&&Nat.beq m h&&solid e))) none
 | .sl sz,.sref l o n z=>(bound n hi n).bind fun h=>(bound 0 lo h).bind fun a=>cond (mx.isNone&&Nat.beq z sz) (some (cond (Nat.blt a n) (.sref l (o+a*z) (h-a) z) (.slice [] false))) none
 | .arr n sz,.eptr cs=>cond (Nat.beq cs.length (n*sz)) ((bound n hi n).bind fun h=>(bound 0 lo h).bind fun a=>cond mx.isNone (some (.slice (((chunks sz n cs).take h).drop a) false)) none) none
 | _,_=>none
def lenAV (k:LenKind) (x:AV):Option AV :=
 match k,x with
 | .str,.str l=>some (.int .i64 l.length)
 | .sl,.slice e _=>some (.int .i64 e.length)
 | .sl,.sref _ _ n _=>some (.int .i64 n)
 | .sl,.nilsl=>some (.int .i64 0)
 | .arr n,_=>some (.int .i64 n)
 | _,_=>none
def putAt (l:List AV) (off:Nat) (cs:List AV):List AV:=l.take off++cs++l.drop (off+cs.length)
def buildParts:List AV→List (Nat × Nat × AV)→Option (List AV)
 | cells,[]=>some cells
 | cells,(off,sz,v) :: r =>
  match v.cells with
  | none=>none
  | some cs=>cond (Nat.beq cs.length sz&&Nat.ble (off+cs.length) cells.length) (buildParts (putAt cells off (cs.map AV.drop)) r) none
def sliceParts (sz:Nat):List (List AV)→List (Nat × AV)→Option (List (List AV))
 | es,[]=>some es
 | es,(i,v) :: r =>
  match v.elem sz with
  | none=>none
  | some cs=>cond (Nat.blt i es.length) (sliceParts sz (es.set i cs) r) none
def loadCellsAV (take agg:Bool) (sz off:Nat) (cs:List AV):Option AV :=
 cond agg (cond (Nat.ble (off+sz) cs.length) (some (.agg (((cs.drop off).take sz).map AV.drop))) none)
  ((cs[off]?).map fun v=>cond take v v.drop)
def takenAt (off:Nat) (cs:List AV):List AV:=cs.modify off AV.drop
def AS.setT (s:AS) (t:Nat) (v:AV):AS:={ s with T:=s.T.put t v }
def AS.chg (s:AS) (c:Chg):AS:={ s with H:=c.heap,lo:=cond (Nat.blt c.lo s.lo) c.lo s.lo }
def IArg.addr (G:Nat→List AV) (T:AFrame):IArg→AV
 | .tmp t=>match T t with
  | .lbox g _=>.lref t g 0
  | .lsl g _=>.lsr t g
  | .iter ..=>.any
  | v=>v
 | .con v=>v
 | .glob g=>.eptr (G g)
 | .fn f=>.func (.func f) [] []
def loadAV (s:AS) (take agg:Bool) (sz:Nat) (x:AV):Option (AV × Option AS) :=
 match x with
 | .eptr cs=>(loadCellsAV false agg sz 0 cs).map (·,none)
 | .ref loc off=>match s.H[loc]? with
  | some (.box ty cs)=>(loadCellsAV take agg sz off cs).map fun v=>(v,cond (take&&!agg) (some (s.chg ⟨s.H.set loc (.box ty (takenAt off cs)),loc⟩)) none)
  | some (.fbox cs)=>(loadCellsAV false agg sz off cs).map (·,none)
  | some (.obox cs)=>(loadCellsAV false agg sz off cs).map (·,none)
  | _=>none
 | .lref b g off=>match s.T b with
  | .lbox g' cs=>cond (Nat.beq g g') ((loadCellsAV take agg sz off cs).map fun v=>(v,cond (take&&!agg) (some (s.setT b (.lbox g (takenAt off cs)))) none)) none
  | _=>none
 | .eref b g i z off=>match s.T b with
  | .lsl g' e=>cond (Nat.beq g g') ((e[i]?).bind fun r=>cond (Nat.beq r.length z) ((loadCellsAV false agg sz off r).map (·,none)) none) none
  | _=>none
 | _=>none
def heapCell0 (loc:Nat):AV→Bool
 | .ref l _=>Nat.ble l loc
 | .sref l _ _ _=>Nat.ble l loc
 | .mref l=>Nat.ble l loc
 | v=>v.drop.plain
def heapPart (loc:Nat):AV→Bool
 | .agg cs=>cs.all (heapCell0 loc)
 | v=>heapCell0 loc v
def heapCell (loc:Nat):AV→Bool
 | .ref l _=>Nat.ble l loc
 | .sref l _ _ _=>Nat.ble l loc
 | .mref l=>Nat.ble l loc
 | .func _ fs cs=>fs.all (heapPart loc)&&cs.all (heapPart loc)
 | v=>v.drop.plain
def frameCell:AV→Bool
 | .lref ..=>false
 | .lbox ..=>false
 | .lsl ..=>false
 | .lsr ..=>false
 | .eref ..=>false
 | .iter ..=>false
 | _=>true
def storeAV (s:AS) (sz:Nat) (a v:AV):Option AS :=
 match v.cells with
 | none=>none
 | some vs=>cond (Nat.beq vs.length sz)
  (match a with
   | .ref loc off=>match s.H[loc]? with
    | some (.box ty cs)=>cond (Nat.ble (off+sz) cs.length&&vs.all (heapCell loc)) (some (s.chg ⟨s.H.set loc (.box ty (putAt cs off vs)),loc⟩)) none
    | some (.obox cs)=>cond (Nat.ble (off+sz) cs.length&&vs.all frameCell) (some (s.chg ⟨s.H.set loc (.obox (putAt cs off vs)),loc⟩)) none
    | _=>none
   | .lref b g off=>match s.T b with
    | .lbox g' cs=>cond (Nat.beq g g'&&Nat.ble (off+sz) cs.length&&vs.all frameCell) (some (s.setT b (.lbox g (putAt cs off vs)))) none
    | _=>none
   | .eref b g i z off=>match s.T b with
    | .lsl g' e=>cond (Nat.beq g g') ((e[i]?).bind fun r=>cond (Nat.beq r.length z&&Nat.ble (off+sz) r.length&&(vs.map AV.drop).all AV.plain) (some (s.setT b (.lsl g (e.set i (putAt r off (vs.map AV.drop)))))) none) none
    | _=>none
   | _=>none)
  none
def AS.spent (s:AS):IArg→AS
 | .tmp t=>match s.T t with
  | .slice e true=>s.setT t (.slice e false)
  | _=>s
 | _=>s
def elemsOf (sz:Nat):AV→Option (List (List AV))
 | .slice f _=>some f
 | .str l=>cond (Nat.beq sz 1) (some (l.map fun (b:UInt8)=>[AV.int .u8 b.toNat])) none
 | _=>none
abbrev byteTy:TypeId:=5
def noByte (e:List (List AV)):Bool:=e.all fun r=>r.all fun|.int .u8 _=>false|.any=>false|_=>true
def byteRows (e:List (List AV)):Bool:=e.all fun|[.int .u8 _]=>true|_=>false
def rowsOK (isB:Bool) (e:List (List AV)):Bool:=cond isB (byteRows e) (noByte e)
def fitsRows (sz bytes:Nat) (e f:List (List AV)):Bool :=
 Nat.ble ((e.length+f.length)*bytes) 70368744177664&&Nat.ble (e.length+f.length) 70368744177664&&headOk sz e&&headOk sz f
def appendAV (isB:Bool) (sz bytes:Nat) (x y:AV):Option AV :=
 match x with
 | .slice e own=>(elemsOf sz y).bind fun f =>
  match f with
  | []=>some (.slice e own)
  | f=>cond (own&&fitsRows sz bytes e f&&rowsOK isB (e++f)) (some (.slice (e++f) true)) none
 | _=>none
def plainRows (f:List (List AV)):Bool:=f.all fun r=>r.all AV.plain
abbrev freeTy:TypeId:=4294967295
def evAppendO (s:AS) (sz bytes:Nat) (x y:AV):Option (AV × Option AS) :=
 (elemsOf sz y).bind fun f =>
  match x with
  | .slice [] true|.nilsl=>cond (!f.isEmpty&&fitsRows sz bytes [] f&&plainRows f) (some (.sref s.H.length 0 f.length sz,some (s.chg ⟨s.H++[.box freeTy f.flatten],s.H.length⟩))) none
  | .sref l o n z=>match s.H[l]? with
   | some (.box ty cs)=>cond (Nat.beq o 0&&Nat.beq z sz&&Nat.beq cs.length (n*sz)&&Nat.ble ((n+f.length)*bytes) 70368744177664&&Nat.ble (n+f.length) 70368744177664&&headOk sz f&&plainRows f)
     (some (.sref s.H.length 0 (n+f.length) sz,some (s.chg ⟨s.H.set l .dead++[.box freeTy (cs++f.flatten)],l⟩))) none
   | _=>none
  | _=>none
def evCopyO (s:AS) (x y:AV):Option (AV × Option AS) :=
 match x,y with
 | .sref l o n z,.slice f _=>match s.H[l]? with
  | some (.obox cs)=>cond (Nat.beq z 1&&headOk 1 f&&plainRows f&&Nat.ble (o+n) cs.length)
    (some (.int .i64 (Nat.min f.length n),some (s.chg ⟨s.H.set l (.obox (putAt cs o (f.take (Nat.min f.length n)).flatten)),l⟩))) none
  | _=>none
 | .slice [] _,.slice _ _=>some (.int .i64 0,none)
 | _,_=>none
def nilSl:AV→Option Bool
 | .nilsl=>some true
 | .slice (_ :: _) _=>some false
 | _=>none
def evMkarr (s:AS) (sz bytes:Nat) (zero:List AV) (n:AV):Option (AV × Option AS) :=
 (asNat n).bind fun k=>cond (Nat.ble (k*bytes) 70368744177664&&Nat.ble k 70368744177664)
  (some (.sref s.H.length 0 k sz,some (s.chg ⟨s.H++[.box freeTy (List.replicate k zero).flatten],s.H.length⟩))) none
def offAddr (off:Nat):AV→Option AV
 | .ref l o=>some (.ref l (o+off))
 | .lref b g o=>some (.lref b g (o+off))
 | .eref b g i z o=>some (.eref b g i z (o+off))
 | .eptr cs=>some (.eptr (cs.drop off))
 | _=>none
def liveAddr (s:AS):AV→Bool
 | .ref ..=>true
 | .eptr _=>true
 | .lref b g _=>(match s.T b with|.lbox g' _=>Nat.beq g g'|_=>false)
 | .eref b g i _ _=>(match s.T b with|.lsl g' e=>Nat.beq g g'&&Nat.blt i e.length|_=>false)
 | _=>false
def mkifaceAV (t:TypeId) (v:AV):Option AV :=
 cond (AV.plain v.drop || (match v with|.ref ..=>true|_=>false)) (some (.iface t v.drop)) none
def clsOk (c:Cls) (v:AV):Bool :=
 match c with
 | .frame b=>(match v with|.lref b' _ _=>Nat.beq b b'|_=>false)
 | .imm=>(match v with|.lref ..=>false|.eref ..=>false|.lsr ..=>false|.ref ..=>false|_=>true)
 | .heap=>(match v with|.lref ..=>false|.eref ..=>false|.lsr ..=>false|_=>true)
def AV.isAgg:AV→Bool
 | .agg _=>true
 | _=>false
def mapRows (s:AS) (kz:Nat) (ka va:Bool) (m:AV):Option (List (List AV)) :=
 match m with
 | .fmap kz' ka' va' es=>cond (Nat.beq kz kz'&&ka==ka'&&va==va') (some es) none
 | .mref l=>match s.H[l]? with
  | some (.map kz' ka' va' es)=>cond (Nat.beq kz kz'&&ka==ka'&&va==va') (some es) none
  | some (.fmap kz' ka' va' es)=>cond (Nat.beq kz kz'&&ka==ka'&&va==va') (some es) none
  | _=>none
 | _=>none
def findE (ks:List CK) (kc:List AV):List (List AV)→Option (Option Nat)
 | []=>some none
 | r :: es=>(eqFlat ks kc r).bind fun b=>cond b (some (some 0)) ((findE ks kc es).map fun o=>o.map (· + 1))
def entV (agg:Bool) (cs:List AV):AV:=cond agg (.agg (cs.map AV.drop)) ((cs.headD .undef).drop)
def lookV (ok va:Bool) (cs:List AV) (found:Bool):AV :=
 let v:=cond va (.agg (cs.map AV.drop)) ((cs.headD .undef).drop)
 cond ok (.tuple [v,.bool found]) v
def lookO (ok va:Bool) (zero:List AV) (kz:Nat) (es:List (List AV)):Option Nat→AV
 | none=>lookV ok va zero false
 | some i=>lookV ok va ((es.getD i []).drop kz) true
def strKey:List AV→Option (List UInt8)
 | .str a :: _=>some a
 | _=>none
def apartS:List (List AV)→Bool
 | []=>true
 | r :: es=>(match strKey r with|some a=>es.all fun q=>(match strKey q with|some b=>!(a==b)|none=>false)|none=>false)&&apartS es
def isSK:List CK→List AV→Bool
 | [.s],[.str _]=>true
 | _,_=>false
def evLook (s:AS) (ok:Bool) (kz:Nat) (ka va:Bool) (ks:List CK) (zero:List AV) (m k:AV):Option (AV × Option AS) :=
 k.drop.cells.bind fun kc=>cond (Nat.beq kc.length kz&&ka==k.drop.isAgg)
  (match m with
   | .nilmap=>some (lookV ok va zero false,none)
   | .gmap kz' ka' va' es=>cond (Nat.beq kz kz'&&ka==ka'&&va==va'&&apartS es&&isSK ks kc) ((findE ks kc es).map fun o=>(lookO ok va zero kz es o,none)) none
   | m=>(mapRows s kz ka va m).bind fun es=>(findE ks kc es).map fun o=>(lookO ok va zero kz es o,none)) none
def evLookT (s:AS) (kz:Nat) (ka:Bool) (ks:List CK) (zero:List AV) (m k:AV):Option (AV × Option AS) :=
 match m with
 | .mref l=>match s.H[l]? with
  | some (.map kz' ka' false es)=>k.drop.cells.bind fun kc=>cond (Nat.beq kc.length kz&&Nat.beq kz kz'&&ka==ka'&&ka==k.drop.isAgg)
    ((findE ks kc es).bind fun o=>match o with
     | none=>some ((zero.headD .undef),none)
     | some i=>((es.getD i [])[kz]?).map fun v=>(v,some (s.chg ⟨s.H.set l (.map kz ka false (es.set i (takenAt kz (es.getD i [])))),l⟩))) none
  | _=>none
 | _=>none
def setR (es:List (List AV)) (o:Option Nat) (r:List AV):List (List AV) :=
 match o with
 | none=>es++[r]
 | some i=>es.set i r
def evMset (s:AS) (kz:Nat) (ka va:Bool) (vz:Nat) (ks:List CK) (m k v:AV):Option AS :=
 match m with
 | .mref l=>match s.H[l]? with
  | some (.map kz' ka' va' es)=>k.drop.cells.bind fun kc=>v.cells.bind fun vc =>
    cond (Nat.beq kc.length kz&&Nat.beq vc.length vz&&Nat.beq kz kz'&&ka==ka'&&va==va'&&ka==k.drop.isAgg&&va==v.isAgg&&vc.all (heapCell l)&&kc.all AV.plain)
     ((findE ks kc es).map fun o=>s.chg ⟨s.H.set l (.map kz ka va (setR es o (kc++cond va (vc.map AV.drop) vc))),l⟩) none
  | _=>none
 | _=>none
section
variable (G:Nat→List AV) (cf:CallF)
def evMov (s:AS) (take obj:Bool) (x:IArg):Option (AV × Option AS) :=
 match x with
 | .tmp t=>match s.T t with
  | .lbox g _=>some (.lref t g 0,none)
  | .lsl g e=>cond take (cond obj (some (.lsl s.gen e,some { s.setT t .any with gen:=s.gen+1 })) (cond (noByte e) (some (.slice e true,some (s.setT t .any))) none)) (some (.lsr t g,none))
  | .slice e own=>some (.slice e (take&&own),cond (take&&own) (some (s.setT t (.slice e false))) none)
  | .iter ..=>none
  | v=>some (v,none)
 | x=>some (x.eval G s.T,none)
def evAppend (s:AS) (isB wr:Bool) (sz bytes:Nat) (x y:IArg):Option (AV × Option AS) :=
 match x with
 | .tmp t=>match s.T t with
  | .lsl _ e=>(elemsOf sz (y.eval G s.T)).bind fun f=>cond (wr&&fitsRows sz bytes e f) (some (.lsl s.gen (e++f),some { s.setT t .any with gen:=s.gen+1 })) none
  | .slice e own=>cond wr
    ((elemsOf sz (y.eval G s.T)).bind fun f=>cond (e.isEmpty&&own&&fitsRows sz bytes [] f) (some (.lsl s.gen f,some { s.setT t .any with gen:=s.gen+1 })) none)
    ((appendAV isB sz bytes (.slice e own) (y.eval G s.T)).map (·,some (s.setT t (.slice e false))))
  | .nilsl=>cond wr
    ((elemsOf sz (y.eval G s.T)).bind fun f=>cond (fitsRows sz bytes [] f) (some (.lsl s.gen f,some { s.setT t .any with gen:=s.gen+1 })) none)
    ((appendAV isB sz bytes (.slice [] true) (y.eval G s.T)).map (·,some s))
  | _=>none
 | x=>cond wr none ((appendAV isB sz bytes (x.eval G s.T) (y.eval G s.T)).map (·,none))
def giveX (s:AS) (x:IArg):Option (AV × AS) :=
 match x with
 | .tmp t=>match s.T t with
  | .slice e own=>some (.slice e own,s.setT t (.slice e false))
  | _=>none
 | .con v=>match v with
  | .slice [] true=>some (.slice [] true,s)
  | _=>none
 | _=>none
def evOp (s:AS) (o:IOp):Option (AV × Option AS) :=
 match o with
 | .chk c x=>cond (clsOk c (x.addr G s.T)) (some (.undef,none)) none
 | .mov take obj x=>evMov G s take obj x
 | .pick c a b=>match c.eval G s.T with
  | .bool t=>some (cond t (a.addr G s.T).drop (b.addr G s.T).drop,none)
  | _=>none
 | .allocL zero=>some (.lbox s.gen zero,some { s with gen:=s.gen+1 })
 | .boxL x=>(x.eval G s.T).drop.cells.map fun cs=>(.lbox s.gen (cs.map AV.drop),some { s with gen:=s.gen+1 })
 | .allocH ty zero=>some (.ref s.H.length 0,some (s.chg ⟨s.H++[.box ty zero],s.H.length⟩))
 | .box ty x=>(x.eval G s.T).drop.cells.bind fun cs=>cond (cs.all (heapCell s.H.length)) (some (.ref s.H.length 0,some (s.chg ⟨s.H++[.box ty (cs.map AV.drop)],s.H.length⟩))) none
 | .build zero parts=>(buildParts zero (parts.map fun p=>(p.1,p.2.1,(p.2.2.eval G s.T).drop))).map (.agg ·,none)
 | .mkslice isB sz zeros parts=>(sliceParts sz zeros (parts.map fun p=>(p.1,(p.2.eval G s.T).drop))).bind fun E=>cond (rowsOK isB E) (some (.slice E true,none)) none
 | .mksliceO sz zeros parts=>(sliceParts sz zeros (parts.map fun p=>(p.1,(p.2.eval G s.T).drop))).bind fun E=>cond (plainRows E) (some (.sref s.H.length 0 E.length sz,some (s.chg ⟨s.H++[.box freeTy E.flatten],s.H.length⟩))) none
 | .load take agg sz x=>loadAV s take agg sz (x.addr G s.T)
 | .store sz a v=>(storeAV s sz (a.addr G s.T) (v.eval G s.T)).map fun s'=>(.undef,some (s'.spent v))
 | .nilCheck x=>cond (liveAddr s (x.addr G s.T)) (some (x.addr G s.T,none)) none
 | .bin op q x y=>(binAV op q (isCon x || isCon y) (x.eval G s.T) (y.eval G s.T)).map (·,none)
 | .un op x=>(unAV op (x.eval G s.T)).map (·,none)
 | .mm mx x y=>(mmAV mx (x.eval G s.T) (y.eval G s.T)).map (·,none)
 | .conv c x=>(convAV c (x.eval G s.T)).map (·,none)
 | .mkiface t x=>(mkifaceAV t (x.eval G s.T)).map (·,none)
 | .slice k x lo hi mx=>(sliceAV k (x.eval G s.T) (lo.map (·.eval G s.T)) (hi.map (·.eval G s.T)) (mx.map (·.eval G s.T))).map (·,none)
 | .fieldAddr off x=>cond (liveAddr s (x.addr G s.T)) ((offAddr off (x.addr G s.T)).map (·,none)) none
 | .field agg off sz x=>match x.eval G s.T with
  | .agg cs=>(loadCellsAV false agg sz off cs).map (·,none)
  | _=>none
 | .ixSl sz x i=>match x.addr G s.T with
  | .slice e _=>(asNat (i.eval G s.T)).bind fun n=>(e[n]?).bind fun r=>cond (Nat.beq r.length sz) (some (.eptr r,none)) none
  | .sref l o m _=>(asNat (i.eval G s.T)).bind fun n=>cond (Nat.blt n m) (some (.ref l (o+n*sz),none)) none
  | .lsr t g=>match s.T t with
   | .lsl g' e=>cond (Nat.beq g g') ((asNat (i.eval G s.T)).bind fun n=>(e[n]?).bind fun r=>cond (Nat.beq r.length sz) (some (.eref t g n sz 0,none)) none) none
   | _=>none
  | _=>none
 | .ixArr n sz x i=>(asNat (i.eval G s.T)).bind fun k=>cond (Nat.blt k n&&liveAddr s (x.addr G s.T)) ((offAddr (k*sz) (x.addr G s.T)).map (·,none)) none
 | .index agg n sz x i=>(asNat (i.eval G s.T)).bind fun k=>cond (Nat.blt k n)
   (match x.eval G s.T with
    | .agg cs=>(loadCellsAV false agg sz (k*sz) cs).map (·,none)
    | _=>none) none
 | .indexStr x i=>match x.eval G s.T with
  | .str l=>(asNat (i.eval G s.T)).bind fun n=>(l[n]?).map fun (b:UInt8)=>(AV.int .u8 b.toNat,none)
  | _=>none
 | .extract x i=>match x.eval G s.T with
  | .tuple vs=>(vs[i]?).map fun v=>(v.dropAll,none)
  | _=>none
 | .len k x=>match x.addr G s.T with
  | .lsr t g=>match s.T t with
   | .lsl g' e=>cond (Nat.beq g g') ((lenAV k (.slice e false)).map (·,none)) none
   | _=>none
  | v=>(lenAV k v).map (·,none)
 | .append isB wr sz bytes x y=>evAppend G s isB wr sz bytes x y
 | .appendO sz bytes x y=>evAppendO s sz bytes (x.addr G s.T) (y.eval G s.T)
 | .mkarr sz bytes zero n=>evMkarr s sz bytes zero (n.eval G s.T)
 | .copyO x y=>evCopyO s (x.addr G s.T) (y.eval G s.T)
 | .boxO x=>(x.eval G s.T).drop.cells.bind fun cs=>cond (cs.all frameCell) (some (.ref s.H.length 0,some (s.chg ⟨s.H++[.obox (cs.map AV.drop)],s.H.length⟩))) none
 | .nilS neg x=>(nilSl (x.eval G s.T)).map fun b=>(.bool (neg != b),none)
 | .call f args=>match f.eval G s.T with
  | .func (.func n) fs cs=>cond ((args.map fun a=>a.addr G s.T).all frameCell)
    ((cf n (fs++args.map (fun a=>(a.addr G s.T).dropAll)++cs) s.H).map fun r=>(r.1,r.2.map s.chg)) none
  | _=>none
 | .callP f args=>match f.eval G s.T with
  | .func (.func n) fs cs=>cond ((args.map fun a=>a.addr G s.T).all frameCell)
    ((cf n (fs++args.map (fun a=>(a.addr G s.T).dropAll)++cs) s.H).bind fun r=>match r.2 with|none=>some (r.1,none)|some _=>none) none
  | _=>none
 | .callT f pre x post=>cond ((pre.map fun a=>a.addr G s.T).all frameCell&&(post.map fun a=>a.addr G s.T).all frameCell)
   ((giveX s x).bind fun p=>(cf f (pre.map (fun a=>(a.addr G s.T).dropAll)++p.1 :: post.map (fun a=>(a.addr G s.T).dropAll)) s.H).map fun r=>(r.1,some ((r.2.map p.2.chg).getD p.2))) none
 | .mkfunc f first captured=>cond ((first.map fun a=>a.addr G s.T).all frameCell&&(captured.map fun a=>a.addr G s.T).all frameCell)
   (some (.func f (first.map fun a=>(a.addr G s.T).drop) (captured.map fun a=>(a.addr G s.T).drop),none)) none
 | .mkmap kz ka va=>some (.mref s.H.length,some (s.chg ⟨s.H++[.map kz ka va []],s.H.length⟩))
 | .look ok kz ka va ks zero m k=>evLook s ok kz ka va ks zero (m.addr G s.T) (k.eval G s.T)
 | .lookT kz ka ks zero m k=>evLookT s kz ka ks zero (m.addr G s.T) (k.eval G s.T)
 | .mset kz ka va vz ks m k v=>(evMset s kz ka va vz ks (m.addr G s.T) (k.eval G s.T) (v.eval G s.T)).map fun s'=>(.undef,some (s'.spent v))
 | .mlen m=>match m.addr G s.T with
  | .nilmap=>some (.int .i64 0,none)
  | .fmap _ _ _ es=>some (.int .i64 es.length,none)
  | .mref l=>match s.H[l]? with
   | some (.map _ _ _ es)=>some (.int .i64 es.length,none)
   | some (.fmap _ _ _ es)=>some (.int .i64 es.length,none)
   | _=>none
  | _=>none
 | .rng kz ka va m=>match m.addr G s.T with
  | .nilmap=>some (.iter s.gen kz ka va [] [],some { s with gen:=s.gen+1 })
  | .fmap kz' ka' va' es=>cond (Nat.beq kz kz'&&ka==ka'&&va==va') (some (.iter s.gen kz ka va [] es,some { s with gen:=s.gen+1 })) none
  | .mref l=>match s.H[l]? with
   | some (.map kz' ka' va' es)=>cond (Nat.beq kz kz'&&ka==ka'&&va==va'&&plainRows es)
     (some (.iter s.gen kz ka va [] es,some { s.chg ⟨s.H.set l (.fmap kz ka va es),l⟩ with gen:=s.gen+1 })) none
   | _=>none
  | _=>none
 | .next _=>none
 | .ent it=>match it with
  | .tmp t=>match s.T t with
   | .iter _ kz ka va cur _=>cond (Nat.ble kz cur.length&&!cur.isEmpty) (some (.tuple [entV ka (cur.take kz),entV va (cur.drop kz)],none)) none
   | _=>none
  | _=>none
def AS.putD (s:AS) (d:Option Nat) (v:AV):AS:=match d with|none=>s|some d=>s.setT d v
def evOper (draw:Bool) (s:AS) (o:IOper):Option AS :=
 let run:Option AS:=(evOp G cf s o.op).bind fun r=>match r.2 with
  | none=>cond (draw&&(genOf r.1).isSome) none (some (s.putD o.dst r.1))
  | some s'=>cond draw none (some (s'.putD o.dst r.1))
 match o.guard with
 | none=>run
 | some (g,want)=>match s.T g with
  | .bool b=>cond (b==want) run (some (s.putD o.dst .undef))
  | .tuple []=>some (s.putD o.dst .undef)
  | _=>none
def evOps (draw:Bool):List IOper→AS→Option AS
 | [],s=>some s
 | o :: r,s=>(evOper G cf draw s o).bind (evOps draw r)
def iter (f:AS→Option (IExit × AS)):Nat→AS→Option (IExit × AS)
 | 0,_=>none
 | n+1,s=>(f s).bind fun r=>match r.1 with
  | .normal=>iter f n r.2
  | _=>some r
def evC (n:Nat):ICode→AS→Option (IExit × AS)
 | .skip,s=>some (.normal,s)
 | .region d ops,s=>(evOps G cf d ops s).map (.normal,·)
 | .seq a b,s=>(evC n a s).bind fun r=>match r.1 with
  | .normal=>evC n b r.2
  | _=>some r
 | .cond c a b,s=>match c.eval G s.T with
  | .bool t=>cond t (evC n a s) (evC n b s)
  | _=>none
 | .block id a,s=>(evC n a s).map fun r=>match r.1 with
  | .exit i=>(cond (Nat.beq i id) .normal (.exit i),r.2)
  | e=>(e,r.2)
 | .loop a,s=>iter (evC n a) n s
 | .exit id,s=>some (.exit id,s)
 | .ret,s=>some (.ret,s)
 | .anyr _ _ _,_=>none
end
def resOf (s:AS):IRes→Option AV
 | .tmp t=>cond (frameCell (s.T t)) (some (s.T t)) none
 | .cell a agg sz=>match s.T a with
  | .lbox _ cs=>loadCellsAV false agg sz 0 cs
  | .ref loc 0=>match s.H[loc]? with
   | some (.box _ cs)=>loadCellsAV false agg sz 0 cs
   | _=>none
  | _=>none
def resRow (s:AS):IRes→Option Nat
 | .tmp t=>match s.T t with
  | .lsl _ _=>some t
  | .lsr b g=>match s.T b with
   | .lsl g' _=>cond (Nat.beq g g') (some b) none
   | _=>none
  | _=>none
 | .cell ..=>none
def resAll (s:AS):List IRes→Option (List AV)
 | []=>some []
 | r :: rs=>(resOf s r).bind fun v=>(resAll s rs).map (v.dropAll :: ·)
def resVal (s:AS) (rs:List IRes):Option AV :=
 match rs with
 | [r]=>match resRow s r with
  | some b=>(match s.T b with|.lsl _ e=>cond (noByte e) (some (.slice e true)) none|_=>none)
  | none=>resOf s r
 | rs=>(resAll s rs).map .tuple
def finish0 (base:Nat) (rs:List IRes) (s:AS):Option (AV × Option Chg) :=
 (resVal s rs).bind fun r =>
  cond (r.leaves base) (some (r,cond (Nat.beq s.lo base) none (some ⟨s.H.take base,s.lo⟩))) none
def rowW (e:List (List AV)):Nat:=(e.head?.map List.length).getD 0
def resPub (s:AS) (base:Nat):List IRes→Option (List AV × Option (List (List AV)))
 | []=>some ([],none)
 | r :: rs=>(resPub s base rs).bind fun q=>match resRow s r with
  | some b=>match s.T b with
   | .lsl _ e=>cond (q.2.isNone&&!e.isEmpty&&e.all (fun r=>r.all AV.plain)) (some (.sref base 0 e.length (rowW e) :: q.1,some e)) none
   | _=>none
  | none=>(resOf s r).bind fun v=>cond (v.dropAll.partOut base) (some (v.dropAll :: q.1,q.2)) none
def finPub (base:Nat) (rs:List IRes) (s:AS):Option (AV × Option Chg) :=
 cond (Nat.beq rs.length 1) none ((resPub s base rs).bind fun q=>q.2.map fun e=>(.tuple q.1,some ⟨s.H.take base++[.box freeTy e.flatten],s.lo⟩))
def noByteV:AV→Bool
 | .int .u8 _=>false
 | .any=>false
 | _=>true
def nilOf:AV→AV
 | .slice [] true=>.nilsl
 | v=>v
def objCells:AObj→Option (List AV)
 | .box _ cs=>some cs
 | .obox cs=>some cs
 | _=>none
def frzC (H:AHeap) (base:Nat):Nat→AV→AV
 | 0,v=>v
 | k+1,v=>match v with
  | .sref l off n z=>cond (Nat.ble base l) (match (H[l]?).bind objCells with
   | some cs=>cond (Nat.blt 0 z&&Nat.ble (off+n*z) cs.length&&(cs.all fun x=>(frzC H base k x.drop).plain&&noByteV x)) (.slice (chunks z n ((cs.map fun x=>frzC H base k x.drop).drop off)) false) v
   | none=>v) v
  | v=>v
abbrev frzD:Nat:=3
def frzP (H:AHeap) (base:Nat):AV→AV
 | .agg cs=>.agg (cs.map (frzC H base frzD))
 | v=>frzC H base frzD v
def resVal2 (base:Nat) (s:AS) (rs:List IRes):Option AV :=
 match rs with
 | [r]=>(resOf s r).map fun v=>frzP s.H base v.dropAll
 | rs=>(resAll s rs).map fun vs=>.tuple (vs.map (frzP s.H base))
def finFrz (base:Nat) (rs:List IRes) (s:AS):Option (AV × Option Chg) :=
 (resVal2 base s rs).bind fun r=>cond (r.leaves base) (some (r,cond (Nat.beq s.lo base) none (some ⟨s.H.take base,s.lo⟩))) none
def finArr (base:Nat) (rs:List IRes) (s:AS):Option (AV × Option Chg) :=
 match rs with
 | [r]=>(resOf s r).bind fun v=>match v with
  | .sref l off n z=>match s.H[l]? with
   | some (.box _ cs)=>cond (Nat.ble base l&&cs.all AV.plain) (some (.sref base off n z,some ⟨s.H.take base++[.obox cs],s.lo⟩)) none
   | _=>none
  | _=>none
 | _=>none
def finArrF (base:Nat) (fn:IFunc) (s:AS):Option (AV × Option Chg):=cond (fn.muts.elem 888888) (finArr base fn.results s) none
def openOK (base:Nat) (s:AS):Bool:=cond (Nat.beq s.lo base) true (((s.H.take base).drop s.lo).all fun o=>match o with|.obox cs=>cs.all (AV.cellOut base)|_=>true)
def finish1 (base:Nat) (fn:IFunc) (s:AS):Option (AV × Option Chg) :=
 match finArrF base fn s with
 | some r=>some r
 | none=>match finish0 base fn.results s with
 | some r=>some r
 | none=>match finPub base fn.results s with
  | some r=>some r
  | none=>finFrz base fn.results s
def finish (base:Nat) (fn:IFunc) (s:AS):Option (AV × Option Chg):=cond (openOK base s) (finish1 base fn s) none
def initT (args:List AV):AFrame:=fun i=>args.getD i .undef
def runF (G:Nat→List AV) (cf:CallF) (n:Nat) (fn:IFunc) (args:List AV) (H:AHeap):Option (AV × Option Chg) :=
 cond (Nat.beq args.length fn.np)
  ((evC G cf n fn.body { T:=initT args,H,lo:=H.length,gen:=0 }).bind fun r=>match r.1 with
   | .exit _=>none
   | _=>finish H.length fn r.2)
  none
structure AP where
 fns:FuncId→Option IFunc
 ov:FuncId→Option (List AV→AHeap→Option (AV × Option Chg))
 glob:Nat→List AV
def noRight:AV→Bool
 | .slice _ true=>false
 | _=>true
def evF (A:AP):Nat→CallF
 | 0=>fun _ _ _=>none
 | n+1=>fun f args H=>match A.ov f with
  | some g=>cond (args.all noRight) (g args H) none
  | none=>match A.fns f with
   | none=>none
   | some fn=>runF A.glob (evF A n) n fn args H
def constAV:Value→Option AV
 | .bool b=>some (.bool b)
 | .int k n=>some (.int k n)
 | .string s=>some (.str s.data.toList)
 | .slice none 0 0=>some (.slice [] true)
 | .pointer none=>some .nilptr
 | .map none=>some .nilmap
 | .nilFunc=>some .nilfunc
 | .nilIface=>some .niliface
 | _=>none
def constCells:List Value→Option (List AV)
 | []=>some []
 | v :: r=>(constAV v).bind fun x=>(constCells r).map (x :: ·)
def constArg:Value→Option AV
 | .agg vs=>(constCells vs.toList).map fun l=>.agg (l.map nilOf)
 | v=>constAV v
section
variable (P:Program) (takes locals muts:List Nat) (nt:Nat)
def compArg:Operand→Option IArg
 | .tmp t=>cond (Nat.blt t nt) (some (.tmp t)) none
 | .const v=>(constArg v).map .con
 | .global g=>some (.glob g)
 | .func f=>some (.fn f)
def compArgs:List Operand→Option (List IArg)
 | []=>some []
 | x :: r=>(compArg nt x).bind fun a=>(compArgs r).map (a :: ·)
def sizeT (t:TypeId):Option Nat:=(P.info? t).map (·.size)
def zeroT (t:TypeId):Option (List AV):=((P.info? t).bind (·.zero)).bind fun z=>constCells z.cells.toList
def aggT (t:TypeId):Option Bool:=(P.underlying t).map fun|.struct _=>true|.array _ _=>true|_=>false
def optArg:Option Operand→Option (Option IArg)
 | none=>some none
 | some x=>(compArg nt x).map some
def fieldsK (flat:TypeId→Option (List CK)):List Go.Field→Nat→Option (List CK)
 | [],_=>some []
 | f :: fs,o=>cond (Nat.beq f.offset o&&f.name != "_") ((flat f.type).bind fun k=>(fieldsK flat fs (o+k.length)).map (k++·)) none
def flatK:Nat→TypeId→Option (List CK)
 | 0,_=>none
 | d+1,t=>match P.underlying t with
  | some .bool=>some [.b]
  | some (.int _)=>some [.i]
  | some .string=>some [.s]
  | some (.struct fs)=>cond (!P.stoodInHeld t) ((fieldsK (flatK d) fs.toList 0).bind fun ks=>cond (match sizeT P t with|some n=>Nat.beq n ks.length|none=>false) (some ks) none) none
  | _=>none
def eqKind (t:TypeId):EqKind :=
 match P.underlying t with
 | some .bool=>.bool
 | some (.interface _)=>.iface
 | some (.func _ _ _)=>.func
 | some (.struct _)=>cond (!P.eqGuardType P.depth t) (match flatK P 8 t with|some ks=>.flat ks|none=>.other) .other
 | _=>.other
def compParts (fs:List Go.Field):List (Nat × Operand)→Option (List (Nat × Nat × IArg))
 | []=>some []
 | (i,x) :: r=>(fs[i]?).bind fun f=>(sizeT P f.type).bind fun z=>(compArg nt x).bind fun a=>(compParts fs r).map ((f.offset,z,a) :: ·)
def compArrParts (sz:Nat):List (Nat × Operand)→Option (List (Nat × Nat × IArg))
 | []=>some []
 | (i,x) :: r=>(compArg nt x).bind fun a=>(compArrParts sz r).map ((i*sz,sz,a) :: ·)
def compElems:List (Nat × Operand)→Option (List (Nat × IArg))
 | []=>some []
 | (i,x) :: r=>(compArg nt x).bind fun a=>(compElems r).map ((i,a) :: ·)
def aggV:Value→Bool
 | .agg _=>true
 | _=>false
def mapK (t:TypeId):Option (List CK × Bool × Bool × List AV) :=
 match P.underlying t with
 | some (.map k e)=>(flatK P 8 k).bind fun ks=>(aggT P k).bind fun ka=>(P.info? e).bind fun i=>i.zero.bind fun z=>(constCells z.cells.toList).bind fun zero =>
   cond (aggV z || Nat.beq zero.length 1) (some (ks,ka,aggV z,zero)) none
 | _=>none
def sameTmp:Operand→Operand→Bool
 | .tmp a,.tmp b=>Nat.beq a b
 | _,_=>false
def isTake (d:Option Nat):Bool:=match d with|some d=>takes.contains d|none=>false
def isLocal (d:Option Nat):Bool:=match d with|some d=>locals.contains d|none=>false
def giveArg (d:Option Nat):IArg→Bool
 | .tmp t=>takes.contains t
 | .con (.slice [] true)=>isTake takes d
 | _=>false
def compGive (d:Option Nat) (g:IArg) (ys:List IArg):IOp :=
 match g with
 | .fn n=>match ys.findIdx? (giveArg takes d) with
  | some k=>match ys.drop k with
   | x :: post=>.callT n (ys.take k) x post
   | []=>.call g ys
  | none=>.call g ys
 | g=>.call g ys
def compCall (d:Option Nat) (c:Call):Option IOp :=
 match c.callee with
 | .value f=>(compArg nt f).bind fun g=>(compArgs nt c.args.toList).map (compGive takes d g ·)
 | .builtin .len=>match c.args.toList,c.argTypes.toList with
  | [x],[t]=>(compArg nt x).bind fun a=>match P.underlying t with
   | some .string=>some (.len .str a)
   | some (.slice _)=>some (.len .sl a)
   | some (.array n _)=>some (.len (.arr n) a)
   | some (.map _ _)=>some (.mlen a)
   | _=>none
  | _,_=>none
 | .builtin .append=>match c.args.toList,c.argTypes.toList with
  | [x,y],[t,u]=>(compArg nt x).bind fun a=>(compArg nt y).bind fun b=>match P.underlying t,P.underlying u with
   | some (.slice e),some (.slice _)|some (.slice e),some .string=>(P.info? e).bind fun i=>cond (Nat.blt 0 i.size&&(i.zero.map fun z=>Nat.beq z.cells.size i.size).getD false) (some (cond (isLocal locals d) (.appendO i.size i.bytes a b) (.append (Nat.beq e byteTy) (isTake muts d) i.size i.bytes a b))) none
   | _,_=>none
  | _,_=>none
 | .builtin .copy=>match c.args.toList,c.argTypes.toList with
  | [x,y],[t,u]=>(compArg nt x).bind fun a=>(compArg nt y).bind fun b=>match P.underlying t,P.underlying u with
   | some (.slice e),some (.slice _)=>(sizeT P e).bind fun sz=>cond (Nat.beq sz 1) (some (.copyO a b)) none
   | _,_=>none
  | _,_=>none
 | .builtin .max=>match c.args.toList with
  | [x,y]=>(compArg nt x).bind fun a=>(compArg nt y).map (.mm true a ·)
  | _=>none
 | .builtin .min=>match c.args.toList with
  | [x,y]=>(compArg nt x).bind fun a=>(compArg nt y).map (.mm false a ·)
  | _=>none
 | _=>none
def flagD (k:Nat) (l:List Nat) (d:Option Nat):Bool:=match d with|some d=>l.elem (k+d)|none=>false
def nilNeg (op:BinOp) (t:TypeId) (y:Operand):Option Bool :=
 match y,P.underlying t with
 | .const (.slice none 0 0),some (.slice _)=>(match op with|.eql=>some false|.neq=>some true|_=>none)
 | _,_=>none
def nilArg:IArg→IArg
 | .con v=>.con (nilOf v)
 | x=>x
def compOp (d:Option Nat) (o:Op):Option IOp :=
 match o with
 | .move x|.assign x=>(compArg nt x).map fun a=>.mov (isTake takes d) (isTake muts d) (cond (isTake muts d) (nilArg a) a)
 | .pick c a b=>(compArg nt c).bind fun c=>(compArg nt a).bind fun a=>(compArg nt b).map (.pick c a ·)
 | .alloc t=>((zeroT P t).map fun z=>cond (flagD 700000 takes d) (z.map nilOf) z).bind fun z=>cond (isLocal locals d) (some (.allocL z)) (some (.allocH t z))
 | .box t x=>(compArg nt x).map fun a=>cond (isLocal locals d) (.boxL a) (cond (flagD 500000 muts d) (.boxO a) (.box t a))
 | .build t parts=>((zeroT P t).map fun z=>cond (isTake takes d) (z.map nilOf) z).bind fun z=>match P.underlying t with
  | some (.struct fs)=>cond ((fs.toList.mapM fun f=>(P.info? f.type).map fun i=>(f.offset,i.size)).isSome) ((compParts P nt fs.toList parts.toList).map (.build z ·)) none
  | some (.array _ e)=>(sizeT P e).bind fun sz=>(compArrParts nt sz parts.toList).map (.build z ·)
  | _=>none
 | .buildSlice t len parts=>match P.underlying t with
  | some (.slice e)=>(sizeT P e).bind fun sz=>(zeroT P e).bind fun z=>(compElems nt parts.toList).bind fun ps =>
    cond (Nat.ble (len*sz) 16777216&&Nat.beq z.length sz&&Nat.blt 0 sz) (some (cond (isLocal locals d) (.mksliceO sz (List.replicate len (z.map AV.drop)) ps) (.mkslice (Nat.beq e byteTy) sz (List.replicate len (z.map AV.drop)) ps))) none
  | _=>none
 | .load t x=>(compArg nt x).bind fun a=>(aggT P t).bind fun g=>(sizeT P t).map fun sz=>.load (isTake takes d) g sz a
 | .store t x y=>(compArg nt x).bind fun a=>(compArg nt y).bind fun b=>(sizeT P t).map fun sz=>.store sz a b
 | .nilCheck x=>(compArg nt x).map .nilCheck
 | .binOp op t x y _=>(compArg nt x).bind fun a=>(compArg nt y).bind fun b=>match nilNeg P op t y with
  | some neg=>some (.nilS neg a)
  | none=>some (.bin op (eqKind P t) a b)
 | .unOp op _ x=>(compArg nt x).map (.un op ·)
 | .convert s t x=>(compArg nt x).bind fun a=>match P.underlying s,P.underlying t with
  | some (.int _),some (.int k)=>some (.conv (.toInt k) a)
  | some .string,some .string=>some (.conv .strSame a)
  | some (.slice e),some .string=>match P.underlying e with
   | some (.int .u8)=>some (.conv .bytesStr a)
   | _=>none
  | _,_=>none
 | .makeInterface t x=>(compArg nt x).bind fun a=>match P.underlying t with
  | some (.interface _)=>none
  | some _=>some (.mkiface t a)
  | none=>none
 | .makeFunc f first captured=>(compArgs nt first.toList).bind fun a=>(compArgs nt captured.toList).map (.mkfunc f a ·)
 | .slice t x lo hi mx=>(compArg nt x).bind fun a=>(optArg nt lo).bind fun lo=>(optArg nt hi).bind fun hi=>(optArg nt mx).bind fun mx=>match P.underlying t with
  | some .string=>some (.slice .str a lo hi mx)
  | some (.slice e)=>(sizeT P e).map fun sz=>.slice (.sl sz) a lo hi mx
  | some (.array n e)=>(sizeT P e).bind fun sz=>cond (Nat.blt 0 sz) (some (.slice (.arr n sz) a lo hi mx)) none
  | _=>none
 | .fieldAddr t x f=>(compArg nt x).bind fun a=>match P.underlying t with
  | some (.struct fs)=>(fs[f]?).bind fun q=>(sizeT P q.type).bind fun sz=>cond (Nat.blt 0 sz) (some (.fieldAddr q.offset a)) none
  | _=>none
 | .field t x f=>(compArg nt x).bind fun a=>match P.underlying t with
  | some (.struct fs)=>(fs[f]?).bind fun q=>(sizeT P q.type).bind fun sz=>(aggT P q.type).map fun g=>.field g q.offset sz a
  | _=>none
 | .indexAddr t x i=>(compArg nt x).bind fun a=>(compArg nt i).bind fun b=>match P.underlying t with
  | some (.slice e)=>(sizeT P e).map fun sz=>.ixSl sz a b
  | some (.array n e)=>(sizeT P e).map fun sz=>.ixArr n sz a b
  | _=>none
 | .index t x i=>(compArg nt x).bind fun a=>(compArg nt i).bind fun b=>match P.underlying t with
  | some .string=>some (.indexStr a b)
  | some (.array n e)=>(sizeT P e).bind fun sz=>(aggT P e).map fun g=>.index g n sz a b
  | _=>none
 | .extract x i=>(compArg nt x).map (.extract · i)
 | .call c=>compCall P takes locals muts nt d c
 | .makeSlice t x y=>(compArg nt x).bind fun a=>cond (sameTmp x y) (match P.underlying t with
  | some (.slice e)=>(P.info? e).bind fun i=>i.zero.bind fun z=>(constCells z.cells.toList).bind fun zero=>cond (Nat.blt 0 i.size&&Nat.beq z.cells.size i.size) (some (.mkarr i.size i.bytes (zero.map AV.drop) a)) none
  | _=>none) none
 | .makeMap t none=>(mapK P t).map fun m=>.mkmap m.1.length m.2.1 m.2.2.1
 | .lookup t x i ok=>(compArg nt x).bind fun a=>(compArg nt i).bind fun b=>(mapK P t).map fun m =>
   cond (!ok&&!m.2.2.1&&isTake takes d) (.lookT m.1.length m.2.1 m.1 m.2.2.2 a b) (.look ok m.1.length m.2.1 m.2.2.1 m.1 m.2.2.2 a b)
 | .mapUpdate t x i v|.insert t x i v=>(compArg nt x).bind fun a=>(compArg nt i).bind fun b=>(compArg nt v).bind fun c=>(mapK P t).map fun m=>.mset m.1.length m.2.1 m.2.2.1 m.2.2.2.length m.1 a b c
 | .range t x=>cond (isTake muts d) ((compArg nt x).bind fun a=>(mapK P t).map fun m=>.rng m.1.length m.2.1 m.2.2.1 a) none
 | .next x false=>(compArg nt x).map .next
 | .entry x=>(compArg nt x).map .ent
 | _=>none
def compGuard (ops:Array Oper):Option (Nat × Bool)→Option (Option (Nat × Bool))
 | none=>some none
 | some (j,want)=>((ops[j]?).bind (·.dst)).bind fun s=>cond (Nat.blt s nt) (some (some (s,want))) none
def compOper (ops:Array Oper) (o:Oper):Option IOper :=
 (compOp P takes locals muts nt o.dst o.op).bind fun p=>(compGuard nt ops o.guard).bind fun g =>
  match o.dst with
  | none=>some ⟨none,g,p⟩
  | some d=>cond (Nat.blt d nt) (some ⟨some d,g,p⟩) none
def compOpers (ops:Array Oper):List Oper→Option (List IOper)
 | []=>some []
 | o :: r=>(compOper P takes locals muts nt ops o).bind fun p=>(compOpers ops r).map (p :: ·)
def IArg.tmps:IArg→List Nat
 | .tmp t=>[t]
 | _=>[]
def IOp.tmps:IOp→List Nat
 | .chk _ x|.boxL x|.boxO x|.mov _ _ x|.box _ x|.load _ _ _ x|.nilCheck x|.un _ x|.nilS _ x|.conv _ x|.mkiface _ x|.fieldAddr _ x|.field _ _ _ x|.extract x _|.len _ x=>x.tmps
 | .pick c a b=>c.tmps++a.tmps++b.tmps
 | .allocL _|.allocH _ _=>[]
 | .build _ ps=>ps.flatMap fun p=>p.2.2.tmps
 | .mkslice _ _ _ ps|.mksliceO _ _ ps=>ps.flatMap fun p=>p.2.tmps
 | .store _ a v=>a.tmps++v.tmps
 | .bin _ _ x y|.mm _ x y|.ixSl _ x y|.ixArr _ _ x y|.index _ _ _ x y|.indexStr x y|.append _ _ _ _ x y|.appendO _ _ x y|.copyO x y=>x.tmps++y.tmps
 | .slice _ x lo hi mx=>x.tmps++(lo.toList.flatMap IArg.tmps)++(hi.toList.flatMap IArg.tmps)++(mx.toList.flatMap IArg.tmps)
 | .call f xs|.callP f xs=>f.tmps++xs.flatMap IArg.tmps
 | .callT _ pre x post=>pre.flatMap IArg.tmps++x.tmps++post.flatMap IArg.tmps
 | .mkfunc _ a b=>a.flatMap IArg.tmps++b.flatMap IArg.tmps
 | .mkmap _ _ _=>[]
 | .mkarr _ _ _ n=>n.tmps
 | .look _ _ _ _ _ _ m k|.lookT _ _ _ _ m k=>m.tmps++k.tmps
 | .mset _ _ _ _ _ m k v=>m.tmps++k.tmps++v.tmps
 | .mlen m|.rng _ _ _ m|.next m|.ent m=>m.tmps
def IOper.looks (o:IOper):List Nat:=o.op.tmps++(match o.guard with|some (g,_)=>[g]|none=>[])
def edgeTo (o:Oper) (j:Nat):Bool:=o.after.any fun e=>Region.binds .any e&&Nat.beq e.on j
def orderOk (L:List Nat) (ops:List (Oper × IOper)):Bool :=
 let l:=ops.zipIdx
 l.all fun p=>(p.1.1.after.all fun e=>!Region.binds .any e || Nat.blt e.on p.2)&&(match p.1.2.dst with|some d=>!(L.contains d)|none=>true) &&
  l.all fun q=>Nat.beq p.2 q.2 || (match q.1.2.dst with
   | none=>true
   | some d=>(match p.1.2.dst with|some d'=>!(Nat.beq d d')|none=>true) &&
    (!(p.1.2.looks.contains d) || cond (Nat.blt q.2 p.2) (edgeTo p.1.1 q.2) (edgeTo q.1.1 p.2)))
def slotA:IOper→Option Nat
 | ⟨some d,none,.allocL _⟩=>some d
 | _=>none
def zeroA (o:IOper):List AV:=match o.op with|.allocL z=>z|_=>[]
def slotS (M:List Nat):IOper→Option (Nat × IArg)
 | ⟨none,none,.store _ (.tmp d) y⟩=>cond (M.contains d) (some (d,y)) none
 | _=>none
def boxesOf (is:List IOper):List Nat:=is.filterMap slotA
def isP (M:List Nat) (o:IOper):Bool:=(slotA o).isNone&&(slotS M o).isNone
def nopI:IOper:=⟨none,none,.mov false false (.con .undef)⟩
def onlyP (M:List Nat) (is:List IOper):List IOper:=is.map fun o=>cond (isP M o) o nopI
def maskOps (M:List Nat):List IOper:=M.flatMap fun d=>[⟨some d,none,.allocL []⟩,⟨some d,none,.mov false false (.con .undef)⟩]
def onlyA (is:List IOper):List IOper:=is.filter fun o=>(slotA o).isSome
def onlyS (M:List Nat) (is:List IOper):List IOper:=is.filter fun o=>(slotS M o).isSome
def drawn (is:List IOper):ICode :=
 .seq (.region false (maskOps (boxesOf is))) (.seq (.region true (onlyP (boxesOf is) is)) (.seq (.region false (onlyA is)) (.region false (onlyS (boxesOf is) is))))
def edgesBack (l:List ((Oper × IOper) × Nat)) (p:(Oper × IOper) × Nat):Bool:=p.1.1.after.all fun e=>!Region.binds .any e || Nat.blt e.on p.2
def kindOk (L M:List Nat) (l:List ((Oper × IOper) × Nat)) (p:(Oper × IOper) × Nat):Bool :=
 match slotS M p.1.2 with
 | some (d,y)=>y.tmps.all (fun t=>!(M.contains t))&&l.all fun q=>Nat.beq p.2 q.2 ||
   ((match slotS M q.1.2 with|some (e,_)=>!(Nat.beq d e)|none=>true)&&y.tmps.all (fun t=>!(q.1.2.looks.contains t)) &&
    (match q.1.2.dst with|some t=>!(Nat.beq t d || y.tmps.contains t) || Nat.blt q.2 p.2|none=>true))
 | none=>cond (isP M p.1.2) ((match p.1.2.dst with|some d=>!(L.contains d)|none=>true)&&p.1.2.looks.all (fun t=>!(M.contains t))) true
def orderOk2 (L:List Nat) (ops:List (Oper × IOper)):Bool :=
 let M:=boxesOf (ops.map (·.2))
 let l:=ops.zipIdx
 !M.isEmpty&&M.all (fun d=>L.contains d)&&l.all fun p=>edgesBack l p&&kindOk L M l p &&
  l.all fun q=>Nat.beq p.2 q.2 || (match q.1.2.dst with
   | none=>true
   | some d=>(match p.1.2.dst with|some d'=>!(Nat.beq d d')|none=>true) &&
    (!(p.1.2.looks.contains d) || cond (Nat.blt q.2 p.2) (edgeTo p.1.1 q.2) (edgeTo q.1.1 p.2)))
structure Eff where
 rs:List Nat
 ws:List Nat
 rh:Bool
 wh:Bool
 wg:Bool
 deriving Inhabited
def baseOf (is:List IOper) (L:List Nat):Nat→IArg→Option Nat
 | 0,_=>none
 | f+1,.tmp t=>cond (L.contains t) (some t) (match is.find? (fun o=>match o.dst with|some d=>Nat.beq d t|none=>false) with
  | some ⟨_,_,.fieldAddr _ y⟩=>baseOf is L f y
  | some ⟨_,_,.ixArr _ _ y _⟩=>baseOf is L f y
  | some ⟨_,_,.nilCheck y⟩=>baseOf is L f y
  | _=>none)
 | _,_=>none
def viaIx (is:List IOper):Nat→IArg→Bool
 | 0,_=>false
 | f+1,.tmp t=>(match is.find? (fun o=>match o.dst with|some d=>Nat.beq d t|none=>false) with
  | some ⟨_,_,.ixSl _ x _⟩=>(match x with
   | .tmp u=>(match is.find? (fun o=>match o.dst with|some d=>Nat.beq d u|none=>false) with
    | some ⟨_,_,.load ..⟩=>false
    | _=>true)
   | _=>true)
  | some ⟨_,_,.fieldAddr _ y⟩=>viaIx is f y
  | some ⟨_,_,.ixArr _ _ y _⟩=>viaIx is f y
  | _=>false)
 | _,.glob _=>true
 | _,_=>false
def clsX (mode:Bool) (is:List IOper) (L:List Nat) (x:IArg):Cls :=
 match baseOf is L 8 x with
 | some b=>.frame b
 | none=>cond (mode&&viaIx is 8 x) .imm .heap
def chkOf (mode:Bool) (is:List IOper) (L:List Nat):IOp→Option (Cls × IArg)
 | .load _ _ _ x=>some (clsX mode is L x,x)
 | .store _ x _=>some (clsX false is L x,x)
 | .nilCheck x=>some (clsX mode is L x,x)
 | .fieldAddr _ x=>some (clsX mode is L x,x)
 | .ixArr _ _ x _=>some (clsX mode is L x,x)
 | .ixSl _ x _=>some (.heap,x)
 | .len _ x=>some (.heap,x)
 | _=>none
def frameOf:Cls→List Nat
 | .frame b=>[b]
 | _=>[]
def isHeap:Cls→Bool
 | .heap=>true
 | _=>false
def effOp (pc:Bool) (c:Cls):IOp→Option Eff
 | .mov take obj x=>cond obj none (some ⟨x.tmps,cond take x.tmps [],false,false,false⟩)
 | .pick a b d=>some ⟨a.tmps++b.tmps++d.tmps,[],false,false,false⟩
 | .allocL _=>some ⟨[],[],false,false,true⟩
 | .boxL x=>some ⟨x.tmps,[],false,false,true⟩
 | .build z ps=>some ⟨(IOp.build z ps).tmps,[],false,false,false⟩
 | .mkslice b sz zs ps=>some ⟨(IOp.mkslice b sz zs ps).tmps,[],false,false,false⟩
 | .bin _ _ x y=>some ⟨x.tmps++y.tmps,[],false,false,false⟩
 | .mm _ x y=>some ⟨x.tmps++y.tmps,[],false,false,false⟩
 | .un _ x=>some ⟨x.tmps,[],false,false,false⟩
 | .nilS _ x=>some ⟨x.tmps,[],false,false,false⟩
 | .conv _ x=>some ⟨x.tmps,[],false,false,false⟩
 | .field _ _ _ x=>some ⟨x.tmps,[],false,false,false⟩
 | .index _ _ _ x i=>some ⟨x.tmps++i.tmps,[],false,false,false⟩
 | .indexStr x i=>some ⟨x.tmps++i.tmps,[],false,false,false⟩
 | .extract x _=>some ⟨x.tmps,[],false,false,false⟩
 | .load take agg _ x=>some ⟨x.tmps++frameOf c,cond (take&&!agg) (frameOf c) [],isHeap c,isHeap c&&take&&!agg,false⟩
 | .store _ x y=>some ⟨x.tmps++y.tmps++frameOf c,y.tmps++frameOf c,isHeap c,isHeap c,false⟩
 | .nilCheck x=>some ⟨x.tmps++frameOf c,[],false,false,false⟩
 | .fieldAddr _ x=>some ⟨x.tmps++frameOf c,[],false,false,false⟩
 | .ixArr _ _ x i=>some ⟨x.tmps++i.tmps++frameOf c,[],false,false,false⟩
 | .ixSl _ x i=>some ⟨x.tmps++i.tmps,[],false,false,false⟩
 | .len _ x=>some ⟨x.tmps,[],false,false,false⟩
 | .append _ wr _ _ x y=>cond wr none (some ⟨x.tmps++y.tmps,x.tmps,false,false,false⟩)
 | .appendO _ _ x y=>some ⟨x.tmps++y.tmps,[],true,true,false⟩
 | .copyO x y=>some ⟨x.tmps++y.tmps,[],true,true,false⟩
 | .slice k x lo hi mx=>some ⟨(IOp.slice k x lo hi mx).tmps,[],false,false,false⟩
 | .call f xs=>some ⟨(IOp.call f xs).tmps,[],true,!pc,false⟩
 | _=>none
def effOf (mode pc:Bool) (is:List IOper) (L:List Nat) (o:IOper):Option Eff :=
 (effOp pc (match chkOf mode is L o.op with|some p=>p.1|none=>.heap) o.op).map fun e =>
  ⟨(match o.guard with|some (g,_)=>[g]|none=>[])++e.rs,o.dst.toList++e.ws,e.rh,e.wh,e.wg⟩
def meets (x y:List Nat):Bool:=x.any y.contains
def conflict (e f:Eff):Bool :=
 meets e.ws f.rs || meets e.ws f.ws || meets f.ws e.rs || (e.wh&&(f.rh || f.wh)) || (f.wh&&e.rh) || (e.wg&&f.wg)
def predsT (ops:List Oper):List (List Nat) :=
 ops.foldl (fun t o=>t++[(o.after.toList.flatMap fun e=>cond (Region.binds .any e) (e.on :: t.getD e.on []) []).eraseDups]) []
def orderOk3 (ops:List Oper) (es:List Eff):Bool :=
 let ps:=predsT ops
 (ops.zipIdx.all fun p=>p.1.after.all fun e=>!Region.binds .any e || Nat.blt e.on p.2) &&
 es.zipIdx.all fun p=>es.zipIdx.all fun q=>!(Nat.blt q.2 p.2) || !(conflict p.1 q.1) || (ps.getD p.2 []).contains q.2
def pureCall (pc:Bool) (o:IOper):IOper :=
 match o with
 | ⟨d,g,.call f xs⟩=>cond pc ⟨d,g,.callP f xs⟩ ⟨d,g,.call f xs⟩
 | o=>o
def inter (mode pc:Bool) (is:List IOper) (L:List Nat):List IOper→List IOper
 | []=>[]
 | o :: r=>match chkOf mode is L o.op with
  | some (c,x)=>⟨none,o.guard,.chk c x⟩ :: pureCall pc o :: inter mode pc is L r
  | none=>pureCall pc o :: inter mode pc is L r
def effsOf (mode pc:Bool) (is:List IOper) (L:List Nat):List IOper→Option (List Eff)
 | []=>some []
 | o :: r=>(effOf mode pc is L o).bind fun e=>(effsOf mode pc is L r).map (e :: ·)
def chgOp:IOp→Bool
 | .mov take _ _=>take
 | .allocL _|.boxL _|.store ..|.append ..|.appendO ..|.copyO ..|.boxO ..|.mkarr ..|.allocH ..|.box ..=>true
 | .load take agg _ _=>take&&!agg
 | _=>false
def seq3 (mode pc:Bool) (L:List Nat) (ops:List Oper) (is:List IOper):Option ICode :=
 (effsOf mode pc is L is).bind fun es=>cond (orderOk3 ops es) (some (.region false (inter mode pc is L is))) none
def drawn3 (L:List Nat) (ops:List Oper) (is:List IOper):Option ICode :=
 cond (is.any fun o=>chgOp o.op) (match seq3 false false L ops is with
  | some c=>some c
  | none=>match seq3 true false L ops is with
   | some c=>some c
   | none=>cond (L.elem 999999) none (seq3 false true L ops is)) none
def edgesAny (o:Oper):List Nat:=(o.after.toList.filter fun e=>Region.binds .any e).map (·.on)
def compC:Code→Option ICode
 | .skip=>some .skip
 | .region _ ops draw=>(compOpers P takes locals muts nt ops ops.toList).bind fun is=>match cond draw (drawn3 locals ops.toList is) none with
  | some c=>some c
  | none=>cond (!draw || (!(locals.elem 999998)&&orderOk (locals++muts) (ops.toList.zip is))) (some (.region draw is)) (cond (!(locals.elem 999998)&&orderOk2 (locals++muts) (ops.toList.zip is)) (some (drawn is)) (cond draw (some (.anyr nt is (ops.toList.map edgesAny))) none))
 | .seq a b=>(compC a).bind fun x=>(compC b).map (.seq x ·)
 | .cond c a b=>(compArg nt c).bind fun c=>(compC a).bind fun x=>(compC b).map (.cond c x ·)
 | .block id a=>(compC a).map (.block id ·)
 | .loop a=>(compC a).map .loop
 | .exit id=>some (.exit id)
 | .ret=>some .ret
 | .label _=>some .skip
 | .scope a=>compC a
 | _=>none
def compRes:List ResultVar→Option (List IRes)
 | []=>some []
 | .tmp t :: r=>cond (Nat.blt t nt) ((compRes r).map (.tmp t :: ·)) none
 | .cell a t :: r=>cond (Nat.blt a nt) ((aggT P t).bind fun g=>(sizeT P t).bind fun sz=>(compRes r).map (.cell a g sz :: ·)) none
end
def compF (P:Program) (takes locals muts:List Nat) (f:Func):Option IFunc :=
 f.body.bind fun c=>(compC P takes locals muts f.ntmps c).bind fun b=>(compRes P f.ntmps f.results.toList).bind fun rs =>
  cond (Nat.ble (f.params.size+f.nfree) f.ntmps&&f.name != "runtime.NumGoroutine") (some { takes,locals,muts,nt:=f.ntmps,np:=f.params.size+f.nfree,results:=rs,body:=b }) none
end Go.Abs
end
