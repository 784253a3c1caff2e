/-
  A part of the proof of SyntaxTokens: AbsDefs, AbsRel, AbsFrame, AbsArg, AbsOps1.
-/
import Derived.Orders
import Derived.Laws.AppendOwn
import Derived.Below
import Derived.WalkKit
set_option linter.unusedSimpArgs false
set_option linter.unusedVariables false
set_option linter.defProp false
namespace Go
theorem tk {α:Type} {a:Option α} {f g:α} (h:a=some f) (e:f=g):a=some g:=e ▸ h
def anT:=@Option.map_eq_some_iff
def anU:=@Option.bind_eq_some_iff
def anV:=@Option.some.injEq
def anW:=@List.modify_succ_cons
def anX:=@List.modify_zero_cons
def anY:=@Prod.mk.injEq
def anZ:=@cond_false
def an0:=@List.length_cons
def an1:=@List.length_nil
def an2:=@List.getElem?_eq_some_iff
def an3:=@List.getElem?_eq_getElem
def an4:=@Nat.le_refl
def an5:=@decide_false
def an6:=@Nat.lt_irrefl
def an7:=@Bool.and_eq_true
def an8:=@Option.bind_some
def an9:=@List.mem_append
def an':=@List.all_eq_true
def aoa:=@Bool.not_false
def aob:=@Array.getElem?_eq_some_iff
def aoc:=@List.map_cons
def aod:=@List.length_append
def aoe:=@Bool.not_true
def aof:=@List.map_nil
def aog:=@Bool.false_or
def aoh:=@List.mem_of_getElem?
def aoi:=@Option.map_some
def aoj:=@Bool.false_and
def aok:=@Array.getElem?_eq_getElem
def aol:=@List.getElem?_map
def aom:=@List.mem_singleton
def aon:=@Bool.true_and
def aoo:=@Nat.mul_le_mul_right
def aop:=@Bool.or_false
def aoq:=@decide_eq_true_eq
def aor:=@List.getElem?_cons_zero
def aos:=@Nat.add_zero
def aot:=@List.getElem?_append_left
def aou:=@List.getElem?_append_right
def aov:=@List.getElem?_take
def aow:=@List.getElem?_toArray
def aox:=@List.mem_cons_self
def aoy:=@List.length_eq_zero_iff
def aoz:=@Bool.true_or
def aoA:=@List.map_congr_left
def aoB:=@Bool.or_true
def aoC:=@List.getElem?_of_mem
def aoD:=@List.mem_map
def aoE:=@Nat.blt_eq
def aoF:=@List.drop_eq_getElem_cons
def aoG:=@Int.natCast_zero
def aoH:=@List.mem_cons
def aoI:=@List.length_map
def aoJ:=@List.take_of_length_le
def aoL:=@Array.getElem?_toList
def aoM:=@Nat.add_mul
def aoN:=@decide_eq_false_iff_not
def aoO:=@List.getD_eq_getElem?_getD
def aoP:=@decide_eq_false
def aoQ:=@List.take_zero
def aoR:=@Bool.or_self
def aoS:=@List.getElem?_drop
def aoT:=@Bool.not_eq_true'
def aoU:=@Nat.ble_eq
def aoV:=@List.all_cons
def aoW:=@Nat.zero_le
def aoX:=@List.getElem_mem
def aoY:=@Bool.or_eq_false_iff
def aoZ:=@beq_iff_eq
def ao0:=@List.nil_append
def ao1:=@Nat.ble_eq_true_of_le
def ao2:=@List.length_take
def ao3:=@Option.getD_some
def ao4:=@Bool.eq_false_or_eq_true
def ao5:=@List.all_nil
def ao6:=@Nat.le_succ
def ao7:=@List.flatten_cons
def ao8:=@List.getElem?_set
def ao9:=@Bool.and_self
def ao':=@bne_eq_false_iff_eq
def apa:=@List.getElem?_append
def apb:=@List.mem_cons_of_mem
def apc:=@Option.some.inj
def apd:=@List.append_assoc
def ape:=@List.drop_zero
def apg:=@Bool.not_eq_false'
def aph:=@Nat.eq_of_beq_eq_true
def api:=@List.getElem?_cons_succ
def apj:=@List.take_succ_cons
def apk:=@Nat.le_trans
def apl:=@List.append_nil
def apm:=@List.cons_append
def apn:=@List.mem_flatMap
def apo:=@Bool.false_eq_true
def apq:=@List.getElem?_eq_none
def apr:=@List.length_singleton
def aps:=@List.take_length
def apt:=@and_true
def apu:=@if_true
def apv:=@List.length_eq_one_iff
def apw:=@Nat.le_zero
def apx:=@List.size_toArray
def apy:=@Nat.le_of_eq
def apz:=@Nat.lt_of_lt_of_le
def apA:=@beq_self_eq_true
def apB:=@decide_true
def apC:=@List.mem_append_left
def apD:=@List.mem_of_mem_take
def apE:=@List.cons.injEq
def apF:=@List.drop_succ_cons
def apG:=@Array.getElem?_eq_none
def apH:=@List.map_map
def apI:=@Nat.not_lt
def apJ:=@Nat.le_max_right
def apK:=@congrArg
def apL:=@Nat.lt_or_ge
def apM:=@Array.getElem?_push
def apN:=@List.not_mem_nil
def apO:=@Ne.symm
def apP:=@List.contains_cons
def apQ:=@Classical.choose_spec
def apR:=@Nat.add_assoc
def apS:=@List.getElem?_zip_eq_some
def apT:=@Option.isNone_iff_eq_none
def apU:=@Nat.one_mul
def apV:=@Option.map_map
def apW:=@List.drop_length
def apX:=@Int.toNat_of_nonneg
def apY:=@Array.eq_empty_of_size_eq_zero
def apZ:=@Bool.or_eq_true
def ap0:=@Nat.le_max_left
def ap1:=@Option.map_none
def ap2:=@List.take_add_one
def ap3:=@Array.mem_of_getElem?
def ap4:=@List.mem_append_right
def ap5:=@List.mem_iff_getElem?
def ap6:=@List.set_append_right
def ap7:=@Nat.sub_self
def ap8:=@Array.getD_eq_getD_getElem?
def ap9:=@Array.ext'
def ap':=@List.getElem?_zipIdx
def aqa:=@List.isEmpty_iff
def aqb:=@List.map_toArray
def aqc:=@Nat.lt_succ_self
def aqd:=@if_false
def aqe:=@Array.getElem?_append_left
def aqf:=@List.isEmpty_eq_false_iff
def aqg:=@List.eq_of_mem_replicate
def aqh:=@Nat.beq_refl
def aqi:=@Nat.mul_comm
def aqj:=@Nat.zero_mul
def aqk:=@List.drop_drop
def aql:=@List.ext_getElem?
def aqm:=@Nat.lt_trichotomy
def aqn:=@Array.getElem?_extract
def aqo:=@List.drop_eq_nil_of_le
def aqp:=@Nat.mul_one
def aqq:=@Array.all_eq_true_iff_forall_mem
def aqr:=@Array.toList_map
def aqs:=@Bool.not_eq_true
def aqt:=@List.length_drop
def aqu:=@true_and
def aqv:=@and_false
def aqw:=@Array.getElem?_setIfInBounds_ne
def aqx:=@List.foldl_cons
def aqy:=@List.mem_of_mem_drop
def aqz:=@Nat.add_comm
def aqA:=@exists_false
def aqB:=@List.take_append_of_le_length
def aqC:=@Array.length_toList
def aqD:=@List.cons_beq_cons
def aqE:=@ge_iff_le
def aqF:=@List.mem_or_eq_of_mem_set
def aqG:=@List.filter_cons
def aqH:=@List.flatten_nil
def aqI:=@List.mem_flatten
def aqJ:=@or_false
def aqK:=@List.getElem?_replicate
def aqL:=@List.mem_filter
def aqM:=@Nat.not_lt_zero
def aqN:=@Bool.and_eq_true_iff
def aqO:=@List.length_pos_iff
def aqP:=@beq_eq_false_iff_ne
def aqQ:=@Nat.le_of_lt
end Go
namespace Go.Abs
section
inductive AV where
 | bool (b:Bool)
 | int (k:IntKind) (n:Int)
 | str (l:List UInt8)
 | any
 | dQ|dF|cW|cx
 | slice (elems:List (List AV)) (own:Bool)
 | eptr (cells:List AV)
 | ref (loc off:Nat)
 | sref (loc off n z:Nat)
 | mref (loc:Nat)
 | fJ (kz:Nat) (ka va:Bool) (es:List (List AV))
 | ny (kz:Nat) (ka va:Bool) (es:List (List AV))
 | iter (g kz:Nat) (ka va:Bool) (cur:List AV) (todo:List (List AV))
 | lbox (g:Nat) (cells:List AV)
 | lref (s g off:Nat)
 | lsl (g:Nat) (elems:List (List AV))
 | lsr (s g:Nat)
 | eref (s g i z off:Nat)
 | func (f:Fn) (first captured:List AV)
 | iface (t:TypeId) (v:AV)
 | agg (cells:List AV)
 | tuple (vs:List AV)
 | af
 deriving Inhabited,Repr
abbrev AV.undef:AV:=.tuple []
inductive cJ where
 | box (ty:TypeId) (cells:List AV)
 | map (kz:Nat) (ka va:Bool) (es:List (List AV))
 | fJ (kz:Nat) (ka va:Bool) (es:List (List AV))
 | Ji (cells:List AV)
 | ba (cells:List AV)
 | dead
 deriving Inhabited,Repr
abbrev ai:=List cJ
abbrev aU:=Nat->AV
def aU.put(T:aU)(d:Nat)(v:AV):aU:=fun i=>cond (Nat.beq i d) v (T i)
structure gS where
 heap:ai
 lo:Nat
 deriving Inhabited
abbrev dK:=FuncId->List AV->ai->Option (AV × Option gS)
inductive aC where
 | tmp (t:Nat)
 | bC (v:AV)
 | aZ (g:Nat)
 | fn (f:FuncId)
 deriving Inhabited,Repr
inductive xZ where
 | toInt (k:IntKind)
 | DU
 | qz
 deriving Inhabited,Repr
inductive vu where
 | str
 | sl (sz:Nat)
 | arr (n sz:Nat)
 deriving Inhabited,Repr
inductive CK where
 | b|i|s
 deriving Inhabited,Repr,DecidableEq
inductive vp where
 | other|bool|iface|func
 | flat (ks:List CK)
 deriving Inhabited,Repr
inductive lR where
 | str|sl
 | arr (n:Nat)
 deriving Inhabited,Repr
inductive N0 where
 | frame (b:Nat)
 | Uy|heap
 deriving Inhabited,Repr
inductive gA where
 | Af (c:N0) (x:aC)
 | mov (take obj:Bool) (x:aC)
 | pick (c a b:aC)
 | allocL (zero:List AV)
 | oz (ty:TypeId) (zero:List AV)
 | boxL (x:aC)
 | box (ty:TypeId) (x:aC)
 | build (zero:List AV) (parts:List (Nat × Nat × aC))
 | mkslice (isB:Bool) (sz:Nat) (H7:List (List AV)) (parts:List (Nat × aC))
 | mb (sz:Nat) (H7:List (List AV)) (parts:List (Nat × aC))
 | load (take agg:Bool) (sz:Nat) (x:aC)
 | store (sz:Nat) (a v:aC)
 | nilCheck (x:aC)
 | bin (op:BinOp) (k:vp) (x y:aC)
 | un (op:UnOp) (x:aC)
 | mm (mx:Bool) (x y:aC)
 | conv (c:xZ) (x:aC)
 | xP (t:TypeId) (x:aC)
 | slice (k:vu) (x:aC) (lo hi mx:Option aC)
 | fieldAddr (off:Nat) (x:aC)
 | field (agg:Bool) (off sz:Nat) (x:aC)
 | ixSl (sz:Nat) (x i:aC)
 | ixArr (n sz:Nat) (x i:aC)
 | index (agg:Bool) (n sz:Nat) (x i:aC)
 | indexStr (x i:aC)
 | extract (x:aC) (i:Nat)
 | len (k:lR) (x:aC)
 | append (isB wr:Bool) (sz bytes:Nat) (x y:aC)
 | appendO (sz bytes:Nat) (x y:aC)
 | copyO (x y:aC)
 | xi (x:aC)
 | nilS (neg:Bool) (x:aC)
 | zD (sz bytes:Nat) (zero:List AV) (n:aC)
 | call (f:aC) (args:List aC)
 | jk (f:aC) (args:List aC)
 | Bd (f:FuncId) (pre:List aC) (x:aC) (post:List aC)
 | mkfunc (f:Fn) (first captured:List aC)
 | sF (kz:Nat) (ka va:Bool)
 | look (ok:Bool) (kz:Nat) (ka va:Bool) (ks:List CK) (zero:List AV) (m k:aC)
 | Ly (kz:Nat) (ka:Bool) (ks:List CK) (zero:List AV) (m k:aC)
 | mq (kz:Nat) (ka va:Bool) (vz:Nat) (ks:List CK) (m k v:aC)
 | Wt (m:aC)
 | Zj (kz:Nat) (ka va:Bool) (m:aC)
 | next (it:aC)
 | Tc (it:aC)
 deriving Inhabited,Repr
structure aO where
 dst:Option Nat
 guard:Option (Nat × Bool)
 op:gA
 deriving Inhabited,Repr
inductive bq where
 | skip
 | region (draw:Bool) (ops:List aO)
 | nf (nt:Nat) (ops:List aO) (pre:List (List Nat))
 | seq (a b:bq)
 | cond (c:aC) (a b:bq)
 | block (id:Nat) (a:bq)
 | loop (a:bq)
 | exit (id:Nat)
 | ret
 deriving Inhabited,Repr
inductive hJ where
 | tmp (t:Nat)
 | cell (a:Nat) (agg:Bool) (sz:Nat)
 deriving Inhabited,Repr
structure aP where
 cz:List Nat
 locals:List Nat
 muts:List Nat
 nt:Nat
 np:Nat
 results:List hJ
 body:bq
 deriving Inhabited,Repr
inductive cq where
 | normal
 | exit (id:Nat)
 | ret
 deriving Inhabited,Repr,DecidableEq
structure AS where
 T:aU
 H:ai
 lo:Nat
 gen:Nat
def AV.cells:AV->Option (List AV)
 | .agg cs=>some cs
 | .any=>none
 | .tuple _=>none
 | .lbox ..=>none
 | .lref ..=>none
 | .lsl ..=>none
 | .lsr ..=>none
 | .eref ..=>none
 | .iter ..=>none
 | v=>some [v]
def AV.drop:AV->AV
 | .slice e _=>.slice e false
 | v=>v
def AV.bU:AV->AV
 | .agg cs=>.agg (cs.map AV.drop)
 | v=>v.drop
def AV.plain:AV->Bool
 | .bool _|.int ..|.str _|.any|.dQ|.dF|.cW|.cx|.eptr _|.fJ ..|.ny ..|.af=>true
 | .slice _ own=>!own
 | .func _ [] []=>true
 | .iface _ (.bool _)|.iface _ (.int ..)|.iface _ (.str _)|.iface _ .any|.iface _ .dQ=>true
 | _=>false
def AV.elem(sz:Nat)(v:AV):Option (List AV) :=
 match v.cells with
 | none=>none
 | some cs =>
  let ds:=cs.map AV.drop
  cond (Nat.beq ds.length sz&&ds.all AV.plain) (some ds) none
def AV.bd(base:Nat):AV->Bool
 | .ref loc _=>Nat.blt loc base
 | .sref loc _ _ _=>Nat.blt loc base
 | .mref loc=>Nat.blt loc base
 | v=>v.plain
def AV.bN(base:Nat):AV->Bool
 | .agg cs=>cs.all (AV.bd base)
 | v=>v.bd base
def AV.leaves(base:Nat):AV->Bool
 | .func _ fs cs=>fs.all (AV.bd base)&&cs.all (AV.bd base)
 | .iface _ v=>v.bd base
 | .tuple vs=>vs.all (AV.bN base)
 | .slice ..=>true
 | v=>v.bN base
def bB:AV->Option Nat
 | .lbox g _=>some g
 | .lsl g _=>some g
 | .iter g ..=>some g
 | _=>none
def aC.eval(G:Nat->List AV)(T:aU):aC->AV
 | .tmp t=>T t
 | .bC v=>v
 | .aZ g=>.eptr (G g)
 | .fn f=>.func (.func f) [] []
def asNat:AV->Option Nat
 | .int _ n=>cond (decide (0<=n)) (some n.toNat) none
 | _=>none
def cG:List CK->List AV->List AV->Option Bool
 | [],_,_=>some true
 | .b :: ks,.bool a :: xs,.bool b :: ys=>(cG ks xs ys).map (a==b&&·)
 | .i :: ks,.int j a :: xs,.int k b :: ys=>cond (decide (j=k)) ((cG ks xs ys).map (a==b&&·)) none
 | .s :: ks,.str a :: xs,.str b :: ys=>(cG ks xs ys).map (a==b&&·)
 | _,_,_=>none
def aa(op:BinOp)(k:IntKind)(a b:Int):Option AV :=
 match op with
 | .add=>some (.int k (k.wrap (a+b)))
 | .sub=>some (.int k (k.wrap (a-b)))
 | .mul=>some (.int k (k.wrap (a*b)))
 | .quo=>cond (decide (b=0)) none (some (.int k (k.wrap (a.tdiv b))))
 | .rem=>cond (decide (b=0)) none (some (.int k (a.tmod b)))
 | .eql=>some (.bool (a==b))
 | .neq=>some (.bool (a != b))
 | .lss=>some (.bool (decide (a<b)))
 | .leq=>some (.bool (decide (a<=b)))
 | .gtr=>some (.bool (decide (a>b)))
 | .geq=>some (.bool (decide (a>=b)))
 | _=>none
def cj(op:BinOp)(a b:List UInt8):Option AV :=
 match op with
 | .add=>cond (decide (a.length+b.length<=4611686018427387904)) (some (.str (a++b))) none
 | .eql=>some (.bool (a==b))
 | .neq=>some (.bool !(a==b))
 | .lss=>some (.bool (Op.bytesLess a b))
 | .leq=>some (.bool (Op.bytesLess a b || a==b))
 | .gtr=>some (.bool !(Op.bytesLess a b || a==b))
 | .geq=>some (.bool !(Op.bytesLess a b))
 | _=>none
def cn(op:BinOp)(b:Bool):Option AV :=
 match op with
 | .eql=>some (.bool b)
 | .neq=>some (.bool !b)
 | _=>none
def dj:aC->Bool
 | .bC _=>true
 | _=>false
def yh(op:BinOp)(q:vp)(bC:Bool)(x y:AV):Option AV :=
 match x,y with
 | .int j a,.int k b=>cond (decide (j=k)) (aa op j a b) none
 | .str a,.str b=>cj op a b
 | .bool a,.bool b=>(match q with|.bool=>cn op (a==b)|_=>none)
 | .agg xs,.agg ys=>(match q with|.flat ks=>(cG ks xs ys).bind fun b=>cn op b|_=>none)
 | x,.cx=>cond (bC&&(match q with|.iface=>true|_=>false)) ((match x with|.cx=>some true|.iface ..=>some false|_=>none).bind fun b=>cn op b) none
 | x,.cW=>cond (match q with|.func=>true|_=>false) ((match x with|.cW=>some true|.func ..=>some false|_=>none).bind fun b=>cn op b) none
 | _,_=>none
def gk(op:UnOp)(x:AV):Option AV :=
 match op,x with
 | .neg,.int k n=>some (.int k (k.wrap (0-n)))
 | .not,.bool b=>some (.bool !b)
 | _,_=>none
def RM(mx:Bool)(x y:AV):Option AV :=
 match x,y with
 | .int k a,.int j b=>cond (decide (k=j)) (some (.int k (cond mx (if b>a then b else a) (if b<a then b else a)))) none
 | _,_=>none
def bytesOf:List (List AV)->Option (List UInt8)
 | []=>some []
 | [.int .u8 n] :: r=>(bytesOf r).map (UInt8.ofNat n.toNat :: ·)
 | _=>none
def cm(c:xZ)(x:AV):Option AV :=
 match c,x with
 | .toInt k,.int _ n=>some (.int k (k.wrap n))
 | .DU,.str l=>some (.str l)
 | .qz,.slice e _=>(bytesOf e).map .str
 | _,_=>none
def chunks(sz:Nat):Nat->List AV->List (List AV)
 | 0,_=>[]
 | n+1,l=>l.take sz :: chunks sz n (l.drop sz)
def bound(ahp:Nat)(x:Option AV)(gU:Nat):Option Nat :=
 match x with
 | none=>some ahp
 | some v=>(asNat v).bind fun n=>cond (Nat.ble n gU) (some n) none
def iB(sz:Nat)(e:List (List AV)):Bool:=(e.head?.map fun r=>Nat.beq r.length sz).getD true
def bH(k:vu)(x:AV)(lo hi mx:Option AV):Option AV :=
 match k,x with
 | .str,.str l=>(bound l.length hi l.length).bind fun h=>(bound 0 lo h).bind fun a=>cond mx.isNone (some (.str ((l.take h).drop a))) none
 | .sl sz,.slice e _=>(bound e.length mx e.length).bind fun m=>(bound e.length hi m).bind fun h=>(bound 0 lo h).bind fun a =>
   cond ((mx.isNone || hi.isSome)&&(lo.isNone || iB sz e)) (some (.slice ((e.take h).drop a) (mx.isSome&&Nat.beq m h))) none
 | .sl sz,.sref l o n z=>(bound n hi n).bind fun h=>(bound 0 lo h).bind fun a=>cond (mx.isNone&&Nat.beq z sz) (some (cond (Nat.blt a n) (.sref l (o+a*z) (h-a) z) (.slice [] false))) none
 | .arr n sz,.eptr cs=>cond (Nat.beq cs.length (n*sz)) ((bound n hi n).bind fun h=>(bound 0 lo h).bind fun a=>cond mx.isNone (some (.slice (((chunks sz n cs).take h).drop a) false)) none) none
 | _,_=>none
def cQ(k:lR)(x:AV):Option AV :=
 match k,x with
 | .str,.str l=>some (.int .i64 l.length)
 | .sl,.slice e _=>some (.int .i64 e.length)
 | .sl,.sref _ _ n _=>some (.int .i64 n)
 | .sl,.af=>some (.int .i64 0)
 | .arr n,_=>some (.int .i64 n)
 | _,_=>none
def putAt(l:List AV)(off:Nat)(cs:List AV):List AV:=l.take off++cs++l.drop (off+cs.length)
def cF:List AV->List (Nat × Nat × AV)->Option (List AV)
 | cells,[]=>some cells
 | cells,(off,sz,v) :: r =>
  match v.cells with
  | none=>none
  | some cs=>cond (Nat.beq cs.length sz&&Nat.ble (off+cs.length) cells.length) (cF (putAt cells off (cs.map AV.drop)) r) none
def dp(sz:Nat):List (List AV)->List (Nat × AV)->Option (List (List AV))
 | es,[]=>some es
 | es,(i,v) :: r =>
  match v.elem sz with
  | none=>none
  | some cs=>cond (Nat.blt i es.length) (dp sz (es.set i cs) r) none
def ab(take agg:Bool)(sz off:Nat)(cs:List AV):Option AV :=
 cond agg (cond (Nat.ble (off+sz) cs.length) (some (.agg (((cs.drop off).take sz).map AV.drop))) none)
  ((cs[off]?).map fun v=>cond take v v.drop)
def an(off:Nat)(cs:List AV):List AV:=cs.modify off AV.drop
def AS.cy(s:AS)(t:Nat)(v:AV):AS:={ s with T:=s.T.put t v }
def AS.gL(s:AS)(c:gS):AS:={ s with H:=c.heap,lo:=cond (Nat.blt c.lo s.lo) c.lo s.lo }
def aC.addr(G:Nat->List AV)(T:aU):aC->AV
 | .tmp t=>match T t with
  | .lbox g _=>.lref t g 0
  | .lsl g _=>.lsr t g
  | .iter ..=>.any
  | v=>v
 | .bC v=>v
 | .aZ g=>.eptr (G g)
 | .fn f=>.func (.func f) [] []
def ay(s:AS)(take agg:Bool)(sz:Nat)(x:AV):Option (AV × Option AS) :=
 match x with
 | .eptr cs=>(ab false agg sz 0 cs).map (·,none)
 | .ref loc off=>match s.H[loc]? with
  | some (.box ty cs)=>(ab take agg sz off cs).map fun v=>(v,cond (take&&!agg) (some (s.gL ⟨s.H.set loc (.box ty (an off cs)),loc⟩)) none)
  | some (.Ji cs)=>(ab false agg sz off cs).map (·,none)
  | some (.ba cs)=>(ab false agg sz off cs).map (·,none)
  | _=>none
 | .lref b g off=>match s.T b with
  | .lbox g' cs=>cond (Nat.beq g g') ((ab take agg sz off cs).map fun v=>(v,cond (take&&!agg) (some (s.cy b (.lbox g (an off cs)))) none)) none
  | _=>none
 | .eref b g i z off=>match s.T b with
  | .lsl g' e=>cond (Nat.beq g g') ((e[i]?).bind fun r=>cond (Nat.beq r.length z) ((ab false agg sz off r).map (·,none)) none) none
  | _=>none
 | _=>none
def iE(loc:Nat):AV->Bool
 | .ref l _=>Nat.ble l loc
 | .sref l _ _ _=>Nat.ble l loc
 | .mref l=>Nat.ble l loc
 | v=>v.drop.plain
def k8(loc:Nat):AV->Bool
 | .agg cs=>cs.all (iE loc)
 | v=>iE loc v
def bD(loc:Nat):AV->Bool
 | .ref l _=>Nat.ble l loc
 | .sref l _ _ _=>Nat.ble l loc
 | .mref l=>Nat.ble l loc
 | .func _ fs cs=>fs.all (k8 loc)&&cs.all (k8 loc)
 | v=>v.drop.plain
def aH:AV->Bool
 | .lref ..=>false
 | .lbox ..=>false
 | .lsl ..=>false
 | .lsr ..=>false
 | .eref ..=>false
 | .iter ..=>false
 | _=>true
def aN(s:AS)(sz:Nat)(a v:AV):Option AS :=
 match v.cells with
 | none=>none
 | some vs=>cond (Nat.beq vs.length sz)
  (match a with
   | .ref loc off=>match s.H[loc]? with
    | some (.box ty cs)=>cond (Nat.ble (off+sz) cs.length&&vs.all (bD loc)) (some (s.gL ⟨s.H.set loc (.box ty (putAt cs off vs)),loc⟩)) none
    | some (.ba cs)=>cond (Nat.ble (off+sz) cs.length&&vs.all aH) (some (s.gL ⟨s.H.set loc (.ba (putAt cs off vs)),loc⟩)) none
    | _=>none
   | .lref b g off=>match s.T b with
    | .lbox g' cs=>cond (Nat.beq g g'&&Nat.ble (off+sz) cs.length&&vs.all aH) (some (s.cy b (.lbox g (putAt cs off vs)))) none
    | _=>none
   | .eref b g i z off=>match s.T b with
    | .lsl g' e=>cond (Nat.beq g g') ((e[i]?).bind fun r=>cond (Nat.beq r.length z&&Nat.ble (off+sz) r.length&&(vs.map AV.drop).all AV.plain) (some (s.cy b (.lsl g (e.set i (putAt r off (vs.map AV.drop)))))) none) none
    | _=>none
   | _=>none)
  none
def AS.bI(s:AS):aC->AS
 | .tmp t=>match s.T t with
  | .slice e true=>s.cy t (.slice e false)
  | _=>s
 | _=>s
def bu(sz:Nat):AV->Option (List (List AV))
 | .slice f _=>some f
 | .str l=>cond (Nat.beq sz 1) (some (l.map fun (b:UInt8)=>[AV.int .u8 b.toNat])) none
 | _=>none
abbrev jc:TypeId:=5
def js(e:List (List AV)):Bool:=e.all fun r=>r.all fun|.int .u8 _=>false|.any=>false|_=>true
def qy(e:List (List AV)):Bool:=e.all fun|[.int .u8 _]=>true|_=>false
def lO(isB:Bool)(e:List (List AV)):Bool:=cond isB (qy e) (js e)
def dE(sz bytes:Nat)(e f:List (List AV)):Bool :=
 Nat.ble ((e.length+f.length)*bytes) 70368744177664&&Nat.ble (e.length+f.length) 70368744177664&&iB sz e&&iB sz f
def aF(isB:Bool)(sz bytes:Nat)(x y:AV):Option AV :=
 match x with
 | .slice e own=>(bu sz y).bind fun f =>
  match f with
  | []=>some (.slice e own)
  | f=>cond (own&&dE sz bytes e f&&lO isB (e++f)) (some (.slice (e++f) true)) none
 | _=>none
def fZ(f:List (List AV)):Bool:=f.all fun r=>r.all AV.plain
abbrev dv:TypeId:=4294967295
def zE(x y:AV):Option AV :=
 match x with
 | .slice [] true=>(match y with|.slice [] _|.af=>some (.slice [] false)|_=>none)
 | .af=>(match y with|.slice [] _|.af=>some .af|_=>none)
 | _=>none
def jH(s:AS)(sz bytes:Nat)(x y:AV):Option (AV × Option AS) :=
 (bu sz y).bind fun f =>
  match x with
  | .slice [] true|.af=>cond (!f.isEmpty&&dE sz bytes [] f&&fZ f) (some (.sref s.H.length 0 f.length sz,some (s.gL ⟨s.H++[.box dv f.flatten],s.H.length⟩))) none
  | .sref l o n z=>match s.H[l]? with
   | some (.box ty cs)=>cond (Nat.beq o 0&&Nat.beq z sz&&Nat.beq cs.length (n*sz)&&Nat.ble ((n+f.length)*bytes) 70368744177664&&Nat.ble (n+f.length) 70368744177664&&iB sz f&&fZ f)
     (some (.sref s.H.length 0 (n+f.length) sz,some (s.gL ⟨s.H.set l .dead++[.box dv (cs++f.flatten)],l⟩))) none
   | _=>none
  | _=>none
def jo(s:AS)(sz bytes:Nat)(x y:AV):Option (AV × Option AS) :=
 match zE x y with
 | some v=>some (v,none)
 | none=>jH s sz bytes x y
def rH(s:AS)(x y:AV):Option (AV × Option AS) :=
 match x,y with
 | .sref l o n z,.slice f _=>match s.H[l]? with
  | some (.ba cs)=>cond (Nat.beq z 1&&iB 1 f&&fZ f&&Nat.ble (o+n) cs.length)
    (some (.int .i64 (Nat.min f.length n),some (s.gL ⟨s.H.set l (.ba (putAt cs o (f.take (Nat.min f.length n)).flatten)),l⟩))) none
  | _=>none
 | .slice [] _,.slice _ _=>some (.int .i64 0,none)
 | _,_=>none
def RR:AV->Option Bool
 | .af=>some true
 | .slice (_ :: _) _=>some false
 | _=>none
def rJ(s:AS)(sz bytes:Nat)(zero:List AV)(n:AV):Option (AV × Option AS) :=
 (asNat n).bind fun k=>cond (Nat.ble (k*bytes) 70368744177664&&Nat.ble k 70368744177664)
  (some (.sref s.H.length 0 k sz,some (s.gL ⟨s.H++[.box dv (List.replicate k zero).flatten],s.H.length⟩))) none
def bF(off:Nat):AV->Option AV
 | .ref l o=>some (.ref l (o+off))
 | .lref b g o=>some (.lref b g (o+off))
 | .eref b g i z o=>some (.eref b g i z (o+off))
 | .eptr cs=>some (.eptr (cs.drop off))
 | _=>none
def aQ(s:AS):AV->Bool
 | .ref ..=>true
 | .eptr _=>true
 | .lref b g _=>(match s.T b with|.lbox g' _=>Nat.beq g g'|_=>false)
 | .eref b g i _ _=>(match s.T b with|.lsl g' e=>Nat.beq g g'&&Nat.blt i e.length|_=>false)
 | _=>false
def Nj(t:TypeId)(v:AV):Option AV :=
 cond (AV.plain v.drop || (match v with|.ref ..=>true|_=>false)) (some (.iface t v.drop)) none
def gC(c:N0)(v:AV):Bool :=
 match c with
 | .frame b=>(match v with|.lref b' _ _=>Nat.beq b b'|_=>false)
 | .Uy=>(match v with|.lref ..=>false|.eref ..=>false|.lsr ..=>false|.ref ..=>false|_=>true)
 | .heap=>(match v with|.lref ..=>false|.eref ..=>false|.lsr ..=>false|_=>true)
def AV.isAgg:AV->Bool
 | .agg _=>true
 | _=>false
def u6(s:AS)(kz:Nat)(ka va:Bool)(m:AV):Option (List (List AV)) :=
 match m with
 | .fJ mi mh mF es=>cond (Nat.beq kz mi&&ka==mh&&va==mF) (some es) none
 | .mref l=>match s.H[l]? with
  | some (.map mi mh mF es)=>cond (Nat.beq kz mi&&ka==mh&&va==mF) (some es) none
  | some (.fJ mi mh mF es)=>cond (Nat.beq kz mi&&ka==mh&&va==mF) (some es) none
  | _=>none
 | _=>none
def fg(ks:List CK)(kc:List AV):List (List AV)->Option (Option Nat)
 | []=>some none
 | r :: es=>(cG ks kc r).bind fun b=>cond b (some (some 0)) ((fg ks kc es).map fun o=>o.map (· + 1))
def oB(agg:Bool)(cs:List AV):AV:=cond agg (.agg (cs.map AV.drop)) ((cs.headD .undef).drop)
def zy(ok va:Bool)(cs:List AV)(found:Bool):AV :=
 let v:=cond va (.agg (cs.map AV.drop)) ((cs.headD .undef).drop)
 cond ok (.tuple [v,.bool found]) v
def o9(ok va:Bool)(zero:List AV)(kz:Nat)(es:List (List AV)):Option Nat->AV
 | none=>zy ok va zero false
 | some i=>zy ok va ((es.getD i []).drop kz) true
def my:List AV->Option (List UInt8)
 | .str a :: _=>some a
 | _=>none
def sR:List (List AV)->Bool
 | []=>true
 | r :: es=>(match my r with|some a=>es.all fun q=>(match my q with|some b=>!(a==b)|none=>false)|none=>false)&&sR es
def V2:List CK->List AV->Bool
 | [.s],[.str _]=>true
 | _,_=>false
def vN(s:AS)(ok:Bool)(kz:Nat)(ka va:Bool)(ks:List CK)(zero:List AV)(m k:AV):Option (AV × Option AS) :=
 k.drop.cells.bind fun kc=>cond (Nat.beq kc.length kz&&ka==k.drop.isAgg)
  (match m with
   | .dF=>some (zy ok va zero false,none)
   | .ny mi mh mF es=>cond (Nat.beq kz mi&&ka==mh&&va==mF&&sR es&&V2 ks kc) ((fg ks kc es).map fun o=>(o9 ok va zero kz es o,none)) none
   | m=>(u6 s kz ka va m).bind fun es=>(fg ks kc es).map fun o=>(o9 ok va zero kz es o,none)) none
def CV(s:AS)(kz:Nat)(ka:Bool)(ks:List CK)(zero:List AV)(m k:AV):Option (AV × Option AS) :=
 match m with
 | .mref l=>match s.H[l]? with
  | some (.map mi mh false es)=>k.drop.cells.bind fun kc=>cond (Nat.beq kc.length kz&&Nat.beq kz mi&&ka==mh&&ka==k.drop.isAgg)
    ((fg ks kc es).bind fun o=>match o with
     | none=>some ((zero.headD .undef),none)
     | some i=>((es.getD i [])[kz]?).map fun v=>(v,some (s.gL ⟨s.H.set l (.map kz ka false (es.set i (an kz (es.getD i [])))),l⟩))) none
  | _=>none
 | _=>none
def tQ(es:List (List AV))(o:Option Nat)(r:List AV):List (List AV) :=
 match o with
 | none=>es++[r]
 | some i=>es.set i r
def qO(s:AS)(kz:Nat)(ka va:Bool)(vz:Nat)(ks:List CK)(m k v:AV):Option AS :=
 match m with
 | .mref l=>match s.H[l]? with
  | some (.map mi mh mF es)=>k.drop.cells.bind fun kc=>v.cells.bind fun vc =>
    cond (Nat.beq kc.length kz&&Nat.beq vc.length vz&&Nat.beq kz mi&&ka==mh&&va==mF&&ka==k.drop.isAgg&&va==v.isAgg&&vc.all (bD l)&&kc.all AV.plain)
     ((fg ks kc es).map fun o=>s.gL ⟨s.H.set l (.map kz ka va (tQ es o (kc++cond va (vc.map AV.drop) vc))),l⟩) none
  | _=>none
 | _=>none
section
variable (G:Nat->List AV)(cf:dK)
def mB(s:AS)(take obj:Bool)(x:aC):Option (AV × Option AS) :=
 match x with
 | .tmp t=>match s.T t with
  | .lbox g _=>some (.lref t g 0,none)
  | .lsl g e=>cond take (cond obj (some (.lsl s.gen e,some { s.cy t .any with gen:=s.gen+1 })) (cond (js e) (some (.slice e true,some (s.cy t (.slice e false)))) none)) (some (.lsr t g,none))
  | .slice e own=>some (.slice e (take&&own),cond (take&&own) (some (s.cy t (.slice e false))) none)
  | .iter ..=>none
  | v=>some (v,none)
 | x=>some (x.eval G s.T,none)
def bf(s:AS)(isB wr:Bool)(sz bytes:Nat)(x y:aC):Option (AV × Option AS) :=
 match x with
 | .tmp t=>match s.T t with
  | .lsl _ e=>(bu sz (y.eval G s.T)).bind fun f=>cond (wr&&dE sz bytes e f) (some (.lsl s.gen (e++f),some { s.cy t .any with gen:=s.gen+1 })) none
  | .slice e own=>cond wr
    ((bu sz (y.eval G s.T)).bind fun f=>cond (e.isEmpty&&own&&dE sz bytes [] f) (some (.lsl s.gen f,some { s.cy t .any with gen:=s.gen+1 })) none)
    ((aF isB sz bytes (.slice e own) (y.eval G s.T)).map (·,some (s.cy t (.slice e false))))
  | .af=>cond wr
    ((bu sz (y.eval G s.T)).bind fun f=>cond (dE sz bytes [] f) (some (.lsl s.gen f,some { s.cy t .any with gen:=s.gen+1 })) none)
    ((aF isB sz bytes (.slice [] true) (y.eval G s.T)).map (·,some s))
  | _=>none
 | x=>cond wr none ((aF isB sz bytes (x.eval G s.T) (y.eval G s.T)).map (·,none))
def YJ(s:AS)(x:aC):Option (AV × AS) :=
 match x with
 | .tmp t=>match s.T t with
  | .slice e own=>some (.slice e own,s.cy t (.slice e false))
  | _=>none
 | .bC v=>match v with
  | .slice [] true=>some (.slice [] true,s)
  | _=>none
 | _=>none
def aA(s:AS)(o:gA):Option (AV × Option AS) :=
 match o with
 | .Af c x=>cond (gC c (x.addr G s.T)) (some (.undef,none)) none
 | .mov take obj x=>mB G s take obj x
 | .pick c a b=>match c.eval G s.T with
  | .bool t=>some (cond t (a.addr G s.T).drop (b.addr G s.T).drop,none)
  | _=>none
 | .allocL zero=>some (.lbox s.gen zero,some { s with gen:=s.gen+1 })
 | .boxL x=>(x.eval G s.T).drop.cells.map fun cs=>(.lbox s.gen (cs.map AV.drop),some { s with gen:=s.gen+1 })
 | .oz ty zero=>some (.ref s.H.length 0,some (s.gL ⟨s.H++[.box ty zero],s.H.length⟩))
 | .box ty x=>(x.eval G s.T).drop.cells.bind fun cs=>cond (cs.all (bD s.H.length)) (some (.ref s.H.length 0,some (s.gL ⟨s.H++[.box ty (cs.map AV.drop)],s.H.length⟩))) none
 | .build zero parts=>(cF zero (parts.map fun p=>(p.1,p.2.1,(p.2.2.eval G s.T).drop))).map (.agg ·,none)
 | .mkslice isB sz H7 parts=>(dp sz H7 (parts.map fun p=>(p.1,(p.2.eval G s.T).drop))).bind fun E=>cond (lO isB E) (some (.slice E true,none)) none
 | .mb sz H7 parts=>(dp sz H7 (parts.map fun p=>(p.1,(p.2.eval G s.T).drop))).bind fun E=>cond (fZ E) (some (.sref s.H.length 0 E.length sz,some (s.gL ⟨s.H++[.box dv E.flatten],s.H.length⟩))) none
 | .load take agg sz x=>ay s take agg sz (x.addr G s.T)
 | .store sz a v=>(aN s sz (a.addr G s.T) (v.eval G s.T)).map fun s'=>(.undef,some (s'.bI v))
 | .nilCheck x=>cond (aQ s (x.addr G s.T)) (some (x.addr G s.T,none)) none
 | .bin op q x y=>(yh op q (dj x || dj y) (x.eval G s.T) (y.eval G s.T)).map (·,none)
 | .un op x=>(gk op (x.eval G s.T)).map (·,none)
 | .mm mx x y=>(RM mx (x.eval G s.T) (y.eval G s.T)).map (·,none)
 | .conv c x=>(cm c (x.eval G s.T)).map (·,none)
 | .xP t x=>(Nj t (x.eval G s.T)).map (·,none)
 | .slice k x lo hi mx=>(bH k (x.eval G s.T) (lo.map (·.eval G s.T)) (hi.map (·.eval G s.T)) (mx.map (·.eval G s.T))).map (·,none)
 | .fieldAddr off x=>cond (aQ s (x.addr G s.T)) ((bF off (x.addr G s.T)).map (·,none)) none
 | .field agg off sz x=>match x.eval G s.T with
  | .agg cs=>(ab false agg sz off cs).map (·,none)
  | _=>none
 | .ixSl sz x i=>match x.addr G s.T with
  | .slice e _=>(asNat (i.eval G s.T)).bind fun n=>(e[n]?).bind fun r=>cond (Nat.beq r.length sz) (some (.eptr r,none)) none
  | .sref l o m _=>(asNat (i.eval G s.T)).bind fun n=>cond (Nat.blt n m) (some (.ref l (o+n*sz),none)) none
  | .lsr t g=>match s.T t with
   | .lsl g' e=>cond (Nat.beq g g') ((asNat (i.eval G s.T)).bind fun n=>(e[n]?).bind fun r=>cond (Nat.beq r.length sz) (some (.eref t g n sz 0,none)) none) none
   | _=>none
  | _=>none
 | .ixArr n sz x i=>(asNat (i.eval G s.T)).bind fun k=>cond (Nat.blt k n&&aQ s (x.addr G s.T)) ((bF (k*sz) (x.addr G s.T)).map (·,none)) none
 | .index agg n sz x i=>(asNat (i.eval G s.T)).bind fun k=>cond (Nat.blt k n)
   (match x.eval G s.T with
    | .agg cs=>(ab false agg sz (k*sz) cs).map (·,none)
    | _=>none) none
 | .indexStr x i=>match x.eval G s.T with
  | .str l=>(asNat (i.eval G s.T)).bind fun n=>(l[n]?).map fun (b:UInt8)=>(AV.int .u8 b.toNat,none)
  | _=>none
 | .extract x i=>match x.eval G s.T with
  | .tuple vs=>(vs[i]?).map fun v=>(v.bU,none)
  | _=>none
 | .len k x=>match x.addr G s.T with
  | .lsr t g=>match s.T t with
   | .lsl g' e=>cond (Nat.beq g g') ((cQ k (.slice e false)).map (·,none)) none
   | _=>none
  | v=>(cQ k v).map (·,none)
 | .append isB wr sz bytes x y=>bf G s isB wr sz bytes x y
 | .appendO sz bytes x y=>jo s sz bytes (x.addr G s.T) (y.eval G s.T)
 | .zD sz bytes zero n=>rJ s sz bytes zero (n.eval G s.T)
 | .copyO x y=>rH s (x.addr G s.T) (y.eval G s.T)
 | .xi x=>(x.eval G s.T).drop.cells.bind fun cs=>cond (cs.all aH) (some (.ref s.H.length 0,some (s.gL ⟨s.H++[.ba (cs.map AV.drop)],s.H.length⟩))) none
 | .nilS neg x=>(RR (x.eval G s.T)).map fun b=>(.bool (neg != b),none)
 | .call f args=>match f.eval G s.T with
  | .func (.func n) fs cs=>cond ((args.map fun a=>a.addr G s.T).all aH)
    ((cf n (fs++args.map (fun a=>(a.addr G s.T).bU)++cs) s.H).map fun r=>(r.1,r.2.map s.gL)) none
  | _=>none
 | .jk f args=>match f.eval G s.T with
  | .func (.func n) fs cs=>cond ((args.map fun a=>a.addr G s.T).all aH)
    ((cf n (fs++args.map (fun a=>(a.addr G s.T).bU)++cs) s.H).bind fun r=>match r.2 with|none=>some (r.1,none)|some _=>none) none
  | _=>none
 | .Bd f pre x post=>cond ((pre.map fun a=>a.addr G s.T).all aH&&(post.map fun a=>a.addr G s.T).all aH)
   ((YJ s x).bind fun p=>(cf f (pre.map (fun a=>(a.addr G s.T).bU)++p.1 :: post.map (fun a=>(a.addr G s.T).bU)) s.H).map fun r=>(r.1,some ((r.2.map p.2.gL).getD p.2))) none
 | .mkfunc f first captured=>cond ((first.map fun a=>a.addr G s.T).all aH&&(captured.map fun a=>a.addr G s.T).all aH)
   (some (.func f (first.map fun a=>(a.addr G s.T).drop) (captured.map fun a=>(a.addr G s.T).drop),none)) none
 | .sF kz ka va=>some (.mref s.H.length,some (s.gL ⟨s.H++[.map kz ka va []],s.H.length⟩))
 | .look ok kz ka va ks zero m k=>vN s ok kz ka va ks zero (m.addr G s.T) (k.eval G s.T)
 | .Ly kz ka ks zero m k=>CV s kz ka ks zero (m.addr G s.T) (k.eval G s.T)
 | .mq kz ka va vz ks m k v=>(qO s kz ka va vz ks (m.addr G s.T) (k.eval G s.T) (v.eval G s.T)).map fun s'=>(.undef,some (s'.bI v))
 | .Wt m=>match m.addr G s.T with
  | .dF=>some (.int .i64 0,none)
  | .fJ _ _ _ es=>some (.int .i64 es.length,none)
  | .mref l=>match s.H[l]? with
   | some (.map _ _ _ es)=>some (.int .i64 es.length,none)
   | some (.fJ _ _ _ es)=>some (.int .i64 es.length,none)
   | _=>none
  | _=>none
 | .Zj kz ka va m=>match m.addr G s.T with
  | .dF=>some (.iter s.gen kz ka va [] [],some { s with gen:=s.gen+1 })
  | .fJ mi mh mF es=>cond (Nat.beq kz mi&&ka==mh&&va==mF) (some (.iter s.gen kz ka va [] es,some { s with gen:=s.gen+1 })) none
  | .ny mi mh mF es=>cond (Nat.beq kz mi&&ka==mh&&va==mF) (some (.iter s.gen kz ka va [] es,some { s with gen:=s.gen+1 })) none
  | .mref l=>match s.H[l]? with
   | some (.map mi mh mF es)=>cond (Nat.beq kz mi&&ka==mh&&va==mF&&fZ es)
     (some (.iter s.gen kz ka va [] es,some { s.gL ⟨s.H.set l (.fJ kz ka va es),l⟩ with gen:=s.gen+1 })) none
   | _=>none
  | _=>none
 | .next _=>none
 | .Tc it=>match it with
  | .tmp t=>match s.T t with
   | .iter _ kz ka va cur _=>cond (Nat.ble kz cur.length&&!cur.isEmpty) (some (.tuple [oB ka (cur.take kz),oB va (cur.drop kz)],none)) none
   | _=>none
  | _=>none
def AS.bW(s:AS)(d:Option Nat)(v:AV):AS:=match d with|none=>s|some d=>s.cy d v
def bj(draw:Bool)(s:AS)(o:aO):Option AS :=
 let run:Option AS:=(aA G cf s o.op).bind fun r=>match r.2 with
  | none=>cond (draw&&(bB r.1).isSome) none (some (s.bW o.dst r.1))
  | some s'=>cond draw none (some (s'.bW o.dst r.1))
 match o.guard with
 | none=>run
 | some (g,want)=>match s.T g with
  | .bool b=>cond (b==want) run (some (s.bW o.dst .undef))
  | .tuple []=>some (s.bW o.dst .undef)
  | _=>none
def fX(draw:Bool):List aO->AS->Option AS
 | [],s=>some s
 | o :: r,s=>(bj G cf draw s o).bind (fX draw r)
def iter(f:AS->Option (cq × AS)):Nat->AS->Option (cq × AS)
 | 0,_=>none
 | n+1,s=>(f s).bind fun r=>match r.1 with
  | .normal=>iter f n r.2
  | _=>some r
def jq(n:Nat):bq->AS->Option (cq × AS)
 | .skip,s=>some (.normal,s)
 | .region d ops,s=>(fX G cf d ops s).map (.normal,·)
 | .seq a b,s=>(jq n a s).bind fun r=>match r.1 with
  | .normal=>jq n b r.2
  | _=>some r
 | .cond c a b,s=>match c.eval G s.T with
  | .bool t=>cond t (jq n a s) (jq n b s)
  | _=>none
 | .block id a,s=>(jq n a s).map fun r=>match r.1 with
  | .exit i=>(cond (Nat.beq i id) .normal (.exit i),r.2)
  | e=>(e,r.2)
 | .loop a,s=>iter (jq n a) n s
 | .exit id,s=>some (.exit id,s)
 | .ret,s=>some (.ret,s)
 | .nf _ _ _,_=>none
end
def jy(s:AS):hJ->Option AV
 | .tmp t=>cond (aH (s.T t)) (some (s.T t)) none
 | .cell a agg sz=>match s.T a with
  | .lbox _ cs=>ab false agg sz 0 cs
  | .ref loc 0=>match s.H[loc]? with
   | some (.box _ cs)=>ab false agg sz 0 cs
   | _=>none
  | _=>none
def pY(s:AS):hJ->Option Nat
 | .tmp t=>match s.T t with
  | .lsl _ _=>some t
  | .lsr b g=>match s.T b with
   | .lsl g' _=>cond (Nat.beq g g') (some b) none
   | _=>none
  | _=>none
 | .cell ..=>none
def lj(s:AS):List hJ->Option (List AV)
 | []=>some []
 | r :: rs=>(jy s r).bind fun v=>(lj s rs).map (v.bU :: ·)
def mw(s:AS)(rs:List hJ):Option AV :=
 match rs with
 | [r]=>match pY s r with
  | some b=>(match s.T b with|.lsl _ e=>cond (js e) (some (.slice e true)) none|_=>none)
  | none=>jy s r
 | rs=>(lj s rs).map .tuple
def j3(base:Nat)(rs:List hJ)(s:AS):Option (AV × Option gS) :=
 (mw s rs).bind fun r =>
  cond (r.leaves base) (some (r,cond (Nat.beq s.lo base) none (some ⟨s.H.take base,s.lo⟩))) none
def Sk(e:List (List AV)):Nat:=(e.head?.map List.length).getD 0
def pX(s:AS)(base:Nat):List hJ->Option (List AV × Option (List (List AV)))
 | []=>some ([],none)
 | r :: rs=>(pX s base rs).bind fun q=>match pY s r with
  | some b=>match s.T b with
   | .lsl _ e=>cond (q.2.isNone&&!e.isEmpty&&e.all (fun r=>r.all AV.plain)) (some (.sref base 0 e.length (Sk e) :: q.1,some e)) none
   | _=>none
  | none=>(jy s r).bind fun v=>cond (v.bU.bN base) (some (v.bU :: q.1,q.2)) none
def tq(base:Nat)(rs:List hJ)(s:AS):Option (AV × Option gS) :=
 cond (Nat.beq rs.length 1) none ((pX s base rs).bind fun q=>q.2.map fun e=>(.tuple q.1,some ⟨s.H.take base++[.box dv e.flatten],s.lo⟩))
def pU:AV->Bool
 | .int .u8 _=>false
 | .any=>false
 | _=>true
def mD:AV->AV
 | .slice [] true=>.af
 | v=>v
def AV.norm:AV->AV
 | .af=>.slice [] false
 | v=>v
def pa:cJ->Option (List AV)
 | .box _ cs=>some cs
 | .ba cs=>some cs
 | _=>none
def je(H:ai)(base:Nat):Nat->AV->AV
 | 0,v=>v
 | k+1,v=>match v with
  | .sref l off n z=>cond (Nat.ble base l) (match (H[l]?).bind pa with
   | some cs=>cond (Nat.blt 0 z&&Nat.ble (off+n*z) cs.length&&(cs.all fun x=>(je H base k x.drop).plain&&pU x)) (.slice (chunks z n ((cs.map fun x=>je H base k x.drop).drop off)) false) v
   | none=>v) v
  | v=>v
abbrev Ua:Nat:=3
def Pr(H:ai)(base:Nat):AV->AV
 | .agg cs=>.agg (cs.map (je H base Ua))
 | v=>je H base Ua v
def xT(base:Nat)(s:AS)(rs:List hJ):Option AV :=
 match rs with
 | [r]=>(jy s r).map fun v=>Pr s.H base v.bU
 | rs=>(lj s rs).map fun vs=>.tuple (vs.map (Pr s.H base))
def tn(base:Nat)(rs:List hJ)(s:AS):Option (AV × Option gS) :=
 (xT base s rs).bind fun r=>cond (r.leaves base) (some (r,cond (Nat.beq s.lo base) none (some ⟨s.H.take base,s.lo⟩))) none
def tj(base:Nat)(rs:List hJ)(s:AS):Option (AV × Option gS) :=
 match rs with
 | [r]=>(jy s r).bind fun v=>match v with
  | .sref l off n z=>match s.H[l]? with
   | some (.box _ cs)=>cond (Nat.ble base l&&cs.all AV.plain) (some (.sref base off n z,some ⟨s.H.take base++[.ba cs],s.lo⟩)) none
   | _=>none
  | _=>none
 | _=>none
def rK(base:Nat)(fn:aP)(s:AS):Option (AV × Option gS):=cond (fn.muts.elem 888888) (tj base fn.results s) none
def rp(base:Nat)(s:AS):Bool:=cond (Nat.beq s.lo base) true (((s.H.take base).drop s.lo).all fun o=>match o with|.ba cs=>cs.all (AV.bd base)|_=>true)
def xJ(base:Nat)(fn:aP)(s:AS):Option (AV × Option gS) :=
 match rK base fn s with
 | some r=>some r
 | none=>match j3 base fn.results s with
 | some r=>some r
 | none=>match tq base fn.results s with
  | some r=>some r
  | none=>tn base fn.results s
def pL(base:Nat)(fn:aP)(s:AS):Option (AV × Option gS):=cond (rp base s) (xJ base fn s) none
def n1:AV->AV
 | .af=>.slice [] false
 | v=>v
def n2:AV->AV
 | .af=>.slice [] false
 | .slice e false=>.slice (e.map fun r=>r.map n1) false
 | v=>v
def n3:AV->AV
 | .agg cs=>.agg (cs.map n2)
 | v=>n2 v
def mE:AV->AV
 | .tuple vs=>.tuple (vs.map n3)
 | v=>n3 v
def sH(fn:aP)(r:AV × Option gS):AV × Option gS:=cond (fn.muts.elem 777777) (mE r.1,r.2) r
def yU(rs:List hJ)(s:AS):Option (AV × Option gS) :=
 cond (Nat.beq rs.length 1) none ((lj s rs).map fun vs=>(.tuple vs,some ⟨s.H,s.lo⟩))
def Lb(fn:aP)(s:AS):Option (AV × Option gS):=cond (fn.muts.elem 888887) (yU fn.results s) none
def finish(base:Nat)(fn:aP)(s:AS):Option (AV × Option gS) :=
 match (pL base fn s).map (sH fn) with
 | some r=>some r
 | none=>Lb fn s
def gY(args:List AV):aU:=fun i=>args.getD i .undef
def wj(G:Nat->List AV)(cf:dK)(n:Nat)(fn:aP)(args:List AV)(H:ai):Option (AV × Option gS) :=
 cond (Nat.beq args.length fn.np)
  ((jq G cf n fn.body { T:=gY args,H,lo:=H.length,gen:=0 }).bind fun r=>match r.1 with
   | .exit _=>none
   | _=>finish H.length fn r.2)
  none
structure AP where
 fns:FuncId->Option aP
 ov:FuncId->Option (List AV->ai->Option (AV × Option gS))
 aZ:Nat->List AV
def rS:AV->Bool
 | .slice _ true=>false
 | _=>true
def Ag(A:AP):Nat->dK
 | 0=>fun _ _ _=>none
 | n+1=>fun f args H=>match A.ov f with
  | some g=>cond (args.all rS) (g args H) none
  | none=>match A.fns f with
   | none=>none
   | some fn=>wj A.aZ (Ag A n) n fn args H
def j2:Value->Option AV
 | .bool b=>some (.bool b)
 | .int k n=>some (.int k n)
 | .string s=>some (.str s.data.toList)
 | .slice none 0 0=>some (.slice [] true)
 | .pointer none=>some .dQ
 | .map none=>some .dF
 | .nilFunc=>some .cW
 | .nilIface=>some .cx
 | _=>none
def ft:List Value->Option (List AV)
 | []=>some []
 | v :: r=>(j2 v).bind fun x=>(ft r).map (x :: ·)
def qE:Value->Option AV
 | .agg vs=>(ft vs.toList).map fun l=>.agg (l.map mD)
 | v=>j2 v
section
variable (P:Program)(cz locals muts:List Nat)(nt:Nat)
def au:Operand->Option aC
 | .tmp t=>cond (Nat.blt t nt) (some (.tmp t)) none
 | .const v=>(qE v).map .bC
 | .global g=>some (.aZ g)
 | .func f=>some (.fn f)
def jE:List Operand->Option (List aC)
 | []=>some []
 | x :: r=>(au nt x).bind fun a=>(jE r).map (a :: ·)
def fz(t:TypeId):Option Nat:=(P.info? t).map (·.size)
def gR(t:TypeId):Option (List AV):=((P.info? t).bind (·.zero)).bind fun z=>ft z.cells.toList
def lW(t:TypeId):Option Bool:=(P.underlying t).map fun|.struct _=>true|.array _ _=>true|_=>false
def il:Option Operand->Option (Option aC)
 | none=>some none
 | some x=>(au nt x).map some
def oe(flat:TypeId->Option (List CK)):List Go.Field->Nat->Option (List CK)
 | [],_=>some []
 | f :: fs,o=>cond (Nat.beq f.offset o&&f.name != "_") ((flat f.type).bind fun k=>(oe flat fs (o+k.length)).map (k++·)) none
def mC:Nat->TypeId->Option (List CK)
 | 0,_=>none
 | d+1,t=>match P.underlying t with
  | some .bool=>some [.b]
  | some (.int _)=>some [.i]
  | some .string=>some [.s]
  | some (.struct fs)=>cond (!P.stoodInHeld t) ((oe (mC d) fs.toList 0).bind fun ks=>cond (match fz P t with|some n=>Nat.beq n ks.length|none=>false) (some ks) none) none
  | _=>none
def nn(t:TypeId):vp :=
 match P.underlying t with
 | some .bool=>.bool
 | some (.interface _)=>.iface
 | some (.func _ _ _)=>.func
 | some (.struct _)=>cond (!P.eqGuardType P.depth t) (match mC P 8 t with|some ks=>.flat ks|none=>.other) .other
 | _=>.other
def mS(fs:List Go.Field):List (Nat × Operand)->Option (List (Nat × Nat × aC))
 | []=>some []
 | (i,x) :: r=>(fs[i]?).bind fun f=>(fz P f.type).bind fun z=>(au nt x).bind fun a=>(mS fs r).map ((f.offset,z,a) :: ·)
def jZ(sz:Nat):List (Nat × Operand)->Option (List (Nat × Nat × aC))
 | []=>some []
 | (i,x) :: r=>(au nt x).bind fun a=>(jZ sz r).map ((i*sz,sz,a) :: ·)
def kM:List (Nat × Operand)->Option (List (Nat × aC))
 | []=>some []
 | (i,x) :: r=>(au nt x).bind fun a=>(kM r).map ((i,a) :: ·)
def Om:Value->Bool
 | .agg _=>true
 | _=>false
def Ng(t:TypeId):Option (List CK × Bool × Bool × List AV) :=
 match P.underlying t with
 | some (.map k e)=>(mC P 8 k).bind fun ks=>(lW P k).bind fun ka=>(P.info? e).bind fun i=>i.zero.bind fun z=>(ft z.cells.toList).bind fun zero =>
   cond (Om z || Nat.beq zero.length 1) (some (ks,ka,Om z,zero)) none
 | _=>none
def DP:Operand->Operand->Bool
 | .tmp a,.tmp b=>Nat.beq a b
 | _,_=>false
def jg(d:Option Nat):Bool:=match d with|some d=>cz.contains d|none=>false
def isLocal(d:Option Nat):Bool:=match d with|some d=>locals.contains d|none=>false
def agU(d:Option Nat):aC->Bool
 | .tmp t=>cz.contains t
 | .bC (.slice [] true)=>jg cz d
 | _=>false
def uj(d:Option Nat)(g:aC)(ys:List aC):gA:=cond (jg cz d) (.call g ys) (.call g ys)
def ui(d:Option Nat)(c:Call):Option gA :=
 match c.callee with
 | .value f=>(au nt f).bind fun g=>(jE nt c.args.toList).map (uj cz d g ·)
 | .builtin .len=>match c.args.toList,c.argTypes.toList with
  | [x],[t]=>(au nt x).bind fun a=>match P.underlying t with
   | some .string=>some (.len .str a)
   | some (.slice _)=>some (.len .sl a)
   | some (.array n _)=>some (.len (.arr n) a)
   | some (.map _ _)=>none
   | _=>none
  | _,_=>none
 | .builtin .append=>match c.args.toList,c.argTypes.toList with
  | [x,y],[t,u]=>(au nt x).bind fun a=>(au nt y).bind fun b=>match P.underlying t,P.underlying u with
   | some (.slice e),some (.slice _)|some (.slice e),some .string=>(P.info? e).bind fun i=>cond (Nat.blt 0 i.size&&(i.zero.map fun z=>Nat.beq z.cells.size i.size).getD false) (some (cond (isLocal locals d) (.appendO i.size i.bytes a b) (.append (Nat.beq e jc) (jg muts d) i.size i.bytes a b))) none
   | _,_=>none
  | _,_=>none
 | .builtin .copy=>match c.args.toList,c.argTypes.toList with
  | [x,y],[t,u]=>(au nt x).bind fun a=>(au nt y).bind fun b=>match P.underlying t,P.underlying u with
   | some (.slice e),some (.slice _)=>(fz P e).bind fun sz=>cond (Nat.beq sz 1) (some (.copyO a b)) none
   | _,_=>none
  | _,_=>none
 | .builtin .max=>match c.args.toList with
  | [x,y]=>(au nt x).bind fun a=>(au nt y).map (.mm true a ·)
  | _=>none
 | .builtin .min=>match c.args.toList with
  | [x,y]=>(au nt x).bind fun a=>(au nt y).map (.mm false a ·)
  | _=>none
 | _=>none
def Gt(k:Nat)(l:List Nat)(d:Option Nat):Bool:=match d with|some d=>l.elem (k+d)|none=>false
def Kj(op:BinOp)(t:TypeId)(y:Operand):Option Bool :=
 match y,P.underlying t with
 | .const (.slice none 0 0),some (.slice _)=>(match op with|.eql=>some false|.neq=>some true|_=>none)
 | _,_=>none
def Dr:aC->aC
 | .bC v=>.bC (mD v)
 | x=>x
def dB(d:Option Nat)(o:Op):Option gA :=
 match o with
 | .move x|.assign x=>(au nt x).map fun a=>.mov (jg cz d) (jg muts d) (cond (jg muts d) (Dr a) a)
 | .pick c a b=>(au nt c).bind fun c=>(au nt a).bind fun a=>(au nt b).map (.pick c a ·)
 | .alloc t=>((gR P t).map fun z=>cond (Gt 700000 cz d) (z.map mD) z).bind fun z=>cond (isLocal locals d) (some (.allocL z)) (some (cond (Gt 500000 muts d) (.xi (.bC (.agg z))) (.oz t z)))
 | .box t x=>(au nt x).map fun a=>cond (isLocal locals d) (.boxL a) (cond (Gt 500000 muts d) (.xi a) (.box t a))
 | .build t parts=>((gR P t).map fun z=>cond (jg cz d) (z.map mD) z).bind fun z=>match P.underlying t with
  | some (.struct fs)=>cond ((fs.toList.mapM fun f=>(P.info? f.type).map fun i=>(f.offset,i.size)).isSome) ((mS P nt fs.toList parts.toList).map (.build z ·)) none
  | some (.array _ e)=>(fz P e).bind fun sz=>(jZ nt sz parts.toList).map (.build z ·)
  | _=>none
 | .buildSlice t len parts=>match P.underlying t with
  | some (.slice e)=>(fz P e).bind fun sz=>(gR P e).bind fun z=>(kM nt parts.toList).bind fun ps =>
    cond (Nat.ble (len*sz) 16777216&&Nat.beq z.length sz&&Nat.blt 0 sz) (some (cond (isLocal locals d) (.mb sz (List.replicate len (z.map AV.drop)) ps) (.mkslice (Nat.beq e jc) sz (List.replicate len (z.map AV.drop)) ps))) none
  | _=>none
 | .load t x=>(au nt x).bind fun a=>(lW P t).bind fun g=>(fz P t).map fun sz=>.load (jg cz d) g sz a
 | .store t x y=>(au nt x).bind fun a=>(au nt y).bind fun b=>(fz P t).map fun sz=>.store sz a b
 | .nilCheck x=>(au nt x).map .nilCheck
 | .binOp op t x y _=>(au nt x).bind fun a=>(au nt y).bind fun b=>match Kj P op t y with
  | some neg=>some (.nilS neg a)
  | none=>some (.bin op (nn P t) a b)
 | .unOp op _ x=>(au nt x).map (.un op ·)
 | .convert s t x=>(au nt x).bind fun a=>match P.underlying s,P.underlying t with
  | some (.int _),some (.int k)=>some (.conv (.toInt k) a)
  | some .string,some .string=>some (.conv .DU a)
  | some (.slice e),some .string=>match P.underlying e with
   | some (.int .u8)=>some (.conv .qz a)
   | _=>none
  | _,_=>none
 | .makeFunc f first captured=>(jE nt first.toList).bind fun a=>(jE nt captured.toList).map (.mkfunc f a ·)
 | .slice t x lo hi mx=>(au nt x).bind fun a=>(il nt lo).bind fun lo=>(il nt hi).bind fun hi=>(il nt mx).bind fun mx=>match P.underlying t with
  | some .string=>some (.slice .str a lo hi mx)
  | some (.slice e)=>(fz P e).map fun sz=>.slice (.sl sz) a lo hi mx
  | some (.array n e)=>(fz P e).bind fun sz=>cond (Nat.blt 0 sz) (some (.slice (.arr n sz) a lo hi mx)) none
  | _=>none
 | .fieldAddr t x f=>(au nt x).bind fun a=>match P.underlying t with
  | some (.struct fs)=>(fs[f]?).bind fun q=>(fz P q.type).bind fun sz=>cond (Nat.blt 0 sz) (some (.fieldAddr q.offset a)) none
  | _=>none
 | .indexAddr t x i=>(au nt x).bind fun a=>(au nt i).bind fun b=>match P.underlying t with
  | some (.slice e)=>(fz P e).map fun sz=>.ixSl sz a b
  | some (.array n e)=>(fz P e).map fun sz=>.ixArr n sz a b
  | _=>none
 | .index t x i=>(au nt x).bind fun a=>(au nt i).bind fun b=>match P.underlying t with
  | some .string=>some (.indexStr a b)
  | some (.array n e)=>(fz P e).bind fun sz=>(lW P e).map fun g=>.index g n sz a b
  | _=>none
 | .extract x i=>(au nt x).map (.extract · i)
 | .call c=>ui P cz locals muts nt d c
 | .makeSlice t x y=>(au nt x).bind fun a=>cond (DP x y) (match P.underlying t with
  | some (.slice e)=>(P.info? e).bind fun i=>i.zero.bind fun z=>(ft z.cells.toList).bind fun zero=>cond (Nat.blt 0 i.size&&Nat.beq z.cells.size i.size) (some (.zD i.size i.bytes (zero.map AV.drop) a)) none
  | _=>none) none
 | .makeMap t none=>(Ng P t).map fun m=>.sF m.1.length m.2.1 m.2.2.1
 | .lookup t x i ok=>(au nt x).bind fun a=>(au nt i).bind fun b=>(Ng P t).map fun m =>
   .look ok m.1.length m.2.1 m.2.2.1 m.1 m.2.2.2 a b
 | .mapUpdate t x i v|.insert t x i v=>(au nt x).bind fun a=>(au nt i).bind fun b=>(au nt v).bind fun c=>(Ng P t).map fun m=>.mq m.1.length m.2.1 m.2.2.1 m.2.2.2.length m.1 a b c
 | .range t x=>cond (jg muts d) ((au nt x).bind fun a=>(Ng P t).map fun m=>.Zj m.1.length m.2.1 m.2.2.1 a) none
 | .next x false=>(au nt x).map .next
 | .entry x=>(au nt x).map .Tc
 | _=>none
def oU(ops:Array Oper):Option (Nat × Bool)->Option (Option (Nat × Bool))
 | none=>some none
 | some (j,want)=>((ops[j]?).bind (·.dst)).bind fun s=>cond (Nat.blt s nt) (some (some (s,want))) none
def qD(ops:Array Oper)(o:Oper):Option aO :=
 (dB P cz locals muts nt o.dst o.op).bind fun p=>(oU nt ops o.guard).bind fun g =>
  match o.dst with
  | none=>some ⟨none,g,p⟩
  | some d=>cond (Nat.blt d nt) (some ⟨some d,g,p⟩) none
def gN(ops:Array Oper):List Oper->Option (List aO)
 | []=>some []
 | o :: r=>(qD P cz locals muts nt ops o).bind fun p=>(gN ops r).map (p :: ·)
def aC.tmps:aC->List Nat
 | .tmp t=>[t]
 | _=>[]
def gA.tmps:gA->List Nat
 | .Af _ x|.boxL x|.xi x|.mov _ _ x|.box _ x|.load _ _ _ x|.nilCheck x|.un _ x|.nilS _ x|.conv _ x|.xP _ x|.fieldAddr _ x|.field _ _ _ x|.extract x _|.len _ x=>x.tmps
 | .pick c a b=>c.tmps++a.tmps++b.tmps
 | .allocL _|.oz _ _=>[]
 | .build _ ps=>ps.flatMap fun p=>p.2.2.tmps
 | .mkslice _ _ _ ps|.mb _ _ ps=>ps.flatMap fun p=>p.2.tmps
 | .store _ a v=>a.tmps++v.tmps
 | .bin _ _ x y|.mm _ x y|.ixSl _ x y|.ixArr _ _ x y|.index _ _ _ x y|.indexStr x y|.append _ _ _ _ x y|.appendO _ _ x y|.copyO x y=>x.tmps++y.tmps
 | .slice _ x lo hi mx=>x.tmps++(lo.toList.flatMap aC.tmps)++(hi.toList.flatMap aC.tmps)++(mx.toList.flatMap aC.tmps)
 | .call f xs|.jk f xs=>f.tmps++xs.flatMap aC.tmps
 | .Bd _ pre x post=>pre.flatMap aC.tmps++x.tmps++post.flatMap aC.tmps
 | .mkfunc _ a b=>a.flatMap aC.tmps++b.flatMap aC.tmps
 | .sF _ _ _=>[]
 | .zD _ _ _ n=>n.tmps
 | .look _ _ _ _ _ _ m k|.Ly _ _ _ _ m k=>m.tmps++k.tmps
 | .mq _ _ _ _ _ m k v=>m.tmps++k.tmps++v.tmps
 | .Wt m|.Zj _ _ _ m|.next m|.Tc m=>m.tmps
def aO.looks(o:aO):List Nat:=o.op.tmps++(match o.guard with|some (g,_)=>[g]|none=>[])
def vH(o:Oper)(j:Nat):Bool:=o.after.any fun e=>Region.binds .any e&&Nat.beq e.on j
def vb(L:List Nat)(ops:List (Oper × aO)):Bool :=
 let l:=ops.zipIdx
 l.all fun p=>(p.1.1.after.all fun e=>!Region.binds .any e || Nat.blt e.on p.2)&&(match p.1.2.dst with|some d=>!(L.contains d)|none=>true) &&
  l.all fun q=>Nat.beq p.2 q.2 || (match q.1.2.dst with
   | none=>true
   | some d=>(match p.1.2.dst with|some d'=>!(Nat.beq d d')|none=>true) &&
    (!(p.1.2.looks.contains d) || cond (Nat.blt q.2 p.2) (vH p.1.1 q.2) (vH q.1.1 p.2)))
def SG:aO->Option Nat
 | ⟨some d,none,.allocL _⟩=>some d
 | _=>none
def Zk(M:List Nat):aO->Option (Nat × aC)
 | ⟨none,none,.store _ (.tmp d) y⟩=>cond (M.contains d) (some (d,y)) none
 | _=>none
def Cl(is:List aO):List Nat:=is.filterMap SG
def isP(M:List Nat)(o:aO):Bool:=(SG o).isNone&&(Zk M o).isNone
def aiW:aO:=⟨none,none,.mov false false (.bC .undef)⟩
def afB(M:List Nat)(is:List aO):List aO:=is.map fun o=>cond (isP M o) o aiW
def Wf(M:List Nat):List aO:=M.flatMap fun d=>[⟨some d,none,.allocL []⟩,⟨some d,none,.mov false false (.bC .undef)⟩]
def afA(is:List aO):List aO:=is.filter fun o=>(SG o).isSome
def afC(M:List Nat)(is:List aO):List aO:=is.filter fun o=>(Zk M o).isSome
def drawn(is:List aO):bq :=
 .seq (.region false (Wf (Cl is))) (.seq (.region true (afB (Cl is) is)) (.seq (.region false (afA is)) (.region false (afC (Cl is) is))))
structure rB where
 rs:List Nat
 ws:List Nat
 rh:Bool
 wh:Bool
 wg:Bool
 deriving Inhabited
def Ck(is:List aO)(L:List Nat):Nat->aC->Option Nat
 | 0,_=>none
 | f+1,.tmp t=>cond (L.contains t) (some t) (match is.find? (fun o=>match o.dst with|some d=>Nat.beq d t|none=>false) with
  | some ⟨_,_,.fieldAddr _ y⟩=>Ck is L f y
  | some ⟨_,_,.ixArr _ _ y _⟩=>Ck is L f y
  | some ⟨_,_,.nilCheck y⟩=>Ck is L f y
  | _=>none)
 | _,_=>none
def S4(is:List aO):Nat->aC->Bool
 | 0,_=>false
 | f+1,.tmp t=>(match is.find? (fun o=>match o.dst with|some d=>Nat.beq d t|none=>false) with
  | some ⟨_,_,.ixSl _ x _⟩=>(match x with
   | .tmp u=>(match is.find? (fun o=>match o.dst with|some d=>Nat.beq d u|none=>false) with
    | some ⟨_,_,.load ..⟩=>false
    | _=>true)
   | _=>true)
  | some ⟨_,_,.fieldAddr _ y⟩=>S4 is f y
  | some ⟨_,_,.ixArr _ _ y _⟩=>S4 is f y
  | _=>false)
 | _,.aZ _=>true
 | _,_=>false
def OJ(mode:Bool)(is:List aO)(L:List Nat)(x:aC):N0 :=
 match Ck is L 8 x with
 | some b=>.frame b
 | none=>cond (mode&&S4 is 8 x) .Uy .heap
def wF(mode:Bool)(is:List aO)(L:List Nat):gA->Option (N0 × aC)
 | .load _ _ _ x=>some (OJ mode is L x,x)
 | .store _ x _=>some (OJ false is L x,x)
 | .nilCheck x=>some (OJ mode is L x,x)
 | .fieldAddr _ x=>some (OJ mode is L x,x)
 | .ixArr _ _ x _=>some (OJ mode is L x,x)
 | .ixSl _ x _=>some (.heap,x)
 | .len _ x=>some (.heap,x)
 | _=>none
def im:N0->List Nat
 | .frame b=>[b]
 | _=>[]
def De:N0->Bool
 | .heap=>true
 | _=>false
def Bi(pc:Bool)(c:N0):gA->Option rB
 | .mov take obj x=>cond obj none (some ⟨x.tmps,cond take x.tmps [],false,false,false⟩)
 | .pick a b d=>some ⟨a.tmps++b.tmps++d.tmps,[],false,false,false⟩
 | .allocL _=>some ⟨[],[],false,false,true⟩
 | .boxL x=>some ⟨x.tmps,[],false,false,true⟩
 | .build z ps=>some ⟨(gA.build z ps).tmps,[],false,false,false⟩
 | .mkslice b sz zs ps=>some ⟨(gA.mkslice b sz zs ps).tmps,[],false,false,false⟩
 | .bin _ _ x y=>some ⟨x.tmps++y.tmps,[],false,false,false⟩
 | .mm _ x y=>some ⟨x.tmps++y.tmps,[],false,false,false⟩
 | .un _ x=>some ⟨x.tmps,[],false,false,false⟩
 | .nilS _ x=>some ⟨x.tmps,[],false,false,false⟩
 | .conv _ x=>some ⟨x.tmps,[],false,false,false⟩
 | .field _ _ _ x=>some ⟨x.tmps,[],false,false,false⟩
 | .index _ _ _ x i=>some ⟨x.tmps++i.tmps,[],false,false,false⟩
 | .indexStr x i=>some ⟨x.tmps++i.tmps,[],false,false,false⟩
 | .extract x _=>some ⟨x.tmps,[],false,false,false⟩
 | .mkfunc f a b=>some ⟨(gA.mkfunc f a b).tmps,[],false,false,false⟩
 | .load take agg _ x=>some ⟨x.tmps++im c,cond (take&&!agg) (im c) [],De c,De c&&take&&!agg,false⟩
 | .store _ x y=>some ⟨x.tmps++y.tmps++im c,y.tmps++im c,De c,De c,false⟩
 | .nilCheck x=>some ⟨x.tmps++im c,[],false,false,false⟩
 | .fieldAddr _ x=>some ⟨x.tmps++im c,[],false,false,false⟩
 | .ixArr _ _ x i=>some ⟨x.tmps++i.tmps++im c,[],false,false,false⟩
 | .ixSl _ x i=>some ⟨x.tmps++i.tmps,[],false,false,false⟩
 | .len _ x=>some ⟨x.tmps,[],false,false,false⟩
 | .append _ wr _ _ x y=>cond wr none (some ⟨x.tmps++y.tmps,x.tmps,false,false,false⟩)
 | .appendO _ _ x y=>some ⟨x.tmps++y.tmps,[],true,true,false⟩
 | .copyO x y=>some ⟨x.tmps++y.tmps,[],true,true,false⟩
 | .slice k x lo hi mx=>some ⟨(gA.slice k x lo hi mx).tmps,[],false,false,false⟩
 | .call f xs=>some ⟨(gA.call f xs).tmps,[],true,!pc,false⟩
 | _=>none
def FV(mode pc:Bool)(is:List aO)(L:List Nat)(o:aO):Option rB :=
 (Bi pc (match wF mode is L o.op with|some p=>p.1|none=>.heap) o.op).map fun e =>
  ⟨(match o.guard with|some (g,_)=>[g]|none=>[])++e.rs,o.dst.toList++e.ws,e.rh,e.wh,e.wg⟩
def meets(x y:List Nat):Bool:=x.any y.contains
def conflict(e f:rB):Bool :=
 meets e.ws f.rs || meets e.ws f.ws || meets f.ws e.rs || (e.wh&&(f.rh || f.wh)) || (f.wh&&e.rh) || (e.wg&&f.wg)
def pV(ops:List Oper):List (List Nat) :=
 ops.foldl (fun t o=>t++[(o.after.toList.flatMap fun e=>cond (Region.binds .any e) (e.on :: t.getD e.on []) []).eraseDups]) []
def rq(ops:List Oper)(es:List rB):Bool :=
 let ps:=pV ops
 (ops.zipIdx.all fun p=>p.1.after.all fun e=>!Region.binds .any e || Nat.blt e.on p.2) &&
 es.zipIdx.all fun p=>es.zipIdx.all fun q=>!(Nat.blt q.2 p.2) || !(conflict p.1 q.1) || (ps.getD p.2 []).contains q.2
def jP(pc:Bool)(o:aO):aO :=
 match o with
 | ⟨d,g,.call f xs⟩=>cond pc ⟨d,g,.jk f xs⟩ ⟨d,g,.call f xs⟩
 | o=>o
def inter(mode pc:Bool)(is:List aO)(L:List Nat):List aO->List aO
 | []=>[]
 | o :: r=>match wF mode is L o.op with
  | some (c,x)=>⟨none,o.guard,.Af c x⟩ :: jP pc o :: inter mode pc is L r
  | none=>jP pc o :: inter mode pc is L r
def oA(mode pc:Bool)(is:List aO)(L:List Nat):List aO->Option (List rB)
 | []=>some []
 | o :: r=>(FV mode pc is L o).bind fun e=>(oA mode pc is L r).map (e :: ·)
def adU:gA->Bool
 | .mov take _ _=>take
 | .allocL _|.boxL _|.store ..|.append ..|.appendO ..|.copyO ..|.xi ..|.zD ..|.oz ..|.box ..=>true
 | .load take agg _ _=>take&&!agg
 | _=>false
def Sz(mode pc:Bool)(L:List Nat)(ops:List Oper)(is:List aO):Option bq :=
 (oA mode pc is L is).bind fun es=>cond (rq ops es) (some (.region false (inter mode pc is L is))) none
def yB(L:List Nat)(ops:List Oper)(is:List aO):Option bq :=
 cond (L.elem 999996 || is.any fun o=>adU o.op) (match Sz false false L ops is with
  | some c=>some c
  | none=>match cond (L.elem 999997) none (Sz true false L ops is) with
   | some c=>some c
   | none=>cond (L.elem 999999) none (Sz false true L ops is)) none
def nh(o:Oper):List Nat:=(o.after.toList.filter fun e=>Region.binds .any e).map (·.on)
def gD:Code->Option bq
 | .skip=>some .skip
 | .region _ ops draw=>(gN P cz locals muts nt ops ops.toList).bind fun is=>match cond draw (yB locals ops.toList is) none with
  | some c=>some c
  | none=>cond (!draw || (!(locals.elem 999998)&&vb (locals++muts) (ops.toList.zip is))) (some (.region draw is)) (cond draw (some (.nf nt is (ops.toList.map nh))) none)
 | .seq a b=>(gD a).bind fun x=>(gD b).map (.seq x ·)
 | .cond c a b=>(au nt c).bind fun c=>(gD a).bind fun x=>(gD b).map (.cond c x ·)
 | .block id a=>(gD a).map (.block id ·)
 | .loop a=>(gD a).map .loop
 | .exit id=>some (.exit id)
 | .ret=>some .ret
 | .label _=>some .skip
 | .scope a=>gD a
 | _=>none
def j1:List ResultVar->Option (List hJ)
 | []=>some []
 | .tmp t :: r=>cond (Nat.blt t nt) ((j1 r).map (.tmp t :: ·)) none
 | .cell a t :: r=>cond (Nat.blt a nt) ((lW P t).bind fun g=>(fz P t).bind fun sz=>(j1 r).map (.cell a g sz :: ·)) none
end
def mA(P:Program)(cz locals muts:List Nat)(f:Func):Option aP :=
 f.body.bind fun c=>(gD P cz locals muts f.ntmps c).bind fun b=>(j1 P f.ntmps f.results.toList).bind fun rs =>
  cond (Nat.ble (f.params.size+f.nfree) f.ntmps&&f.name != "runtime.NumGoroutine") (some { cz,locals,muts,nt:=f.ntmps,np:=f.params.size+f.nfree,results:=rs,body:=b }) none
end
inductive bM where
 | none|outer|ret
 | hb (loc:Nat)
 | hs (loc j:Nat)
 | bx (i:Nat)
 | sl (i:Nat)
 | sc (i j:Nat)
 | par (j:Nat)
 deriving DecidableEq,Inhabited
structure Gh where
 S:Nat->Nat->Prop
 κ:Nat->bM
 ρ:Nat->Nat
def qs(agg:Bool)(n:Nat)(f:Nat->Value):Value:=cond agg (.agg ((List.range n).map f).toArray) (f 0)
structure Fb (E:Array MapEntry) (ck kz:Nat) (ka va:Bool) (es:List (List AV)) (f:Nat->Nat->Value):Prop where
 size:E.size=es.length
 clk:ck=E.size
 at' : ∀ (i:Nat) (e:MapEntry),E[i]?=some e->e.born=i
 born:∀ (i:Nat) (e:MapEntry),E[i]?=some e->e.born<ck
 apart:∀ (i j:Nat) (e e' : MapEntry),E[i]?=some e->E[j]?=some e'->e.born=e'.born->i=j
 row:∀ (i:Nat) (e:MapEntry) (r:List AV),E[i]?=some e->es[i]?=some r->kz<=r.length/\(ka=false->kz=1)/\(va=false->r.length=kz+1)/\e.key=qs ka kz (f i)/\e.val=qs va (r.length-kz) (fun j=>f i (kz+j))
structure vt (E:Array MapEntry) (ck kz:Nat) (ka va:Bool) (es:List (List AV)) (f:Nat->Nat->Value):Prop where
 size:E.size=es.length
 born:∀ (i:Nat) (e:MapEntry),E[i]?=some e->e.born<ck
 apart:∀ (i j:Nat) (e e' : MapEntry),E[i]?=some e->E[j]?=some e'->e.born=e'.born->i=j
 row:∀ (i:Nat) (e:MapEntry) (r:List AV),E[i]?=some e->es[i]?=some r->kz<=r.length/\(ka=false->kz=1)/\(va=false->r.length=kz+1)/\e.key=qs ka kz (f i)/\e.val=qs va (r.length-kz) (fun j=>f i (kz+j))
theorem Fb.iter{E:Array MapEntry}{ck kz:Nat}{ka va:Bool}{es:List (List AV)}{f:Nat->Nat->Value}(h:Fb E ck kz ka va es f):vt E ck kz ka va es f:=⟨h.size,h.born,h.apart,h.row⟩
inductive PR (S:Nat->Nat->Prop) (w:World):Value->AV->Prop where
 | bool (b:Bool):PR S w (.bool b) (.bool b)
 | int (k:IntKind) (n:Int):PR S w (.int k n) (.int k n)
 | str (s:ByteArray) (l:List UInt8) (h:s.data.toList=l):PR S w (.string s) (.str l)
 | any (v:Value) (h:v.oneCell'=true):PR S w v .any
 | dQ:PR S w (.pointer none) .dQ
 | dF:PR S w (.map none) .dF
 | cW:PR S w .nilFunc .cW
 | cx:PR S w .nilIface .cx
 | func (f:Fn):PR S w (.func f #[] #[]) (.func f [] [])
 | iface (t:TypeId) (v:Value) (x:AV) (h:PR S w v x):PR S w (.iface t v) (.iface t x)
 | dM:PR S w (.slice none 0 0) (.slice [] false)
 | af:PR S w (.slice none 0 0) .af
 | slice (b o n cap sz:Nat) (e:List (List AV)) (f:Nat->Nat->Value) (hn:e.length=n) (j4:n<=cap)
   (cb:∀ (i:Nat) (r:List AV),e[i]?=some r->r.length=sz)
   (dw:∀ (i j:Nat) (r:List AV) (x:AV),e[i]?=some r->r[j]?=some x->S b (o+i*sz+j)/\w.cell? ⟨b,o+i*sz+j,none⟩=some (f i j)/\(f i j).oneCell'=true)
   (de:∀ (i j:Nat) (r:List AV) (x:AV),e[i]?=some r->r[j]?=some x->PR S w (f i j) x) :
   PR S w (.slice (some ⟨b,o,none⟩) n cap) (.slice e false)
 | eptr (b o:Nat) (cs:List AV) (f:Nat->Value)
   (dw:∀ (j:Nat) (x:AV),cs[j]?=some x->S b (o+j)/\w.cell? ⟨b,o+j,none⟩=some (f j)/\(f j).oneCell'=true)
   (de:∀ (j:Nat) (x:AV),cs[j]?=some x->PR S w (f j) x) :
   PR S w (.pointer (some ⟨b,o,none⟩)) (.eptr cs)
 | fJ (b kz:Nat) (ka va:Bool) (es:List (List AV)) (E:Array MapEntry) (ck:Nat) (f:Nat->Nat->Value) (hS:S b 0) (hb:w.heap[b]?=some (.map E ck)) (hE:Fb E ck kz ka va es f)
   (de:∀ (i j:Nat) (r:List AV) (x:AV),es[i]?=some r->r[j]?=some x->PR S w (f i j) x):PR S w (.map (some b)) (.fJ kz ka va es)
 | ny (b kz:Nat) (ka va:Bool) (es vm:List (List AV)) (E:Array MapEntry) (ck:Nat) (f:Nat->Nat->Value) (hS:S b 0) (hb:w.heap[b]?=some (.map E ck)) (hE:vt E ck kz ka va vm f) (hp:vm.Perm es)
   (de:∀ (i j:Nat) (r:List AV) (x:AV),vm[i]?=some r->r[j]?=some x->PR S w (f i j) x):PR S w (.map (some b)) (.ny kz ka va es)
theorem PR.fR{S:Nat->Nat->Prop}{w:World}{v:Value}{x:AV}(h:PR S w v x):v.oneCell'=true:=by
 cases h<;>first|rfl|assumption
theorem PR.mono{S S' : Nat->Nat->Prop}{w w' : World}(hS:∀ b o,S b o->S' b o)(hc:∀ b o,S b o->w'.cell? ⟨b,o,none⟩=w.cell? ⟨b,o,none⟩)
  (hm:∀ b E ck,S b 0->w.heap[b]?=some (.map E ck)->w'.heap[b]?=some (.map E ck))
  {v:Value} {x:AV} (h:PR S w v x):PR S' w' v x:=by
 induction h with
 | bool b=>exact .bool b
 | int k n=>exact .int k n
 | str s l h=>exact .str s l h
 | any v h=>exact .any v h
 | dQ=>exact .dQ
 | dF=>exact .dF
 | cW=>exact .cW
 | cx=>exact .cx
 | func f=>exact .func f
 | iface t v x _ ih=>exact .iface t v x ih
 | dM=>exact .dM
 | af=>exact .af
 | slice b o n cap sz e f hn j4 cb dw _ ih =>
  exact .slice b o n cap sz e f hn j4 cb (fun i j r x h1 h2=>by
   obtain⟨a,c,d⟩:=dw i j r x h1 h2
   exact⟨hS _ _ a,(hc _ _ a).trans c,d⟩) ih
 | eptr b o cs f dw _ ih =>
  exact .eptr b o cs f (fun j x h=>by
   obtain⟨a,c,d⟩:=dw j x h
   exact⟨hS _ _ a,(hc _ _ a).trans c,d⟩) ih
 | fJ b kz ka va es E ck f h1 h2 h3 _ ih=>exact .fJ b kz ka va es E ck f (hS _ _ h1) (hm _ _ _ h1 h2) h3 ih
 | ny b kz ka va es vm E ck f h1 h2 h3 h4 _ ih=>exact .ny b kz ka va es vm E ck f (hS _ _ h1) (hm _ _ _ h1 h2) h3 h4 ih
def py(w:World)(b:Nat)(ty:TypeId)(n:Nat):Prop:=∃ C fr,w.heap[b]?=some (.cells C ty fr)/\C.size=n
inductive VR (gh:Gh) (n:Nat) (w:World):Value->AV->Prop where
 | plain (v:Value) (x:AV) (h:PR gh.S w v x):VR gh n w v x
 | full (a:Option Addr) (k:Nat) (e:List (List AV)) (h:PR gh.S w (.slice a k k) (.slice e false)) (hz:True):VR gh n w (.slice a k k) (.slice e true)
 | ref (loc off:Nat) (h:loc<n):VR gh n w (.pointer (some ⟨gh.ρ loc,off,none⟩)) (.ref loc off)
 | sref (loc off k cap z:Nat) (h:loc<n) (hk:k<=cap) (hz:z≠0->∃ ty,py w (gh.ρ loc) ty (off+cap*z)):VR gh n w (.slice (some ⟨gh.ρ loc,off,none⟩) k cap) (.sref loc off k z)
 | mref (loc:Nat) (h:loc<n):VR gh n w (.map (some (gh.ρ loc))) (.mref loc)
 | func (f:Fn) (fs cs:Array Value) (xs ys:List AV) (hf:fs.size=xs.length) (hc:cs.size=ys.length)
   (h1:∀ (j:Nat) (v:Value) (x:AV),fs[j]?=some v->xs[j]?=some x->VR gh n w v x)
   (h2:∀ (j:Nat) (v:Value) (x:AV),cs[j]?=some v->ys[j]?=some x->VR gh n w v x):VR gh n w (.func f fs cs) (.func f xs ys)
 | iface (t:TypeId) (v:Value) (x:AV) (h:VR gh n w v x):VR gh n w (.iface t v) (.iface t x)
 | agg (cs:Array Value) (xs:List AV) (hs:cs.size=xs.length)
   (gT:∀ (j:Nat) (v:Value),cs[j]?=some v->v.oneCell'=true)
   (h:∀ (j:Nat) (v:Value) (x:AV),cs[j]?=some v->xs[j]?=some x->VR gh n w v x):VR gh n w (.agg cs) (.agg xs)
 | tuple (vs:Array Value) (xs:List AV) (hs:vs.size=xs.length)
   (h:∀ (j:Nat) (v:Value) (x:AV),vs[j]?=some v->xs[j]?=some x->VR gh n w v x):VR gh n w (.tuple vs) (.tuple xs)
def Kept(S:Nat->Prop)(x y:Option Obj):Prop :=
 y=x\/∃ C ty lo hi lo' mn,x=some (.cells C ty (lo,hi))/\y=some (.cells C ty (lo',mn))/\(∃ o n,S o/\C[o]?=some (Value.int .u8 n))/\∀ m,hi<=m->(∀ o,m<=o->¬ S o)->mn<=m
theorem Kept.none{S:Nat->Prop}{x y:Option Obj}(h:Kept S x y)(hS:∀ o,¬ S o):y=x:=by
 rcases h with h|⟨_,_,_,_,_,_,_,_,⟨o,_,ho,_⟩,_⟩
 ·exact h
 ·exact absurd ho (hS o)
theorem Kept.trans{S T:Nat->Prop}{x y z:Option Obj}(h:Kept S x y)(h' : Kept T y z)(hT:∀ o,T o->S o):Kept S x z:=by
 rcases h with rfl|⟨C,ty,lo,hi,lo',mn,h1,h2,h3,h4⟩
 ·rcases h' with rfl|⟨C,ty,lo,hi,lo',mn,h1,h2,⟨o,n,ho,hn⟩,h4⟩
  ·exact .inl rfl
  ·exact .inr ⟨C,ty,lo,hi,lo',mn,h1,h2,⟨o,n,hT o ho,hn⟩,fun m hm hS=>h4 m hm (fun o ho ht=>hS o ho (hT o ht))⟩
 ·rcases h' with rfl|⟨C2,ty2,lo2,AM,lo3,hi3,k1,k2,_,k4⟩
  ·exact .inr ⟨C,ty,lo,hi,lo',mn,h1,h2,h3,h4⟩
  ·rw[h2] at k1
   injection k1 with k1
   injection k1 with e1 e2 e3
   injection e3 with e3 e4
   subst e1 e2 e3 e4
   exact .inr ⟨C,ty,lo,hi,lo3,hi3,h1,k2,h3,fun m hm hS=>k4 m (h4 m hm hS) (fun o ho ht=>hS o ho (hT o ht))⟩
structure Step (touch:bM->Prop) (n:Nat) (gh:Gh) (w:World) (aX:Gh) (w' : World):Prop where
 S:∀ b o,gh.S b o->aX.S b o
 cell:∀ b o,gh.S b o->w'.cell? ⟨b,o,none⟩=w.cell? ⟨b,o,none⟩
 size:w.heap.size<=w'.heap.size
 os:w'.os=w.os
 tape:w'.tape=w.tape
 output:w'.output=w.output
 Ap:∀ b,b<w.heap.size->¬ touch (gh.κ b)->Kept (gh.S b) (w.heap[b]?) (w'.heap[b]?)/\aX.κ b=gh.κ b/\∀ o,aX.S b o->gh.S b o
 fresh:∀ b,w.heap.size<=b->aX.κ b≠.outer
 ρ:∀ loc,loc<n->aX.ρ loc=gh.ρ loc
 len:∀ b ty m,py w b ty m->py w' b ty m
 mp:∀ b E ck,gh.S b 0->w.heap[b]?=some (.map E ck)->w'.heap[b]?=some (.map E ck)
theorem Step.refl(touch:bM->Prop)(n:Nat)(gh:Gh)(w:World)(hf:∀ b,w.heap.size<=b->gh.κ b≠.outer):Step touch n gh w gh w :=
 ⟨fun _ _ h=>h,fun _ _ _=>rfl,an4 _,rfl,rfl,rfl,fun _ _ _=>⟨.inl rfl,rfl,fun _ h=>h⟩,hf,fun _ _=>rfl,fun _ _ _ h=>h,fun _ _ _ _ h=>h⟩
theorem Step.mono{touch SY:bM->Prop}{n:Nat}{gh aX:Gh}{w w' : World}(h:Step touch n gh w aX w')(ht:∀ p,touch p->SY p):Step SY n gh w aX w' :=
 { h with Ap:=fun b hb hn=>h.Ap b hb (fun x=>hn (ht _ x)) }
theorem VR.mono{touch:bM->Prop}{n n' : Nat}{gh aX:Gh}{w w' : World}(st:Step touch n gh w aX w')(hn:n<=n')
  {v:Value} {x:AV} (h:VR gh n w v x):VR aX n' w' v x:=by
 induction h with
 | plain v x h=>exact .plain v x (h.mono st.S st.cell st.mp)
 | full a k e h hz=>exact .full a k e (h.mono st.S st.cell st.mp) trivial
 | ref loc off h=>rw[<- st.ρ loc h];exact .ref loc off (apz h hn)
 | sref loc off k cap z h hk hz=>rw[<- st.ρ loc h];exact .sref loc off k cap z (apz h hn) hk (fun h0=>(hz h0).imp fun ty hb=>by rw[st.ρ loc h];exact st.len _ _ _ hb)
 | mref loc h=>rw[<- st.ρ loc h];exact .mref loc (apz h hn)
 | func f fs cs xs ys hf hc _ _ ih1 ih2=>exact .func f fs cs xs ys hf hc ih1 ih2
 | iface t v x _ ih=>exact .iface t v x ih
 | agg cs xs hs gT _ ih=>exact .agg cs xs hs gT ih
 | tuple vs xs hs _ ih=>exact .tuple vs xs hs ih
def KP(gh:Gh)(w:World)(p:bM)(v:Value)(e:List (List AV)):Prop :=
 ∃ b cap C ty lo hi sz,v=.slice (some ⟨b,0,none⟩) e.length cap/\gh.κ b=p/\e≠[]/\w.heap[b]?=some (.cells C ty (lo,hi))/\C.size=cap*sz /\
  (∀ (i:Nat) (r:List AV),e[i]?=some r->r.length=sz)/\e.length<=cap/\hi<=e.length*sz/\(∀ o,e.length*sz<=o->¬ gh.S b o)
theorem KP.mono{touch:bM->Prop}{n:Nat}{gh aX:Gh}{w w' : World}(st:Step touch n gh w aX w'){p:bM}(hp:¬ touch p)
  {v:Value} {e:List (List AV)} (h:KP gh w p v e):KP aX w' p v e:=by
 obtain⟨b,cap,C,ty,lo,hi,sz,hv,hk,he,hb,hC,hr,hl,hh,hS⟩:=h
 have bA:b<w.heap.size:=(aob.1 hb).1
 obtain⟨h1,h2,h3⟩:=st.Ap b bA (by rw[hk];exact hp)
 rcases h1 with h1|⟨C',me,Y7,hi1,lo',mn,k1,k2,_,k4⟩
 ·exact⟨b,cap,C,ty,lo,hi,sz,hv,by rw[h2,hk],he,by rw[h1,hb],hC,hr,hl,hh,fun o ho hs=>hS o ho (h3 o hs)⟩
 ·rw[hb] at k1
  injection k1 with k1
  injection k1 with e1 e2 e3
  injection e3 with e3 e4
  subst e1 e2 e3 e4
  exact⟨b,cap,C,ty,lo',mn,sz,hv,by rw[h2,hk],he,k2,hC,hr,hl,k4 _ hh hS,fun o ho hs=>hS o ho (h3 o hs)⟩
def CR(gh:Gh)(n:Nat)(w:World)(p:bM)(v:Value)(x:AV):Prop :=
 VR gh n w v x\/∃ e,x=.slice e true/\PR gh.S w v (.slice e false)/\KP gh w p v e
theorem CR.mono{touch:bM->Prop}{n n' : Nat}{gh aX:Gh}{w w' : World}(st:Step touch n gh w aX w')(hn:n<=n'){p:bM}(hp:¬ touch p)
  {v:Value} {x:AV} (h:CR gh n w p v x):CR aX n' w' p v x:=by
 rcases h with h|⟨e,rfl,h1,h2⟩
 ·exact .inl (h.mono st hn)
 ·exact .inr ⟨e,rfl,h1.mono st.S st.cell st.mp,h2.mono st hp⟩
theorem CR.dropped{gh:Gh}{n:Nat}{w:World}{p:bM}{v:Value}{x:AV}(h:CR gh n w p v x):VR gh n w v x.drop:=by
 rcases h with h|⟨e,rfl,h1,_⟩
 ·cases h with
  | plain v x h =>
   cases x<;>try exact .plain _ _ h
   cases h<;>first|exact .plain _ _ .dM|exact .plain _ _ (.slice _ _ _ _ _ _ _ ‹_› ‹_› ‹_› ‹_› ‹_›)
  | full a k e h=>exact .plain _ _ h
  | ref loc off h=>exact .ref loc off h
  | sref loc off k cap z h hk hz=>exact .sref loc off k cap z h hk hz
  | mref loc h=>exact .mref loc h
  | func f fs cs xs ys hf hc h1 h2=>exact .func f fs cs xs ys hf hc h1 h2
  | iface t v x h=>exact .iface t v x h
  | agg cs xs hs gT h=>exact .agg cs xs hs gT h
  | tuple vs xs hs h=>exact .tuple vs xs hs h
 ·exact .plain _ _ h1
theorem VR.dropped{gh:Gh}{n:Nat}{w:World}{v:Value}{x:AV}(h:VR gh n w v x):VR gh n w v x.drop:=CR.dropped (p:=.none) (.inl h)
def iw(gh:Gh)(n:Nat)(w:World)(b:Nat)(p:bM)(q:Nat->bM)(cs:List AV):Prop :=
 gh.κ b=p/\(∀ o,¬ gh.S b o)/\∃ C ty,w.heap[b]?=some (.cells C ty (0,0))/\cs.length<=C.size /\
  ∀ (j:Nat) (v:Value) (x:AV),C[j]?=some v->cs[j]?=some x->v.oneCell'=true/\CR gh n w (q j) v x
theorem iw.mono{touch:bM->Prop}{n n' : Nat}{gh aX:Gh}{w w' : World}(st:Step touch n gh w aX w')(hn:n<=n'){b:Nat}{p:bM}{q:Nat->bM}
  (hp:¬ touch p) (hq:∀ j,¬ touch (q j)) {cs:List AV} (h:iw gh n w b p q cs):iw aX n' w' b p q cs:=by
 obtain⟨hk,hS,C,ty,hb,hC,ia⟩:=h
 have bA:b<w.heap.size:=(aob.1 hb).1
 obtain⟨h1,h2,h3⟩:=st.Ap b bA (by rw[hk];exact hp)
 have h1:=h1.none hS
 exact⟨by rw[h2,hk],fun o ho=>hS o (h3 o ho),C,ty,by rw[h1,hb],hC,fun j v x hv hx=>⟨(ia j v x hv hx).1,(ia j v x hv hx).2.mono st hn (hq j)⟩⟩
def qt(gh:Gh)(w:World)(p:bM)(v:Value)(e:List (List AV)):Prop :=
 ∃ a cap,v=.slice a e.length cap/\((e=[]/\cap=0/\∀ ad,a=some ad->ad.spot=none/\True)\/∃ b C ty sz,e≠[]/\a=some ⟨b,0,none⟩/\gh.κ b=p/\(∀ o,¬ gh.S b o)/\w.heap[b]?=some (.cells C ty (0,0))/\C.size=cap*sz /\
  e.length<=cap/\(∀ (i:Nat) (r:List AV),e[i]?=some r->r.length=sz) /\
  ∀ (i j:Nat) (r:List AV) (x:AV),e[i]?=some r->r[j]?=some x->∃ u,C[i*sz+j]?=some u/\PR gh.S w u x)
theorem qt.mono{touch:bM->Prop}{n:Nat}{gh aX:Gh}{w w' : World}(st:Step touch n gh w aX w'){p:bM}(hp:¬ touch p)
  {v:Value} {e:List (List AV)} (h:qt gh w p v e):qt aX w' p v e:=by
 obtain⟨a,cap,hv,h⟩:=h
 refine⟨a,cap,hv,?_⟩
 rcases h with h|⟨b,C,ty,sz,ff,ha,hk,hS,hb,hC,hl,hr,ia⟩
 ·exact .inl ⟨h.1,h.2.1,fun ad ha=>⟨(h.2.2 ad ha).1,trivial⟩⟩
 ·have bA:b<w.heap.size:=(aob.1 hb).1
  obtain⟨h1,h2,h3⟩:=st.Ap b bA (by rw[hk];exact hp)
  have h1:=h1.none hS
  exact .inr ⟨b,C,ty,sz,ff,ha,by rw[h2,hk],fun o ho=>hS o (h3 o ho),by rw[h1,hb],hC,hl,hr,fun i j r x hi hj=>by
   obtain⟨u,hu,hp⟩:=ia i j r x hi hj
   exact⟨u,hu,hp.mono st.S st.cell st.mp⟩⟩
def A6(gh:Gh)(n:Nat)(w:World)(b:Nat)(p:bM)(q:Nat->bM)(kz:Nat)(ka va:Bool)(es:List (List AV)):Prop :=
 gh.κ b=p/\(∀ o,¬ gh.S b o)/\∃ E ck f,w.heap[b]?=some (.map E ck)/\Fb E ck kz ka va es f /\
  (∀ (i j:Nat) (r:List AV) (x:AV),es[i]?=some r->r[j]?=some x->j<kz->PR gh.S w (f i j) x) /\
  ∀ (i j:Nat) (r:List AV) (x:AV),es[i]?=some r->r[j]?=some x->kz<=j->(f i j).oneCell'=true/\(va=true->VR gh n w (f i j) x)/\CR gh n w (q i) (f i j) x
theorem A6.mono{touch:bM->Prop}{n n' : Nat}{gh aX:Gh}{w w' : World}(st:Step touch n gh w aX w')(hn:n<=n'){b:Nat}{p:bM}{q:Nat->bM}(hp:¬ touch p)(hq:∀ i,¬ touch (q i))
  {kz:Nat} {ka va:Bool} {es:List (List AV)} (h:A6 gh n w b p q kz ka va es):A6 aX n' w' b p q kz ka va es:=by
 obtain⟨hk,hS,E,ck,f,hb,hE,h1,h2⟩:=h
 have bA:b<w.heap.size:=(aob.1 hb).1
 obtain⟨k1,k2,k3⟩:=st.Ap b bA (by rw[hk];exact hp)
 have k1:=k1.none hS
 exact⟨by rw[k2,hk],fun o ho=>hS o (k3 o ho),E,ck,f,by rw[k1,hb],hE,fun i j r x hi hj hl=>(h1 i j r x hi hj hl).mono st.S st.cell st.mp,
  fun i j r x hi hj hl=>⟨(h2 i j r x hi hj hl).1,fun hv=>((h2 i j r x hi hj hl).2.1 hv).mono st hn,(h2 i j r x hi hj hl).2.2.mono st hn (hq i)⟩⟩
def sP(gh:Gh)(n:Nat)(w:World)(b loc:Nat):cJ->Prop
 | .map kz ka va es=>A6 gh n w b (.hb loc) (fun i=>.hs loc i) kz ka va es/\(es.all fun r=>r.all (bD loc))=true
 | .fJ kz ka va es=>PR gh.S w (.map (some b)) (.fJ kz ka va es)
 | .Ji cs=>PR gh.S w (.pointer (some ⟨b,0,none⟩)) (.eptr cs)
 | .ba cs=>iw gh n w b (.hb loc) (fun j=>.hs loc j) cs
 | _=>True
theorem sP.mono{touch:bM->Prop}{n n' : Nat}{gh aX:Gh}{w w' : World}(st:Step touch n gh w aX w')(hn:n<=n'){b loc:Nat}(hp:¬ touch (.hb loc))(hq:∀ i,¬ touch (.hs loc i))
  {o:cJ} (h:sP gh n w b loc o):sP aX n' w' b loc o:=by
 cases o with
 | map kz ka va es=>exact⟨h.1.mono st hn hp hq,h.2⟩
 | fJ kz ka va es=>exact PR.mono st.S st.cell st.mp h
 | Ji cs=>exact PR.mono st.S st.cell st.mp h
 | ba cs=>exact iw.mono st hn hp hq h
 | _=>trivial
def vq(gh:Gh)(w:World)(b:Nat)(p:bM)(kz:Nat)(ka va:Bool)(cur:List AV)(todo:List (List AV)):Prop :=
 gh.κ b=p/\(∀ o,¬ gh.S b o)/\∃ (m:Option Nat) (since:Nat) (seen:Array Nat) (last:Nat),w.heap[b]?=some (.mapIter m since seen last) /\
  ((m=none/\todo=[]/\seen=#[]/\cur=[])\/∃ m0 E es ck f,m=some m0/\gh.S m0 0/\w.heap[m0]?=some (.map E ck)/\vt E ck kz ka va es f/\since=ck/\last=ck /\
   (∀ (i j:Nat) (r:List AV) (x:AV),es[i]?=some r->r[j]?=some x->PR gh.S w (f i j) x) /\
   ((seen.back?=none/\cur=[])\/∃ (s i:Nat) (e:MapEntry),seen.back?=some s/\E[i]?=some e/\e.born=s/\es[i]?=some cur) /\
   todo.Perm (((E.toList.zip es).filter fun p=>!seen.contains p.1.born).map (·.2)))
theorem vq.mono{touch:bM->Prop}{n:Nat}{gh aX:Gh}{w w' : World}(st:Step touch n gh w aX w'){b:Nat}{p:bM}(hp:¬ touch p)
  {kz:Nat} {ka va:Bool} {cur:List AV} {todo:List (List AV)} (h:vq gh w b p kz ka va cur todo):vq aX w' b p kz ka va cur todo:=by
 obtain⟨hk,hS,m,since,seen,last,hb,h⟩:=h
 have bA:b<w.heap.size:=(aob.1 hb).1
 obtain⟨k1,k2,k3⟩:=st.Ap b bA (by rw[hk];exact hp)
 have k1:=k1.none hS
 refine⟨by rw[k2,hk],fun o ho=>hS o (k3 o ho),m,since,seen,last,by rw[k1,hb],?_⟩
 rcases h with h|⟨m0,E,es,ck,f,h1,h2,h3,h4,h5,h6,h7,h8,h9⟩
 ·exact .inl h
 ·exact .inr ⟨m0,E,es,ck,f,h1,st.S _ _ h2,st.mp _ _ _ h2 h3,h4,h5,h6,fun i j r x hi hj=>(h7 i j r x hi hj).mono st.S st.cell st.mp,h8,h9⟩
def SR(gh:Gh)(n nt:Nat)(w:World)(T:aU)(gen:Nat)(tm:Nat->Value)(i:Nat)(v:Value)(x:AV):Prop :=
 match x with
 | .lbox g cs=>g<gen/\∃ b,v=.pointer (some ⟨b,0,none⟩)/\iw gh n w b (.bx i) (fun j=>.sc i j) cs
 | .lsl g e=>g<gen/\qt gh w (.bx i) v e
 | .lref s g off=>s<nt/\g<gen/\(bB (T s)=some g->∀ b,tm s=.pointer (some ⟨b,0,none⟩)->v=.pointer (some ⟨b,off,none⟩))
 | .lsr s g=>s<nt/\g<gen/\(bB (T s)=some g->v=tm s)
 | .eref s g r z off=>s<nt/\g<gen/\(bB (T s)=some g->∀ b k cap,tm s=.slice (some ⟨b,0,none⟩) k cap->v=.pointer (some ⟨b,r*z+off,none⟩))
 | .iter g kz ka va cur todo=>g<gen/\∃ b,v=.pointer (some ⟨b,0,none⟩)/\vq gh w b (.bx i) kz ka va cur todo
 | x=>CR gh n w (.sl i) v x
structure bc (G:Nat->List AV) (base:Nat) (H:ai) (gh:Gh) (w:World):Prop where
 size:base<=w.heap.size
 nT:∀ b o,gh.S b o->b<w.heap.size
 pR:∀ b,gh.κ b≠.none->base<=b/\b<w.heap.size
 aZ:∀ (g j:Nat) (x:AV),(G g)[j]?=some x->∃ v,w.cell? ⟨g,j,none⟩=some v/\PR gh.S w v x/\gh.S g j
 boxes:∀ (loc:Nat) (ty:TypeId) (cs:List AV),H[loc]?=some (cJ.box ty cs)->iw gh H.length w (gh.ρ loc) (.hb loc) (fun j=>.hs loc j) cs
 refs:∀ (loc:Nat) (ty:TypeId) (cs:List AV),H[loc]?=some (cJ.box ty cs)->cs.all (bD loc)=true
 xE:∀ g,G g≠[]->∃ ty,py w g ty (G g).length
 bytes:∀ b o n,gh.S b o->w.cell? ⟨b,o,none⟩=some (.int .u8 n)->∃ C fr,w.heap[b]?=some (.cells C jc fr)
 more:∀ (loc:Nat) (o:cJ),H[loc]?=some o->sP gh H.length w (gh.ρ loc) loc o
 types:∀ (loc:Nat) (ty:TypeId) (cs:List AV),H[loc]?=some (cJ.box ty cs)->ty≠dv->py w (gh.ρ loc) ty cs.length
structure ahh (nt:Nat) (gh:Gh) (w:World) (a:Act) (s:AS):Prop where
 defers:a.defers=[]
 size:a.tmps.size=nt
 slot:∀ i,i<nt->SR gh s.H.length nt w s.T s.gen (fun k=>a.tmps.getD k undef) i (a.tmps.getD i undef) (s.T i)
theorem bc.kB{G:Nat->List AV}{base:Nat}{H:ai}{gh aX:Gh}{w w' : World}{touch:bM->Prop}{n:Nat}(h:bc G base H gh w)(st:Step touch n gh w aX w')
  (lG:∀ b o m,aX.S b o->gh.S b o\/(w'.cell? ⟨b,o,none⟩=some (.int .u8 m)->∃ C fr,w'.heap[b]?=some (.cells C jc fr))) :
  ∀ b o m,aX.S b o->w'.cell? ⟨b,o,none⟩=some (.int .u8 m)->∃ C fr,w'.heap[b]?=some (.cells C jc fr):=by
 intro b o m hs hc
 rcases lG b o m hs with ho|hn
 ·obtain⟨C,fr,h1⟩:=h.bytes b o m ho (by rw[<- st.cell b o ho];exact hc)
  obtain⟨C',fr',h2,_⟩:=st.len b jc C.size ⟨C,fr,h1,rfl⟩
  exact⟨C',fr',h2⟩
 ·exact hn hc
theorem bc.fresh{G:Nat->List AV}{base:Nat}{H:ai}{gh:Gh}{w:World}(h:bc G base H gh w)(b:Nat)(hb:w.heap.size<=b):gh.κ b=.none:=by
 by_cases hk:gh.κ b=.none
 ·exact hk
 ·have:=(h.pR b hk).2;omega
theorem SR.mono{touch:bM->Prop}{n n' nt:Nat}{gh aX:Gh}{w w' : World}(st:Step touch n gh w aX w')(hn:n<=n'){T T' : aU}{gen gen' : Nat}(hg:gen<=gen')
  {tm tm' : Nat->Value} {i:Nat} (h1:¬ touch (.bx i)) (h2:¬ touch (.sl i)) (h3:∀ j,¬ touch (.sc i j))
  (hT:∀ s,s<nt->(bB (T' s)=bB (T s)/\tm' s=tm s)\/bB (T' s)=none\/∃ g,gen<=g/\bB (T' s)=some g)
  {v:Value} {x:AV} (h:SR gh n nt w T gen tm i v x):SR aX n' nt w' T' gen' tm' i v x:=by
 have key:∀ s g,s<nt->g<gen->bB (T' s)=some g->bB (T s)=some g/\tm' s=tm s:=by
  intro s g hs D4 sf
  rcases hT s hs with ⟨h,h'⟩|h|⟨g',hg',h⟩
  ·exact⟨h ▸ sf,h'⟩
  ·rw[h] at sf;cases sf
  ·rw[h] at sf;injection sf with e;omega
 cases x
 case lbox g cs =>
  obtain⟨JF,b,hv,hb⟩:=h
  exact⟨by omega,b,hv,hb.mono st hn h1 h3⟩
 case lsl g e=>exact⟨by have:=h.1;omega,h.2.mono st h1⟩
 case iter g kz ka va cur todo =>
  obtain⟨JF,b,hv,hb⟩:=h
  exact⟨by omega,b,hv,hb.mono st h1⟩
 case lref s g off =>
  obtain⟨hs,JF,hr⟩:=h
  refine⟨hs,by omega,fun sf b hb=>?_⟩
  obtain⟨k1,k2⟩:=key s g hs JF sf
  exact hr k1 b (k2 ▸ hb)
 case lsr s g =>
  obtain⟨hs,JF,hr⟩:=h
  refine⟨hs,by omega,fun sf=>?_⟩
  obtain⟨k1,k2⟩:=key s g hs JF sf
  rw[k2];exact hr k1
 case eref s g r z off =>
  obtain⟨hs,JF,hr⟩:=h
  refine⟨hs,by omega,fun sf b k cap hb=>?_⟩
  obtain⟨k1,k2⟩:=key s g hs JF sf
  exact hr k1 b k cap (k2 ▸ hb)
 all_goals exact CR.mono st hn h2 h
def pv(p:bM):Prop:=p≠.none/\p≠.outer
structure Ext (n:Nat) (gh:Gh) (w:World) (aX:Gh) (w' : World):Prop where
 step:Step pv n gh w aX w'
 out:∀ b,aX.κ b=.outer->gh.κ b=.outer
theorem Ext.refl(n:Nat)(gh:Gh)(w:World)(hf:∀ b,w.heap.size<=b->gh.κ b≠.outer):Ext n gh w gh w:=⟨Step.refl _ n gh w hf,fun _ h=>h⟩
theorem Ext.trans{n n' : Nat}{g1 g2 g3:Gh}{w1 w2 w3:World}(h:Ext n g1 w1 g2 w2)(h' : Ext n' g2 w2 g3 w3)(hn:n<=n'):Ext n g1 w1 g3 w3:=by
 refine⟨⟨fun b o hs=>h'.step.S b o (h.step.S b o hs),fun b o hs=>(h'.step.cell b o (h.step.S b o hs)).trans (h.step.cell b o hs),apk h.step.size h'.step.size,
  h'.step.os.trans h.step.os,h'.step.tape.trans h.step.tape,h'.step.output.trans h.step.output,?_,?_,fun loc hl=>(h'.step.ρ loc (apz hl hn)).trans (h.step.ρ loc hl),fun b ty m hb=>h'.step.len b ty m (h.step.len b ty m hb),fun b E ck hs hb=>h'.step.mp b E ck (h.step.S b 0 hs) (h.step.mp b E ck hs hb)⟩,fun b hb=>h.out b (h'.out b hb)⟩
 ·intro b hb hnt
  obtain⟨a1,a2,a3⟩:=h.step.Ap b hb hnt
  obtain⟨c1,c2,c3⟩:=h'.step.Ap b (apz hb h.step.size) (by rw[a2];exact hnt)
  exact⟨a1.trans c1 a3,c2.trans a2,fun o ho=>a3 o (c3 o ho)⟩
 ·intro b hb ho
  have:=h'.out b ho
  by_cases lT:w2.heap.size<=b
  ·exact h'.step.fresh b lT ho
  ·exact h.step.fresh b hb this
structure FR (L:List Nat) (nt:Nat) (gh:Gh) (w:World) (a:Act) (s:AS):Prop extends ahh nt gh w a s where
 obj:∀ i,(bB (s.T i)).isSome=true->i∈L
def gv(a:Act)(k:Nat):Value:=a.tmps.getD k undef
theorem ou(a:Act)(d:Nat)(v:Value)(k:Nat)(hd:d<a.tmps.size):gv (a.put (some d) v) k=if k=d then v else gv a k:=by
 unfold gv Act.put
 by_cases h:k=d
 ·subst h;simp[hd]
 ·simp[h,aqw (apO h)]
theorem gI(a b:Nat):Nat.beq a b=decide (a=b):=by
 by_cases h:a=b
 ·subst h;simp
 ·have h1:Nat.beq a b≠true:=fun h'=>h (aph h')
  rw[aoP h]
  exact Bool.eq_false_iff.2 h1
theorem iZ(T:aU)(d:Nat)(v:AV)(k:Nat):T.put d v k=if k=d then v else T k:=by
 unfold aU.put
 rw[gI]
 by_cases h:k=d
 ·subst h;simp
 ·simp[h]
theorem FR.update{L:List Nat}{nt:Nat}{gh aX:Gh}{w w' : World}{a a' : Act}{s s' : AS}{touch:bM->Prop}(h:FR L nt gh w a s)
  (st:Step touch s.H.length gh w aX w') (ahR:a'.defers=[]) (iF:a'.tmps.size=nt) (hn:s.H.length<=s'.H.length) (hg:s.gen<=s'.gen)
  (D:Nat->Prop)
  (PM:∀ i,¬ D i->s'.T i=s.T i/\(i<nt->gv a' i=gv a i/\¬ touch (.bx i)/\¬ touch (.sl i)/\∀ j,¬ touch (.sc i j)))
  (aeK:∀ i,D i->(i<nt/\bB (s'.T i)=bB (s.T i)/\gv a' i=gv a i)\/bB (s'.T i)=none\/(i∈L/\∃ g,s.gen<=g/\bB (s'.T i)=some g))
  (lG:∀ i,D i->i<nt->SR aX s'.H.length nt w' s'.T s'.gen (gv a') i (gv a' i) (s'.T i)):FR L nt aX w' a' s':=by
 have hT:∀ i,i<nt->(bB (s'.T i)=bB (s.T i)/\gv a' i=gv a i)\/bB (s'.T i)=none\/∃ g,s.gen<=g/\bB (s'.T i)=some g:=by
  intro i hi
  by_cases hD:D i
  ·rcases aeK i hD with ⟨_,h⟩|h|⟨_,h⟩
   ·exact .inl h
   ·exact .inr (.inl h)
   ·exact .inr (.inr h)
  ·obtain⟨k1,k2⟩:=PM i hD
   exact .inl ⟨by rw[k1],(k2 hi).1⟩
 refine⟨⟨ahR,iF,fun i hi=>?_⟩,fun i hi=>?_⟩
 ·by_cases hD:D i
  ·exact lG i hD hi
  ·obtain⟨k1,k2⟩:=PM i hD
   obtain⟨k3,t1,t2,t3⟩:=k2 hi
   show SR aX s'.H.length nt w' s'.T s'.gen (gv a') i (gv a' i) (s'.T i)
   rw[k1,k3]
   exact SR.mono st hn hg t1 t2 t3 hT (h.slot i hi)
 ·by_cases hD:D i
  ·rcases aeK i hD with ⟨_,h',_⟩|h'|⟨h',_⟩
   ·exact h.obj i (by rw[<- h'];exact hi)
   ·rw[h'] at hi;cases hi
   ·exact h'
  ·rw[(PM i hD).1] at hi
   exact h.obj i hi
def mP(gh:Gh)(n nt:Nat)(w:World)(T:aU)(gen:Nat)(tm:Nat->Value)(v:Value)(x:AV):Prop :=
 match x with
 | .lbox ..|.lsl ..|.iter ..=>False
 | .lref s g off=>s<nt/\g<gen/\(bB (T s)=some g->∀ b,tm s=.pointer (some ⟨b,0,none⟩)->v=.pointer (some ⟨b,off,none⟩))
 | .lsr s g=>s<nt/\g<gen/\(bB (T s)=some g->v=tm s)
 | .eref s g r z off=>s<nt/\g<gen/\(bB (T s)=some g->∀ b k cap,tm s=.slice (some ⟨b,0,none⟩) k cap->v=.pointer (some ⟨b,r*z+off,none⟩))
 | x=>VR gh n w v x
theorem mP.bB{gh:Gh}{n nt:Nat}{w:World}{T:aU}{gen:Nat}{tm:Nat->Value}{v:Value}{x:AV}(h:mP gh n nt w T gen tm v x):bB x=none:=by
 cases x<;>first|rfl|exact h.elim
theorem mP.sr{gh:Gh}{n nt:Nat}{w:World}{T:aU}{gen:Nat}{tm:Nat->Value}{v:Value}{x:AV}(h:mP gh n nt w T gen tm v x)(i:Nat):SR gh n nt w T gen tm i v x:=by
 cases x<;>first|exact h.elim|exact h|exact .inl h
theorem mP.dO{gh:Gh}{n nt:Nat}{w:World}{T:aU}{gen:Nat}{tm:Nat->Value}{v:Value}{x:AV}(h:VR gh n w v x):mP gh n nt w T gen tm v x:=by
 cases h with
 | plain v x h=>have h0:=h;cases h<;>exact .plain _ _ h0
 | full a k e h hz=>exact .full a k e h hz
 | ref loc off h=>exact .ref loc off h
 | sref loc off k cap z h hk hz=>exact .sref loc off k cap z h hk hz
 | mref loc h=>exact .mref loc h
 | func f fs cs xs ys hf hc h1 h2=>exact .func f fs cs xs ys hf hc h1 h2
 | iface t v x h=>exact .iface t v x h
 | agg cs xs hs gT h=>exact .agg cs xs hs gT h
 | tuple vs xs hs h=>exact .tuple vs xs hs h
theorem jt(s:AS)(d:Option Nat)(x:AV):(s.bW d x).H=s.H/\(s.bW d x).gen=s.gen/\(s.bW d x).lo=s.lo:=by cases d<;>exact⟨rfl,rfl,rfl⟩
theorem HD(a:Act)(d:Option Nat)(v:Value):(a.put d v).tmps.size=a.tmps.size:=by cases d<;>simp[Act.put]
theorem xb(a:Act)(d:Option Nat)(v:Value):(a.put d v).defers=a.defers:=by cases d<;>rfl
theorem FR.put{L:List Nat}{nt:Nat}{gh aX:Gh}{w w' : World}{a:Act}{s:AS}{H' : ai}{lo' : Nat}{touch:bM->Prop}(h:FR L nt gh w a s)(st:Step touch s.H.length gh w aX w')
  (ht:∀ i,¬ touch (.bx i)/\¬ touch (.sl i)/\∀ j,¬ touch (.sc i j)) (hH:s.H.length<=H'.length)
  (d:Option Nat) (hd:∀ k,d=some k->k<nt) {v:Value} {x:AV} (hv:mP aX H'.length nt w' s.T s.gen (gv a) v x) :
  FR L nt aX w' (a.put d v) (({ s with H:=H',lo:=lo' } : AS).bW d x):=by
 cases d with
 | none =>
  exact h.update st h.defers h.size hH (an4 _) (fun _=>False) (fun i _=>⟨rfl,fun _=>⟨rfl,ht i⟩⟩) (fun _ h=>h.elim) (fun _ h=>h.elim)
 | some d =>
  have bA:=hd d rfl
  have iF:d<a.tmps.size:=by rw[h.size];exact bA
  refine h.update (s':=({ s with H:=H',lo:=lo' } : AS).bW (some d) x) st ((xb a (some d) v).trans h.defers) ((HD a (some d) v).trans h.size) hH (an4 _) (fun i=>i=d) ?_ ?_ ?_
  ·intro i hi
   refine⟨by simp[AS.bW,AS.cy,iZ,hi],fun _=>⟨by rw[ou a d v i iF,if_neg hi],ht i⟩⟩
  ·rintro i rfl
   exact .inr (.inl (by simp[AS.bW,AS.cy,iZ];exact hv.bB))
  ·rintro i rfl hi
   simp only[AS.bW,AS.cy,iZ,apu]
   rw[ou a i v i iF,if_pos rfl]
   refine SR.mono (touch:=fun _=>False) (n:=H'.length) (gh:=aX) (w:=w') (Step.refl _ _ _ _ (fun b hb=>st.fresh b (apk st.size hb))) (an4 _) (an4 _) id id (fun _=>id) ?_ (hv.sr i)
   intro k hk
   by_cases N6:k=i
   ·subst N6;exact .inr (.inl (by simp[aU.put];exact hv.bB))
   ·exact .inl ⟨by simp[iZ,N6],by rw[ou a i v k iF,if_neg N6]⟩
section
section
variable {gh:Gh}{n:Nat}{w:World}{v:Value}
theorem VR.jM{b:Bool}(h:VR gh n w v (.bool b)):v=.bool b:=by cases h with|plain _ _ h=>cases h;rfl
theorem VR.ju{k:IntKind}{m:Int}(h:VR gh n w v (.int k m)):v=.int k m:=by cases h with|plain _ _ h=>cases h;rfl
theorem VR.jv{l:List UInt8}(h:VR gh n w v (.str l)):∃ s:ByteArray,v=.string s/\s.data.toList=l:=by cases h with|plain _ _ h=>cases h;exact⟨_,rfl,‹_›⟩
theorem VR.uU(h:VR gh n w v .cx):v=.nilIface:=by cases h with|plain _ _ h=>cases h;rfl
theorem VR.wZ(h:VR gh n w v .cW):v=.nilFunc:=by cases h with|plain _ _ h=>cases h;rfl
theorem VR.M8{t:TypeId}{x:AV}(h:VR gh n w v (.iface t x)):∃ u,v=.iface t u:=by
 cases h with
 | plain _ _ h=>cases h;exact⟨_,rfl⟩
 | iface _ _ _ _=>exact⟨_,rfl⟩
theorem VR.lJ(h:VR gh n w v .af):v=.slice none 0 0:=by cases h with|plain _ _ h=>cases h;rfl
theorem VR.iU{e:List (List AV)}(h:VR gh n w v (.slice e false)):PR gh.S w v (.slice e false):=by cases h with|plain _ _ h=>exact h
theorem VR.uT{cs:List AV}(h:VR gh n w v (.eptr cs)):PR gh.S w v (.eptr cs):=by cases h with|plain _ _ h=>exact h
theorem VR.lV{loc off:Nat}(h:VR gh n w v (.ref loc off)):loc<n/\v=.pointer (some ⟨gh.ρ loc,off,none⟩):=by
 cases h with
 | plain _ _ h=>cases h
 | ref _ _ h=>exact⟨h,rfl⟩
theorem VR.jN{loc off k z:Nat}(h:VR gh n w v (.sref loc off k z)):loc<n/\∃ cap,k<=cap/\(z≠0->∃ ty,py w (gh.ρ loc) ty (off+cap*z))/\v=.slice (some ⟨gh.ρ loc,off,none⟩) k cap:=by
 cases h with
 | plain _ _ h=>cases h
 | sref _ _ _ cap _ h hk hz=>exact⟨h,cap,hk,hz,rfl⟩
theorem VR.nC{loc:Nat}(h:VR gh n w v (.mref loc)):loc<n/\v=.map (some (gh.ρ loc)):=by
 cases h with
 | plain _ _ h=>cases h
 | mref _ h=>exact⟨h,rfl⟩
theorem VR.ra{f:Fn}{xs ys:List AV}(h:VR gh n w v (.func f xs ys)):∃ fs cs,v=.func f fs cs/\fs.size=xs.length/\cs.size=ys.length /\
  (∀ (j:Nat) (v:Value) (x:AV),fs[j]?=some v->xs[j]?=some x->VR gh n w v x)/\(∀ (j:Nat) (v:Value) (x:AV),cs[j]?=some v->ys[j]?=some x->VR gh n w v x):=by
 cases h with
 | plain _ _ h=>cases h;exact⟨#[],#[],rfl,rfl,rfl,fun j v x h=>by simp at h,fun j v x h=>by simp at h⟩
 | func _ fs cs _ _ hf hc h1 h2=>exact⟨fs,cs,rfl,hf,hc,h1,h2⟩
theorem VR.ku{xs:List AV}(h:VR gh n w v (.agg xs)):∃ cs:Array Value,v=.agg cs/\cs.size=xs.length/\(∀ (j:Nat) (v:Value),cs[j]?=some v->v.oneCell'=true) /\
  (∀ (j:Nat) (v:Value) (x:AV),cs[j]?=some v->xs[j]?=some x->VR gh n w v x):=by
 cases h with
 | plain _ _ h=>cases h
 | agg cs _ hs gT h=>exact⟨cs,rfl,hs,gT,h⟩
theorem VR.rP{xs:List AV}(h:VR gh n w v (.tuple xs)):∃ vs:Array Value,v=.tuple vs/\vs.size=xs.length /\
  (∀ (j:Nat) (v:Value) (x:AV),vs[j]?=some v->xs[j]?=some x->VR gh n w v x):=by
 cases h with
 | plain _ _ h=>cases h
 | tuple vs _ hs h=>exact⟨vs,rfl,hs,h⟩
theorem VR.M9(h:VR gh n w v .undef):v=undef:=by
 obtain⟨vs,rfl,hs,_⟩:=h.rP
 have:vs=#[]:=apY (by simpa using hs)
 subst this;rfl
end
theorem VR.undef{gh:Gh}{n:Nat}{w:World} : VR gh n w undef .undef:=.tuple #[] [] rfl (fun j v x h=>by simp at h)
theorem um{gh:Gh}{n:Nat}{w:World}{v:Value}{x:AV}(h:j2 v=some x):VR gh n w v x:=by
 unfold j2 at h
 split at h<;>first|(injection h with h;subst h)|cases h
 ·exact .plain _ _ (.bool _)
 ·exact .plain _ _ (.int _ _)
 ·exact .plain _ _ (.str _ _ rfl)
 ·exact .full none 0 [] .dM trivial
 ·exact .plain _ _ .dQ
 ·exact .plain _ _ .dF
 ·exact .plain _ _ .cW
 ·exact .plain _ _ .cx
theorem kg{gh:Gh}{n:Nat}{w:World} : ∀ {vs:List Value} {xs:List AV},ft vs=some xs->vs.length=xs.length /\
  ∀ (j:Nat) (v:Value) (x:AV),vs[j]?=some v->xs[j]?=some x->VR gh n w v x/\v.oneCell'=true
 | [],xs,h=>by simp[ft] at h;subst h;exact⟨rfl,fun j v x h=>by simp at h⟩
 | v :: r,xs,h=>by
  simp only[ft,anU,anT] at h
  obtain⟨x,hx,ys,hy,rfl⟩:=h
  obtain⟨h1,h2⟩:=kg (gh:=gh) (n:=n) (w:=w) hy
  refine⟨by simp[h1],fun j u y hu hy=>?_⟩
  cases j with
  | zero =>
   simp at hu hy
   subst hu hy
   refine⟨um hx,?_⟩
   unfold j2 at hx
   split at hx<;>first|rfl|cases hx
  | succ j=>exact h2 j u y (by simpa using hu) (by simpa using hy)
theorem IV{gh:Gh}{n:Nat}{w:World}{v:Value}{x:AV}(h:j2 v=some x):VR gh n w v (mD x):=by
 have h0:=um (gh:=gh) (n:=n) (w:=w) h
 unfold j2 at h
 split at h<;>first|(injection h with h;subst h)|cases h
 all_goals first|exact h0|exact .plain _ _ .af
theorem sv:∀ {vs:List Value} {xs:List AV},ft vs=some xs->∀ (j:Nat) (v:Value) (x:AV),vs[j]?=some v->xs[j]?=some x->j2 v=some x
 | [],_,_,j,v,x,hv,_=>by simp at hv
 | u :: r,xs,h,j,v,x,hv,hx=>by
  simp only[ft,anU,anT] at h
  obtain⟨y,hy,ys,P0,rfl⟩:=h
  cases j with
  | zero=>simp at hv hx;subst hv hx;exact hy
  | succ j=>exact sv P0 j v x (by simpa using hv) (by simpa using hx)
theorem jG{gh:Gh}{n:Nat}{w:World}{v:Value}{x:AV}(h:qE v=some x):VR gh n w v x:=by
 unfold qE at h
 split at h
 ·rename_i vs
  simp only[anT] at h
  obtain⟨l,hl,rfl⟩:=h
  obtain⟨h1,h2⟩:=kg (gh:=gh) (n:=n) (w:=w) hl
  refine .agg vs _ (by simpa using h1) (fun j v hv=>?_) (fun j v x hv hx=>?_)
  ·have hj:vs.toList[j]?=some v:=by simpa using hv
   obtain⟨y,hy⟩:∃ y,l[j]?=some y:=by
    have:j<vs.toList.length:=(an2.1 hj).1
    exact⟨_,an3 (by omega)⟩
   exact (h2 j v y hj hy).2
  ·rw[aol,anT] at hx
   obtain⟨y,hy,rfl⟩:=hx
   exact IV (sv hl j v y (by simpa using hv) hy)
 ·exact um h
section
variable {G:Nat->List AV}{base nt:Nat}{L:List Nat}{gh:Gh}{w:World}{a:Act}{s:AS}{x:Operand}{y:aC}
theorem Uc(hW:bc G base s.H gh w)(g:Nat):VR gh s.H.length w (.pointer (some ⟨g,0,none⟩)) (.eptr (G g)):=by
 refine .plain _ _ ?_
 let f:Nat->Value:=fun j=>(w.cell? ⟨g,j,none⟩).getD undef
 refine .eptr g 0 (G g) f ?_ ?_
 ·intro j x h
  obtain⟨v,hv,hp,hs⟩:=hW.aZ g j x h
  refine⟨by simpa using hs,by simp[f,hv],?_⟩
  simp only[f,hv,ao3];exact hp.fR
 ·intro j x h
  obtain⟨v,hv,hp,hs⟩:=hW.aZ g j x h
  simp only[f,hv,ao3];exact hp
theorem arg_val(hW:bc G base s.H gh w)(hF:FR L nt gh w a s)(hc:au nt x=some y) :
  mP gh s.H.length nt w s.T s.gen (gv a) (a.eval x) (y.addr G s.T).drop:=by
 cases x with
 | tmp t =>
  simp only[au] at hc
  rcases ao4 (Nat.blt t nt) with hb|hb<;>rw[hb] at hc<;>simp at hc
  subst hc
  have bA:t<nt:=by simpa [aoE] using hb
  have h:=hF.slot t bA
  show mP gh s.H.length nt w s.T s.gen (gv a) (gv a t) _
  change SR gh s.H.length nt w s.T s.gen (gv a) t (gv a t) (s.T t) at h
  simp only[aC.addr]
  generalize hX:s.T t=X at h
  cases X
  case lbox g cs =>
   obtain⟨hg,b,hv,_⟩:=h
   refine⟨bA,hg,fun _ b' gO=>gO⟩
  case lsl g e=>exact⟨bA,h.1,fun _=>rfl⟩
  case lref=>exact h
  case lsr=>exact h
  case eref=>exact h
  case iter g kz ka va cur todo =>
   obtain⟨_,b,hv,_⟩:=h
   rw[hv]
   exact .dO (.plain _ _ (.any _ rfl))
  all_goals exact .dO (CR.dropped h)
 | const v =>
  simp only[au,anT] at hc
  obtain⟨z,hz,rfl⟩:=hc
  exact .dO (VR.dropped (jG hz))
 | global g =>
  simp only[au,anV] at hc
  subst hc
  exact .dO (VR.dropped (Uc hW g))
 | func f =>
  simp only[au,anV] at hc
  subst hc
  exact .dO (.plain _ _ (.func _))
theorem L4{T:aU}(h:bB (y.eval G T)=none):y.addr G T=y.eval G T:=by
 cases y with
 | tmp t =>
  simp only[aC.addr,aC.eval] at h ⊢
  cases hX:T t<;>rw[hX] at h<;>first|rfl|(simp[bB] at h)
 | bC v=>rfl
 | aZ g=>rfl
 | fn f=>rfl
theorem mP.vr{n:Nat}{T:aU}{gen:Nat}{tm:Nat->Value}{v:Value}{z:AV}(h:mP gh n nt w T gen tm v z)(hz:aH z=true):VR gh n w v z:=by
 cases z<;>first|exact h|(simp[aH] at hz)
theorem jJ{z:AV} : aH z.drop=aH z:=by cases z<;>rfl
theorem cY(hW:bc G base s.H gh w)(hF:FR L nt gh w a s)(hc:au nt x=some y){z:AV}(hz:y.eval G s.T=z)(hf:aH z=true) :
  VR gh s.H.length w (a.eval x) z.drop:=by
 have hg:bB (y.eval G s.T)=none:=by rw[hz];cases z<;>first|rfl|(simp[aH] at hf)
 have h:=arg_val hW hF hc
 rw[L4 hg,hz] at h
 exact h.vr (by rw[jJ];exact hf)
theorem nV(hW:bc G base s.H gh w)(hF:FR L nt gh w a s)(hc:au nt x=some y){z:AV}(hz:y.addr G s.T=z)(hf:aH z=true) :
  VR gh s.H.length w (a.eval x) z.drop:=by
 have h:=arg_val hW hF hc
 rw[hz] at h
 exact h.vr (by rw[jJ];exact hf)
theorem Ci(hF:FR L nt gh w a s){t:Nat}(bA:t<nt){e:List (List AV)}{own:Bool}(hz:s.T t=.slice e own):CR gh s.H.length w (.sl t) (a.eval (.tmp t)) (.slice e own):=by
 have h:=hF.slot t bA
 rw[hz] at h
 exact h
end
end
section
section
variable {P:Program}{G:Nat->List AV}{base nt:Nat}{L:List Nat}{gh:Gh}{w:World}{a:Act}{s:AS}
theorem ag{α:Type}{b:Bool}{x:Option α}{y:α}(h:cond b x none=some y):b=true/\x=some y:=by cases b<;>simp_all
theorem aad(hW:bc G base s.H gh w)(hF:FR L nt gh w a s){x:Operand}{y:aC}{take obj:Bool}{z:AV}(hc:au nt x=some y)
  (he:mB G s take obj y=some (z,none)):mP gh s.H.length nt w s.T s.gen (gv a) (a.eval x) z:=by
 have h:=arg_val hW hF hc
 cases y with
 | tmp t =>
  simp only[mB] at he
  simp only[aC.addr] at h
  generalize hX:s.T t=X at h he
  cases X<;>simp only[anV,anY,apt] at he<;>(try subst he)<;>(try exact h)
  case slice e own =>
   cases take<;>cases own<;>simp at he<;>subst he<;>exact h
  case lsl g e =>
   cases take
   ·simp at he;subst he;exact h
   ·cases obj
    ·cases hn:js e<;>rw[hn] at he<;>simp at he
    ·simp at he
  case iter=>cases he
 | bC v =>
  simp only[mB,aC.eval,anV,anY,apt] at he
  subst he
  cases x<;>simp only[au,anT,anV,reduceCtorEq,aqv,aqA] at hc
  case tmp t=>exact absurd (ag hc).2 (by simp)
  case const v' =>
   obtain⟨z,hz,hy⟩:=hc
   injection hy with hy
   subst hy
   exact .dO (jG hz)
 | aZ g =>
  simp only[mB,aC.eval,anV,anY,apt] at he
  subst he
  exact h
 | fn f =>
  simp only[mB,aC.eval,anV,anY,apt] at he
  subst he
  exact h
theorem kJ(hW:bc G base s.H gh w)(hF:FR L nt gh w a s){x:Operand}{y:aC}(hc:au nt x=some y){k:Nat}(h:asNat (y.eval G s.T)=some k) :
  ∃ kd,a.eval x=.int kd (k:Int):=by
 unfold asNat at h
 split at h
 ·rename_i kd m hy
  obtain⟨h0,h1⟩:=ag h
  have hm:(0:Int)<=m:=by simpa using h0
  have Pu:m.toNat=k:=by simpa using h1
  have hv:=(cY hW hF hc hy rfl).ju
  exact⟨kd,by rw[hv,<- Pu,apX hm]⟩
 ·cases h
theorem mJ{t:TypeId}{k:Nat}(h:fz P t=some k):∃ i,P.info? t=some i/\i.size=k:=by
 simpa [fz,anT] using h
theorem fy{t:TypeId}{k:Nat}(h:fz P t=some k)(w:World):(sizeOf t).run P w=.ok k w:=by
 obtain⟨i,hi,hk⟩:=mJ h
 simp[sizeOf,typeInfo,hi,hk]
theorem iN{t:TypeId}{g:Bool}(h:lW P t=some g)(w:World):(isAgg t).run P w=.ok g w:=by
 unfold lW at h
 simp only[anT] at h
 obtain⟨d,hd,hg⟩:=h
 unfold isAgg
 rw[Sem.run_bind,run_underlying hd w]
 subst hg
 cases d<;>rfl
theorem addr_add(b o k:Nat):(⟨b,o,none⟩:Addr).add k=⟨b,o+k,none⟩:=by unfold Addr.add;split<;>simp_all
theorem kE{n:Nat}{agg:Bool}{sz off:Nat}{cs:List AV}{z:AV}(hl:ab false agg sz off cs=some z){t:TypeId}(hg:lW P t=some agg)(hs:fz P t=some sz)
  {b o:Nat} {f:Nat->Value} (hf:∀ (j:Nat) (x:AV),cs[j]?=some x->w.cell? ⟨b,o+j,none⟩=some (f j)/\(f j).oneCell'=true/\VR gh n w (f j) x.drop) :
  ∃ v,(loadVar t ⟨b,o+off,none⟩).run P w=.ok v w/\VR gh n w v z:=by
 unfold ab at hl
 cases agg
 ·simp only[anZ,anT] at hl
  obtain⟨x,hx,rfl⟩:=hl
  obtain⟨h1,h2,h3⟩:=hf off x hx
  refine⟨f off,?_,h3⟩
  simp[loadVar,iN hg,h1]
 ·simp only[cond_true] at hl
  obtain⟨h0,h1⟩:=ag hl
  have Ud:off+sz<=cs.length:=by simpa [aoU] using h0
  injection h1 with h1
  subst h1
  have tz:(loadCells ⟨b,o+off,none⟩ sz).run P w=.ok ((List.range sz).map fun j=>f (off+j)).toArray w :=
   run_loadCells w _ sz (fun j=>f (off+j)) fun j hj=>by
    have bA:off+j<cs.length:=by omega
    have:=(hf (off+j) _ (an3 bA)).1
    rw[addr_add,apR];exact this
  refine⟨.agg ((List.range sz).map fun j=>f (off+j)).toArray,by simp[loadVar,iN hg,fy hs,tz],?_⟩
  have hlen:(((cs.drop off).take sz).map AV.drop).length=sz:=by simp;omega
  refine .agg _ _ (by simp[hlen];omega) ?_ ?_
  ·intro j v hj
   simp only[aow,aol,anT] at hj
   obtain⟨k,hk,rfl⟩:=hj
   have qj:=an2.1 hk
   obtain⟨bA,Tf⟩:=qj
   simp at bA Tf
   subst Tf
   exact (hf (off+j) _ (an3 (by omega))).2.1
  ·intro j v x hj hx
   simp only[aow,aol,anT] at hj hx
   obtain⟨k,hk,rfl⟩:=hj
   obtain⟨bA,Tf⟩:=an2.1 hk
   simp at bA Tf
   subst Tf
   obtain⟨y,hy,rfl⟩:=hx
   rw[aov,aoS] at hy
   rw[if_pos bA] at hy
   exact (hf (off+j) y hy).2.2
theorem vj(hF:FR L nt gh w a s){b g:Nat}{cs:List AV}(hb:b<nt)(hT:s.T b=.lbox g cs) :
  ∃ k,gv a b=.pointer (some ⟨k,0,none⟩)/\iw gh s.H.length w k (.bx b) (fun j=>.sc b j) cs:=by
 have h:=hF.slot b hb
 rw[hT] at h
 exact h.2
theorem nH(hF:FR L nt gh w a s){b g:Nat}{e:List (List AV)}(hb:b<nt)(hT:s.T b=.lsl g e):qt gh w (.bx b) (gv a b) e:=by
 have h:=hF.slot b hb
 rw[hT] at h
 exact h.2
theorem oT{n b:Nat}{p:bM}{q:Nat->bM}{cs:List AV}(h:iw gh n w b p q cs) :
  ∃ f:Nat->Value,∀ (j:Nat) (x:AV),cs[j]?=some x->w.cell? ⟨b,0+j,none⟩=some (f j)/\(f j).oneCell'=true/\VR gh n w (f j) x.drop:=by
 obtain⟨_,_,C,ty,hb,hC,ia⟩:=h
 refine⟨fun j=>C.getD j undef,fun j x hx=>?_⟩
 have hj:j<cs.length:=(an2.1 hx).1
 have xy:j<C.size:=by omega
 have hv:C[j]?=some C[j]:=aok xy
 obtain⟨h1,h2⟩:=ia j _ x hv hx
 refine⟨by rw[Nat.zero_add,cell_of_row w b j C ty _ hb];simp[xy],by simpa [xy] using h1,by simpa [xy] using h2.dropped⟩
theorem TQ(hW:bc G base s.H gh w)(hF:FR L nt gh w a s){t:TypeId}{x:Operand}{y:aC}{take agg:Bool}{sz:Nat}{z:AV}(hc:au nt x=some y)(hg:lW P t=some agg)(hs:fz P t=some sz)
  (he:ay s take agg sz (y.addr G s.T)=some (z,none)) :
  ∃ v,(Instr.loadAt t (a.eval x)).run P w=.ok v w/\mP gh s.H.length nt w s.T s.gen (gv a) v z:=by
 have hv:=arg_val hW hF hc
 have LC:∀ {n:Nat} {off:Nat} {cs:List AV} {v:AV},ab take agg sz off cs=some v->(take&&!agg)=false->ab false agg sz off cs=some v:=by
  intro n off cs v h1 h2
  cases take
  ·exact h1
  ·cases agg
   ·cases h2
   ·exact h1
 generalize hY:y.addr G s.T=Y at hv he
 cases Y<;>simp only[ay] at he<;>try (cases he;done)
 case eptr cs =>
  simp only[anT,anY,apt] at he
  obtain⟨u,hu,rfl⟩:=he
  have hp:=VR.uT (hv:VR gh s.H.length w (a.eval x) (.eptr cs))
  generalize hA:a.eval x=V at hp
  cases hp with
  | eptr b o _ f dw de =>
   obtain⟨v,h1,h2⟩:=kE (gh:=gh) (n:=s.H.length) hu hg hs (b:=b) (o:=o) (f:=f)
    (fun j x hx=>⟨(dw j x hx).2.1,(dw j x hx).2.2,VR.dropped (.plain _ _ (de j x hx))⟩)
   refine⟨v,?_,.dO h2⟩
   simpa [Instr.loadAt,Instr.sureAddr] using h1
 case ref loc off =>
  obtain⟨bA,qh⟩:=VR.lV (hv:VR gh s.H.length w (a.eval x) (.ref loc off))
  split at he
  ·rename_i Oc cs hH
   simp only[anT,anY] at he
   obtain⟨u,hu,rfl,hn⟩:=he
   have hq:(take&&!agg)=false:=by cases h:(take&&!agg)<;>simp_all
   obtain⟨f,hf⟩:=oT (hW.boxes loc _ cs hH)
   obtain⟨v,h1,h2⟩:=kE (gh:=gh) (n:=s.H.length) (LC (n:=0) hu hq) hg hs (b:=gh.ρ loc) (o:=0) (f:=f) hf
   refine⟨v,?_,.dO h2⟩
   rw[qh]
   simpa [Instr.loadAt,Instr.sureAddr] using h1
  ·rename_i cs hH
   simp only[anT,anY,apt] at he
   obtain⟨u,hu,rfl⟩:=he
   have hp:PR gh.S w (.pointer (some ⟨gh.ρ loc,0,none⟩)) (.eptr cs):=hW.more loc _ hH
   generalize hB:gh.ρ loc=b0 at hp qh
   cases hp with
   | eptr b o _ f dw de =>
    obtain⟨v,h1,h2⟩:=kE (gh:=gh) (n:=s.H.length) hu hg hs (b:=b0) (o:=0) (f:=f)
     (fun j x hx=>⟨(dw j x hx).2.1,(dw j x hx).2.2,VR.dropped (.plain _ _ (de j x hx))⟩)
    refine⟨v,?_,.dO h2⟩
    rw[qh]
    simpa [Instr.loadAt,Instr.sureAddr] using h1
  ·rename_i cs hH
   simp only[anT,anY,apt] at he
   obtain⟨u,hu,rfl⟩:=he
   obtain⟨f,hf⟩:=oT (hW.more loc _ hH:iw gh s.H.length w (gh.ρ loc) (.hb loc) (fun j=>.hs loc j) cs)
   obtain⟨v,h1,h2⟩:=kE (gh:=gh) (n:=s.H.length) hu hg hs (b:=gh.ρ loc) (o:=0) (f:=f) hf
   refine⟨v,?_,.dO h2⟩
   rw[qh]
   simpa [Instr.loadAt,Instr.sureAddr] using h1
  ·cases he
 case lref b g off =>
  obtain⟨hb,JF,hr⟩:=(hv:_/\_/\_)
  split at he
  ·rename_i g' cs hT
   obtain⟨h0,qi⟩:=ag he
   clear he
   have D4:g=g':=by simpa [gI] using h0
   subst D4
   rename _=some (z,none)=>he
   simp only[anT,anY] at he
   obtain⟨u,hu,rfl,hn⟩:=he
   have hq:(take&&!agg)=false:=by cases h:(take&&!agg)<;>simp_all
   obtain⟨k,hk,aaB⟩:=vj hF hb hT
   have qh:=hr (by rw[hT];rfl) k hk
   obtain⟨f,hf⟩:=oT aaB
   obtain⟨v,h1,h2⟩:=kE (gh:=gh) (n:=s.H.length) (LC (n:=0) hu hq) hg hs (b:=k) (o:=0) (f:=f) hf
   refine⟨v,?_,.dO h2⟩
   rw[qh]
   simpa [Instr.loadAt,Instr.sureAddr] using h1
  ·cases he
 case eref b g i zz off =>
  obtain⟨hb,JF,hr⟩:=(hv:_/\_/\_)
  split at he
  ·rename_i g' e hT
   obtain⟨h0,qi⟩:=ag he
   clear he
   have D4:g=g':=by simpa [gI] using h0
   subst D4
   rename _=some (z,none)=>he
   simp only[anU] at he
   obtain⟨r,Ls,he⟩:=he
   obtain⟨h1,he⟩:=ag he
   have hz:r.length=zz:=by simpa [gI] using h1
   simp only[anT,anY,apt] at he
   obtain⟨u,hu,rfl⟩:=he
   obtain⟨ad,cap,tW,cb⟩:=nH hF hb hT
   rcases cb with ⟨rfl,_⟩|⟨k,C,ty,jC,_,rfl,hκ,hS,N5,hC,hl,Ih,ia⟩
   ·simp at Ls
   ·have qh:=hr (by rw[hT];rfl) k _ _ tW
    have iF:jC=zz:=by rw[<- hz,Ih i r Ls]
    subst iF
    obtain⟨v,h1,h2⟩:=kE (P:=P) (gh:=gh) (w:=w) (n:=s.H.length) hu hg hs (b:=k) (o:=i*jC) (f:=fun j=>C.getD (i*jC+j) undef) (fun j x hx=>by
     obtain⟨u,Tk,hu2⟩:=ia i j r x Ls hx
     have hj:i*jC+j<C.size:=(aob.1 Tk).1
     have qi:C.getD (i*jC+j) undef=u:=by
      rw[aok hj] at Tk
      injection Tk with Tk
      simp[hj,Tk]
     rw[qi,cell_of_row w k _ C ty _ N5,Tk]
     exact⟨rfl,hu2.fR,VR.dropped (.plain _ _ hu2)⟩)
    refine⟨v,?_,.dO h2⟩
    rw[qh]
    simpa [Instr.loadAt,Instr.sureAddr] using h1
  ·cases he
end
end
end Go.Abs
