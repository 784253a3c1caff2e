/-
  A part of the proof of PrintForms: AbsDefs, AbsRel, AbsFrame, AbsArg, AbsOps1.
-/
import Derived.Orders
import Derived.Laws.AppendOwn
import Derived.Below
import Derived.WalkKit
set_option linter.unusedSimpArgs false
set_option linter.unusedVariables false
set_option linter.defProp false
namespace Go
theorem tk {α:Type} {a:Option α} {f g:α} (h:a=some f) (e:f=g):a=some g:=e ▸ h
def an0:=@Option.map_eq_some_iff
def an1:=@Option.bind_eq_some_iff
def an2:=@Option.some.injEq
def an3:=@List.modify_succ_cons
def an4:=@List.modify_zero_cons
def an5:=@List.length_cons
def an6:=@List.length_nil
def an7:=@Prod.mk.injEq
def an8:=@cond_false
def an9:=@List.getElem?_eq_some_iff
def an':=@List.getElem?_eq_getElem
def aoa:=@Nat.le_refl
def aob:=@decide_false
def aoc:=@Nat.lt_irrefl
def aod:=@Bool.and_eq_true
def aoe:=@Option.bind_some
def aof:=@List.all_eq_true
def aog:=@List.mem_append
def aoh:=@List.map_cons
def aoi:=@Array.getElem?_eq_some_iff
def aoj:=@Bool.not_false
def aok:=@Option.map_some
def aol:=@List.map_nil
def aom:=@Bool.not_true
def aon:=@Bool.false_or
def aoo:=@List.mem_of_getElem?
def aop:=@Array.getElem?_eq_getElem
def aoq:=@Bool.false_and
def aor:=@List.getElem?_map
def aos:=@List.mem_singleton
def aot:=@Nat.mul_le_mul_right
def aou:=@Bool.true_and
def aov:=@decide_eq_true_eq
def aow:=@Bool.or_false
def aox:=@List.getElem?_append_left
def aoy:=@List.mem_map
def aoz:=@List.getElem?_append_right
def aoA:=@List.length_map
def aoB:=@List.getElem?_cons_zero
def aoC:=@List.getElem?_take
def aoD:=@List.map_congr_left
def aoE:=@List.getElem?_toArray
def aoF:=@List.mem_cons_self
def aoG:=@List.length_eq_zero_iff
def aoH:=@Bool.true_or
def aoI:=@Int.natCast_zero
def aoJ:=@List.take_of_length_le
def aoL:=@Bool.or_true
def aoM:=@List.getElem?_of_mem
def aoN:=@List.mem_cons
def aoO:=@Nat.blt_eq
def aoP:=@List.flatten_cons
def aoQ:=@List.drop_eq_getElem_cons
def aoR:=@Nat.ble_eq_true_of_le
def aoS:=@Nat.le_trans
def aoT:=@Nat.add_mul
def aoU:=@List.getElem?_drop
def aoV:=@List.take_zero
def aoW:=@List.getElem_mem
def aoX:=@Array.getElem?_toList
def aoY:=@decide_eq_false_iff_not
def aoZ:=@List.append_nil
def ao0:=@List.getD_eq_getElem?_getD
def ao1:=@decide_eq_false
def ao2:=@Nat.ble_eq
def ao3:=@beq_iff_eq
def ao4:=@Bool.or_self
def ao5:=@List.append_assoc
def ao6:=@List.all_cons
def ao7:=@Bool.not_eq_true'
def ao8:=@List.nil_append
def ao9:=@Nat.zero_le
def ao':=@Nat.le_succ
def apa:=@Bool.or_eq_false_iff
def apb:=@Bool.and_self
def apc:=@List.drop_zero
def apd:=@List.all_nil
def ape:=@List.getElem?_eq_none
def apf:=@Option.getD_some
def apg:=@List.getElem?_append
def aph:=@List.flatten_nil
def api:=@List.getElem?_set
def apj:=@bne_eq_false_iff_eq
def apk:=@Bool.eq_false_or_eq_true
def apl:=@List.mem_cons_of_mem
def apm:=@List.take_length
def apn:=@Bool.not_eq_false'
def apo:=@Nat.eq_of_beq_eq_true
def apq:=@List.getElem?_cons_succ
def apr:=@List.take_succ_cons
def aps:=@Nat.add_zero
def apt:=@Option.some.inj
def apu:=@List.cons_append
def apv:=@Nat.lt_of_lt_of_le
def apw:=@List.mem_flatMap
def apx:=@List.mem_of_mem_take
def apy:=@Bool.false_eq_true
def apz:=@List.length_singleton
def apA:=@beq_eq_false_iff_ne
def apB:=@if_true
def apC:=@decide_true
def apD:=@and_true
def apE:=@List.map_map
def apF:=@Array.getElem?_eq_none
def apG:=@List.length_eq_one_iff
def apH:=@Nat.le_zero
def apI:=@List.size_toArray
def apJ:=@List.take_append_of_le_length
def apK:=@List.not_mem_nil
def apL:=@Nat.lt_or_ge
def apM:=@List.mem_append_left
def apN:=@List.cons.injEq
def apO:=@List.drop_succ_cons
def apP:=@Nat.le_of_eq
def apQ:=@Nat.not_lt
def apR:=@Nat.le_max_right
def apS:=@congrArg
def apT:=@Nat.mul_one
def apU:=@Nat.beq_refl
def apV:=@Array.getElem?_push
def apW:=@List.getElem?_range
def apX:=@Ne.symm
def apY:=@List.contains_cons
def apZ:=@Bool.or_eq_true
def ap0:=@Classical.choose_spec
def ap1:=@List.set_append_right
def ap2:=@Nat.add_assoc
def ap3:=@List.ext_getElem?
def ap4:=@List.take_add_one
def ap5:=@List.getElem?_zip_eq_some
def ap6:=@List.mem_or_eq_of_mem_set
def ap7:=@Option.isNone_iff_eq_none
def ap8:=@Nat.one_mul
def ap9:=@List.drop_length
def ap':=@List.mem_flatten
def aqa:=@Nat.sub_self
def aqb:=@Int.toNat_of_nonneg
def aqc:=@Array.getElem?_setIfInBounds_ne
def aqd:=@Array.eq_empty_of_size_eq_zero
def aqe:=@Nat.le_max_left
def aqf:=@Option.map_none
def aqg:=@List.drop_eq_nil_of_le
def aqh:=@Array.mem_of_getElem?
def aqi:=@List.mem_append_right
def aqj:=@List.mem_iff_getElem?
def aqk:=@Option.map_map
def aql:=@Array.getD_eq_getD_getElem?
def aqm:=@Array.ext'
def aqn:=@Bool.not_eq_true
def aqo:=@List.getElem?_zipIdx
def aqp:=@List.isEmpty_iff
def aqq:=@List.length_drop
def aqr:=@List.map_toArray
def aqs:=@Nat.le_of_not_lt
def aqt:=@Nat.lt_succ_self
def aqu:=@beq_self_eq_true
def aqv:=@if_false
def aqw:=@Array.getElem?_append_left
def aqx:=@List.isEmpty_eq_false_iff
def aqy:=@List.eq_of_mem_replicate
def aqz:=@Nat.mul_comm
def aqA:=@Nat.zero_mul
def aqB:=@List.drop_drop
def aqC:=@List.getElem?_replicate
def aqD:=@Nat.lt_trichotomy
def aqE:=@Array.getElem?_extract
def aqF:=@Array.all_eq_true_iff_forall_mem
def aqG:=@Array.toList_map
def aqH:=@or_false
def aqI:=@true_and
def aqJ:=@and_false
def aqK:=@List.foldl_cons
def aqL:=@List.mem_of_mem_drop
def aqM:=@Nat.add_comm
def aqN:=@Nat.le_of_lt
def aqO:=@exists_false
def aqP:=@Array.length_toList
def aqQ:=@List.length_pos_iff
def aqR:=@List.cons_beq_cons
def aqS:=@ge_iff_le
def aqT:=@List.filter_cons
def aqU:=@List.mem_filter
def aqV:=@Nat.not_lt_zero
def aqW:=@Bool.and_eq_true_iff
end Go
namespace Go.Abs
section
inductive AV where
 | bool (b:Bool)
 | int (k:IntKind) (n:Int)
 | str (l:List UInt8)
 | any
 | di|de|cM|bR
 | slice (elems:List (List AV)) (own:Bool)
 | eptr (cells:List AV)
 | ref (loc off:Nat)
 | sref (loc off n z:Nat)
 | mref (loc:Nat)
 | fg (kz:Nat) (ka va:Bool) (es:List (List AV))
 | nC (kz:Nat) (ka va:Bool) (es:List (List AV))
 | iter (g kz:Nat) (ka va:Bool) (cur:List AV) (todo:List (List AV))
 | lbox (g:Nat) (cells:List AV)
 | lref (s g off:Nat)
 | lsl (g:Nat) (elems:List (List AV))
 | lsr (s g:Nat)
 | eref (s g i z off:Nat)
 | func (f:Fn) (first captured:List AV)
 | iface (t:TypeId) (v:AV)
 | agg (cells:List AV)
 | tuple (vs:List AV)
 | aj
 deriving Inhabited,Repr
abbrev AV.undef:AV:=.tuple []
inductive bZ where
 | box (ty:TypeId) (cells:List AV)
 | map (kz:Nat) (ka va:Bool) (es:List (List AV))
 | fg (kz:Nat) (ka va:Bool) (es:List (List AV))
 | IZ (cells:List AV)
 | cS (cells:List AV)
 | dead
 deriving Inhabited,Repr
abbrev ah:=List bZ
abbrev aQ:=Nat->AV
def aQ.put(T:aQ)(d:Nat)(v:AV):aQ:=fun i=>cond (Nat.beq i d) v (T i)
structure gJ where
 heap:ah
 lo:Nat
 deriving Inhabited
abbrev dq:=FuncId->List AV->ah->Option (AV × Option gJ)
inductive aF where
 | tmp (t:Nat)
 | bt (v:AV)
 | aZ (g:Nat)
 | fn (f:FuncId)
 deriving Inhabited,Repr
inductive xH where
 | toInt (k:IntKind)
 | Dv
 | qy
 deriving Inhabited,Repr
inductive vk where
 | str
 | sl (sz:Nat)
 | arr (n sz:Nat)
 deriving Inhabited,Repr
inductive CK where
 | b|i|s
 deriving Inhabited,Repr,DecidableEq
inductive vf where
 | other|bool|iface|func
 | flat (ks:List CK)
 deriving Inhabited,Repr
inductive lU where
 | str|sl
 | arr (n:Nat)
 deriving Inhabited,Repr
inductive Nw where
 | frame (b:Nat)
 | Ut|heap
 deriving Inhabited,Repr
inductive fQ where
 | HR (c:Nw) (x:aF)
 | mov (take obj:Bool) (x:aF)
 | pick (c a b:aF)
 | allocL (zero:List AV)
 | pH (ty:TypeId) (zero:List AV)
 | boxL (x:aF)
 | box (ty:TypeId) (x:aF)
 | build (zero:List AV) (parts:List (Nat × Nat × aF))
 | mkslice (isB:Bool) (sz:Nat) (HO:List (List AV)) (parts:List (Nat × aF))
 | nP (sz:Nat) (HO:List (List AV)) (parts:List (Nat × aF))
 | load (take agg:Bool) (sz:Nat) (x:aF)
 | store (sz:Nat) (a v:aF)
 | nilCheck (x:aF)
 | bin (op:BinOp) (k:vf) (x y:aF)
 | un (op:UnOp) (x:aF)
 | mm (mx:Bool) (x y:aF)
 | conv (c:xH) (x:aF)
 | xw (t:TypeId) (x:aF)
 | slice (k:vk) (x:aF) (lo hi mx:Option aF)
 | fieldAddr (off:Nat) (x:aF)
 | field (agg:Bool) (off sz:Nat) (x:aF)
 | ixSl (sz:Nat) (x i:aF)
 | ixArr (n sz:Nat) (x i:aF)
 | index (agg:Bool) (n sz:Nat) (x i:aF)
 | indexStr (x i:aF)
 | extract (x:aF) (i:Nat)
 | len (k:lU) (x:aF)
 | append (isB wr:Bool) (sz bytes:Nat) (x y:aF)
 | appendO (sz bytes:Nat) (x y:aF)
 | copyO (x y:aF)
 | xO (x:aF)
 | nilS (neg:Bool) (x:aF)
 | wJ (sz bytes:Nat) (zero:List AV) (n:aF)
 | call (f:aF) (args:List aF)
 | iw (f:aF) (args:List aF)
 | AK (f:FuncId) (pre:List aF) (x:aF) (post:List aF)
 | mkfunc (f:Fn) (first captured:List aF)
 | uO (kz:Nat) (ka va:Bool)
 | look (ok:Bool) (kz:Nat) (ka va:Bool) (ks:List CK) (zero:List AV) (m k:aF)
 | K3 (kz:Nat) (ka:Bool) (ks:List CK) (zero:List AV) (m k:aF)
 | nQ (kz:Nat) (ka va:Bool) (vz:Nat) (ks:List CK) (m k v:aF)
 | Wn (m:aF)
 | rng (kz:Nat) (ka va:Bool) (m:aF)
 | next (it:aF)
 | TF (it:aF)
 deriving Inhabited,Repr
structure aM where
 dst:Option Nat
 guard:Option (Nat × Bool)
 op:fQ
 deriving Inhabited,Repr
inductive aY where
 | skip
 | region (draw:Bool) (ops:List aM)
 | vn (nt:Nat) (ops:List aM) (pre:List (List Nat))
 | seq (a b:aY)
 | cond (c:aF) (a b:aY)
 | block (id:Nat) (a:aY)
 | loop (a:aY)
 | exit (id:Nat)
 | ret
 deriving Inhabited,Repr
inductive gL where
 | tmp (t:Nat)
 | cell (a:Nat) (agg:Bool) (sz:Nat)
 deriving Inhabited,Repr
structure aJ where
 ct:List Nat
 locals:List Nat
 muts:List Nat
 nt:Nat
 np:Nat
 results:List gL
 body:aY
 deriving Inhabited,Repr
inductive bP where
 | normal
 | exit (id:Nat)
 | ret
 deriving Inhabited,Repr,DecidableEq
structure AS where
 T:aQ
 H:ah
 lo:Nat
 gen:Nat
def AV.cells:AV->Option (List AV)
 | .agg cs=>some cs
 | .any=>none
 | .tuple _=>none
 | .lbox ..=>none
 | .lref ..=>none
 | .lsl ..=>none
 | .lsr ..=>none
 | .eref ..=>none
 | .iter ..=>none
 | v=>some [v]
def AV.drop:AV->AV
 | .slice e _=>.slice e false
 | v=>v
def AV.bD:AV->AV
 | .agg cs=>.agg (cs.map AV.drop)
 | v=>v.drop
def AV.plain:AV->Bool
 | .bool _|.int ..|.str _|.any|.di|.de|.cM|.bR|.eptr _|.fg ..|.nC ..|.aj=>true
 | .slice _ own=>!own
 | .func _ [] []=>true
 | .iface _ (.bool _)|.iface _ (.int ..)|.iface _ (.str _)|.iface _ .any|.iface _ .di=>true
 | _=>false
def AV.elem(sz:Nat)(v:AV):Option (List AV) :=
 match v.cells with
 | none=>none
 | some cs =>
  let ds:=cs.map AV.drop
  cond (Nat.beq ds.length sz&&ds.all AV.plain) (some ds) none
def AV.aU(base:Nat):AV->Bool
 | .ref loc _=>Nat.blt loc base
 | .sref loc _ _ _=>Nat.blt loc base
 | .mref loc=>Nat.blt loc base
 | v=>v.plain
def AV.bu(base:Nat):AV->Bool
 | .agg cs=>cs.all (AV.aU base)
 | v=>v.aU base
def AV.leaves(base:Nat):AV->Bool
 | .func _ fs cs=>fs.all (AV.aU base)&&cs.all (AV.aU base)
 | .iface _ v=>v.aU base
 | .tuple vs=>vs.all (AV.bu base)
 | .slice ..=>true
 | v=>v.bu base
def bk:AV->Option Nat
 | .lbox g _=>some g
 | .lsl g _=>some g
 | .iter g ..=>some g
 | _=>none
def aF.eval(G:Nat->List AV)(T:aQ):aF->AV
 | .tmp t=>T t
 | .bt v=>v
 | .aZ g=>.eptr (G g)
 | .fn f=>.func (.func f) [] []
def asNat:AV->Option Nat
 | .int _ n=>cond (decide (0<=n)) (some n.toNat) none
 | _=>none
def cq:List CK->List AV->List AV->Option Bool
 | [],_,_=>some true
 | .b :: ks,.bool a :: xs,.bool b :: ys=>(cq ks xs ys).map (a==b&&·)
 | .i :: ks,.int j a :: xs,.int k b :: ys=>cond (decide (j=k)) ((cq ks xs ys).map (a==b&&·)) none
 | .s :: ks,.str a :: xs,.str b :: ys=>(cq ks xs ys).map (a==b&&·)
 | _,_,_=>none
def aa(op:BinOp)(k:IntKind)(a b:Int):Option AV :=
 match op with
 | .add=>some (.int k (k.wrap (a+b)))
 | .sub=>some (.int k (k.wrap (a-b)))
 | .mul=>some (.int k (k.wrap (a*b)))
 | .quo=>cond (decide (b=0)) none (some (.int k (k.wrap (a.tdiv b))))
 | .rem=>cond (decide (b=0)) none (some (.int k (a.tmod b)))
 | .eql=>some (.bool (a==b))
 | .neq=>some (.bool (a != b))
 | .lss=>some (.bool (decide (a<b)))
 | .leq=>some (.bool (decide (a<=b)))
 | .gtr=>some (.bool (decide (a>b)))
 | .geq=>some (.bool (decide (a>=b)))
 | _=>none
def gP(op:BinOp)(a b:List UInt8):Option AV :=
 match op with
 | .add=>cond (decide (a.length+b.length<=4611686018427387904)) (some (.str (a++b))) none
 | .eql=>some (.bool (a==b))
 | .neq=>some (.bool !(a==b))
 | .lss=>some (.bool (Op.bytesLess a b))
 | .leq=>some (.bool (Op.bytesLess a b || a==b))
 | .gtr=>some (.bool !(Op.bytesLess a b || a==b))
 | .geq=>some (.bool !(Op.bytesLess a b))
 | _=>none
def im(op:BinOp)(b:Bool):Option AV :=
 match op with
 | .eql=>some (.bool b)
 | .neq=>some (.bool !b)
 | _=>none
def kP:aF->Bool
 | .bt _=>true
 | _=>false
def xN(op:BinOp)(q:vf)(bt:Bool)(x y:AV):Option AV :=
 match x,y with
 | .int j a,.int k b=>cond (decide (j=k)) (aa op j a b) none
 | .str a,.str b=>gP op a b
 | .bool a,.bool b=>(match q with|.bool=>im op (a==b)|_=>none)
 | .agg xs,.agg ys=>(match q with|.flat ks=>(cq ks xs ys).bind fun b=>im op b|_=>none)
 | x,.bR=>cond (bt&&(match q with|.iface=>true|_=>false)) ((match x with|.bR=>some true|.iface ..=>some false|_=>none).bind fun b=>im op b) none
 | x,.cM=>cond (match q with|.func=>true|_=>false) ((match x with|.cM=>some true|.func ..=>some false|_=>none).bind fun b=>im op b) none
 | _,_=>none
def rB(op:UnOp)(x:AV):Option AV :=
 match op,x with
 | .neg,.int k n=>some (.int k (k.wrap (0-n)))
 | .not,.bool b=>some (.bool !b)
 | _,_=>none
def RH(mx:Bool)(x y:AV):Option AV :=
 match x,y with
 | .int k a,.int j b=>cond (decide (k=j)) (some (.int k (cond mx (if b>a then b else a) (if b<a then b else a)))) none
 | _,_=>none
def bytesOf:List (List AV)->Option (List UInt8)
 | []=>some []
 | [.int .u8 n] :: r=>(bytesOf r).map (UInt8.ofNat n.toNat :: ·)
 | _=>none
def gQ(c:xH)(x:AV):Option AV :=
 match c,x with
 | .toInt k,.int _ n=>some (.int k (k.wrap n))
 | .Dv,.str l=>some (.str l)
 | .qy,.slice e _=>(bytesOf e).map .str
 | _,_=>none
def chunks(sz:Nat):Nat->List AV->List (List AV)
 | 0,_=>[]
 | n+1,l=>l.take sz :: chunks sz n (l.drop sz)
def bound(ahD:Nat)(x:Option AV)(ga:Nat):Option Nat :=
 match x with
 | none=>some ahD
 | some v=>(asNat v).bind fun n=>cond (Nat.ble n ga) (some n) none
def gG(sz:Nat)(e:List (List AV)):Bool:=(e.head?.map fun r=>Nat.beq r.length sz).getD true
def SE:List (List AV)->Bool
 | (_ :: _) :: _=>true
 | _=>false
def fD(k:vk)(x:AV)(lo hi mx:Option AV):Option AV :=
 match k,x with
 | .str,.str l=>(bound l.length hi l.length).bind fun h=>(bound 0 lo h).bind fun a=>cond mx.isNone (some (.str ((l.take h).drop a))) none
 | .sl sz,.slice e _=>(bound e.length mx e.length).bind fun m=>(bound e.length hi m).bind fun h=>(bound 0 lo h).bind fun a =>
   cond ((mx.isNone || hi.isSome)&&(lo.isNone || gG sz e)) (some (.slice ((e.take h).drop a) (mx.isSome&&Nat.beq m h&&SE e))) none
 | .sl sz,.sref l o n z=>(bound n hi n).bind fun h=>(bound 0 lo h).bind fun a=>cond (mx.isNone&&Nat.beq z sz) (some (cond (Nat.blt a n) (.sref l (o+a*z) (h-a) z) (.slice [] false))) none
 | .arr n sz,.eptr cs=>cond (Nat.beq cs.length (n*sz)) ((bound n hi n).bind fun h=>(bound 0 lo h).bind fun a=>cond mx.isNone (some (.slice (((chunks sz n cs).take h).drop a) false)) none) none
 | _,_=>none
def iG(k:lU)(x:AV):Option AV :=
 match k,x with
 | .str,.str l=>some (.int .i64 l.length)
 | .sl,.slice e _=>some (.int .i64 e.length)
 | .sl,.sref _ _ n _=>some (.int .i64 n)
 | .sl,.aj=>some (.int .i64 0)
 | .arr n,_=>some (.int .i64 n)
 | _,_=>none
def putAt(l:List AV)(off:Nat)(cs:List AV):List AV:=l.take off++cs++l.drop (off+cs.length)
def cn:List AV->List (Nat × Nat × AV)->Option (List AV)
 | cells,[]=>some cells
 | cells,(off,sz,v) :: r =>
  match v.cells with
  | none=>none
  | some cs=>cond (Nat.beq cs.length sz&&Nat.ble (off+cs.length) cells.length) (cn (putAt cells off (cs.map AV.drop)) r) none
def cY(sz:Nat):List (List AV)->List (Nat × AV)->Option (List (List AV))
 | es,[]=>some es
 | es,(i,v) :: r =>
  match v.elem sz with
  | none=>none
  | some cs=>cond (Nat.blt i es.length) (cY sz (es.set i cs) r) none
def ab(take agg:Bool)(sz off:Nat)(cs:List AV):Option AV :=
 cond agg (cond (Nat.ble (off+sz) cs.length) (some (.agg (((cs.drop off).take sz).map AV.drop))) none)
  ((cs[off]?).map fun v=>cond take v v.drop)
def ak(off:Nat)(cs:List AV):List AV:=cs.modify off AV.drop
def AS.cc(s:AS)(t:Nat)(v:AV):AS:={ s with T:=s.T.put t v }
def AS.gk(s:AS)(c:gJ):AS:={ s with H:=c.heap,lo:=cond (Nat.blt c.lo s.lo) c.lo s.lo }
def aF.addr(G:Nat->List AV)(T:aQ):aF->AV
 | .tmp t=>match T t with
  | .lbox g _=>.lref t g 0
  | .lsl g _=>.lsr t g
  | .iter ..=>.any
  | v=>v
 | .bt v=>v
 | .aZ g=>.eptr (G g)
 | .fn f=>.func (.func f) [] []
def aq(s:AS)(take agg:Bool)(sz:Nat)(x:AV):Option (AV × Option AS) :=
 match x with
 | .eptr cs=>(ab false agg sz 0 cs).map (·,none)
 | .ref loc off=>match s.H[loc]? with
  | some (.box ty cs)=>(ab take agg sz off cs).map fun v=>(v,cond (take&&!agg) (some (s.gk ⟨s.H.set loc (.box ty (ak off cs)),loc⟩)) none)
  | some (.IZ cs)=>(ab false agg sz off cs).map (·,none)
  | some (.cS cs)=>(ab false agg sz off cs).map (·,none)
  | _=>none
 | .lref b g off=>match s.T b with
  | .lbox g' cs=>cond (Nat.beq g g') ((ab take agg sz off cs).map fun v=>(v,cond (take&&!agg) (some (s.cc b (.lbox g (ak off cs)))) none)) none
  | _=>none
 | .eref b g i z off=>match s.T b with
  | .lsl g' e=>cond (Nat.beq g g') ((e[i]?).bind fun r=>cond (Nat.beq r.length z) ((ab false agg sz off r).map (·,none)) none) none
  | _=>none
 | _=>none
def gT(loc:Nat):AV->Bool
 | .ref l _=>Nat.ble l loc
 | .sref l _ _ _=>Nat.ble l loc
 | .mref l=>Nat.ble l loc
 | v=>v.drop.plain
def lg(loc:Nat):AV->Bool
 | .agg cs=>cs.all (gT loc)
 | v=>gT loc v
def bo(loc:Nat):AV->Bool
 | .ref l _=>Nat.ble l loc
 | .sref l _ _ _=>Nat.ble l loc
 | .mref l=>Nat.ble l loc
 | .func _ fs cs=>fs.all (lg loc)&&cs.all (lg loc)
 | v=>v.drop.plain
def aG:AV->Bool
 | .lref ..=>false
 | .lbox ..=>false
 | .lsl ..=>false
 | .lsr ..=>false
 | .eref ..=>false
 | .iter ..=>false
 | _=>true
def br(s:AS)(sz:Nat)(a v:AV):Option AS :=
 match v.cells with
 | none=>none
 | some vs=>cond (Nat.beq vs.length sz)
  (match a with
   | .ref loc off=>match s.H[loc]? with
    | some (.box ty cs)=>cond (Nat.ble (off+sz) cs.length&&vs.all (bo loc)) (some (s.gk ⟨s.H.set loc (.box ty (putAt cs off vs)),loc⟩)) none
    | some (.cS cs)=>cond (Nat.ble (off+sz) cs.length&&vs.all aG) (some (s.gk ⟨s.H.set loc (.cS (putAt cs off vs)),loc⟩)) none
    | _=>none
   | .lref b g off=>match s.T b with
    | .lbox g' cs=>cond (Nat.beq g g'&&Nat.ble (off+sz) cs.length&&vs.all aG) (some (s.cc b (.lbox g (putAt cs off vs)))) none
    | _=>none
   | .eref b g i z off=>match s.T b with
    | .lsl g' e=>cond (Nat.beq g g') ((e[i]?).bind fun r=>cond (Nat.beq r.length z&&Nat.ble (off+sz) r.length&&(vs.map AV.drop).all AV.plain) (some (s.cc b (.lsl g (e.set i (putAt r off (vs.map AV.drop)))))) none) none
    | _=>none
   | _=>none)
  none
def AS.cI(s:AS):aF->AS
 | .tmp t=>match s.T t with
  | .slice e true=>s.cc t (.slice e false)
  | _=>s
 | _=>s
def dm(sz:Nat):AV->Option (List (List AV))
 | .slice f _=>some f
 | .str l=>cond (Nat.beq sz 1) (some (l.map fun (b:UInt8)=>[AV.int .u8 b.toNat])) none
 | _=>none
abbrev ij:TypeId:=5
def jj(e:List (List AV)):Bool:=e.all fun r=>r.all fun|.int .u8 _=>false|.any=>false|_=>true
def mc(e:List (List AV)):Bool:=e.all fun|[.int .u8 _]=>true|_=>false
def kD(isB:Bool)(e:List (List AV)):Bool:=cond isB (mc e) (jj e)
def cF(sz bytes:Nat)(e f:List (List AV)):Bool :=
 Nat.ble ((e.length+f.length)*bytes) 70368744177664&&Nat.ble (e.length+f.length) 70368744177664&&gG sz e&&gG sz f
def aC(isB:Bool)(sz bytes:Nat)(x y:AV):Option AV :=
 match x with
 | .slice e own=>(dm sz y).bind fun f =>
  match f with
  | []=>some (.slice e own)
  | f=>cond (own&&cF sz bytes e f&&kD isB (e++f)) (some (.slice (e++f) true)) none
 | _=>none
def dP(f:List (List AV)):Bool:=f.all fun r=>r.all AV.plain
abbrev bV:TypeId:=4294967295
def wL(x y:AV):Option AV :=
 match x with
 | .slice [] true=>(match y with|.slice [] _|.aj=>some (.slice [] false)|_=>none)
 | .aj=>(match y with|.slice [] _|.aj=>some .aj|_=>none)
 | _=>none
def iT(s:AS)(sz bytes:Nat)(x y:AV):Option (AV × Option AS) :=
 (dm sz y).bind fun f =>
  match x with
  | .slice [] true|.aj=>cond (!f.isEmpty&&cF sz bytes [] f&&dP f) (some (.sref s.H.length 0 f.length sz,some (s.gk ⟨s.H++[.box bV f.flatten],s.H.length⟩))) none
  | .sref l o n z=>match s.H[l]? with
   | some (.box ty cs)=>cond (Nat.beq o 0&&Nat.beq z sz&&Nat.beq cs.length (n*sz)&&Nat.ble ((n+f.length)*bytes) 70368744177664&&Nat.ble (n+f.length) 70368744177664&&gG sz f&&dP f)
     (some (.sref s.H.length 0 (n+f.length) sz,some (s.gk ⟨s.H.set l .dead++[.box bV (cs++f.flatten)],l⟩))) none
   | _=>none
  | _=>none
def iD(s:AS)(sz bytes:Nat)(x y:AV):Option (AV × Option AS) :=
 match wL x y with
 | some v=>some (v,none)
 | none=>iT s sz bytes x y
def rJ(s:AS)(x y:AV):Option (AV × Option AS) :=
 match x,y with
 | .sref l o n z,.slice f _=>match s.H[l]? with
  | some (.cS cs)=>cond (Nat.beq z 1&&gG 1 f&&dP f&&Nat.ble (o+n) cs.length)
    (some (.int .i64 (Nat.min f.length n),some (s.gk ⟨s.H.set l (.cS (putAt cs o (f.take (Nat.min f.length n)).flatten)),l⟩))) none
  | _=>none
 | .slice [] _,.slice _ _=>some (.int .i64 0,none)
 | _,_=>none
def RM:AV->Option Bool
 | .aj=>some true
 | .slice (_ :: _) _=>some false
 | _=>none
def rK(s:AS)(sz bytes:Nat)(zero:List AV)(n:AV):Option (AV × Option AS) :=
 (asNat n).bind fun k=>cond (Nat.ble (k*bytes) 70368744177664&&Nat.ble k 70368744177664)
  (some (.sref s.H.length 0 k sz,some (s.gk ⟨s.H++[.box bV (List.replicate k zero).flatten],s.H.length⟩))) none
def fm(off:Nat):AV->Option AV
 | .ref l o=>some (.ref l (o+off))
 | .lref b g o=>some (.lref b g (o+off))
 | .eref b g i z o=>some (.eref b g i z (o+off))
 | .eptr cs=>some (.eptr (cs.drop off))
 | _=>none
def bQ(s:AS):AV->Bool
 | .ref ..=>true
 | .eptr _=>true
 | .lref b g _=>(match s.T b with|.lbox g' _=>Nat.beq g g'|_=>false)
 | .eref b g i _ _=>(match s.T b with|.lsl g' e=>Nat.beq g g'&&Nat.blt i e.length|_=>false)
 | _=>false
def MQ(t:TypeId)(v:AV):Option AV :=
 cond (AV.plain v.drop || (match v with|.ref ..=>true|_=>false)) (some (.iface t v.drop)) none
def gN(c:Nw)(v:AV):Bool :=
 match c with
 | .frame b=>(match v with|.lref b' _ _=>Nat.beq b b'|_=>false)
 | .Ut=>(match v with|.lref ..=>false|.eref ..=>false|.lsr ..=>false|.ref ..=>false|_=>true)
 | .heap=>(match v with|.lref ..=>false|.eref ..=>false|.lsr ..=>false|_=>true)
def AV.isAgg:AV->Bool
 | .agg _=>true
 | _=>false
def uN(s:AS)(kz:Nat)(ka va:Bool)(m:AV):Option (List (List AV)) :=
 match m with
 | .fg ml mj mD es=>cond (Nat.beq kz ml&&ka==mj&&va==mD) (some es) none
 | .mref l=>match s.H[l]? with
  | some (.map ml mj mD es)=>cond (Nat.beq kz ml&&ka==mj&&va==mD) (some es) none
  | some (.fg ml mj mD es)=>cond (Nat.beq kz ml&&ka==mj&&va==mD) (some es) none
  | _=>none
 | _=>none
def dH(ks:List CK)(kc:List AV):List (List AV)->Option (Option Nat)
 | []=>some none
 | r :: es=>(cq ks kc r).bind fun b=>cond b (some (some 0)) ((dH ks kc es).map fun o=>o.map (· + 1))
def oE(agg:Bool)(cs:List AV):AV:=cond agg (.agg (cs.map AV.drop)) ((cs.headD .undef).drop)
def y6(ok va:Bool)(cs:List AV)(found:Bool):AV :=
 let v:=cond va (.agg (cs.map AV.drop)) ((cs.headD .undef).drop)
 cond ok (.tuple [v,.bool found]) v
def pf(ok va:Bool)(zero:List AV)(kz:Nat)(es:List (List AV)):Option Nat->AV
 | none=>y6 ok va zero false
 | some i=>y6 ok va ((es.getD i []).drop kz) true
def mw:List AV->Option (List UInt8)
 | .str a :: _=>some a
 | _=>none
def sR:List (List AV)->Bool
 | []=>true
 | r :: es=>(match mw r with|some a=>es.all fun q=>(match mw q with|some b=>!(a==b)|none=>false)|none=>false)&&sR es
def VW:List CK->List AV->Bool
 | [.s],[.str _]=>true
 | _,_=>false
def vD(s:AS)(ok:Bool)(kz:Nat)(ka va:Bool)(ks:List CK)(zero:List AV)(m k:AV):Option (AV × Option AS) :=
 k.drop.cells.bind fun kc=>cond (Nat.beq kc.length kz&&ka==k.drop.isAgg)
  (match m with
   | .de=>some (y6 ok va zero false,none)
   | .nC ml mj mD es=>cond (Nat.beq kz ml&&ka==mj&&va==mD&&sR es&&VW ks kc) ((dH ks kc es).map fun o=>(pf ok va zero kz es o,none)) none
   | m=>(uN s kz ka va m).bind fun es=>(dH ks kc es).map fun o=>(pf ok va zero kz es o,none)) none
def Cr(s:AS)(kz:Nat)(ka:Bool)(ks:List CK)(zero:List AV)(m k:AV):Option (AV × Option AS) :=
 match m with
 | .mref l=>match s.H[l]? with
  | some (.map ml mj false es)=>k.drop.cells.bind fun kc=>cond (Nat.beq kc.length kz&&Nat.beq kz ml&&ka==mj&&ka==k.drop.isAgg)
    ((dH ks kc es).bind fun o=>match o with
     | none=>some ((zero.headD .undef),none)
     | some i=>((es.getD i [])[kz]?).map fun v=>(v,some (s.gk ⟨s.H.set l (.map kz ka false (es.set i (ak kz (es.getD i [])))),l⟩))) none
  | _=>none
 | _=>none
def tI(es:List (List AV))(o:Option Nat)(r:List AV):List (List AV) :=
 match o with
 | none=>es++[r]
 | some i=>es.set i r
def qG(s:AS)(kz:Nat)(ka va:Bool)(vz:Nat)(ks:List CK)(m k v:AV):Option AS :=
 match m with
 | .mref l=>match s.H[l]? with
  | some (.map ml mj mD es)=>k.drop.cells.bind fun kc=>v.cells.bind fun vc =>
    cond (Nat.beq kc.length kz&&Nat.beq vc.length vz&&Nat.beq kz ml&&ka==mj&&va==mD&&ka==k.drop.isAgg&&va==v.isAgg&&vc.all (bo l)&&kc.all AV.plain)
     ((dH ks kc es).map fun o=>s.gk ⟨s.H.set l (.map kz ka va (tI es o (kc++cond va (vc.map AV.drop) vc))),l⟩) none
  | _=>none
 | _=>none
section
variable (G:Nat->List AV)(cf:dq)
def mz(s:AS)(take obj:Bool)(x:aF):Option (AV × Option AS) :=
 match x with
 | .tmp t=>match s.T t with
  | .lbox g _=>some (.lref t g 0,none)
  | .lsl g e=>cond take (cond obj (some (.lsl s.gen e,some { s.cc t .any with gen:=s.gen+1 })) (cond (jj e) (some (.slice e true,some (s.cc t .any))) none)) (some (.lsr t g,none))
  | .slice e own=>some (.slice e (take&&own),cond (take&&own) (some (s.cc t (.slice e false))) none)
  | .iter ..=>none
  | v=>some (v,none)
 | x=>some (x.eval G s.T,none)
def dG(s:AS)(isB wr:Bool)(sz bytes:Nat)(x y:aF):Option (AV × Option AS) :=
 match x with
 | .tmp t=>match s.T t with
  | .lsl _ e=>(dm sz (y.eval G s.T)).bind fun f=>cond (wr&&cF sz bytes e f) (some (.lsl s.gen (e++f),some { s.cc t .any with gen:=s.gen+1 })) none
  | .slice e own=>cond wr
    ((dm sz (y.eval G s.T)).bind fun f=>cond (e.isEmpty&&own&&cF sz bytes [] f) (some (.lsl s.gen f,some { s.cc t .any with gen:=s.gen+1 })) none)
    ((aC isB sz bytes (.slice e own) (y.eval G s.T)).map (·,some (s.cc t (.slice e false))))
  | .aj=>cond wr
    ((dm sz (y.eval G s.T)).bind fun f=>cond (cF sz bytes [] f) (some (.lsl s.gen f,some { s.cc t .any with gen:=s.gen+1 })) none)
    ((aC isB sz bytes (.slice [] true) (y.eval G s.T)).map (·,some s))
  | _=>none
 | x=>cond wr none ((aC isB sz bytes (x.eval G s.T) (y.eval G s.T)).map (·,none))
def Yr(s:AS)(x:aF):Option (AV × AS) :=
 match x with
 | .tmp t=>match s.T t with
  | .slice e own=>some (.slice e own,s.cc t (.slice e false))
  | _=>none
 | .bt v=>match v with
  | .slice [] true=>some (.slice [] true,s)
  | _=>none
 | _=>none
def aE(s:AS)(o:fQ):Option (AV × Option AS) :=
 match o with
 | .HR c x=>cond (gN c (x.addr G s.T)) (some (.undef,none)) none
 | .mov take obj x=>mz G s take obj x
 | .pick c a b=>match c.eval G s.T with
  | .bool t=>some (cond t (a.addr G s.T).drop (b.addr G s.T).drop,none)
  | _=>none
 | .allocL zero=>some (.lbox s.gen zero,some { s with gen:=s.gen+1 })
 | .boxL x=>(x.eval G s.T).drop.cells.map fun cs=>(.lbox s.gen (cs.map AV.drop),some { s with gen:=s.gen+1 })
 | .pH ty zero=>some (.ref s.H.length 0,some (s.gk ⟨s.H++[.box ty zero],s.H.length⟩))
 | .box ty x=>(x.eval G s.T).drop.cells.bind fun cs=>cond (cs.all (bo s.H.length)) (some (.ref s.H.length 0,some (s.gk ⟨s.H++[.box ty (cs.map AV.drop)],s.H.length⟩))) none
 | .build zero parts=>(cn zero (parts.map fun p=>(p.1,p.2.1,(p.2.2.eval G s.T).drop))).map (.agg ·,none)
 | .mkslice isB sz HO parts=>(cY sz HO (parts.map fun p=>(p.1,(p.2.eval G s.T).drop))).bind fun E=>cond (kD isB E) (some (.slice E true,none)) none
 | .nP sz HO parts=>(cY sz HO (parts.map fun p=>(p.1,(p.2.eval G s.T).drop))).bind fun E=>cond (dP E) (some (.sref s.H.length 0 E.length sz,some (s.gk ⟨s.H++[.box bV E.flatten],s.H.length⟩))) none
 | .load take agg sz x=>aq s take agg sz (x.addr G s.T)
 | .store sz a v=>(br s sz (a.addr G s.T) (v.eval G s.T)).map fun s'=>(.undef,some (s'.cI v))
 | .nilCheck x=>cond (bQ s (x.addr G s.T)) (some (x.addr G s.T,none)) none
 | .bin op q x y=>(xN op q (kP x || kP y) (x.eval G s.T) (y.eval G s.T)).map (·,none)
 | .un op x=>(rB op (x.eval G s.T)).map (·,none)
 | .mm mx x y=>(RH mx (x.eval G s.T) (y.eval G s.T)).map (·,none)
 | .conv c x=>(gQ c (x.eval G s.T)).map (·,none)
 | .xw t x=>(MQ t (x.eval G s.T)).map (·,none)
 | .slice k x lo hi mx=>(fD k (x.eval G s.T) (lo.map (·.eval G s.T)) (hi.map (·.eval G s.T)) (mx.map (·.eval G s.T))).map (·,none)
 | .fieldAddr off x=>cond (bQ s (x.addr G s.T)) ((fm off (x.addr G s.T)).map (·,none)) none
 | .field agg off sz x=>match x.eval G s.T with
  | .agg cs=>(ab false agg sz off cs).map (·,none)
  | _=>none
 | .ixSl sz x i=>match x.addr G s.T with
  | .slice e _=>(asNat (i.eval G s.T)).bind fun n=>(e[n]?).bind fun r=>cond (Nat.beq r.length sz) (some (.eptr r,none)) none
  | .sref l o m _=>(asNat (i.eval G s.T)).bind fun n=>cond (Nat.blt n m) (some (.ref l (o+n*sz),none)) none
  | .lsr t g=>match s.T t with
   | .lsl g' e=>cond (Nat.beq g g') ((asNat (i.eval G s.T)).bind fun n=>(e[n]?).bind fun r=>cond (Nat.beq r.length sz) (some (.eref t g n sz 0,none)) none) none
   | _=>none
  | _=>none
 | .ixArr n sz x i=>(asNat (i.eval G s.T)).bind fun k=>cond (Nat.blt k n&&bQ s (x.addr G s.T)) ((fm (k*sz) (x.addr G s.T)).map (·,none)) none
 | .index agg n sz x i=>(asNat (i.eval G s.T)).bind fun k=>cond (Nat.blt k n)
   (match x.eval G s.T with
    | .agg cs=>(ab false agg sz (k*sz) cs).map (·,none)
    | _=>none) none
 | .indexStr x i=>match x.eval G s.T with
  | .str l=>(asNat (i.eval G s.T)).bind fun n=>(l[n]?).map fun (b:UInt8)=>(AV.int .u8 b.toNat,none)
  | _=>none
 | .extract x i=>match x.eval G s.T with
  | .tuple vs=>(vs[i]?).map fun v=>(v.bD,none)
  | _=>none
 | .len k x=>match x.addr G s.T with
  | .lsr t g=>match s.T t with
   | .lsl g' e=>cond (Nat.beq g g') ((iG k (.slice e false)).map (·,none)) none
   | _=>none
  | v=>(iG k v).map (·,none)
 | .append isB wr sz bytes x y=>dG G s isB wr sz bytes x y
 | .appendO sz bytes x y=>iD s sz bytes (x.addr G s.T) (y.eval G s.T)
 | .wJ sz bytes zero n=>rK s sz bytes zero (n.eval G s.T)
 | .copyO x y=>rJ s (x.addr G s.T) (y.eval G s.T)
 | .xO x=>(x.eval G s.T).drop.cells.bind fun cs=>cond (cs.all aG) (some (.ref s.H.length 0,some (s.gk ⟨s.H++[.cS (cs.map AV.drop)],s.H.length⟩))) none
 | .nilS neg x=>(RM (x.eval G s.T)).map fun b=>(.bool (neg != b),none)
 | .call f args=>match f.eval G s.T with
  | .func (.func n) fs cs=>cond ((args.map fun a=>a.addr G s.T).all aG)
    ((cf n (fs++args.map (fun a=>(a.addr G s.T).bD)++cs) s.H).map fun r=>(r.1,r.2.map s.gk)) none
  | _=>none
 | .iw f args=>match f.eval G s.T with
  | .func (.func n) fs cs=>cond ((args.map fun a=>a.addr G s.T).all aG)
    ((cf n (fs++args.map (fun a=>(a.addr G s.T).bD)++cs) s.H).bind fun r=>match r.2 with|none=>some (r.1,none)|some _=>none) none
  | _=>none
 | .AK f pre x post=>cond ((pre.map fun a=>a.addr G s.T).all aG&&(post.map fun a=>a.addr G s.T).all aG)
   ((Yr s x).bind fun p=>(cf f (pre.map (fun a=>(a.addr G s.T).bD)++p.1 :: post.map (fun a=>(a.addr G s.T).bD)) s.H).map fun r=>(r.1,some ((r.2.map p.2.gk).getD p.2))) none
 | .mkfunc f first captured=>cond ((first.map fun a=>a.addr G s.T).all aG&&(captured.map fun a=>a.addr G s.T).all aG)
   (some (.func f (first.map fun a=>(a.addr G s.T).drop) (captured.map fun a=>(a.addr G s.T).drop),none)) none
 | .uO kz ka va=>some (.mref s.H.length,some (s.gk ⟨s.H++[.map kz ka va []],s.H.length⟩))
 | .look ok kz ka va ks zero m k=>vD s ok kz ka va ks zero (m.addr G s.T) (k.eval G s.T)
 | .K3 kz ka ks zero m k=>Cr s kz ka ks zero (m.addr G s.T) (k.eval G s.T)
 | .nQ kz ka va vz ks m k v=>(qG s kz ka va vz ks (m.addr G s.T) (k.eval G s.T) (v.eval G s.T)).map fun s'=>(.undef,some (s'.cI v))
 | .Wn m=>match m.addr G s.T with
  | .de=>some (.int .i64 0,none)
  | .fg _ _ _ es=>some (.int .i64 es.length,none)
  | .mref l=>match s.H[l]? with
   | some (.map _ _ _ es)=>some (.int .i64 es.length,none)
   | some (.fg _ _ _ es)=>some (.int .i64 es.length,none)
   | _=>none
  | _=>none
 | .rng kz ka va m=>match m.addr G s.T with
  | .de=>some (.iter s.gen kz ka va [] [],some { s with gen:=s.gen+1 })
  | .fg ml mj mD es=>cond (Nat.beq kz ml&&ka==mj&&va==mD) (some (.iter s.gen kz ka va [] es,some { s with gen:=s.gen+1 })) none
  | .nC ml mj mD es=>cond (Nat.beq kz ml&&ka==mj&&va==mD) (some (.iter s.gen kz ka va [] es,some { s with gen:=s.gen+1 })) none
  | .mref l=>match s.H[l]? with
   | some (.map ml mj mD es)=>cond (Nat.beq kz ml&&ka==mj&&va==mD&&dP es)
     (some (.iter s.gen kz ka va [] es,some { s.gk ⟨s.H.set l (.fg kz ka va es),l⟩ with gen:=s.gen+1 })) none
   | _=>none
  | _=>none
 | .next _=>none
 | .TF it=>match it with
  | .tmp t=>match s.T t with
   | .iter _ kz ka va cur _=>cond (Nat.ble kz cur.length&&!cur.isEmpty) (some (.tuple [oE ka (cur.take kz),oE va (cur.drop kz)],none)) none
   | _=>none
  | _=>none
def AS.cH(s:AS)(d:Option Nat)(v:AV):AS:=match d with|none=>s|some d=>s.cc d v
def cd(draw:Bool)(s:AS)(o:aM):Option AS :=
 let run:Option AS:=(aE G cf s o.op).bind fun r=>match r.2 with
  | none=>cond (draw&&(bk r.1).isSome) none (some (s.cH o.dst r.1))
  | some s'=>cond draw none (some (s'.cH o.dst r.1))
 match o.guard with
 | none=>run
 | some (g,want)=>match s.T g with
  | .bool b=>cond (b==want) run (some (s.cH o.dst .undef))
  | .tuple []=>some (s.cH o.dst .undef)
  | _=>none
def fA(draw:Bool):List aM->AS->Option AS
 | [],s=>some s
 | o :: r,s=>(cd G cf draw s o).bind (fA draw r)
def iter(f:AS->Option (bP × AS)):Nat->AS->Option (bP × AS)
 | 0,_=>none
 | n+1,s=>(f s).bind fun r=>match r.1 with
  | .normal=>iter f n r.2
  | _=>some r
def jg(n:Nat):aY->AS->Option (bP × AS)
 | .skip,s=>some (.normal,s)
 | .region d ops,s=>(fA G cf d ops s).map (.normal,·)
 | .seq a b,s=>(jg n a s).bind fun r=>match r.1 with
  | .normal=>jg n b r.2
  | _=>some r
 | .cond c a b,s=>match c.eval G s.T with
  | .bool t=>cond t (jg n a s) (jg n b s)
  | _=>none
 | .block id a,s=>(jg n a s).map fun r=>match r.1 with
  | .exit i=>(cond (Nat.beq i id) .normal (.exit i),r.2)
  | e=>(e,r.2)
 | .loop a,s=>iter (jg n a) n s
 | .exit id,s=>some (.exit id,s)
 | .ret,s=>some (.ret,s)
 | .vn _ _ _,_=>none
end
def hN(s:AS):gL->Option AV
 | .tmp t=>cond (aG (s.T t)) (some (s.T t)) none
 | .cell a agg sz=>match s.T a with
  | .lbox _ cs=>ab false agg sz 0 cs
  | .ref loc 0=>match s.H[loc]? with
   | some (.box _ cs)=>ab false agg sz 0 cs
   | _=>none
  | _=>none
def nT(s:AS):gL->Option Nat
 | .tmp t=>match s.T t with
  | .lsl _ _=>some t
  | .lsr b g=>match s.T b with
   | .lsl g' _=>cond (Nat.beq g g') (some b) none
   | _=>none
  | _=>none
 | .cell ..=>none
def mu(s:AS):List gL->Option (List AV)
 | []=>some []
 | r :: rs=>(hN s r).bind fun v=>(mu s rs).map (v.bD :: ·)
def kC(s:AS)(rs:List gL):Option AV :=
 match rs with
 | [r]=>match nT s r with
  | some b=>(match s.T b with|.lsl _ e=>cond (jj e) (some (.slice e true)) none|_=>none)
  | none=>hN s r
 | rs=>(mu s rs).map .tuple
def gA(base:Nat)(rs:List gL)(s:AS):Option (AV × Option gJ) :=
 (kC s rs).bind fun r =>
  cond (r.leaves base) (some (r,cond (Nat.beq s.lo base) none (some ⟨s.H.take base,s.lo⟩))) none
def Sg(e:List (List AV)):Nat:=(e.head?.map List.length).getD 0
def pZ(s:AS)(base:Nat):List gL->Option (List AV × Option (List (List AV)))
 | []=>some ([],none)
 | r :: rs=>(pZ s base rs).bind fun q=>match nT s r with
  | some b=>match s.T b with
   | .lsl _ e=>cond (q.2.isNone&&!e.isEmpty&&e.all (fun r=>r.all AV.plain)) (some (.sref base 0 e.length (Sg e) :: q.1,some e)) none
   | _=>none
  | none=>(hN s r).bind fun v=>cond (v.bD.bu base) (some (v.bD :: q.1,q.2)) none
def oF(base:Nat)(rs:List gL)(s:AS):Option (AV × Option gJ) :=
 cond (Nat.beq rs.length 1) none ((pZ s base rs).bind fun q=>q.2.map fun e=>(.tuple q.1,some ⟨s.H.take base++[.box bV e.flatten],s.lo⟩))
def jq:AV->Bool
 | .int .u8 _=>false
 | .any=>false
 | _=>true
def nS:AV->AV
 | .slice [] true=>.aj
 | v=>v
def AV.norm:AV->AV
 | .aj=>.slice [] false
 | v=>v
def mh:bZ->Option (List AV)
 | .box _ cs=>some cs
 | .cS cs=>some cs
 | _=>none
def fN(H:ah)(base:Nat):Nat->AV->AV
 | 0,v=>v
 | k+1,v=>match v with
  | .sref l off n z=>cond (Nat.ble base l) (match (H[l]?).bind mh with
   | some cs=>cond (Nat.blt 0 z&&Nat.ble (off+n*z) cs.length&&(cs.all fun x=>(fN H base k x.drop).plain&&jq x)) (.slice (chunks z n ((cs.map fun x=>fN H base k x.drop).drop off)) false) v
   | none=>v) v
  | v=>v
abbrev T4:Nat:=3
def I4(H:ah)(base:Nat):AV->AV
 | .agg cs=>.agg (cs.map (fN H base T4))
 | v=>fN H base T4 v
def rZ(base:Nat)(s:AS)(rs:List gL):Option AV :=
 match rs with
 | [r]=>(hN s r).map fun v=>I4 s.H base v.bD
 | rs=>(mu s rs).map fun vs=>.tuple (vs.map (I4 s.H base))
def nr(base:Nat)(rs:List gL)(s:AS):Option (AV × Option gJ) :=
 (rZ base s rs).bind fun r=>cond (r.leaves base) (some (r,cond (Nat.beq s.lo base) none (some ⟨s.H.take base,s.lo⟩))) none
def qI(base:Nat)(rs:List gL)(s:AS):Option (AV × Option gJ) :=
 match rs with
 | [r]=>(hN s r).bind fun v=>match v with
  | .sref l off n z=>match s.H[l]? with
   | some (.box _ cs)=>cond (Nat.ble base l&&cs.all AV.plain) (some (.sref base off n z,some ⟨s.H.take base++[.cS cs],s.lo⟩)) none
   | _=>none
  | _=>none
 | _=>none
def mG(base:Nat)(fn:aJ)(s:AS):Option (AV × Option gJ):=cond (fn.muts.elem 888888) (qI base fn.results s) none
def lp(base:Nat)(s:AS):Bool:=cond (Nat.beq s.lo base) true (((s.H.take base).drop s.lo).all fun o=>match o with|.cS cs=>cs.all (AV.aU base)|_=>true)
def pQ(base:Nat)(fn:aJ)(s:AS):Option (AV × Option gJ) :=
 match mG base fn s with
 | some r=>some r
 | none=>match gA base fn.results s with
 | some r=>some r
 | none=>match oF base fn.results s with
  | some r=>some r
  | none=>nr base fn.results s
def jU(base:Nat)(fn:aJ)(s:AS):Option (AV × Option gJ):=cond (lp base s) (pQ base fn s) none
def n1:AV->AV
 | .aj=>.slice [] false
 | v=>v
def n2:AV->AV
 | .aj=>.slice [] false
 | .slice e false=>.slice (e.map fun r=>r.map n1) false
 | v=>v
def n3:AV->AV
 | .agg cs=>.agg (cs.map n2)
 | v=>n2 v
def mC:AV->AV
 | .tuple vs=>.tuple (vs.map n3)
 | v=>n3 v
def sI(fn:aJ)(r:AV × Option gJ):AV × Option gJ:=cond (fn.muts.elem 777777) (mC r.1,r.2) r
def finish(base:Nat)(fn:aJ)(s:AS):Option (AV × Option gJ):=(jU base fn s).map (sI fn)
def gu(args:List AV):aQ:=fun i=>args.getD i .undef
def vU(G:Nat->List AV)(cf:dq)(n:Nat)(fn:aJ)(args:List AV)(H:ah):Option (AV × Option gJ) :=
 cond (Nat.beq args.length fn.np)
  ((jg G cf n fn.body { T:=gu args,H,lo:=H.length,gen:=0 }).bind fun r=>match r.1 with
   | .exit _=>none
   | _=>finish H.length fn r.2)
  none
structure AP where
 fns:FuncId->Option aJ
 ov:FuncId->Option (List AV->ah->Option (AV × Option gJ))
 aZ:Nat->List AV
def uP:AV->Bool
 | .slice _ true=>false
 | _=>true
def AT(A:AP):Nat->dq
 | 0=>fun _ _ _=>none
 | n+1=>fun f args H=>match A.ov f with
  | some g=>cond (args.all uP) (g args H) none
  | none=>match A.fns f with
   | none=>none
   | some fn=>vU A.aZ (AT A n) n fn args H
def jT:Value->Option AV
 | .bool b=>some (.bool b)
 | .int k n=>some (.int k n)
 | .string s=>some (.str s.data.toList)
 | .slice none 0 0=>some (.slice [] true)
 | .pointer none=>some .di
 | .map none=>some .de
 | .nilFunc=>some .cM
 | .nilIface=>some .bR
 | _=>none
def dS:List Value->Option (List AV)
 | []=>some []
 | v :: r=>(jT v).bind fun x=>(dS r).map (x :: ·)
def qC:Value->Option AV
 | .agg vs=>(dS vs.toList).map fun l=>.agg (l.map nS)
 | v=>jT v
section
variable (P:Program)(ct locals muts:List Nat)(nt:Nat)
def ax:Operand->Option aF
 | .tmp t=>cond (Nat.blt t nt) (some (.tmp t)) none
 | .const v=>(qC v).map .bt
 | .global g=>some (.aZ g)
 | .func f=>some (.fn f)
def jA:List Operand->Option (List aF)
 | []=>some []
 | x :: r=>(ax nt x).bind fun a=>(jA r).map (a :: ·)
def dV(t:TypeId):Option Nat:=(P.info? t).map (·.size)
def gy(t:TypeId):Option (List AV):=((P.info? t).bind (·.zero)).bind fun z=>dS z.cells.toList
def l9(t:TypeId):Option Bool:=(P.underlying t).map fun|.struct _=>true|.array _ _=>true|_=>false
def gI:Option Operand->Option (Option aF)
 | none=>some none
 | some x=>(ax nt x).map some
def ot(flat:TypeId->Option (List CK)):List Go.Field->Nat->Option (List CK)
 | [],_=>some []
 | f :: fs,o=>cond (Nat.beq f.offset o&&f.name != "_") ((flat f.type).bind fun k=>(ot flat fs (o+k.length)).map (k++·)) none
def mA:Nat->TypeId->Option (List CK)
 | 0,_=>none
 | d+1,t=>match P.underlying t with
  | some .bool=>some [.b]
  | some (.int _)=>some [.i]
  | some .string=>some [.s]
  | some (.struct fs)=>cond (!P.stoodInHeld t) ((ot (mA d) fs.toList 0).bind fun ks=>cond (match dV P t with|some n=>Nat.beq n ks.length|none=>false) (some ks) none) none
  | _=>none
def nj(t:TypeId):vf :=
 match P.underlying t with
 | some .bool=>.bool
 | some (.interface _)=>.iface
 | some (.func _ _ _)=>.func
 | some (.struct _)=>cond (!P.eqGuardType P.depth t) (match mA P 8 t with|some ks=>.flat ks|none=>.other) .other
 | _=>.other
def mS(fs:List Go.Field):List (Nat × Operand)->Option (List (Nat × Nat × aF))
 | []=>some []
 | (i,x) :: r=>(fs[i]?).bind fun f=>(dV P f.type).bind fun z=>(ax nt x).bind fun a=>(mS fs r).map ((f.offset,z,a) :: ·)
def jR(sz:Nat):List (Nat × Operand)->Option (List (Nat × Nat × aF))
 | []=>some []
 | (i,x) :: r=>(ax nt x).bind fun a=>(jR sz r).map ((i*sz,sz,a) :: ·)
def kJ:List (Nat × Operand)->Option (List (Nat × aF))
 | []=>some []
 | (i,x) :: r=>(ax nt x).bind fun a=>(kJ r).map ((i,a) :: ·)
def NV:Value->Bool
 | .agg _=>true
 | _=>false
def MN(t:TypeId):Option (List CK × Bool × Bool × List AV) :=
 match P.underlying t with
 | some (.map k e)=>(mA P 8 k).bind fun ks=>(l9 P k).bind fun ka=>(P.info? e).bind fun i=>i.zero.bind fun z=>(dS z.cells.toList).bind fun zero =>
   cond (NV z || Nat.beq zero.length 1) (some (ks,ka,NV z,zero)) none
 | _=>none
def Dq:Operand->Operand->Bool
 | .tmp a,.tmp b=>Nat.beq a b
 | _,_=>false
def iX(d:Option Nat):Bool:=match d with|some d=>ct.contains d|none=>false
def isLocal(d:Option Nat):Bool:=match d with|some d=>locals.contains d|none=>false
def ag0(d:Option Nat):aF->Bool
 | .tmp t=>ct.contains t
 | .bt (.slice [] true)=>iX ct d
 | _=>false
def ua(d:Option Nat)(g:aF)(ys:List aF):fQ:=cond (iX ct d) (.call g ys) (.call g ys)
def tZ(d:Option Nat)(c:Call):Option fQ :=
 match c.callee with
 | .value f=>(ax nt f).bind fun g=>(jA nt c.args.toList).map (ua ct d g ·)
 | .builtin .len=>match c.args.toList,c.argTypes.toList with
  | [x],[t]=>(ax nt x).bind fun a=>match P.underlying t with
   | some .string=>some (.len .str a)
   | some (.slice _)=>some (.len .sl a)
   | some (.array n _)=>some (.len (.arr n) a)
   | some (.map _ _)=>none
   | _=>none
  | _,_=>none
 | .builtin .append=>match c.args.toList,c.argTypes.toList with
  | [x,y],[t,u]=>(ax nt x).bind fun a=>(ax nt y).bind fun b=>match P.underlying t,P.underlying u with
   | some (.slice e),some (.slice _)|some (.slice e),some .string=>(P.info? e).bind fun i=>cond (Nat.blt 0 i.size&&(i.zero.map fun z=>Nat.beq z.cells.size i.size).getD false) (some (cond (isLocal locals d) (.appendO i.size i.bytes a b) (.append (Nat.beq e ij) (iX muts d) i.size i.bytes a b))) none
   | _,_=>none
  | _,_=>none
 | .builtin .copy=>match c.args.toList,c.argTypes.toList with
  | [x,y],[t,u]=>(ax nt x).bind fun a=>(ax nt y).bind fun b=>match P.underlying t,P.underlying u with
   | some (.slice e),some (.slice _)=>(dV P e).bind fun sz=>cond (Nat.beq sz 1) (some (.copyO a b)) none
   | _,_=>none
  | _,_=>none
 | .builtin .max=>match c.args.toList with
  | [x,y]=>(ax nt x).bind fun a=>(ax nt y).map (.mm true a ·)
  | _=>none
 | .builtin .min=>match c.args.toList with
  | [x,y]=>(ax nt x).bind fun a=>(ax nt y).map (.mm false a ·)
  | _=>none
 | _=>none
def OR(k:Nat)(l:List Nat)(d:Option Nat):Bool:=match d with|some d=>l.elem (k+d)|none=>false
def JW(op:BinOp)(t:TypeId)(y:Operand):Option Bool :=
 match y,P.underlying t with
 | .const (.slice none 0 0),some (.slice _)=>(match op with|.eql=>some false|.neq=>some true|_=>none)
 | _,_=>none
def C3:aF->aF
 | .bt v=>.bt (nS v)
 | x=>x
def dc(d:Option Nat)(o:Op):Option fQ :=
 match o with
 | .move x|.assign x=>(ax nt x).map fun a=>.mov (iX ct d) (iX muts d) (cond (iX muts d) (C3 a) a)
 | .pick c a b=>(ax nt c).bind fun c=>(ax nt a).bind fun a=>(ax nt b).map (.pick c a ·)
 | .alloc t=>((gy P t).map fun z=>cond (OR 700000 ct d) (z.map nS) z).bind fun z=>cond (isLocal locals d) (some (.allocL z)) (some (.pH t z))
 | .box t x=>(ax nt x).map fun a=>cond (isLocal locals d) (.boxL a) (cond (OR 500000 muts d) (.xO a) (.box t a))
 | .build t parts=>((gy P t).map fun z=>cond (iX ct d) (z.map nS) z).bind fun z=>match P.underlying t with
  | some (.struct fs)=>cond ((fs.toList.mapM fun f=>(P.info? f.type).map fun i=>(f.offset,i.size)).isSome) ((mS P nt fs.toList parts.toList).map (.build z ·)) none
  | some (.array _ e)=>(dV P e).bind fun sz=>(jR nt sz parts.toList).map (.build z ·)
  | _=>none
 | .buildSlice t len parts=>match P.underlying t with
  | some (.slice e)=>(dV P e).bind fun sz=>(gy P e).bind fun z=>(kJ nt parts.toList).bind fun ps =>
    cond (Nat.ble (len*sz) 16777216&&Nat.beq z.length sz&&Nat.blt 0 sz) (some (cond (isLocal locals d) (.nP sz (List.replicate len (z.map AV.drop)) ps) (.mkslice (Nat.beq e ij) sz (List.replicate len (z.map AV.drop)) ps))) none
  | _=>none
 | .load t x=>(ax nt x).bind fun a=>(l9 P t).bind fun g=>(dV P t).map fun sz=>.load (iX ct d) g sz a
 | .store t x y=>(ax nt x).bind fun a=>(ax nt y).bind fun b=>(dV P t).map fun sz=>.store sz a b
 | .nilCheck x=>(ax nt x).map .nilCheck
 | .binOp op t x y _=>(ax nt x).bind fun a=>(ax nt y).bind fun b=>match JW P op t y with
  | some neg=>some (.nilS neg a)
  | none=>some (.bin op (nj P t) a b)
 | .unOp op _ x=>(ax nt x).map (.un op ·)
 | .convert s t x=>(ax nt x).bind fun a=>match P.underlying s,P.underlying t with
  | some (.int _),some (.int k)=>some (.conv (.toInt k) a)
  | some .string,some .string=>some (.conv .Dv a)
  | some (.slice e),some .string=>match P.underlying e with
   | some (.int .u8)=>some (.conv .qy a)
   | _=>none
  | _,_=>none
 | .makeFunc f first captured=>(jA nt first.toList).bind fun a=>(jA nt captured.toList).map (.mkfunc f a ·)
 | .slice t x lo hi mx=>(ax nt x).bind fun a=>(gI nt lo).bind fun lo=>(gI nt hi).bind fun hi=>(gI nt mx).bind fun mx=>match P.underlying t with
  | some .string=>some (.slice .str a lo hi mx)
  | some (.slice e)=>(dV P e).map fun sz=>.slice (.sl sz) a lo hi mx
  | some (.array n e)=>(dV P e).bind fun sz=>cond (Nat.blt 0 sz) (some (.slice (.arr n sz) a lo hi mx)) none
  | _=>none
 | .fieldAddr t x f=>(ax nt x).bind fun a=>match P.underlying t with
  | some (.struct fs)=>(fs[f]?).bind fun q=>(dV P q.type).bind fun sz=>cond (Nat.blt 0 sz) (some (.fieldAddr q.offset a)) none
  | _=>none
 | .indexAddr t x i=>(ax nt x).bind fun a=>(ax nt i).bind fun b=>match P.underlying t with
  | some (.slice e)=>(dV P e).map fun sz=>.ixSl sz a b
  | some (.array n e)=>(dV P e).map fun sz=>.ixArr n sz a b
  | _=>none
 | .index t x i=>(ax nt x).bind fun a=>(ax nt i).bind fun b=>match P.underlying t with
  | some .string=>some (.indexStr a b)
  | some (.array n e)=>(dV P e).bind fun sz=>(l9 P e).map fun g=>.index g n sz a b
  | _=>none
 | .extract x i=>(ax nt x).map (.extract · i)
 | .call c=>tZ P ct locals muts nt d c
 | .makeSlice t x y=>(ax nt x).bind fun a=>cond (Dq x y) (match P.underlying t with
  | some (.slice e)=>(P.info? e).bind fun i=>i.zero.bind fun z=>(dS z.cells.toList).bind fun zero=>cond (Nat.blt 0 i.size&&Nat.beq z.cells.size i.size) (some (.wJ i.size i.bytes (zero.map AV.drop) a)) none
  | _=>none) none
 | .makeMap t none=>(MN P t).map fun m=>.uO m.1.length m.2.1 m.2.2.1
 | .lookup t x i ok=>(ax nt x).bind fun a=>(ax nt i).bind fun b=>(MN P t).map fun m =>
   .look ok m.1.length m.2.1 m.2.2.1 m.1 m.2.2.2 a b
 | .mapUpdate t x i v|.insert t x i v=>(ax nt x).bind fun a=>(ax nt i).bind fun b=>(ax nt v).bind fun c=>(MN P t).map fun m=>.nQ m.1.length m.2.1 m.2.2.1 m.2.2.2.length m.1 a b c
 | .range t x=>cond (iX muts d) ((ax nt x).bind fun a=>(MN P t).map fun m=>.rng m.1.length m.2.1 m.2.2.1 a) none
 | .next x false=>(ax nt x).map .next
 | .entry x=>(ax nt x).map .TF
 | _=>none
def oZ(ops:Array Oper):Option (Nat × Bool)->Option (Option (Nat × Bool))
 | none=>some none
 | some (j,want)=>((ops[j]?).bind (·.dst)).bind fun s=>cond (Nat.blt s nt) (some (some (s,want))) none
def qB(ops:Array Oper)(o:Oper):Option aM :=
 (dc P ct locals muts nt o.dst o.op).bind fun p=>(oZ nt ops o.guard).bind fun g =>
  match o.dst with
  | none=>some ⟨none,g,p⟩
  | some d=>cond (Nat.blt d nt) (some ⟨some d,g,p⟩) none
def gl(ops:Array Oper):List Oper->Option (List aM)
 | []=>some []
 | o :: r=>(qB P ct locals muts nt ops o).bind fun p=>(gl ops r).map (p :: ·)
def aF.tmps:aF->List Nat
 | .tmp t=>[t]
 | _=>[]
def fQ.tmps:fQ->List Nat
 | .HR _ x|.boxL x|.xO x|.mov _ _ x|.box _ x|.load _ _ _ x|.nilCheck x|.un _ x|.nilS _ x|.conv _ x|.xw _ x|.fieldAddr _ x|.field _ _ _ x|.extract x _|.len _ x=>x.tmps
 | .pick c a b=>c.tmps++a.tmps++b.tmps
 | .allocL _|.pH _ _=>[]
 | .build _ ps=>ps.flatMap fun p=>p.2.2.tmps
 | .mkslice _ _ _ ps|.nP _ _ ps=>ps.flatMap fun p=>p.2.tmps
 | .store _ a v=>a.tmps++v.tmps
 | .bin _ _ x y|.mm _ x y|.ixSl _ x y|.ixArr _ _ x y|.index _ _ _ x y|.indexStr x y|.append _ _ _ _ x y|.appendO _ _ x y|.copyO x y=>x.tmps++y.tmps
 | .slice _ x lo hi mx=>x.tmps++(lo.toList.flatMap aF.tmps)++(hi.toList.flatMap aF.tmps)++(mx.toList.flatMap aF.tmps)
 | .call f xs|.iw f xs=>f.tmps++xs.flatMap aF.tmps
 | .AK _ pre x post=>pre.flatMap aF.tmps++x.tmps++post.flatMap aF.tmps
 | .mkfunc _ a b=>a.flatMap aF.tmps++b.flatMap aF.tmps
 | .uO _ _ _=>[]
 | .wJ _ _ _ n=>n.tmps
 | .look _ _ _ _ _ _ m k|.K3 _ _ _ _ m k=>m.tmps++k.tmps
 | .nQ _ _ _ _ _ m k v=>m.tmps++k.tmps++v.tmps
 | .Wn m|.rng _ _ _ m|.next m|.TF m=>m.tmps
def aM.looks(o:aM):List Nat:=o.op.tmps++(match o.guard with|some (g,_)=>[g]|none=>[])
def vA(o:Oper)(j:Nat):Bool:=o.after.any fun e=>Region.binds .any e&&Nat.beq e.on j
def uS(L:List Nat)(ops:List (Oper × aM)):Bool :=
 let l:=ops.zipIdx
 l.all fun p=>(p.1.1.after.all fun e=>!Region.binds .any e || Nat.blt e.on p.2)&&(match p.1.2.dst with|some d=>!(L.contains d)|none=>true) &&
  l.all fun q=>Nat.beq p.2 q.2 || (match q.1.2.dst with
   | none=>true
   | some d=>(match p.1.2.dst with|some d'=>!(Nat.beq d d')|none=>true) &&
    (!(p.1.2.looks.contains d) || cond (Nat.blt q.2 p.2) (vA p.1.1 q.2) (vA q.1.1 p.2)))
def Sz:aM->Option Nat
 | ⟨some d,none,.allocL _⟩=>some d
 | _=>none
def Y5(M:List Nat):aM->Option (Nat × aF)
 | ⟨none,none,.store _ (.tmp d) y⟩=>cond (M.contains d) (some (d,y)) none
 | _=>none
def BX(is:List aM):List Nat:=is.filterMap Sz
def isP(M:List Nat)(o:aM):Bool:=(Sz o).isNone&&(Y5 M o).isNone
def ajc:aM:=⟨none,none,.mov false false (.bt .undef)⟩
def afH(M:List Nat)(is:List aM):List aM:=is.map fun o=>cond (isP M o) o ajc
def V9(M:List Nat):List aM:=M.flatMap fun d=>[⟨some d,none,.allocL []⟩,⟨some d,none,.mov false false (.bt .undef)⟩]
def afG(is:List aM):List aM:=is.filter fun o=>(Sz o).isSome
def afI(M:List Nat)(is:List aM):List aM:=is.filter fun o=>(Y5 M o).isSome
def drawn(is:List aM):aY :=
 .seq (.region false (V9 (BX is))) (.seq (.region true (afH (BX is) is)) (.seq (.region false (afG is)) (.region false (afI (BX is) is))))
structure rC where
 rs:List Nat
 ws:List Nat
 rh:Bool
 wh:Bool
 wg:Bool
 deriving Inhabited
def BW(is:List aM)(L:List Nat):Nat->aF->Option Nat
 | 0,_=>none
 | f+1,.tmp t=>cond (L.contains t) (some t) (match is.find? (fun o=>match o.dst with|some d=>Nat.beq d t|none=>false) with
  | some ⟨_,_,.fieldAddr _ y⟩=>BW is L f y
  | some ⟨_,_,.ixArr _ _ y _⟩=>BW is L f y
  | some ⟨_,_,.nilCheck y⟩=>BW is L f y
  | _=>none)
 | _,_=>none
def S2(is:List aM):Nat->aF->Bool
 | 0,_=>false
 | f+1,.tmp t=>(match is.find? (fun o=>match o.dst with|some d=>Nat.beq d t|none=>false) with
  | some ⟨_,_,.ixSl _ x _⟩=>(match x with
   | .tmp u=>(match is.find? (fun o=>match o.dst with|some d=>Nat.beq d u|none=>false) with
    | some ⟨_,_,.load ..⟩=>false
    | _=>true)
   | _=>true)
  | some ⟨_,_,.fieldAddr _ y⟩=>S2 is f y
  | some ⟨_,_,.ixArr _ _ y _⟩=>S2 is f y
  | _=>false)
 | _,.aZ _=>true
 | _,_=>false
def Of(mode:Bool)(is:List aM)(L:List Nat)(x:aF):Nw :=
 match BW is L 8 x with
 | some b=>.frame b
 | none=>cond (mode&&S2 is 8 x) .Ut .heap
def wo(mode:Bool)(is:List aM)(L:List Nat):fQ->Option (Nw × aF)
 | .load _ _ _ x=>some (Of mode is L x,x)
 | .store _ x _=>some (Of false is L x,x)
 | .nilCheck x=>some (Of mode is L x,x)
 | .fieldAddr _ x=>some (Of mode is L x,x)
 | .ixArr _ _ x _=>some (Of mode is L x,x)
 | .ixSl _ x _=>some (.heap,x)
 | .len _ x=>some (.heap,x)
 | _=>none
def gK:Nw->List Nat
 | .frame b=>[b]
 | _=>[]
def CL:Nw->Bool
 | .heap=>true
 | _=>false
def AR(pc:Bool)(c:Nw):fQ->Option rC
 | .mov take obj x=>cond obj none (some ⟨x.tmps,cond take x.tmps [],false,false,false⟩)
 | .pick a b d=>some ⟨a.tmps++b.tmps++d.tmps,[],false,false,false⟩
 | .allocL _=>some ⟨[],[],false,false,true⟩
 | .boxL x=>some ⟨x.tmps,[],false,false,true⟩
 | .build z ps=>some ⟨(fQ.build z ps).tmps,[],false,false,false⟩
 | .mkslice b sz zs ps=>some ⟨(fQ.mkslice b sz zs ps).tmps,[],false,false,false⟩
 | .bin _ _ x y=>some ⟨x.tmps++y.tmps,[],false,false,false⟩
 | .mm _ x y=>some ⟨x.tmps++y.tmps,[],false,false,false⟩
 | .un _ x=>some ⟨x.tmps,[],false,false,false⟩
 | .nilS _ x=>some ⟨x.tmps,[],false,false,false⟩
 | .conv _ x=>some ⟨x.tmps,[],false,false,false⟩
 | .field _ _ _ x=>some ⟨x.tmps,[],false,false,false⟩
 | .index _ _ _ x i=>some ⟨x.tmps++i.tmps,[],false,false,false⟩
 | .indexStr x i=>some ⟨x.tmps++i.tmps,[],false,false,false⟩
 | .extract x _=>some ⟨x.tmps,[],false,false,false⟩
 | .mkfunc f a b=>some ⟨(fQ.mkfunc f a b).tmps,[],false,false,false⟩
 | .load take agg _ x=>some ⟨x.tmps++gK c,cond (take&&!agg) (gK c) [],CL c,CL c&&take&&!agg,false⟩
 | .store _ x y=>some ⟨x.tmps++y.tmps++gK c,y.tmps++gK c,CL c,CL c,false⟩
 | .nilCheck x=>some ⟨x.tmps++gK c,[],false,false,false⟩
 | .fieldAddr _ x=>some ⟨x.tmps++gK c,[],false,false,false⟩
 | .ixArr _ _ x i=>some ⟨x.tmps++i.tmps++gK c,[],false,false,false⟩
 | .ixSl _ x i=>some ⟨x.tmps++i.tmps,[],false,false,false⟩
 | .len _ x=>some ⟨x.tmps,[],false,false,false⟩
 | .append _ wr _ _ x y=>cond wr none (some ⟨x.tmps++y.tmps,x.tmps,false,false,false⟩)
 | .appendO _ _ x y=>some ⟨x.tmps++y.tmps,[],true,true,false⟩
 | .copyO x y=>some ⟨x.tmps++y.tmps,[],true,true,false⟩
 | .slice k x lo hi mx=>some ⟨(fQ.slice k x lo hi mx).tmps,[],false,false,false⟩
 | .call f xs=>some ⟨(fQ.call f xs).tmps,[],true,!pc,false⟩
 | _=>none
def Fu(mode pc:Bool)(is:List aM)(L:List Nat)(o:aM):Option rC :=
 (AR pc (match wo mode is L o.op with|some p=>p.1|none=>.heap) o.op).map fun e =>
  ⟨(match o.guard with|some (g,_)=>[g]|none=>[])++e.rs,o.dst.toList++e.ws,e.rh,e.wh,e.wg⟩
def meets(x y:List Nat):Bool:=x.any y.contains
def conflict(e f:rC):Bool :=
 meets e.ws f.rs || meets e.ws f.ws || meets f.ws e.rs || (e.wh&&(f.rh || f.wh)) || (f.wh&&e.rh) || (e.wg&&f.wg)
def pX(ops:List Oper):List (List Nat) :=
 ops.foldl (fun t o=>t++[(o.after.toList.flatMap fun e=>cond (Region.binds .any e) (e.on :: t.getD e.on []) []).eraseDups]) []
def rp(ops:List Oper)(es:List rC):Bool :=
 let ps:=pX ops
 (ops.zipIdx.all fun p=>p.1.after.all fun e=>!Region.binds .any e || Nat.blt e.on p.2) &&
 es.zipIdx.all fun p=>es.zipIdx.all fun q=>!(Nat.blt q.2 p.2) || !(conflict p.1 q.1) || (ps.getD p.2 []).contains q.2
def jL(pc:Bool)(o:aM):aM :=
 match o with
 | ⟨d,g,.call f xs⟩=>cond pc ⟨d,g,.iw f xs⟩ ⟨d,g,.call f xs⟩
 | o=>o
def inter(mode pc:Bool)(is:List aM)(L:List Nat):List aM->List aM
 | []=>[]
 | o :: r=>match wo mode is L o.op with
  | some (c,x)=>⟨none,o.guard,.HR c x⟩ :: jL pc o :: inter mode pc is L r
  | none=>jL pc o :: inter mode pc is L r
def oD(mode pc:Bool)(is:List aM)(L:List Nat):List aM->Option (List rC)
 | []=>some []
 | o :: r=>(Fu mode pc is L o).bind fun e=>(oD mode pc is L r).map (e :: ·)
def adK:fQ->Bool
 | .mov take _ _=>take
 | .allocL _|.boxL _|.store ..|.append ..|.appendO ..|.copyO ..|.xO ..|.wJ ..|.pH ..|.box ..=>true
 | .load take agg _ _=>take&&!agg
 | _=>false
def Su(mode pc:Bool)(L:List Nat)(ops:List Oper)(is:List aM):Option aY :=
 (oD mode pc is L is).bind fun es=>cond (rp ops es) (some (.region false (inter mode pc is L is))) none
def x9(L:List Nat)(ops:List Oper)(is:List aM):Option aY :=
 cond (L.elem 999996 || is.any fun o=>adK o.op) (match Su false false L ops is with
  | some c=>some c
  | none=>match cond (L.elem 999997) none (Su true false L ops is) with
   | some c=>some c
   | none=>cond (L.elem 999999) none (Su false true L ops is)) none
def ni(o:Oper):List Nat:=(o.after.toList.filter fun e=>Region.binds .any e).map (·.on)
def fS:Code->Option aY
 | .skip=>some .skip
 | .region _ ops draw=>(gl P ct locals muts nt ops ops.toList).bind fun is=>match cond draw (x9 locals ops.toList is) none with
  | some c=>some c
  | none=>cond (!draw || (!(locals.elem 999998)&&uS (locals++muts) (ops.toList.zip is))) (some (.region draw is)) (cond draw (some (.vn nt is (ops.toList.map ni))) none)
 | .seq a b=>(fS a).bind fun x=>(fS b).map (.seq x ·)
 | .cond c a b=>(ax nt c).bind fun c=>(fS a).bind fun x=>(fS b).map (.cond c x ·)
 | .block id a=>(fS a).map (.block id ·)
 | .loop a=>(fS a).map .loop
 | .exit id=>some (.exit id)
 | .ret=>some .ret
 | .label _=>some .skip
 | .scope a=>fS a
 | _=>none
def kg:List ResultVar->Option (List gL)
 | []=>some []
 | .tmp t :: r=>cond (Nat.blt t nt) ((kg r).map (.tmp t :: ·)) none
 | .cell a t :: r=>cond (Nat.blt a nt) ((l9 P t).bind fun g=>(dV P t).bind fun sz=>(kg r).map (.cell a g sz :: ·)) none
end
def oY(P:Program)(ct locals muts:List Nat)(f:Func):Option aJ :=
 f.body.bind fun c=>(fS P ct locals muts f.ntmps c).bind fun b=>(kg P f.ntmps f.results.toList).bind fun rs =>
  cond (Nat.ble (f.params.size+f.nfree) f.ntmps&&f.name != "runtime.NumGoroutine") (some { ct,locals,muts,nt:=f.ntmps,np:=f.params.size+f.nfree,results:=rs,body:=b }) none
end
inductive bC where
 | none|outer|ret
 | hb (loc:Nat)
 | hs (loc j:Nat)
 | bx (i:Nat)
 | sl (i:Nat)
 | sc (i j:Nat)
 | par (j:Nat)
 deriving DecidableEq,Inhabited
structure Gh where
 S:Nat->Nat->Prop
 κ:Nat->bC
 ρ:Nat->Nat
def qq(agg:Bool)(n:Nat)(f:Nat->Value):Value:=cond agg (.agg ((List.range n).map f).toArray) (f 0)
structure DM (E:Array MapEntry) (ck kz:Nat) (ka va:Bool) (es:List (List AV)) (f:Nat->Nat->Value):Prop where
 size:E.size=es.length
 clk:ck=E.size
 at' : ∀ (i:Nat) (e:MapEntry),E[i]?=some e->e.born=i
 born:∀ (i:Nat) (e:MapEntry),E[i]?=some e->e.born<ck
 apart:∀ (i j:Nat) (e e' : MapEntry),E[i]?=some e->E[j]?=some e'->e.born=e'.born->i=j
 row:∀ (i:Nat) (e:MapEntry) (r:List AV),E[i]?=some e->es[i]?=some r->kz<=r.length/\(ka=false->kz=1)/\(va=false->r.length=kz+1)/\e.key=qq ka kz (f i)/\e.val=qq va (r.length-kz) (fun j=>f i (kz+j))
structure vi (E:Array MapEntry) (ck kz:Nat) (ka va:Bool) (es:List (List AV)) (f:Nat->Nat->Value):Prop where
 size:E.size=es.length
 born:∀ (i:Nat) (e:MapEntry),E[i]?=some e->e.born<ck
 apart:∀ (i j:Nat) (e e' : MapEntry),E[i]?=some e->E[j]?=some e'->e.born=e'.born->i=j
 row:∀ (i:Nat) (e:MapEntry) (r:List AV),E[i]?=some e->es[i]?=some r->kz<=r.length/\(ka=false->kz=1)/\(va=false->r.length=kz+1)/\e.key=qq ka kz (f i)/\e.val=qq va (r.length-kz) (fun j=>f i (kz+j))
theorem DM.iter{E:Array MapEntry}{ck kz:Nat}{ka va:Bool}{es:List (List AV)}{f:Nat->Nat->Value}(h:DM E ck kz ka va es f):vi E ck kz ka va es f:=⟨h.size,h.born,h.apart,h.row⟩
inductive PR (S:Nat->Nat->Prop) (w:World):Value->AV->Prop where
 | bool (b:Bool):PR S w (.bool b) (.bool b)
 | int (k:IntKind) (n:Int):PR S w (.int k n) (.int k n)
 | str (s:ByteArray) (l:List UInt8) (h:s.data.toList=l):PR S w (.string s) (.str l)
 | any (v:Value) (h:v.oneCell'=true):PR S w v .any
 | di:PR S w (.pointer none) .di
 | de:PR S w (.map none) .de
 | cM:PR S w .nilFunc .cM
 | bR:PR S w .nilIface .bR
 | func (f:Fn):PR S w (.func f #[] #[]) (.func f [] [])
 | iface (t:TypeId) (v:Value) (x:AV) (h:PR S w v x):PR S w (.iface t v) (.iface t x)
 | dw:PR S w (.slice none 0 0) (.slice [] false)
 | aj:PR S w (.slice none 0 0) .aj
 | slice (b o n cap sz:Nat) (e:List (List AV)) (f:Nat->Nat->Value) (hn:e.length=n) (jG:n<=cap)
   (bN:∀ (i:Nat) (r:List AV),e[i]?=some r->r.length=sz)
   (cx:∀ (i j:Nat) (r:List AV) (x:AV),e[i]?=some r->r[j]?=some x->S b (o+i*sz+j)/\w.cell? ⟨b,o+i*sz+j,none⟩=some (f i j)/\(f i j).oneCell'=true)
   (cL:∀ (i j:Nat) (r:List AV) (x:AV),e[i]?=some r->r[j]?=some x->PR S w (f i j) x) :
   PR S w (.slice (some ⟨b,o,none⟩) n cap) (.slice e false)
 | eptr (b o:Nat) (cs:List AV) (f:Nat->Value)
   (cx:∀ (j:Nat) (x:AV),cs[j]?=some x->S b (o+j)/\w.cell? ⟨b,o+j,none⟩=some (f j)/\(f j).oneCell'=true)
   (cL:∀ (j:Nat) (x:AV),cs[j]?=some x->PR S w (f j) x) :
   PR S w (.pointer (some ⟨b,o,none⟩)) (.eptr cs)
 | fg (b kz:Nat) (ka va:Bool) (es:List (List AV)) (E:Array MapEntry) (ck:Nat) (f:Nat->Nat->Value) (hS:S b 0) (hb:w.heap[b]?=some (.map E ck)) (hE:DM E ck kz ka va es f)
   (cL:∀ (i j:Nat) (r:List AV) (x:AV),es[i]?=some r->r[j]?=some x->PR S w (f i j) x):PR S w (.map (some b)) (.fg kz ka va es)
 | nC (b kz:Nat) (ka va:Bool) (es vb:List (List AV)) (E:Array MapEntry) (ck:Nat) (f:Nat->Nat->Value) (hS:S b 0) (hb:w.heap[b]?=some (.map E ck)) (hE:vi E ck kz ka va vb f) (hp:vb.Perm es)
   (cL:∀ (i j:Nat) (r:List AV) (x:AV),vb[i]?=some r->r[j]?=some x->PR S w (f i j) x):PR S w (.map (some b)) (.nC kz ka va es)
theorem PR.fw{S:Nat->Nat->Prop}{w:World}{v:Value}{x:AV}(h:PR S w v x):v.oneCell'=true:=by
 cases h<;>first|rfl|assumption
theorem PR.mono{S S' : Nat->Nat->Prop}{w w' : World}(hS:∀ b o,S b o->S' b o)(hc:∀ b o,S b o->w'.cell? ⟨b,o,none⟩=w.cell? ⟨b,o,none⟩)
  (hm:∀ b E ck,S b 0->w.heap[b]?=some (.map E ck)->w'.heap[b]?=some (.map E ck))
  {v:Value} {x:AV} (h:PR S w v x):PR S' w' v x:=by
 induction h with
 | bool b=>exact .bool b
 | int k n=>exact .int k n
 | str s l h=>exact .str s l h
 | any v h=>exact .any v h
 | di=>exact .di
 | de=>exact .de
 | cM=>exact .cM
 | bR=>exact .bR
 | func f=>exact .func f
 | iface t v x _ ih=>exact .iface t v x ih
 | dw=>exact .dw
 | aj=>exact .aj
 | slice b o n cap sz e f hn jG bN cx _ ih =>
  exact .slice b o n cap sz e f hn jG bN (fun i j r x h1 h2=>by
   obtain⟨a,c,d⟩:=cx i j r x h1 h2
   exact⟨hS _ _ a,(hc _ _ a).trans c,d⟩) ih
 | eptr b o cs f cx _ ih =>
  exact .eptr b o cs f (fun j x h=>by
   obtain⟨a,c,d⟩:=cx j x h
   exact⟨hS _ _ a,(hc _ _ a).trans c,d⟩) ih
 | fg b kz ka va es E ck f h1 h2 h3 _ ih=>exact .fg b kz ka va es E ck f (hS _ _ h1) (hm _ _ _ h1 h2) h3 ih
 | nC b kz ka va es vb E ck f h1 h2 h3 h4 _ ih=>exact .nC b kz ka va es vb E ck f (hS _ _ h1) (hm _ _ _ h1 h2) h3 h4 ih
def pC(w:World)(b:Nat)(ty:TypeId)(n:Nat):Prop:=∃ C fr,w.heap[b]?=some (.cells C ty fr)/\C.size=n
inductive VR (gh:Gh) (n:Nat) (w:World):Value->AV->Prop where
 | plain (v:Value) (x:AV) (h:PR gh.S w v x):VR gh n w v x
 | full (a:Option Addr) (k:Nat) (e:List (List AV)) (h:PR gh.S w (.slice a k k) (.slice e false)) (hz:∀ ad,a=some ad->e=[]->ad.block<w.heap.size):VR gh n w (.slice a k k) (.slice e true)
 | ref (loc off:Nat) (h:loc<n):VR gh n w (.pointer (some ⟨gh.ρ loc,off,none⟩)) (.ref loc off)
 | sref (loc off k cap z:Nat) (h:loc<n) (hk:k<=cap) (hz:z≠0->∃ ty,pC w (gh.ρ loc) ty (off+cap*z)):VR gh n w (.slice (some ⟨gh.ρ loc,off,none⟩) k cap) (.sref loc off k z)
 | mref (loc:Nat) (h:loc<n):VR gh n w (.map (some (gh.ρ loc))) (.mref loc)
 | func (f:Fn) (fs cs:Array Value) (xs ys:List AV) (hf:fs.size=xs.length) (hc:cs.size=ys.length)
   (h1:∀ (j:Nat) (v:Value) (x:AV),fs[j]?=some v->xs[j]?=some x->VR gh n w v x)
   (h2:∀ (j:Nat) (v:Value) (x:AV),cs[j]?=some v->ys[j]?=some x->VR gh n w v x):VR gh n w (.func f fs cs) (.func f xs ys)
 | iface (t:TypeId) (v:Value) (x:AV) (h:VR gh n w v x):VR gh n w (.iface t v) (.iface t x)
 | agg (cs:Array Value) (xs:List AV) (hs:cs.size=xs.length)
   (fY:∀ (j:Nat) (v:Value),cs[j]?=some v->v.oneCell'=true)
   (h:∀ (j:Nat) (v:Value) (x:AV),cs[j]?=some v->xs[j]?=some x->VR gh n w v x):VR gh n w (.agg cs) (.agg xs)
 | tuple (vs:Array Value) (xs:List AV) (hs:vs.size=xs.length)
   (h:∀ (j:Nat) (v:Value) (x:AV),vs[j]?=some v->xs[j]?=some x->VR gh n w v x):VR gh n w (.tuple vs) (.tuple xs)
def Kept(S:Nat->Prop)(x y:Option Obj):Prop :=
 y=x\/∃ C ty lo hi lo' lD,x=some (.cells C ty (lo,hi))/\y=some (.cells C ty (lo',lD))/\(∃ o n,S o/\C[o]?=some (Value.int .u8 n))/\∀ m,hi<=m->(∀ o,m<=o->¬ S o)->lD<=m
theorem Kept.none{S:Nat->Prop}{x y:Option Obj}(h:Kept S x y)(hS:∀ o,¬ S o):y=x:=by
 rcases h with h|⟨_,_,_,_,_,_,_,_,⟨o,_,ho,_⟩,_⟩
 ·exact h
 ·exact absurd ho (hS o)
theorem Kept.trans{S T:Nat->Prop}{x y z:Option Obj}(h:Kept S x y)(h' : Kept T y z)(hT:∀ o,T o->S o):Kept S x z:=by
 rcases h with rfl|⟨C,ty,lo,hi,lo',lD,h1,h2,h3,h4⟩
 ·rcases h' with rfl|⟨C,ty,lo,hi,lo',lD,h1,h2,⟨o,n,ho,hn⟩,h4⟩
  ·exact .inl rfl
  ·exact .inr ⟨C,ty,lo,hi,lo',lD,h1,h2,⟨o,n,hT o ho,hn⟩,fun m hm hS=>h4 m hm (fun o ho ht=>hS o ho (hT o ht))⟩
 ·rcases h' with rfl|⟨C2,ty2,lo2,Ak,lo3,hi3,k1,k2,_,k4⟩
  ·exact .inr ⟨C,ty,lo,hi,lo',lD,h1,h2,h3,h4⟩
  ·rw[h2] at k1
   injection k1 with k1
   injection k1 with e1 e2 e3
   injection e3 with e3 e4
   subst e1 e2 e3 e4
   exact .inr ⟨C,ty,lo,hi,lo3,hi3,h1,k2,h3,fun m hm hS=>k4 m (h4 m hm hS) (fun o ho ht=>hS o ho (hT o ht))⟩
structure Step (touch:bC->Prop) (n:Nat) (gh:Gh) (w:World) (aV:Gh) (w' : World):Prop where
 S:∀ b o,gh.S b o->aV.S b o
 cell:∀ b o,gh.S b o->w'.cell? ⟨b,o,none⟩=w.cell? ⟨b,o,none⟩
 size:w.heap.size<=w'.heap.size
 os:w'.os=w.os
 tape:w'.tape=w.tape
 output:w'.output=w.output
 AF:∀ b,b<w.heap.size->¬ touch (gh.κ b)->Kept (gh.S b) (w.heap[b]?) (w'.heap[b]?)/\aV.κ b=gh.κ b/\∀ o,aV.S b o->gh.S b o
 fresh:∀ b,w.heap.size<=b->aV.κ b≠.outer
 ρ:∀ loc,loc<n->aV.ρ loc=gh.ρ loc
 len:∀ b ty m,pC w b ty m->pC w' b ty m
 mp:∀ b E ck,gh.S b 0->w.heap[b]?=some (.map E ck)->w'.heap[b]?=some (.map E ck)
theorem Step.refl(touch:bC->Prop)(n:Nat)(gh:Gh)(w:World)(hf:∀ b,w.heap.size<=b->gh.κ b≠.outer):Step touch n gh w gh w :=
 ⟨fun _ _ h=>h,fun _ _ _=>rfl,aoa _,rfl,rfl,rfl,fun _ _ _=>⟨.inl rfl,rfl,fun _ h=>h⟩,hf,fun _ _=>rfl,fun _ _ _ h=>h,fun _ _ _ _ h=>h⟩
theorem Step.mono{touch SU:bC->Prop}{n:Nat}{gh aV:Gh}{w w' : World}(h:Step touch n gh w aV w')(ht:∀ p,touch p->SU p):Step SU n gh w aV w' :=
 { h with AF:=fun b hb hn=>h.AF b hb (fun x=>hn (ht _ x)) }
theorem VR.mono{touch:bC->Prop}{n n' : Nat}{gh aV:Gh}{w w' : World}(st:Step touch n gh w aV w')(hn:n<=n')
  {v:Value} {x:AV} (h:VR gh n w v x):VR aV n' w' v x:=by
 induction h with
 | plain v x h=>exact .plain v x (h.mono st.S st.cell st.mp)
 | full a k e h hz=>exact .full a k e (h.mono st.S st.cell st.mp) (fun ad ha he=>apv (hz ad ha he) st.size)
 | ref loc off h=>rw[<- st.ρ loc h];exact .ref loc off (apv h hn)
 | sref loc off k cap z h hk hz=>rw[<- st.ρ loc h];exact .sref loc off k cap z (apv h hn) hk (fun h0=>(hz h0).imp fun ty hb=>by rw[st.ρ loc h];exact st.len _ _ _ hb)
 | mref loc h=>rw[<- st.ρ loc h];exact .mref loc (apv h hn)
 | func f fs cs xs ys hf hc _ _ ih1 ih2=>exact .func f fs cs xs ys hf hc ih1 ih2
 | iface t v x _ ih=>exact .iface t v x ih
 | agg cs xs hs fY _ ih=>exact .agg cs xs hs fY ih
 | tuple vs xs hs _ ih=>exact .tuple vs xs hs ih
def Kr(gh:Gh)(w:World)(p:bC)(v:Value)(e:List (List AV)):Prop :=
 ∃ b cap C ty lo hi sz,v=.slice (some ⟨b,0,none⟩) e.length cap/\gh.κ b=p/\e≠[]/\w.heap[b]?=some (.cells C ty (lo,hi))/\C.size=cap*sz /\
  (∀ (i:Nat) (r:List AV),e[i]?=some r->r.length=sz)/\e.length<=cap/\hi<=e.length*sz/\(∀ o,e.length*sz<=o->¬ gh.S b o)
theorem Kr.mono{touch:bC->Prop}{n:Nat}{gh aV:Gh}{w w' : World}(st:Step touch n gh w aV w'){p:bC}(hp:¬ touch p)
  {v:Value} {e:List (List AV)} (h:Kr gh w p v e):Kr aV w' p v e:=by
 obtain⟨b,cap,C,ty,lo,hi,sz,hv,hk,he,hb,hC,hr,hl,hh,hS⟩:=h
 have bf:b<w.heap.size:=(aoi.1 hb).1
 obtain⟨h1,h2,h3⟩:=st.AF b bf (by rw[hk];exact hp)
 rcases h1 with h1|⟨C',lZ,YS,hi1,lo',lD,k1,k2,_,k4⟩
 ·exact⟨b,cap,C,ty,lo,hi,sz,hv,by rw[h2,hk],he,by rw[h1,hb],hC,hr,hl,hh,fun o ho hs=>hS o ho (h3 o hs)⟩
 ·rw[hb] at k1
  injection k1 with k1
  injection k1 with e1 e2 e3
  injection e3 with e3 e4
  subst e1 e2 e3 e4
  exact⟨b,cap,C,ty,lo',lD,sz,hv,by rw[h2,hk],he,k2,hC,hr,hl,k4 _ hh hS,fun o ho hs=>hS o ho (h3 o hs)⟩
def CR(gh:Gh)(n:Nat)(w:World)(p:bC)(v:Value)(x:AV):Prop :=
 VR gh n w v x\/∃ e,x=.slice e true/\PR gh.S w v (.slice e false)/\Kr gh w p v e
theorem CR.mono{touch:bC->Prop}{n n' : Nat}{gh aV:Gh}{w w' : World}(st:Step touch n gh w aV w')(hn:n<=n'){p:bC}(hp:¬ touch p)
  {v:Value} {x:AV} (h:CR gh n w p v x):CR aV n' w' p v x:=by
 rcases h with h|⟨e,rfl,h1,h2⟩
 ·exact .inl (h.mono st hn)
 ·exact .inr ⟨e,rfl,h1.mono st.S st.cell st.mp,h2.mono st hp⟩
theorem CR.dropped{gh:Gh}{n:Nat}{w:World}{p:bC}{v:Value}{x:AV}(h:CR gh n w p v x):VR gh n w v x.drop:=by
 rcases h with h|⟨e,rfl,h1,_⟩
 ·cases h with
  | plain v x h =>
   cases x<;>try exact .plain _ _ h
   cases h<;>first|exact .plain _ _ .dw|exact .plain _ _ (.slice _ _ _ _ _ _ _ ‹_› ‹_› ‹_› ‹_› ‹_›)
  | full a k e h=>exact .plain _ _ h
  | ref loc off h=>exact .ref loc off h
  | sref loc off k cap z h hk hz=>exact .sref loc off k cap z h hk hz
  | mref loc h=>exact .mref loc h
  | func f fs cs xs ys hf hc h1 h2=>exact .func f fs cs xs ys hf hc h1 h2
  | iface t v x h=>exact .iface t v x h
  | agg cs xs hs fY h=>exact .agg cs xs hs fY h
  | tuple vs xs hs h=>exact .tuple vs xs hs h
 ·exact .plain _ _ h1
theorem VR.dropped{gh:Gh}{n:Nat}{w:World}{v:Value}{x:AV}(h:VR gh n w v x):VR gh n w v x.drop:=CR.dropped (p:=.none) (.inl h)
def gW(gh:Gh)(n:Nat)(w:World)(b:Nat)(p:bC)(q:Nat->bC)(cs:List AV):Prop :=
 gh.κ b=p/\(∀ o,¬ gh.S b o)/\∃ C ty,w.heap[b]?=some (.cells C ty (0,0))/\cs.length<=C.size /\
  ∀ (j:Nat) (v:Value) (x:AV),C[j]?=some v->cs[j]?=some x->v.oneCell'=true/\CR gh n w (q j) v x
theorem gW.mono{touch:bC->Prop}{n n' : Nat}{gh aV:Gh}{w w' : World}(st:Step touch n gh w aV w')(hn:n<=n'){b:Nat}{p:bC}{q:Nat->bC}
  (hp:¬ touch p) (hq:∀ j,¬ touch (q j)) {cs:List AV} (h:gW gh n w b p q cs):gW aV n' w' b p q cs:=by
 obtain⟨hk,hS,C,ty,hb,hC,gC⟩:=h
 have bf:b<w.heap.size:=(aoi.1 hb).1
 obtain⟨h1,h2,h3⟩:=st.AF b bf (by rw[hk];exact hp)
 have h1:=h1.none hS
 exact⟨by rw[h2,hk],fun o ho=>hS o (h3 o ho),C,ty,by rw[h1,hb],hC,fun j v x hv hx=>⟨(gC j v x hv hx).1,(gC j v x hv hx).2.mono st hn (hq j)⟩⟩
def qt(gh:Gh)(w:World)(p:bC)(v:Value)(e:List (List AV)):Prop :=
 ∃ a cap,v=.slice a e.length cap/\((e=[]/\cap=0/\∀ ad,a=some ad->ad.spot=none/\ad.block<w.heap.size)\/∃ b C ty sz,e≠[]/\a=some ⟨b,0,none⟩/\gh.κ b=p/\(∀ o,¬ gh.S b o)/\w.heap[b]?=some (.cells C ty (0,0))/\C.size=cap*sz /\
  e.length<=cap/\(∀ (i:Nat) (r:List AV),e[i]?=some r->r.length=sz) /\
  ∀ (i j:Nat) (r:List AV) (x:AV),e[i]?=some r->r[j]?=some x->∃ u,C[i*sz+j]?=some u/\PR gh.S w u x)
theorem qt.mono{touch:bC->Prop}{n:Nat}{gh aV:Gh}{w w' : World}(st:Step touch n gh w aV w'){p:bC}(hp:¬ touch p)
  {v:Value} {e:List (List AV)} (h:qt gh w p v e):qt aV w' p v e:=by
 obtain⟨a,cap,hv,h⟩:=h
 refine⟨a,cap,hv,?_⟩
 rcases h with h|⟨b,C,ty,sz,dn,ha,hk,hS,hb,hC,hl,hr,gC⟩
 ·exact .inl ⟨h.1,h.2.1,fun ad ha=>⟨(h.2.2 ad ha).1,apv (h.2.2 ad ha).2 st.size⟩⟩
 ·have bf:b<w.heap.size:=(aoi.1 hb).1
  obtain⟨h1,h2,h3⟩:=st.AF b bf (by rw[hk];exact hp)
  have h1:=h1.none hS
  exact .inr ⟨b,C,ty,sz,dn,ha,by rw[h2,hk],fun o ho=>hS o (h3 o ho),by rw[h1,hb],hC,hl,hr,fun i j r x hi hj=>by
   obtain⟨u,hu,hp⟩:=gC i j r x hi hj
   exact⟨u,hu,hp.mono st.S st.cell st.mp⟩⟩
def Az(gh:Gh)(n:Nat)(w:World)(b:Nat)(p:bC)(q:Nat->bC)(kz:Nat)(ka va:Bool)(es:List (List AV)):Prop :=
 gh.κ b=p/\(∀ o,¬ gh.S b o)/\∃ E ck f,w.heap[b]?=some (.map E ck)/\DM E ck kz ka va es f /\
  (∀ (i j:Nat) (r:List AV) (x:AV),es[i]?=some r->r[j]?=some x->j<kz->PR gh.S w (f i j) x) /\
  ∀ (i j:Nat) (r:List AV) (x:AV),es[i]?=some r->r[j]?=some x->kz<=j->(f i j).oneCell'=true/\(va=true->VR gh n w (f i j) x)/\CR gh n w (q i) (f i j) x
theorem Az.mono{touch:bC->Prop}{n n' : Nat}{gh aV:Gh}{w w' : World}(st:Step touch n gh w aV w')(hn:n<=n'){b:Nat}{p:bC}{q:Nat->bC}(hp:¬ touch p)(hq:∀ i,¬ touch (q i))
  {kz:Nat} {ka va:Bool} {es:List (List AV)} (h:Az gh n w b p q kz ka va es):Az aV n' w' b p q kz ka va es:=by
 obtain⟨hk,hS,E,ck,f,hb,hE,h1,h2⟩:=h
 have bf:b<w.heap.size:=(aoi.1 hb).1
 obtain⟨k1,k2,k3⟩:=st.AF b bf (by rw[hk];exact hp)
 have k1:=k1.none hS
 exact⟨by rw[k2,hk],fun o ho=>hS o (k3 o ho),E,ck,f,by rw[k1,hb],hE,fun i j r x hi hj hl=>(h1 i j r x hi hj hl).mono st.S st.cell st.mp,
  fun i j r x hi hj hl=>⟨(h2 i j r x hi hj hl).1,fun hv=>((h2 i j r x hi hj hl).2.1 hv).mono st hn,(h2 i j r x hi hj hl).2.2.mono st hn (hq i)⟩⟩
def sQ(gh:Gh)(n:Nat)(w:World)(b loc:Nat):bZ->Prop
 | .map kz ka va es=>Az gh n w b (.hb loc) (fun i=>.hs loc i) kz ka va es/\(es.all fun r=>r.all (bo loc))=true
 | .fg kz ka va es=>PR gh.S w (.map (some b)) (.fg kz ka va es)
 | .IZ cs=>PR gh.S w (.pointer (some ⟨b,0,none⟩)) (.eptr cs)
 | .cS cs=>gW gh n w b (.hb loc) (fun j=>.hs loc j) cs
 | _=>True
theorem sQ.mono{touch:bC->Prop}{n n' : Nat}{gh aV:Gh}{w w' : World}(st:Step touch n gh w aV w')(hn:n<=n'){b loc:Nat}(hp:¬ touch (.hb loc))(hq:∀ i,¬ touch (.hs loc i))
  {o:bZ} (h:sQ gh n w b loc o):sQ aV n' w' b loc o:=by
 cases o with
 | map kz ka va es=>exact⟨h.1.mono st hn hp hq,h.2⟩
 | fg kz ka va es=>exact PR.mono st.S st.cell st.mp h
 | IZ cs=>exact PR.mono st.S st.cell st.mp h
 | cS cs=>exact gW.mono st hn hp hq h
 | _=>trivial
def vg(gh:Gh)(w:World)(b:Nat)(p:bC)(kz:Nat)(ka va:Bool)(cur:List AV)(todo:List (List AV)):Prop :=
 gh.κ b=p/\(∀ o,¬ gh.S b o)/\∃ (m:Option Nat) (since:Nat) (seen:Array Nat) (last:Nat),w.heap[b]?=some (.mapIter m since seen last) /\
  ((m=none/\todo=[]/\seen=#[]/\cur=[])\/∃ m0 E es ck f,m=some m0/\gh.S m0 0/\w.heap[m0]?=some (.map E ck)/\vi E ck kz ka va es f/\since=ck/\last=ck /\
   (∀ (i j:Nat) (r:List AV) (x:AV),es[i]?=some r->r[j]?=some x->PR gh.S w (f i j) x) /\
   ((seen.back?=none/\cur=[])\/∃ (s i:Nat) (e:MapEntry),seen.back?=some s/\E[i]?=some e/\e.born=s/\es[i]?=some cur) /\
   todo.Perm (((E.toList.zip es).filter fun p=>!seen.contains p.1.born).map (·.2)))
theorem vg.mono{touch:bC->Prop}{n:Nat}{gh aV:Gh}{w w' : World}(st:Step touch n gh w aV w'){b:Nat}{p:bC}(hp:¬ touch p)
  {kz:Nat} {ka va:Bool} {cur:List AV} {todo:List (List AV)} (h:vg gh w b p kz ka va cur todo):vg aV w' b p kz ka va cur todo:=by
 obtain⟨hk,hS,m,since,seen,last,hb,h⟩:=h
 have bf:b<w.heap.size:=(aoi.1 hb).1
 obtain⟨k1,k2,k3⟩:=st.AF b bf (by rw[hk];exact hp)
 have k1:=k1.none hS
 refine⟨by rw[k2,hk],fun o ho=>hS o (k3 o ho),m,since,seen,last,by rw[k1,hb],?_⟩
 rcases h with h|⟨m0,E,es,ck,f,h1,h2,h3,h4,h5,h6,h7,h8,h9⟩
 ·exact .inl h
 ·exact .inr ⟨m0,E,es,ck,f,h1,st.S _ _ h2,st.mp _ _ _ h2 h3,h4,h5,h6,fun i j r x hi hj=>(h7 i j r x hi hj).mono st.S st.cell st.mp,h8,h9⟩
def SR(gh:Gh)(n nt:Nat)(w:World)(T:aQ)(gen:Nat)(tm:Nat->Value)(i:Nat)(v:Value)(x:AV):Prop :=
 match x with
 | .lbox g cs=>g<gen/\∃ b,v=.pointer (some ⟨b,0,none⟩)/\gW gh n w b (.bx i) (fun j=>.sc i j) cs
 | .lsl g e=>g<gen/\qt gh w (.bx i) v e
 | .lref s g off=>s<nt/\g<gen/\(bk (T s)=some g->∀ b,tm s=.pointer (some ⟨b,0,none⟩)->v=.pointer (some ⟨b,off,none⟩))
 | .lsr s g=>s<nt/\g<gen/\(bk (T s)=some g->v=tm s)
 | .eref s g r z off=>s<nt/\g<gen/\(bk (T s)=some g->∀ b k cap,tm s=.slice (some ⟨b,0,none⟩) k cap->v=.pointer (some ⟨b,r*z+off,none⟩))
 | .iter g kz ka va cur todo=>g<gen/\∃ b,v=.pointer (some ⟨b,0,none⟩)/\vg gh w b (.bx i) kz ka va cur todo
 | x=>CR gh n w (.sl i) v x
structure aX (G:Nat->List AV) (base:Nat) (H:ah) (gh:Gh) (w:World):Prop where
 size:base<=w.heap.size
 nW:∀ b o,gh.S b o->b<w.heap.size
 oL:∀ b,gh.κ b≠.none->base<=b/\b<w.heap.size
 aZ:∀ (g j:Nat) (x:AV),(G g)[j]?=some x->∃ v,w.cell? ⟨g,j,none⟩=some v/\PR gh.S w v x/\gh.S g j
 boxes:∀ (loc:Nat) (ty:TypeId) (cs:List AV),H[loc]?=some (bZ.box ty cs)->gW gh H.length w (gh.ρ loc) (.hb loc) (fun j=>.hs loc j) cs
 refs:∀ (loc:Nat) (ty:TypeId) (cs:List AV),H[loc]?=some (bZ.box ty cs)->cs.all (bo loc)=true
 xf:∀ g,G g≠[]->∃ ty,pC w g ty (G g).length
 bytes:∀ b o n,gh.S b o->w.cell? ⟨b,o,none⟩=some (.int .u8 n)->∃ C fr,w.heap[b]?=some (.cells C ij fr)
 more:∀ (loc:Nat) (o:bZ),H[loc]?=some o->sQ gh H.length w (gh.ρ loc) loc o
 types:∀ (loc:Nat) (ty:TypeId) (cs:List AV),H[loc]?=some (bZ.box ty cs)->ty≠bV->pC w (gh.ρ loc) ty cs.length
structure aht (nt:Nat) (gh:Gh) (w:World) (a:Act) (s:AS):Prop where
 defers:a.defers=[]
 size:a.tmps.size=nt
 slot:∀ i,i<nt->SR gh s.H.length nt w s.T s.gen (fun k=>a.tmps.getD k undef) i (a.tmps.getD i undef) (s.T i)
theorem aX.ko{G:Nat->List AV}{base:Nat}{H:ah}{gh aV:Gh}{w w' : World}{touch:bC->Prop}{n:Nat}(h:aX G base H gh w)(st:Step touch n gh w aV w')
  (jZ:∀ b o m,aV.S b o->gh.S b o\/(w'.cell? ⟨b,o,none⟩=some (.int .u8 m)->∃ C fr,w'.heap[b]?=some (.cells C ij fr))) :
  ∀ b o m,aV.S b o->w'.cell? ⟨b,o,none⟩=some (.int .u8 m)->∃ C fr,w'.heap[b]?=some (.cells C ij fr):=by
 intro b o m hs hc
 rcases jZ b o m hs with ho|hn
 ·obtain⟨C,fr,h1⟩:=h.bytes b o m ho (by rw[<- st.cell b o ho];exact hc)
  obtain⟨C',fr',h2,_⟩:=st.len b ij C.size ⟨C,fr,h1,rfl⟩
  exact⟨C',fr',h2⟩
 ·exact hn hc
theorem aX.fresh{G:Nat->List AV}{base:Nat}{H:ah}{gh:Gh}{w:World}(h:aX G base H gh w)(b:Nat)(hb:w.heap.size<=b):gh.κ b=.none:=by
 by_cases hk:gh.κ b=.none
 ·exact hk
 ·have:=(h.oL b hk).2;omega
theorem SR.mono{touch:bC->Prop}{n n' nt:Nat}{gh aV:Gh}{w w' : World}(st:Step touch n gh w aV w')(hn:n<=n'){T T' : aQ}{gen gen' : Nat}(hg:gen<=gen')
  {tm tm' : Nat->Value} {i:Nat} (h1:¬ touch (.bx i)) (h2:¬ touch (.sl i)) (h3:∀ j,¬ touch (.sc i j))
  (hT:∀ s,s<nt->(bk (T' s)=bk (T s)/\tm' s=tm s)\/bk (T' s)=none\/∃ g,gen<=g/\bk (T' s)=some g)
  {v:Value} {x:AV} (h:SR gh n nt w T gen tm i v x):SR aV n' nt w' T' gen' tm' i v x:=by
 have key:∀ s g,s<nt->g<gen->bk (T' s)=some g->bk (T s)=some g/\tm' s=tm s:=by
  intro s g hs DG sk
  rcases hT s hs with ⟨h,h'⟩|h|⟨g',hg',h⟩
  ·exact⟨h ▸ sk,h'⟩
  ·rw[h] at sk;cases sk
  ·rw[h] at sk;injection sk with e;omega
 cases x
 case lbox g cs =>
  obtain⟨Jk,b,hv,hb⟩:=h
  exact⟨by omega,b,hv,hb.mono st hn h1 h3⟩
 case lsl g e=>exact⟨by have:=h.1;omega,h.2.mono st h1⟩
 case iter g kz ka va cur todo =>
  obtain⟨Jk,b,hv,hb⟩:=h
  exact⟨by omega,b,hv,hb.mono st h1⟩
 case lref s g off =>
  obtain⟨hs,Jk,hr⟩:=h
  refine⟨hs,by omega,fun sk b hb=>?_⟩
  obtain⟨k1,k2⟩:=key s g hs Jk sk
  exact hr k1 b (k2 ▸ hb)
 case lsr s g =>
  obtain⟨hs,Jk,hr⟩:=h
  refine⟨hs,by omega,fun sk=>?_⟩
  obtain⟨k1,k2⟩:=key s g hs Jk sk
  rw[k2];exact hr k1
 case eref s g r z off =>
  obtain⟨hs,Jk,hr⟩:=h
  refine⟨hs,by omega,fun sk b k cap hb=>?_⟩
  obtain⟨k1,k2⟩:=key s g hs Jk sk
  exact hr k1 b k cap (k2 ▸ hb)
 all_goals exact CR.mono st hn h2 h
def pA(p:bC):Prop:=p≠.none/\p≠.outer
structure Ext (n:Nat) (gh:Gh) (w:World) (aV:Gh) (w' : World):Prop where
 step:Step pA n gh w aV w'
 out:∀ b,aV.κ b=.outer->gh.κ b=.outer
theorem Ext.refl(n:Nat)(gh:Gh)(w:World)(hf:∀ b,w.heap.size<=b->gh.κ b≠.outer):Ext n gh w gh w:=⟨Step.refl _ n gh w hf,fun _ h=>h⟩
theorem Ext.trans{n n' : Nat}{g1 g2 g3:Gh}{w1 w2 w3:World}(h:Ext n g1 w1 g2 w2)(h' : Ext n' g2 w2 g3 w3)(hn:n<=n'):Ext n g1 w1 g3 w3:=by
 refine⟨⟨fun b o hs=>h'.step.S b o (h.step.S b o hs),fun b o hs=>(h'.step.cell b o (h.step.S b o hs)).trans (h.step.cell b o hs),aoS h.step.size h'.step.size,
  h'.step.os.trans h.step.os,h'.step.tape.trans h.step.tape,h'.step.output.trans h.step.output,?_,?_,fun loc hl=>(h'.step.ρ loc (apv hl hn)).trans (h.step.ρ loc hl),fun b ty m hb=>h'.step.len b ty m (h.step.len b ty m hb),fun b E ck hs hb=>h'.step.mp b E ck (h.step.S b 0 hs) (h.step.mp b E ck hs hb)⟩,fun b hb=>h.out b (h'.out b hb)⟩
 ·intro b hb hnt
  obtain⟨a1,a2,a3⟩:=h.step.AF b hb hnt
  obtain⟨c1,c2,c3⟩:=h'.step.AF b (apv hb h.step.size) (by rw[a2];exact hnt)
  exact⟨a1.trans c1 a3,c2.trans a2,fun o ho=>a3 o (c3 o ho)⟩
 ·intro b hb ho
  have:=h'.out b ho
  by_cases jF:w2.heap.size<=b
  ·exact h'.step.fresh b jF ho
  ·exact h.step.fresh b hb this
structure FR (L:List Nat) (nt:Nat) (gh:Gh) (w:World) (a:Act) (s:AS):Prop extends aht nt gh w a s where
 obj:∀ i,(bk (s.T i)).isSome=true->i∈L
def fP(a:Act)(k:Nat):Value:=a.tmps.getD k undef
theorem oy(a:Act)(d:Nat)(v:Value)(k:Nat)(hd:d<a.tmps.size):fP (a.put (some d) v) k=if k=d then v else fP a k:=by
 unfold fP Act.put
 by_cases h:k=d
 ·subst h;simp[hd]
 ·simp[h,aqc (apX h)]
theorem fW(a b:Nat):Nat.beq a b=decide (a=b):=by
 by_cases h:a=b
 ·subst h;simp
 ·have h1:Nat.beq a b≠true:=fun h'=>h (apo h')
  rw[ao1 h]
  exact Bool.eq_false_iff.2 h1
theorem iO(T:aQ)(d:Nat)(v:AV)(k:Nat):T.put d v k=if k=d then v else T k:=by
 unfold aQ.put
 rw[fW]
 by_cases h:k=d
 ·subst h;simp
 ·simp[h]
theorem FR.update{L:List Nat}{nt:Nat}{gh aV:Gh}{w w' : World}{a a' : Act}{s s' : AS}{touch:bC->Prop}(h:FR L nt gh w a s)
  (st:Step touch s.H.length gh w aV w') (O' : a'.defers=[]) (gO:a'.tmps.size=nt) (hn:s.H.length<=s'.H.length) (hg:s.gen<=s'.gen)
  (D:Nat->Prop)
  (Pj:∀ i,¬ D i->s'.T i=s.T i/\(i<nt->fP a' i=fP a i/\¬ touch (.bx i)/\¬ touch (.sl i)/\∀ j,¬ touch (.sc i j)))
  (aeJ:∀ i,D i->(i<nt/\bk (s'.T i)=bk (s.T i)/\fP a' i=fP a i)\/bk (s'.T i)=none\/(i∈L/\∃ g,s.gen<=g/\bk (s'.T i)=some g))
  (jZ:∀ i,D i->i<nt->SR aV s'.H.length nt w' s'.T s'.gen (fP a') i (fP a' i) (s'.T i)):FR L nt aV w' a' s':=by
 have hT:∀ i,i<nt->(bk (s'.T i)=bk (s.T i)/\fP a' i=fP a i)\/bk (s'.T i)=none\/∃ g,s.gen<=g/\bk (s'.T i)=some g:=by
  intro i hi
  by_cases hD:D i
  ·rcases aeJ i hD with ⟨_,h⟩|h|⟨_,h⟩
   ·exact .inl h
   ·exact .inr (.inl h)
   ·exact .inr (.inr h)
  ·obtain⟨k1,k2⟩:=Pj i hD
   exact .inl ⟨by rw[k1],(k2 hi).1⟩
 refine⟨⟨O',gO,fun i hi=>?_⟩,fun i hi=>?_⟩
 ·by_cases hD:D i
  ·exact jZ i hD hi
  ·obtain⟨k1,k2⟩:=Pj i hD
   obtain⟨k3,t1,t2,t3⟩:=k2 hi
   show SR aV s'.H.length nt w' s'.T s'.gen (fP a') i (fP a' i) (s'.T i)
   rw[k1,k3]
   exact SR.mono st hn hg t1 t2 t3 hT (h.slot i hi)
 ·by_cases hD:D i
  ·rcases aeJ i hD with ⟨_,h',_⟩|h'|⟨h',_⟩
   ·exact h.obj i (by rw[<- h'];exact hi)
   ·rw[h'] at hi;cases hi
   ·exact h'
  ·rw[(Pj i hD).1] at hi
   exact h.obj i hi
def mO(gh:Gh)(n nt:Nat)(w:World)(T:aQ)(gen:Nat)(tm:Nat->Value)(v:Value)(x:AV):Prop :=
 match x with
 | .lbox ..|.lsl ..|.iter ..=>False
 | .lref s g off=>s<nt/\g<gen/\(bk (T s)=some g->∀ b,tm s=.pointer (some ⟨b,0,none⟩)->v=.pointer (some ⟨b,off,none⟩))
 | .lsr s g=>s<nt/\g<gen/\(bk (T s)=some g->v=tm s)
 | .eref s g r z off=>s<nt/\g<gen/\(bk (T s)=some g->∀ b k cap,tm s=.slice (some ⟨b,0,none⟩) k cap->v=.pointer (some ⟨b,r*z+off,none⟩))
 | x=>VR gh n w v x
theorem mO.bk{gh:Gh}{n nt:Nat}{w:World}{T:aQ}{gen:Nat}{tm:Nat->Value}{v:Value}{x:AV}(h:mO gh n nt w T gen tm v x):bk x=none:=by
 cases x<;>first|rfl|exact h.elim
theorem mO.sr{gh:Gh}{n nt:Nat}{w:World}{T:aQ}{gen:Nat}{tm:Nat->Value}{v:Value}{x:AV}(h:mO gh n nt w T gen tm v x)(i:Nat):SR gh n nt w T gen tm i v x:=by
 cases x<;>first|exact h.elim|exact h|exact .inl h
theorem mO.dC{gh:Gh}{n nt:Nat}{w:World}{T:aQ}{gen:Nat}{tm:Nat->Value}{v:Value}{x:AV}(h:VR gh n w v x):mO gh n nt w T gen tm v x:=by
 cases h with
 | plain v x h=>have h0:=h;cases h<;>exact .plain _ _ h0
 | full a k e h hz=>exact .full a k e h hz
 | ref loc off h=>exact .ref loc off h
 | sref loc off k cap z h hk hz=>exact .sref loc off k cap z h hk hz
 | mref loc h=>exact .mref loc h
 | func f fs cs xs ys hf hc h1 h2=>exact .func f fs cs xs ys hf hc h1 h2
 | iface t v x h=>exact .iface t v x h
 | agg cs xs hs fY h=>exact .agg cs xs hs fY h
 | tuple vs xs hs h=>exact .tuple vs xs hs h
theorem jk(s:AS)(d:Option Nat)(x:AV):(s.cH d x).H=s.H/\(s.cH d x).gen=s.gen/\(s.cH d x).lo=s.lo:=by cases d<;>exact⟨rfl,rfl,rfl⟩
theorem Hj(a:Act)(d:Option Nat)(v:Value):(a.put d v).tmps.size=a.tmps.size:=by cases d<;>simp[Act.put]
theorem wN(a:Act)(d:Option Nat)(v:Value):(a.put d v).defers=a.defers:=by cases d<;>rfl
theorem FR.put{L:List Nat}{nt:Nat}{gh aV:Gh}{w w' : World}{a:Act}{s:AS}{H' : ah}{lo' : Nat}{touch:bC->Prop}(h:FR L nt gh w a s)(st:Step touch s.H.length gh w aV w')
  (ht:∀ i,¬ touch (.bx i)/\¬ touch (.sl i)/\∀ j,¬ touch (.sc i j)) (hH:s.H.length<=H'.length)
  (d:Option Nat) (hd:∀ k,d=some k->k<nt) {v:Value} {x:AV} (hv:mO aV H'.length nt w' s.T s.gen (fP a) v x) :
  FR L nt aV w' (a.put d v) (({ s with H:=H',lo:=lo' } : AS).cH d x):=by
 cases d with
 | none =>
  exact h.update st h.defers h.size hH (aoa _) (fun _=>False) (fun i _=>⟨rfl,fun _=>⟨rfl,ht i⟩⟩) (fun _ h=>h.elim) (fun _ h=>h.elim)
 | some d =>
  have bf:=hd d rfl
  have gO:d<a.tmps.size:=by rw[h.size];exact bf
  refine h.update (s':=({ s with H:=H',lo:=lo' } : AS).cH (some d) x) st ((wN a (some d) v).trans h.defers) ((Hj a (some d) v).trans h.size) hH (aoa _) (fun i=>i=d) ?_ ?_ ?_
  ·intro i hi
   refine⟨by simp[AS.cH,AS.cc,iO,hi],fun _=>⟨by rw[oy a d v i gO,if_neg hi],ht i⟩⟩
  ·rintro i rfl
   exact .inr (.inl (by simp[AS.cH,AS.cc,iO];exact hv.bk))
  ·rintro i rfl hi
   simp only[AS.cH,AS.cc,iO,apB]
   rw[oy a i v i gO,if_pos rfl]
   refine SR.mono (touch:=fun _=>False) (n:=H'.length) (gh:=aV) (w:=w') (Step.refl _ _ _ _ (fun b hb=>st.fresh b (aoS st.size hb))) (aoa _) (aoa _) id id (fun _=>id) ?_ (hv.sr i)
   intro k hk
   by_cases NF:k=i
   ·subst NF;exact .inr (.inl (by simp[aQ.put];exact hv.bk))
   ·exact .inl ⟨by simp[iO,NF],by rw[oy a i v k gO,if_neg NF]⟩
section
section
variable {gh:Gh}{n:Nat}{w:World}{v:Value}
theorem VR.jI{b:Bool}(h:VR gh n w v (.bool b)):v=.bool b:=by cases h with|plain _ _ h=>cases h;rfl
theorem VR.jl{k:IntKind}{m:Int}(h:VR gh n w v (.int k m)):v=.int k m:=by cases h with|plain _ _ h=>cases h;rfl
theorem VR.jn{l:List UInt8}(h:VR gh n w v (.str l)):∃ s:ByteArray,v=.string s/\s.data.toList=l:=by cases h with|plain _ _ h=>cases h;exact⟨_,rfl,‹_›⟩
theorem VR.uH(h:VR gh n w v .bR):v=.nilIface:=by cases h with|plain _ _ h=>cases h;rfl
theorem VR.wG(h:VR gh n w v .cM):v=.nilFunc:=by cases h with|plain _ _ h=>cases h;rfl
theorem VR.MB{t:TypeId}{x:AV}(h:VR gh n w v (.iface t x)):∃ u,v=.iface t u:=by
 cases h with
 | plain _ _ h=>cases h;exact⟨_,rfl⟩
 | iface _ _ _ _=>exact⟨_,rfl⟩
theorem VR.lN(h:VR gh n w v .aj):v=.slice none 0 0:=by cases h with|plain _ _ h=>cases h;rfl
theorem VR.iF{e:List (List AV)}(h:VR gh n w v (.slice e false)):PR gh.S w v (.slice e false):=by cases h with|plain _ _ h=>exact h
theorem VR.uG{cs:List AV}(h:VR gh n w v (.eptr cs)):PR gh.S w v (.eptr cs):=by cases h with|plain _ _ h=>exact h
theorem VR.jm{loc off:Nat}(h:VR gh n w v (.ref loc off)):loc<n/\v=.pointer (some ⟨gh.ρ loc,off,none⟩):=by
 cases h with
 | plain _ _ h=>cases h
 | ref _ _ h=>exact⟨h,rfl⟩
theorem VR.jJ{loc off k z:Nat}(h:VR gh n w v (.sref loc off k z)):loc<n/\∃ cap,k<=cap/\(z≠0->∃ ty,pC w (gh.ρ loc) ty (off+cap*z))/\v=.slice (some ⟨gh.ρ loc,off,none⟩) k cap:=by
 cases h with
 | plain _ _ h=>cases h
 | sref _ _ _ cap _ h hk hz=>exact⟨h,cap,hk,hz,rfl⟩
theorem VR.nK{loc:Nat}(h:VR gh n w v (.mref loc)):loc<n/\v=.map (some (gh.ρ loc)):=by
 cases h with
 | plain _ _ h=>cases h
 | mref _ h=>exact⟨h,rfl⟩
theorem VR.ra{f:Fn}{xs ys:List AV}(h:VR gh n w v (.func f xs ys)):∃ fs cs,v=.func f fs cs/\fs.size=xs.length/\cs.size=ys.length /\
  (∀ (j:Nat) (v:Value) (x:AV),fs[j]?=some v->xs[j]?=some x->VR gh n w v x)/\(∀ (j:Nat) (v:Value) (x:AV),cs[j]?=some v->ys[j]?=some x->VR gh n w v x):=by
 cases h with
 | plain _ _ h=>cases h;exact⟨#[],#[],rfl,rfl,rfl,fun j v x h=>by simp at h,fun j v x h=>by simp at h⟩
 | func _ fs cs _ _ hf hc h1 h2=>exact⟨fs,cs,rfl,hf,hc,h1,h2⟩
theorem VR.kj{xs:List AV}(h:VR gh n w v (.agg xs)):∃ cs:Array Value,v=.agg cs/\cs.size=xs.length/\(∀ (j:Nat) (v:Value),cs[j]?=some v->v.oneCell'=true) /\
  (∀ (j:Nat) (v:Value) (x:AV),cs[j]?=some v->xs[j]?=some x->VR gh n w v x):=by
 cases h with
 | plain _ _ h=>cases h
 | agg cs _ hs fY h=>exact⟨cs,rfl,hs,fY,h⟩
theorem VR.rS{xs:List AV}(h:VR gh n w v (.tuple xs)):∃ vs:Array Value,v=.tuple vs/\vs.size=xs.length /\
  (∀ (j:Nat) (v:Value) (x:AV),vs[j]?=some v->xs[j]?=some x->VR gh n w v x):=by
 cases h with
 | plain _ _ h=>cases h
 | tuple vs _ hs h=>exact⟨vs,rfl,hs,h⟩
theorem VR.MC(h:VR gh n w v .undef):v=undef:=by
 obtain⟨vs,rfl,hs,_⟩:=h.rS
 have:vs=#[]:=aqd (by simpa using hs)
 subst this;rfl
end
theorem VR.undef{gh:Gh}{n:Nat}{w:World} : VR gh n w undef .undef:=.tuple #[] [] rfl (fun j v x h=>by simp at h)
theorem ud{gh:Gh}{n:Nat}{w:World}{v:Value}{x:AV}(h:jT v=some x):VR gh n w v x:=by
 unfold jT at h
 split at h<;>first|(injection h with h;subst h)|cases h
 ·exact .plain _ _ (.bool _)
 ·exact .plain _ _ (.int _ _)
 ·exact .plain _ _ (.str _ _ rfl)
 ·exact .full none 0 [] .dw (fun ad h=>by cases h)
 ·exact .plain _ _ .di
 ·exact .plain _ _ .de
 ·exact .plain _ _ .cM
 ·exact .plain _ _ .bR
theorem j8{gh:Gh}{n:Nat}{w:World} : ∀ {vs:List Value} {xs:List AV},dS vs=some xs->vs.length=xs.length /\
  ∀ (j:Nat) (v:Value) (x:AV),vs[j]?=some v->xs[j]?=some x->VR gh n w v x/\v.oneCell'=true
 | [],xs,h=>by simp[dS] at h;subst h;exact⟨rfl,fun j v x h=>by simp at h⟩
 | v :: r,xs,h=>by
  simp only[dS,an1,an0] at h
  obtain⟨x,hx,ys,hy,rfl⟩:=h
  obtain⟨h1,h2⟩:=j8 (gh:=gh) (n:=n) (w:=w) hy
  refine⟨by simp[h1],fun j u y hu hy=>?_⟩
  cases j with
  | zero =>
   simp at hu hy
   subst hu hy
   refine⟨ud hx,?_⟩
   unfold jT at hx
   split at hx<;>first|rfl|cases hx
  | succ j=>exact h2 j u y (by simpa using hu) (by simpa using hy)
theorem IF{gh:Gh}{n:Nat}{w:World}{v:Value}{x:AV}(h:jT v=some x):VR gh n w v (nS x):=by
 have h0:=ud (gh:=gh) (n:=n) (w:=w) h
 unfold jT at h
 split at h<;>first|(injection h with h;subst h)|cases h
 all_goals first|exact h0|exact .plain _ _ .aj
theorem sA:∀ {vs:List Value} {xs:List AV},dS vs=some xs->∀ (j:Nat) (v:Value) (x:AV),vs[j]?=some v->xs[j]?=some x->jT v=some x
 | [],_,_,j,v,x,hv,_=>by simp at hv
 | u :: r,xs,h,j,v,x,hv,hx=>by
  simp only[dS,an1,an0] at h
  obtain⟨y,hy,ys,Pz,rfl⟩:=h
  cases j with
  | zero=>simp at hv hx;subst hv hx;exact hy
  | succ j=>exact sA Pz j v x (by simpa using hv) (by simpa using hx)
theorem jB{gh:Gh}{n:Nat}{w:World}{v:Value}{x:AV}(h:qC v=some x):VR gh n w v x:=by
 unfold qC at h
 split at h
 ·rename_i vs
  simp only[an0] at h
  obtain⟨l,hl,rfl⟩:=h
  obtain⟨h1,h2⟩:=j8 (gh:=gh) (n:=n) (w:=w) hl
  refine .agg vs _ (by simpa using h1) (fun j v hv=>?_) (fun j v x hv hx=>?_)
  ·have hj:vs.toList[j]?=some v:=by simpa using hv
   obtain⟨y,hy⟩:∃ y,l[j]?=some y:=by
    have:j<vs.toList.length:=(an9.1 hj).1
    exact⟨_,an' (by omega)⟩
   exact (h2 j v y hj hy).2
  ·rw[aor,an0] at hx
   obtain⟨y,hy,rfl⟩:=hx
   exact IF (sA hl j v y (by simpa using hv) hy)
 ·exact ud h
section
variable {G:Nat->List AV}{base nt:Nat}{L:List Nat}{gh:Gh}{w:World}{a:Act}{s:AS}{x:Operand}{y:aF}
theorem T6(hW:aX G base s.H gh w)(g:Nat):VR gh s.H.length w (.pointer (some ⟨g,0,none⟩)) (.eptr (G g)):=by
 refine .plain _ _ ?_
 let f:Nat->Value:=fun j=>(w.cell? ⟨g,j,none⟩).getD undef
 refine .eptr g 0 (G g) f ?_ ?_
 ·intro j x h
  obtain⟨v,hv,hp,hs⟩:=hW.aZ g j x h
  refine⟨by simpa using hs,by simp[f,hv],?_⟩
  simp only[f,hv,apf];exact hp.fw
 ·intro j x h
  obtain⟨v,hv,hp,hs⟩:=hW.aZ g j x h
  simp only[f,hv,apf];exact hp
theorem arg_val(hW:aX G base s.H gh w)(hF:FR L nt gh w a s)(hc:ax nt x=some y) :
  mO gh s.H.length nt w s.T s.gen (fP a) (a.eval x) (y.addr G s.T).drop:=by
 cases x with
 | tmp t =>
  simp only[ax] at hc
  rcases apk (Nat.blt t nt) with hb|hb<;>rw[hb] at hc<;>simp at hc
  subst hc
  have bf:t<nt:=by simpa [aoO] using hb
  have h:=hF.slot t bf
  show mO gh s.H.length nt w s.T s.gen (fP a) (fP a t) _
  change SR gh s.H.length nt w s.T s.gen (fP a) t (fP a t) (s.T t) at h
  simp only[aF.addr]
  generalize hX:s.T t=X at h
  cases X
  case lbox g cs =>
   obtain⟨hg,b,hv,_⟩:=h
   refine⟨bf,hg,fun _ b' gm=>gm⟩
  case lsl g e=>exact⟨bf,h.1,fun _=>rfl⟩
  case lref=>exact h
  case lsr=>exact h
  case eref=>exact h
  case iter g kz ka va cur todo =>
   obtain⟨_,b,hv,_⟩:=h
   rw[hv]
   exact .dC (.plain _ _ (.any _ rfl))
  all_goals exact .dC (CR.dropped h)
 | const v =>
  simp only[ax,an0] at hc
  obtain⟨z,hz,rfl⟩:=hc
  exact .dC (VR.dropped (jB hz))
 | global g =>
  simp only[ax,an2] at hc
  subst hc
  exact .dC (VR.dropped (T6 hW g))
 | func f =>
  simp only[ax,an2] at hc
  subst hc
  exact .dC (.plain _ _ (.func _))
theorem Lx{T:aQ}(h:bk (y.eval G T)=none):y.addr G T=y.eval G T:=by
 cases y with
 | tmp t =>
  simp only[aF.addr,aF.eval] at h ⊢
  cases hX:T t<;>rw[hX] at h<;>first|rfl|(simp[bk] at h)
 | bt v=>rfl
 | aZ g=>rfl
 | fn f=>rfl
theorem mO.vr{n:Nat}{T:aQ}{gen:Nat}{tm:Nat->Value}{v:Value}{z:AV}(h:mO gh n nt w T gen tm v z)(hz:aG z=true):VR gh n w v z:=by
 cases z<;>first|exact h|(simp[aG] at hz)
theorem jE{z:AV} : aG z.drop=aG z:=by cases z<;>rfl
theorem cJ(hW:aX G base s.H gh w)(hF:FR L nt gh w a s)(hc:ax nt x=some y){z:AV}(hz:y.eval G s.T=z)(hf:aG z=true) :
  VR gh s.H.length w (a.eval x) z.drop:=by
 have hg:bk (y.eval G s.T)=none:=by rw[hz];cases z<;>first|rfl|(simp[aG] at hf)
 have h:=arg_val hW hF hc
 rw[Lx hg,hz] at h
 exact h.vr (by rw[jE];exact hf)
theorem oh(hW:aX G base s.H gh w)(hF:FR L nt gh w a s)(hc:ax nt x=some y){z:AV}(hz:y.addr G s.T=z)(hf:aG z=true) :
  VR gh s.H.length w (a.eval x) z.drop:=by
 have h:=arg_val hW hF hc
 rw[hz] at h
 exact h.vr (by rw[jE];exact hf)
theorem BU(hF:FR L nt gh w a s){t:Nat}(bf:t<nt){e:List (List AV)}{own:Bool}(hz:s.T t=.slice e own):CR gh s.H.length w (.sl t) (a.eval (.tmp t)) (.slice e own):=by
 have h:=hF.slot t bf
 rw[hz] at h
 exact h
end
end
section
section
variable {P:Program}{G:Nat->List AV}{base nt:Nat}{L:List Nat}{gh:Gh}{w:World}{a:Act}{s:AS}
theorem ae{α:Type}{b:Bool}{x:Option α}{y:α}(h:cond b x none=some y):b=true/\x=some y:=by cases b<;>simp_all
theorem ZX(hW:aX G base s.H gh w)(hF:FR L nt gh w a s){x:Operand}{y:aF}{take obj:Bool}{z:AV}(hc:ax nt x=some y)
  (he:mz G s take obj y=some (z,none)):mO gh s.H.length nt w s.T s.gen (fP a) (a.eval x) z:=by
 have h:=arg_val hW hF hc
 cases y with
 | tmp t =>
  simp only[mz] at he
  simp only[aF.addr] at h
  generalize hX:s.T t=X at h he
  cases X<;>simp only[an2,an7,apD] at he<;>(try subst he)<;>(try exact h)
  case slice e own =>
   cases take<;>cases own<;>simp at he<;>subst he<;>exact h
  case lsl g e =>
   cases take
   ·simp at he;subst he;exact h
   ·cases obj
    ·cases hn:jj e<;>rw[hn] at he<;>simp at he
    ·simp at he
  case iter=>cases he
 | bt v =>
  simp only[mz,aF.eval,an2,an7,apD] at he
  subst he
  cases x<;>simp only[ax,an0,an2,reduceCtorEq,aqJ,aqO] at hc
  case tmp t=>exact absurd (ae hc).2 (by simp)
  case const v' =>
   obtain⟨z,hz,hy⟩:=hc
   injection hy with hy
   subst hy
   exact .dC (jB hz)
 | aZ g =>
  simp only[mz,aF.eval,an2,an7,apD] at he
  subst he
  exact h
 | fn f =>
  simp only[mz,aF.eval,an2,an7,apD] at he
  subst he
  exact h
theorem kG(hW:aX G base s.H gh w)(hF:FR L nt gh w a s){x:Operand}{y:aF}(hc:ax nt x=some y){k:Nat}(h:asNat (y.eval G s.T)=some k) :
  ∃ kd,a.eval x=.int kd (k:Int):=by
 unfold asNat at h
 split at h
 ·rename_i kd m hy
  obtain⟨h0,h1⟩:=ae h
  have hm:(0:Int)<=m:=by simpa using h0
  have OZ:m.toNat=k:=by simpa using h1
  have hv:=(cJ hW hF hc hy rfl).jl
  exact⟨kd,by rw[hv,<- OZ,aqb hm]⟩
 ·cases h
theorem mI{t:TypeId}{k:Nat}(h:dV P t=some k):∃ i,P.info? t=some i/\i.size=k:=by
 simpa [dV,an0] using h
theorem dU{t:TypeId}{k:Nat}(h:dV P t=some k)(w:World):(sizeOf t).run P w=.ok k w:=by
 obtain⟨i,hi,hk⟩:=mI h
 simp[sizeOf,typeInfo,hi,hk]
theorem iv{t:TypeId}{g:Bool}(h:l9 P t=some g)(w:World):(isAgg t).run P w=.ok g w:=by
 unfold l9 at h
 simp only[an0] at h
 obtain⟨d,hd,hg⟩:=h
 unfold isAgg
 rw[Sem.run_bind,run_underlying hd w]
 subst hg
 cases d<;>rfl
theorem addr_add(b o k:Nat):(⟨b,o,none⟩:Addr).add k=⟨b,o+k,none⟩:=by unfold Addr.add;split<;>simp_all
theorem kA{n:Nat}{agg:Bool}{sz off:Nat}{cs:List AV}{z:AV}(hl:ab false agg sz off cs=some z){t:TypeId}(hg:l9 P t=some agg)(hs:dV P t=some sz)
  {b o:Nat} {f:Nat->Value} (hf:∀ (j:Nat) (x:AV),cs[j]?=some x->w.cell? ⟨b,o+j,none⟩=some (f j)/\(f j).oneCell'=true/\VR gh n w (f j) x.drop) :
  ∃ v,(loadVar t ⟨b,o+off,none⟩).run P w=.ok v w/\VR gh n w v z:=by
 unfold ab at hl
 cases agg
 ·simp only[an8,an0] at hl
  obtain⟨x,hx,rfl⟩:=hl
  obtain⟨h1,h2,h3⟩:=hf off x hx
  refine⟨f off,?_,h3⟩
  simp[loadVar,iv hg,h1]
 ·simp only[cond_true] at hl
  obtain⟨h0,h1⟩:=ae hl
  have Mj:off+sz<=cs.length:=by simpa [ao2] using h0
  injection h1 with h1
  subst h1
  have s9:(loadCells ⟨b,o+off,none⟩ sz).run P w=.ok ((List.range sz).map fun j=>f (off+j)).toArray w :=
   run_loadCells w _ sz (fun j=>f (off+j)) fun j hj=>by
    have bf:off+j<cs.length:=by omega
    have:=(hf (off+j) _ (an' bf)).1
    rw[addr_add,ap2];exact this
  refine⟨.agg ((List.range sz).map fun j=>f (off+j)).toArray,by simp[loadVar,iv hg,dU hs,s9],?_⟩
  have hlen:(((cs.drop off).take sz).map AV.drop).length=sz:=by simp;omega
  refine .agg _ _ (by simp[hlen];omega) ?_ ?_
  ·intro j v hj
   simp only[aoE,aor,an0] at hj
   obtain⟨k,hk,rfl⟩:=hj
   have qN:=an9.1 hk
   obtain⟨bf,Tc⟩:=qN
   simp at bf Tc
   subst Tc
   exact (hf (off+j) _ (an' (by omega))).2.1
  ·intro j v x hj hx
   simp only[aoE,aor,an0] at hj hx
   obtain⟨k,hk,rfl⟩:=hj
   obtain⟨bf,Tc⟩:=an9.1 hk
   simp at bf Tc
   subst Tc
   obtain⟨y,hy,rfl⟩:=hx
   rw[aoC,aoU] at hy
   rw[if_pos bf] at hy
   exact (hf (off+j) y hy).2.2
theorem uY(hF:FR L nt gh w a s){b g:Nat}{cs:List AV}(hb:b<nt)(hT:s.T b=.lbox g cs) :
  ∃ k,fP a b=.pointer (some ⟨k,0,none⟩)/\gW gh s.H.length w k (.bx b) (fun j=>.sc b j) cs:=by
 have h:=hF.slot b hb
 rw[hT] at h
 exact h.2
theorem nX(hF:FR L nt gh w a s){b g:Nat}{e:List (List AV)}(hb:b<nt)(hT:s.T b=.lsl g e):qt gh w (.bx b) (fP a b) e:=by
 have h:=hF.slot b hb
 rw[hT] at h
 exact h.2
theorem oW{n b:Nat}{p:bC}{q:Nat->bC}{cs:List AV}(h:gW gh n w b p q cs) :
  ∃ f:Nat->Value,∀ (j:Nat) (x:AV),cs[j]?=some x->w.cell? ⟨b,0+j,none⟩=some (f j)/\(f j).oneCell'=true/\VR gh n w (f j) x.drop:=by
 obtain⟨_,_,C,ty,hb,hC,gC⟩:=h
 refine⟨fun j=>C.getD j undef,fun j x hx=>?_⟩
 have hj:j<cs.length:=(an9.1 hx).1
 have w7:j<C.size:=by omega
 have hv:C[j]?=some C[j]:=aop w7
 obtain⟨h1,h2⟩:=gC j _ x hv hx
 refine⟨by rw[Nat.zero_add,cell_of_row w b j C ty _ hb];simp[w7],by simpa [w7] using h1,by simpa [w7] using h2.dropped⟩
theorem TM(hW:aX G base s.H gh w)(hF:FR L nt gh w a s){t:TypeId}{x:Operand}{y:aF}{take agg:Bool}{sz:Nat}{z:AV}(hc:ax nt x=some y)(hg:l9 P t=some agg)(hs:dV P t=some sz)
  (he:aq s take agg sz (y.addr G s.T)=some (z,none)) :
  ∃ v,(Instr.loadAt t (a.eval x)).run P w=.ok v w/\mO gh s.H.length nt w s.T s.gen (fP a) v z:=by
 have hv:=arg_val hW hF hc
 have K5:∀ {n:Nat} {off:Nat} {cs:List AV} {v:AV},ab take agg sz off cs=some v->(take&&!agg)=false->ab false agg sz off cs=some v:=by
  intro n off cs v h1 h2
  cases take
  ·exact h1
  ·cases agg
   ·cases h2
   ·exact h1
 generalize hY:y.addr G s.T=Y at hv he
 cases Y<;>simp only[aq] at he<;>try (cases he;done)
 case eptr cs =>
  simp only[an0,an7,apD] at he
  obtain⟨u,hu,rfl⟩:=he
  have hp:=VR.uG (hv:VR gh s.H.length w (a.eval x) (.eptr cs))
  generalize hA:a.eval x=V at hp
  cases hp with
  | eptr b o _ f cx cL =>
   obtain⟨v,h1,h2⟩:=kA (gh:=gh) (n:=s.H.length) hu hg hs (b:=b) (o:=o) (f:=f)
    (fun j x hx=>⟨(cx j x hx).2.1,(cx j x hx).2.2,VR.dropped (.plain _ _ (cL j x hx))⟩)
   refine⟨v,?_,.dC h2⟩
   simpa [Instr.loadAt,Instr.sureAddr] using h1
 case ref loc off =>
  obtain⟨bf,qg⟩:=VR.jm (hv:VR gh s.H.length w (a.eval x) (.ref loc off))
  split at he
  ·rename_i NK cs hH
   simp only[an0,an7] at he
   obtain⟨u,hu,rfl,hn⟩:=he
   have hq:(take&&!agg)=false:=by cases h:(take&&!agg)<;>simp_all
   obtain⟨f,hf⟩:=oW (hW.boxes loc _ cs hH)
   obtain⟨v,h1,h2⟩:=kA (gh:=gh) (n:=s.H.length) (K5 (n:=0) hu hq) hg hs (b:=gh.ρ loc) (o:=0) (f:=f) hf
   refine⟨v,?_,.dC h2⟩
   rw[qg]
   simpa [Instr.loadAt,Instr.sureAddr] using h1
  ·rename_i cs hH
   simp only[an0,an7,apD] at he
   obtain⟨u,hu,rfl⟩:=he
   have hp:PR gh.S w (.pointer (some ⟨gh.ρ loc,0,none⟩)) (.eptr cs):=hW.more loc _ hH
   generalize hB:gh.ρ loc=b0 at hp qg
   cases hp with
   | eptr b o _ f cx cL =>
    obtain⟨v,h1,h2⟩:=kA (gh:=gh) (n:=s.H.length) hu hg hs (b:=b0) (o:=0) (f:=f)
     (fun j x hx=>⟨(cx j x hx).2.1,(cx j x hx).2.2,VR.dropped (.plain _ _ (cL j x hx))⟩)
    refine⟨v,?_,.dC h2⟩
    rw[qg]
    simpa [Instr.loadAt,Instr.sureAddr] using h1
  ·rename_i cs hH
   simp only[an0,an7,apD] at he
   obtain⟨u,hu,rfl⟩:=he
   obtain⟨f,hf⟩:=oW (hW.more loc _ hH:gW gh s.H.length w (gh.ρ loc) (.hb loc) (fun j=>.hs loc j) cs)
   obtain⟨v,h1,h2⟩:=kA (gh:=gh) (n:=s.H.length) hu hg hs (b:=gh.ρ loc) (o:=0) (f:=f) hf
   refine⟨v,?_,.dC h2⟩
   rw[qg]
   simpa [Instr.loadAt,Instr.sureAddr] using h1
  ·cases he
 case lref b g off =>
  obtain⟨hb,Jk,hr⟩:=(hv:_/\_/\_)
  split at he
  ·rename_i g' cs hT
   obtain⟨h0,qi⟩:=ae he
   clear he
   have DG:g=g':=by simpa [fW] using h0
   subst DG
   rename _=some (z,none)=>he
   simp only[an0,an7] at he
   obtain⟨u,hu,rfl,hn⟩:=he
   have hq:(take&&!agg)=false:=by cases h:(take&&!agg)<;>simp_all
   obtain⟨k,hk,aah⟩:=uY hF hb hT
   have qg:=hr (by rw[hT];rfl) k hk
   obtain⟨f,hf⟩:=oW aah
   obtain⟨v,h1,h2⟩:=kA (gh:=gh) (n:=s.H.length) (K5 (n:=0) hu hq) hg hs (b:=k) (o:=0) (f:=f) hf
   refine⟨v,?_,.dC h2⟩
   rw[qg]
   simpa [Instr.loadAt,Instr.sureAddr] using h1
  ·cases he
 case eref b g i zz off =>
  obtain⟨hb,Jk,hr⟩:=(hv:_/\_/\_)
  split at he
  ·rename_i g' e hT
   obtain⟨h0,qi⟩:=ae he
   clear he
   have DG:g=g':=by simpa [fW] using h0
   subst DG
   rename _=some (z,none)=>he
   simp only[an1] at he
   obtain⟨r,KW,he⟩:=he
   obtain⟨h1,he⟩:=ae he
   have hz:r.length=zz:=by simpa [fW] using h1
   simp only[an0,an7,apD] at he
   obtain⟨u,hu,rfl⟩:=he
   obtain⟨ad,cap,sE,bN⟩:=nX hF hb hT
   rcases bN with ⟨rfl,_⟩|⟨k,C,ty,jx,_,rfl,hκ,hS,Am,hC,hl,DI,gC⟩
   ·simp at KW
   ·have qg:=hr (by rw[hT];rfl) k _ _ sE
    have gO:jx=zz:=by rw[<- hz,DI i r KW]
    subst gO
    obtain⟨v,h1,h2⟩:=kA (P:=P) (gh:=gh) (w:=w) (n:=s.H.length) hu hg hs (b:=k) (o:=i*jx) (f:=fun j=>C.getD (i*jx+j) undef) (fun j x hx=>by
     obtain⟨u,Tg,hu2⟩:=gC i j r x KW hx
     have hj:i*jx+j<C.size:=(aoi.1 Tg).1
     have qi:C.getD (i*jx+j) undef=u:=by
      rw[aop hj] at Tg
      injection Tg with Tg
      simp[hj,Tg]
     rw[qi,cell_of_row w k _ C ty _ Am,Tg]
     exact⟨rfl,hu2.fw,VR.dropped (.plain _ _ hu2)⟩)
    refine⟨v,?_,.dC h2⟩
    rw[qg]
    simpa [Instr.loadAt,Instr.sureAddr] using h1
  ·cases he
end
end
end Go.Abs
