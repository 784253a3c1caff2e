/-
  A part of the proof of PrintNames: AbsDefs, AbsRel, AbsFrame, AbsArg, AbsOps1.
-/
import Derived.Orders
import Derived.Laws.AppendOwn
import Derived.Below
import Derived.WalkKit
set_option linter.unusedSimpArgs false
set_option linter.unusedVariables false
set_option linter.defProp false
namespace Go
theorem tk {α:Type} {a:Option α} {f g:α} (h:a=some f) (e:f=g):a=some g:=e ▸ h
def aiE:=@Option.map_eq_some_iff
def aiF:=@Option.bind_eq_some_iff
def aiG:=@Option.some.injEq
def aiH:=@Prod.mk.injEq
def aiI:=@List.getElem?_eq_some_iff
def aiJ:=@List.getElem?_eq_getElem
def aiK:=@Nat.le_refl
def aiL:=@Bool.and_eq_true
def aiM:=@List.mem_append
def aiN:=@Array.getElem?_eq_some_iff
def aiO:=@List.all_eq_true
def aiP:=@Option.bind_some
def aiQ:=@cond_false
def aiR:=@List.length_nil
def aiS:=@Array.getElem?_eq_getElem
def aiT:=@List.mem_of_getElem?
def aiU:=@List.map_cons
def aiV:=@Option.map_some
def aiW:=@List.getElem?_map
def aiX:=@List.map_nil
def aiY:=@List.mem_singleton
def aiZ:=@Nat.mul_le_mul_right
def ai0:=@List.getElem?_take
def ai1:=@List.getElem?_append_left
def ai2:=@decide_eq_true_eq
def ai3:=@List.getElem?_toArray
def ai4:=@List.getElem?_cons_zero
def ai5:=@List.mem_map
def ai6:=@List.map_congr_left
def ai7:=@List.getElem?_append_right
def ai8:=@List.mem_cons_self
def ai9:=@List.length_map
def ai':=@List.getElem?_of_mem
def aja:=@List.mem_cons
def ajb:=@Nat.blt_eq
def ajc:=@List.drop_eq_getElem_cons
def ajd:=@Array.getElem?_toList
def aje:=@List.getElem?_drop
def ajf:=@List.getD_eq_getElem?_getD
def ajg:=@Nat.ble_eq
def ajh:=@List.append_nil
def aji:=@List.take_of_length_le
def ajj:=@Nat.add_mul
def ajk:=@List.getElem?_eq_none
def ajl:=@Int.natCast_zero
def ajm:=@List.modify_succ_cons
def ajn:=@List.modify_zero_cons
def ajo:=@Bool.true_and
def ajp:=@Bool.not_false
def ajq:=@beq_iff_eq
def ajr:=@Bool.false_and
def ajs:=@beq_eq_false_iff_ne
def ajt:=@Nat.le_trans
def aju:=@List.getElem?_append
def ajv:=@decide_false
def ajw:=@Nat.lt_irrefl
def ajx:=@List.flatten_cons
def ajy:=@Nat.zero_le
def ajz:=@Bool.not_true
def ajA:=@List.getElem_mem
def ajB:=@List.length_drop
def ajC:=@Option.getD_some
def ajD:=@Nat.le_succ
def ajE:=@Bool.eq_false_or_eq_true
def ajF:=@List.getElem?_set
def ajG:=@Nat.eq_of_beq_eq_true
def ajH:=@List.getElem?_cons_succ
def ajI:=@Option.some.inj
def ajJ:=@List.take_zero
def ajK:=@Nat.lt_of_lt_of_le
def ajL:=@List.mem_flatMap
def ajM:=@Bool.false_eq_true
def ajN:=@Bool.and_self
def ajO:=@decide_eq_false
def ajP:=@List.take_succ_cons
def ajQ:=@List.length_singleton
def ajR:=@List.mem_of_mem_take
def ajS:=@List.drop_eq_nil_of_le
def ajT:=@List.flatten_nil
def ajU:=@List.take_length
def ajV:=@List.all_cons
def ajW:=@List.drop_zero
def ajX:=@Nat.ble_eq_true_of_le
def ajY:=@if_true
def ajZ:=@List.mem_cons_of_mem
def aj0:=@Array.getElem?_eq_none
def aj1:=@List.length_eq_one_iff
def aj2:=@List.size_toArray
def aj3:=@List.getElem?_range
def aj4:=@and_true
def aj5:=@List.nil_append
def aj6:=@Ne.symm
def aj7:=@List.cons_append
def aj8:=@Nat.lt_or_ge
def aj9:=@List.drop_drop
def aj':=@List.getElem?_set_ne
def aka:=@List.mem_append_left
def akb:=@decide_eq_false_iff_not
def akc:=@List.append_assoc
def akd:=@List.ext_getElem?
def ake:=@List.map_map
def akf:=@Nat.mul_one
def akg:=@Nat.le_max_right
def akh:=@Bool.or_eq_true
def aki:=@Nat.add_zero
def akj:=@Nat.le_of_eq
def akk:=@Bool.not_eq_true'
def akl:=@List.take_add_one
def akm:=@Nat.add_assoc
def akn:=@Array.getElem?_push
def ako:=@List.drop_succ_cons
def akp:=@Classical.choose_spec
def akq:=@List.getElem?_zip_eq_some
def akr:=@List.drop_length
def aks:=@List.not_mem_nil
def akt:=@Int.toNat_of_nonneg
def aku:=@Array.getElem?_setIfInBounds_ne
def akv:=@List.length_eq_zero_iff
def akw:=@Bool.and_true
def akx:=@Bool.false_or
def aky:=@Array.eq_empty_of_size_eq_zero
def akz:=@Bool.not_eq_false'
def akA:=@List.cons.injEq
def akB:=@List.contains_cons
def akC:=@Nat.le_max_left
def akD:=@Nat.lt_trichotomy
def akE:=@Array.mem_of_getElem?
def akF:=@Bool.true_or
def akG:=@List.mem_append_right
def akH:=@List.mem_iff_getElem?
def akI:=@Nat.beq_refl
def akJ:=@Nat.sub_self
def akK:=@Option.map_map
def akL:=@Array.getD_eq_getD_getElem?
def akM:=@Array.ext'
def akN:=@Bool.not_eq_true
def akO:=@Bool.or_eq_false_iff
def akP:=@List.getElem?_zipIdx
def akQ:=@List.isEmpty_iff
def akR:=@List.map_toArray
def akS:=@Nat.le_of_not_lt
def akT:=@Nat.lt_succ_self
def akU:=@if_false
def akV:=@Array.getElem?_append_left
def akW:=@List.length_pos_iff
def akX:=@List.isEmpty_eq_false_iff
def akY:=@Nat.not_lt_zero
def akZ:=@Option.isNone_iff_eq_none
def ak0:=@List.eq_of_mem_replicate
def ak1:=@Nat.mul_comm
def ak2:=@congrArg
def ak3:=@List.getElem?_replicate
def ak4:=@Array.getElem?_extract
def ak5:=@Array.all_eq_true_iff_forall_mem
def ak6:=@Array.toList_map
def ak7:=@and_false
def ak8:=@List.all_nil
def ak9:=@List.foldl_cons
def ak':=@Option.map_none
def ala:=@exists_false
def alb:=@List.take_append_of_le_length
def alc:=@Array.length_toList
def ald:=@true_and
def ale:=@List.cons_beq_cons
def alf:=@List.mem_or_eq_of_mem_set
def alg:=@List.filter_cons
def alh:=@Nat.add_comm
def ali:=@Nat.le_of_lt
def alj:=@Nat.zero_mul
def alk:=@List.all_append
def alm:=@List.mem_filter
def aln:=@ge_iff_le
def alo:=@Nat.one_mul
def alp:=@Bool.and_eq_true_iff
def alq:=@or_false
def alr:=@Bool.or_true
def als:=@decide_true
end Go
namespace Go.Abs
section
inductive AV where
 | bool (b:Bool)
 | int (k:IntKind) (n:Int)
 | str (l:List UInt8)
 | any
 | cx|cw|bV|bt
 | slice (elems:List (List AV)) (own:Bool)
 | eptr (cells:List AV)
 | ref (loc off:Nat)
 | sref (loc off n z:Nat)
 | mref (loc:Nat)
 | dp (kz:Nat) (ka va:Bool) (es:List (List AV))
 | mc (kz:Nat) (ka va:Bool) (es:List (List AV))
 | iter (g kz:Nat) (ka va:Bool) (cur:List AV) (todo:List (List AV))
 | lbox (g:Nat) (cells:List AV)
 | lref (s g off:Nat)
 | lsl (g:Nat) (elems:List (List AV))
 | lsr (s g:Nat)
 | eref (s g i z off:Nat)
 | func (f:Fn) (first captured:List AV)
 | iface (t:TypeId) (v:AV)
 | agg (cells:List AV)
 | tuple (vs:List AV)
 | ay
 deriving Inhabited,Repr
abbrev AV.undef:AV:=.tuple []
inductive de where
 | box (ty:TypeId) (cells:List AV)
 | map (kz:Nat) (ka va:Bool) (es:List (List AV))
 | dp (kz:Nat) (ka va:Bool) (es:List (List AV))
 | FL (cells:List AV)
 | dL (cells:List AV)
 | dead
 deriving Inhabited,Repr
abbrev ag:=List de
abbrev aC:=Nat->AV
def aC.put(T:aC)(d:Nat)(v:AV):aC:=fun i=>cond (Nat.beq i d) v (T i)
structure fz where
 heap:ag
 lo:Nat
 deriving Inhabited
abbrev cC:=FuncId->List AV->ag->Option (AV × Option fz)
inductive ak where
 | tmp (t:Nat)
 | a8 (v:AV)
 | aP (g:Nat)
 | fn (f:FuncId)
 deriving Inhabited,Repr
inductive uO where
 | toInt (k:IntKind)
 | AT
 | oy
 deriving Inhabited,Repr
inductive sk where
 | str
 | sl (sz:Nat)
 | arr (n sz:Nat)
 deriving Inhabited,Repr
inductive CK where
 | b|i|s
 deriving Inhabited,Repr,DecidableEq
inductive se where
 | other|bool|iface|func
 | flat (ks:List CK)
 deriving Inhabited,Repr
inductive j5 where
 | str|sl
 | arr (n:Nat)
 deriving Inhabited,Repr
inductive J' where
 | frame (b:Nat)
 | Q4|heap
 deriving Inhabited,Repr
inductive dQ where
 | qN (c:J') (x:ak)
 | mov (take obj:Bool) (x:ak)
 | pick (c a b:ak)
 | allocL (zero:List AV)
 | ot (ty:TypeId) (zero:List AV)
 | boxL (x:ak)
 | box (ty:TypeId) (x:ak)
 | build (zero:List AV) (parts:List (Nat × Nat × ak))
 | mkslice (isB:Bool) (sz:Nat) (DJ:List (List AV)) (parts:List (Nat × ak))
 | lS (sz:Nat) (DJ:List (List AV)) (parts:List (Nat × ak))
 | load (take agg:Bool) (sz:Nat) (x:ak)
 | store (sz:Nat) (a v:ak)
 | nilCheck (x:ak)
 | bin (op:BinOp) (k:se) (x y:ak)
 | un (op:UnOp) (x:ak)
 | mm (mx:Bool) (x y:ak)
 | conv (c:uO) (x:ak)
 | uJ (t:TypeId) (x:ak)
 | slice (k:sk) (x:ak) (lo hi mx:Option ak)
 | fieldAddr (off:Nat) (x:ak)
 | field (agg:Bool) (off sz:Nat) (x:ak)
 | ixSl (sz:Nat) (x i:ak)
 | ixArr (n sz:Nat) (x i:ak)
 | index (agg:Bool) (n sz:Nat) (x i:ak)
 | indexStr (x i:ak)
 | extract (x:ak) (i:Nat)
 | len (k:j5) (x:ak)
 | append (isB wr:Bool) (sz bytes:Nat) (x y:ak)
 | appendO (sz bytes:Nat) (x y:ak)
 | copyO (x y:ak)
 | It (x:ak)
 | nilS (neg:Bool) (x:ak)
 | tU (sz bytes:Nat) (zero:List AV) (n:ak)
 | call (f:ak) (args:List ak)
 | iP (f:ak) (args:List ak)
 | xW (f:FuncId) (pre:List ak) (x:ak) (post:List ak)
 | mkfunc (f:Fn) (first captured:List ak)
 | yI (kz:Nat) (ka va:Bool)
 | look (ok:Bool) (kz:Nat) (ka va:Bool) (ks:List CK) (zero:List AV) (m k:ak)
 | HR (kz:Nat) (ka:Bool) (ks:List CK) (zero:List AV) (m k:ak)
 | JD (kz:Nat) (ka va:Bool) (vz:Nat) (ks:List CK) (m k v:ak)
 | SZ (m:ak)
 | ZJ (kz:Nat) (ka va:Bool) (m:ak)
 | next (it:ak)
 | Zr (it:ak)
 deriving Inhabited,Repr
structure az where
 dst:Option Nat
 guard:Option (Nat × Bool)
 op:dQ
 deriving Inhabited,Repr
inductive aZ where
 | skip
 | region (draw:Bool) (ops:List az)
 | xd (nt:Nat) (ops:List az) (pre:List (List Nat))
 | seq (a b:aZ)
 | cond (c:ak) (a b:aZ)
 | block (id:Nat) (a:aZ)
 | loop (a:aZ)
 | exit (id:Nat)
 | ret
 deriving Inhabited,Repr
inductive fJ where
 | tmp (t:Nat)
 | cell (a:Nat) (agg:Bool) (sz:Nat)
 deriving Inhabited,Repr
structure au where
 bK:List Nat
 locals:List Nat
 muts:List Nat
 nt:Nat
 np:Nat
 results:List fJ
 body:aZ
 deriving Inhabited,Repr
inductive bC where
 | normal
 | exit (id:Nat)
 | ret
 deriving Inhabited,Repr,DecidableEq
structure AS where
 T:aC
 H:ag
 lo:Nat
 gen:Nat
def AV.cells:AV->Option (List AV)
 | .agg cs=>some cs
 | .any=>none
 | .tuple _=>none
 | .lbox ..=>none
 | .lref ..=>none
 | .lsl ..=>none
 | .lsr ..=>none
 | .eref ..=>none
 | .iter ..=>none
 | v=>some [v]
def AV.drop:AV->AV
 | .slice e _=>.slice e false
 | v=>v
def AV.bf:AV->AV
 | .agg cs=>.agg (cs.map AV.drop)
 | v=>v.drop
def AV.plain:AV->Bool
 | .bool _|.int ..|.str _|.any|.cx|.cw|.bV|.bt|.eptr _|.dp ..|.mc ..|.ay=>true
 | .slice _ own=>!own
 | .func _ [] []=>true
 | .iface _ (.bool _)|.iface _ (.int ..)|.iface _ (.str _)|.iface _ .any|.iface _ .cx=>true
 | _=>false
def AV.elem(sz:Nat)(v:AV):Option (List AV) :=
 match v.cells with
 | none=>none
 | some cs =>
  let ds:=cs.map AV.drop
  cond (Nat.beq ds.length sz&&ds.all AV.plain) (some ds) none
def AV.aN(base:Nat):AV->Bool
 | .ref loc _=>Nat.blt loc base
 | .sref loc _ _ _=>Nat.blt loc base
 | .mref loc=>Nat.blt loc base
 | v=>v.plain
def AV.bg(base:Nat):AV->Bool
 | .agg cs=>cs.all (AV.aN base)
 | v=>v.aN base
def AV.leaves(base:Nat):AV->Bool
 | .func _ fs cs=>fs.all (AV.aN base)&&cs.all (AV.aN base)
 | .iface _ v=>v.aN base
 | .tuple vs=>vs.all (AV.bg base)
 | .slice ..=>true
 | v=>v.bg base
def aQ:AV->Option Nat
 | .lbox g _=>some g
 | .lsl g _=>some g
 | .iter g ..=>some g
 | _=>none
def ak.eval(G:Nat->List AV)(T:aC):ak->AV
 | .tmp t=>T t
 | .a8 v=>v
 | .aP g=>.eptr (G g)
 | .fn f=>.func (.func f) [] []
def asNat:AV->Option Nat
 | .int _ n=>cond (decide (0<=n)) (some n.toNat) none
 | _=>none
def bG:List CK->List AV->List AV->Option Bool
 | [],_,_=>some true
 | .b :: ks,.bool a :: xs,.bool b :: ys=>(bG ks xs ys).map (a==b&&·)
 | .i :: ks,.int j a :: xs,.int k b :: ys=>cond (decide (j=k)) ((bG ks xs ys).map (a==b&&·)) none
 | .s :: ks,.str a :: xs,.str b :: ys=>(bG ks xs ys).map (a==b&&·)
 | _,_,_=>none
def aa(op:BinOp)(k:IntKind)(a b:Int):Option AV :=
 match op with
 | .add=>some (.int k (k.wrap (a+b)))
 | .sub=>some (.int k (k.wrap (a-b)))
 | .mul=>some (.int k (k.wrap (a*b)))
 | .quo=>cond (decide (b=0)) none (some (.int k (k.wrap (a.tdiv b))))
 | .rem=>cond (decide (b=0)) none (some (.int k (a.tmod b)))
 | .eql=>some (.bool (a==b))
 | .neq=>some (.bool (a != b))
 | .lss=>some (.bool (decide (a<b)))
 | .leq=>some (.bool (decide (a<=b)))
 | .gtr=>some (.bool (decide (a>b)))
 | .geq=>some (.bool (decide (a>=b)))
 | _=>none
def jE(op:BinOp)(a b:List UInt8):Option AV :=
 match op with
 | .add=>cond (decide (a.length+b.length<=4611686018427387904)) (some (.str (a++b))) none
 | .eql=>some (.bool (a==b))
 | .neq=>some (.bool !(a==b))
 | .lss=>some (.bool (Op.bytesLess a b))
 | .leq=>some (.bool (Op.bytesLess a b || a==b))
 | .gtr=>some (.bool !(Op.bytesLess a b || a==b))
 | .geq=>some (.bool !(Op.bytesLess a b))
 | _=>none
def jY(op:BinOp)(b:Bool):Option AV :=
 match op with
 | .eql=>some (.bool b)
 | .neq=>some (.bool !b)
 | _=>none
def n7:ak->Bool
 | .a8 _=>true
 | _=>false
def uT(op:BinOp)(q:se)(a8:Bool)(x y:AV):Option AV :=
 match x,y with
 | .int j a,.int k b=>cond (decide (j=k)) (aa op j a b) none
 | .str a,.str b=>jE op a b
 | .bool a,.bool b=>(match q with|.bool=>jY op (a==b)|_=>none)
 | .agg xs,.agg ys=>(match q with|.flat ks=>(bG ks xs ys).bind fun b=>jY op b|_=>none)
 | x,.bt=>cond (a8&&(match q with|.iface=>true|_=>false)) ((match x with|.bt=>some true|.iface ..=>some false|_=>none).bind fun b=>jY op b) none
 | x,.bV=>cond (match q with|.func=>true|_=>false) ((match x with|.bV=>some true|.func ..=>some false|_=>none).bind fun b=>jY op b) none
 | _,_=>none
def AY(op:UnOp)(x:AV):Option AV :=
 match op,x with
 | .neg,.int k n=>some (.int k (k.wrap (0-n)))
 | .not,.bool b=>some (.bool !b)
 | _,_=>none
def Ov(mx:Bool)(x y:AV):Option AV :=
 match x,y with
 | .int k a,.int j b=>cond (decide (k=j)) (some (.int k (cond mx (if b>a then b else a) (if b<a then b else a)))) none
 | _,_=>none
def bytesOf:List (List AV)->Option (List UInt8)
 | []=>some []
 | [.int .u8 n] :: r=>(bytesOf r).map (UInt8.ofNat n.toNat :: ·)
 | _=>none
def jH(c:uO)(x:AV):Option AV :=
 match c,x with
 | .toInt k,.int _ n=>some (.int k (k.wrap n))
 | .AT,.str l=>some (.str l)
 | .oy,.slice e _=>(bytesOf e).map .str
 | _,_=>none
def chunks(sz:Nat):Nat->List AV->List (List AV)
 | 0,_=>[]
 | n+1,l=>l.take sz :: chunks sz n (l.drop sz)
def bound(adk:Nat)(x:Option AV)(iU:Nat):Option Nat :=
 match x with
 | none=>some adk
 | some v=>(asNat v).bind fun n=>cond (Nat.ble n iU) (some n) none
def fR(sz:Nat)(e:List (List AV)):Bool:=(e.head?.map fun r=>Nat.beq r.length sz).getD true
def Ps:List (List AV)->Bool
 | (_ :: _) :: _=>true
 | _=>false
def gB(k:sk)(x:AV)(lo hi mx:Option AV):Option AV :=
 match k,x with
 | .str,.str l=>(bound l.length hi l.length).bind fun h=>(bound 0 lo h).bind fun a=>cond mx.isNone (some (.str ((l.take h).drop a))) none
 | .sl sz,.slice e _=>(bound e.length mx e.length).bind fun m=>(bound e.length hi m).bind fun h=>(bound 0 lo h).bind fun a =>
   cond ((mx.isNone || hi.isSome)&&(lo.isNone || fR sz e)) (some (.slice ((e.take h).drop a) (mx.isSome&&Nat.beq m h&&Ps e))) none
 | .sl sz,.sref l o n z=>(bound n hi n).bind fun h=>(bound 0 lo h).bind fun a=>cond (mx.isNone&&Nat.beq z sz) (some (cond (Nat.blt a n) (.sref l (o+a*z) (h-a) z) (.slice [] false))) none
 | .arr n sz,.eptr cs=>cond (Nat.beq cs.length (n*sz)) ((bound n hi n).bind fun h=>(bound 0 lo h).bind fun a=>cond mx.isNone (some (.slice (((chunks sz n cs).take h).drop a) false)) none) none
 | _,_=>none
def jL(k:j5)(x:AV):Option AV :=
 match k,x with
 | .str,.str l=>some (.int .i64 l.length)
 | .sl,.slice e _=>some (.int .i64 e.length)
 | .sl,.sref _ _ n _=>some (.int .i64 n)
 | .sl,.ay=>some (.int .i64 0)
 | .arr n,_=>some (.int .i64 n)
 | _,_=>none
def putAt(l:List AV)(off:Nat)(cs:List AV):List AV:=l.take off++cs++l.drop (off+cs.length)
def cF:List AV->List (Nat × Nat × AV)->Option (List AV)
 | cells,[]=>some cells
 | cells,(off,sz,v) :: r =>
  match v.cells with
  | none=>none
  | some cs=>cond (Nat.beq cs.length sz&&Nat.ble (off+cs.length) cells.length) (cF (putAt cells off (cs.map AV.drop)) r) none
def bL(sz:Nat):List (List AV)->List (Nat × AV)->Option (List (List AV))
 | es,[]=>some es
 | es,(i,v) :: r =>
  match v.elem sz with
  | none=>none
  | some cs=>cond (Nat.blt i es.length) (bL sz (es.set i cs) r) none
def an(take agg:Bool)(sz off:Nat)(cs:List AV):Option AV :=
 cond agg (cond (Nat.ble (off+sz) cs.length) (some (.agg (((cs.drop off).take sz).map AV.drop))) none)
  ((cs[off]?).map fun v=>cond take v v.drop)
def bN(off:Nat)(cs:List AV):List AV:=cs.modify off AV.drop
def AS.bz(s:AS)(t:Nat)(v:AV):AS:={ s with T:=s.T.put t v }
def AS.dZ(s:AS)(c:fz):AS:={ s with H:=c.heap,lo:=cond (Nat.blt c.lo s.lo) c.lo s.lo }
def ak.addr(G:Nat->List AV)(T:aC):ak->AV
 | .tmp t=>match T t with
  | .lbox g _=>.lref t g 0
  | .lsl g _=>.lsr t g
  | .iter ..=>.any
  | v=>v
 | .a8 v=>v
 | .aP g=>.eptr (G g)
 | .fn f=>.func (.func f) [] []
def cG(s:AS)(take agg:Bool)(sz:Nat)(x:AV):Option (AV × Option AS) :=
 match x with
 | .eptr cs=>(an false agg sz 0 cs).map (·,none)
 | .ref loc off=>match s.H[loc]? with
  | some (.box ty cs)=>(an take agg sz off cs).map fun v=>(v,cond (take&&!agg) (some (s.dZ ⟨s.H.set loc (.box ty (bN off cs)),loc⟩)) none)
  | some (.FL cs)=>(an false agg sz off cs).map (·,none)
  | some (.dL cs)=>(an false agg sz off cs).map (·,none)
  | _=>none
 | .lref b g off=>match s.T b with
  | .lbox g' cs=>cond (Nat.beq g g') ((an take agg sz off cs).map fun v=>(v,cond (take&&!agg) (some (s.bz b (.lbox g (bN off cs)))) none)) none
  | _=>none
 | .eref b g i z off=>match s.T b with
  | .lsl g' e=>cond (Nat.beq g g') ((e[i]?).bind fun r=>cond (Nat.beq r.length z) ((an false agg sz off r).map (·,none)) none) none
  | _=>none
 | _=>none
def fG(loc:Nat):AV->Bool
 | .ref l _=>Nat.ble l loc
 | .sref l _ _ _=>Nat.ble l loc
 | .mref l=>Nat.ble l loc
 | v=>v.drop.plain
def jK(loc:Nat):AV->Bool
 | .agg cs=>cs.all (fG loc)
 | v=>fG loc v
def aR(loc:Nat):AV->Bool
 | .ref l _=>Nat.ble l loc
 | .sref l _ _ _=>Nat.ble l loc
 | .mref l=>Nat.ble l loc
 | .func _ fs cs=>fs.all (jK loc)&&cs.all (jK loc)
 | v=>v.drop.plain
def ar:AV->Bool
 | .lref ..=>false
 | .lbox ..=>false
 | .lsl ..=>false
 | .lsr ..=>false
 | .eref ..=>false
 | .iter ..=>false
 | _=>true
def ba(s:AS)(sz:Nat)(a v:AV):Option AS :=
 match v.cells with
 | none=>none
 | some vs=>cond (Nat.beq vs.length sz)
  (match a with
   | .ref loc off=>match s.H[loc]? with
    | some (.box ty cs)=>cond (Nat.ble (off+sz) cs.length&&vs.all (aR loc)) (some (s.dZ ⟨s.H.set loc (.box ty (putAt cs off vs)),loc⟩)) none
    | some (.dL cs)=>cond (Nat.ble (off+sz) cs.length&&vs.all ar) (some (s.dZ ⟨s.H.set loc (.dL (putAt cs off vs)),loc⟩)) none
    | _=>none
   | .lref b g off=>match s.T b with
    | .lbox g' cs=>cond (Nat.beq g g'&&Nat.ble (off+sz) cs.length&&vs.all ar) (some (s.bz b (.lbox g (putAt cs off vs)))) none
    | _=>none
   | .eref b g i z off=>match s.T b with
    | .lsl g' e=>cond (Nat.beq g g') ((e[i]?).bind fun r=>cond (Nat.beq r.length z&&Nat.ble (off+sz) r.length&&(vs.map AV.drop).all AV.plain) (some (s.bz b (.lsl g (e.set i (putAt r off (vs.map AV.drop)))))) none) none
    | _=>none
   | _=>none)
  none
def AS.cq(s:AS):ak->AS
 | .tmp t=>match s.T t with
  | .slice e true=>s.bz t (.slice e false)
  | _=>s
 | _=>s
def dG(sz:Nat):AV->Option (List (List AV))
 | .slice f _=>some f
 | .str l=>cond (Nat.beq sz 1) (some (l.map fun (b:UInt8)=>[AV.int .u8 b.toNat])) none
 | _=>none
abbrev fP:TypeId:=5
def gd(e:List (List AV)):Bool:=e.all fun r=>r.all fun|.int .u8 _=>false|.any=>false|_=>true
def ko(e:List (List AV)):Bool:=e.all fun|[.int .u8 _]=>true|_=>false
def ji(isB:Bool)(e:List (List AV)):Bool:=cond isB (ko e) (gd e)
def b9(sz bytes:Nat)(e f:List (List AV)):Bool :=
 Nat.ble ((e.length+f.length)*bytes) 70368744177664&&Nat.ble (e.length+f.length) 70368744177664&&fR sz e&&fR sz f
def aq(isB:Bool)(sz bytes:Nat)(x y:AV):Option AV :=
 match x with
 | .slice e own=>(dG sz y).bind fun f =>
  match f with
  | []=>some (.slice e own)
  | f=>cond (own&&b9 sz bytes e f&&ji isB (e++f)) (some (.slice (e++f) true)) none
 | _=>none
def ff(f:List (List AV)):Bool:=f.all fun r=>r.all AV.plain
abbrev cO:TypeId:=4294967295
def OB(x y:AV):Option AV :=
 match x with
 | .slice [] true=>(match y with|.slice [] _|.ay=>some (.slice [] false)|_=>none)
 | .ay=>(match y with|.slice [] _|.ay=>some .ay|_=>none)
 | _=>none
def je(s:AS)(sz bytes:Nat)(x y:AV):Option (AV × Option AS) :=
 (dG sz y).bind fun f =>
  match x with
  | .slice [] true|.ay=>cond (!f.isEmpty&&b9 sz bytes [] f&&ff f) (some (.sref s.H.length 0 f.length sz,some (s.dZ ⟨s.H++[.box cO f.flatten],s.H.length⟩))) none
  | .sref l o n z=>match s.H[l]? with
   | some (.box ty cs)=>cond (Nat.beq o 0&&Nat.beq z sz&&Nat.beq cs.length (n*sz)&&Nat.ble ((n+f.length)*bytes) 70368744177664&&Nat.ble (n+f.length) 70368744177664&&fR sz f&&ff f)
     (some (.sref s.H.length 0 (n+f.length) sz,some (s.dZ ⟨s.H.set l .dead++[.box cO (cs++f.flatten)],l⟩))) none
   | _=>none
  | _=>none
def jr(s:AS)(sz bytes:Nat)(x y:AV):Option (AV × Option AS) :=
 match OB x y with
 | some v=>some (v,none)
 | none=>je s sz bytes x y
def kT(s:AS)(x y:AV):Option (AV × Option AS) :=
 match x,y with
 | .sref l o n z,.slice f _=>match s.H[l]? with
  | some (.dL cs)=>cond (Nat.beq z 1&&fR 1 f&&ff f&&Nat.ble (o+n) cs.length)
    (some (.int .i64 (Nat.min f.length n),some (s.dZ ⟨s.H.set l (.dL (putAt cs o (f.take (Nat.min f.length n)).flatten)),l⟩))) none
  | _=>none
 | .slice [] _,.slice _ _=>some (.int .i64 0,none)
 | _,_=>none
def Oz:AV->Option Bool
 | .ay=>some true
 | .slice (_ :: _) _=>some false
 | _=>none
def pg(s:AS)(sz bytes:Nat)(zero:List AV)(n:AV):Option (AV × Option AS) :=
 (asNat n).bind fun k=>cond (Nat.ble (k*bytes) 70368744177664&&Nat.ble k 70368744177664)
  (some (.sref s.H.length 0 k sz,some (s.dZ ⟨s.H++[.box cO (List.replicate k zero).flatten],s.H.length⟩))) none
def fK(off:Nat):AV->Option AV
 | .ref l o=>some (.ref l (o+off))
 | .lref b g o=>some (.lref b g (o+off))
 | .eref b g i z o=>some (.eref b g i z (o+off))
 | .eptr cs=>some (.eptr (cs.drop off))
 | _=>none
def bO(s:AS):AV->Bool
 | .ref ..=>true
 | .eptr _=>true
 | .lref b g _=>(match s.T b with|.lbox g' _=>Nat.beq g g'|_=>false)
 | .eref b g i _ _=>(match s.T b with|.lsl g' e=>Nat.beq g g'&&Nat.blt i e.length|_=>false)
 | _=>false
def JC(t:TypeId)(v:AV):Option AV :=
 cond (AV.plain v.drop || (match v with|.ref ..=>true|_=>false)) (some (.iface t v.drop)) none
def fA(c:J')(v:AV):Bool :=
 match c with
 | .frame b=>(match v with|.lref b' _ _=>Nat.beq b b'|_=>false)
 | .Q4=>(match v with|.lref ..=>false|.eref ..=>false|.lsr ..=>false|.ref ..=>false|_=>true)
 | .heap=>(match v with|.lref ..=>false|.eref ..=>false|.lsr ..=>false|_=>true)
def AV.isAgg:AV->Bool
 | .agg _=>true
 | _=>false
def rN(s:AS)(kz:Nat)(ka va:Bool)(m:AV):Option (List (List AV)) :=
 match m with
 | .dp kH kG kQ es=>cond (Nat.beq kz kH&&ka==kG&&va==kQ) (some es) none
 | .mref l=>match s.H[l]? with
  | some (.map kH kG kQ es)=>cond (Nat.beq kz kH&&ka==kG&&va==kQ) (some es) none
  | some (.dp kH kG kQ es)=>cond (Nat.beq kz kH&&ka==kG&&va==kQ) (some es) none
  | _=>none
 | _=>none
def fB(ks:List CK)(kc:List AV):List (List AV)->Option (Option Nat)
 | []=>some none
 | r :: es=>(bG ks kc r).bind fun b=>cond b (some (some 0)) ((fB ks kc es).map fun o=>o.map (· + 1))
def qe(agg:Bool)(cs:List AV):AV:=cond agg (.agg (cs.map AV.drop)) ((cs.headD .undef).drop)
def vX(ok va:Bool)(cs:List AV)(found:Bool):AV :=
 let v:=cond va (.agg (cs.map AV.drop)) ((cs.headD .undef).drop)
 cond ok (.tuple [v,.bool found]) v
def oR(ok va:Bool)(zero:List AV)(kz:Nat)(es:List (List AV)):Option Nat->AV
 | none=>vX ok va zero false
 | some i=>vX ok va ((es.getD i []).drop kz) true
def kL:List AV->Option (List UInt8)
 | .str a :: _=>some a
 | _=>none
def qa:List (List AV)->Bool
 | []=>true
 | r :: es=>(match kL r with|some a=>es.all fun q=>(match kL q with|some b=>!(a==b)|none=>false)|none=>false)&&qa es
def Su:List CK->List AV->Bool
 | [.s],[.str _]=>true
 | _,_=>false
def sH(s:AS)(ok:Bool)(kz:Nat)(ka va:Bool)(ks:List CK)(zero:List AV)(m k:AV):Option (AV × Option AS) :=
 k.drop.cells.bind fun kc=>cond (Nat.beq kc.length kz&&ka==k.drop.isAgg)
  (match m with
   | .cw=>some (vX ok va zero false,none)
   | .mc kH kG kQ es=>cond (Nat.beq kz kH&&ka==kG&&va==kQ&&qa es&&Su ks kc) ((fB ks kc es).map fun o=>(oR ok va zero kz es o,none)) none
   | m=>(rN s kz ka va m).bind fun es=>(fB ks kc es).map fun o=>(oR ok va zero kz es o,none)) none
def zR(s:AS)(kz:Nat)(ka:Bool)(ks:List CK)(zero:List AV)(m k:AV):Option (AV × Option AS) :=
 match m with
 | .mref l=>match s.H[l]? with
  | some (.map kH kG false es)=>k.drop.cells.bind fun kc=>cond (Nat.beq kc.length kz&&Nat.beq kz kH&&ka==kG&&ka==k.drop.isAgg)
    ((fB ks kc es).bind fun o=>match o with
     | none=>some ((zero.headD .undef),none)
     | some i=>((es.getD i [])[kz]?).map fun v=>(v,some (s.dZ ⟨s.H.set l (.map kz ka false (es.set i (bN kz (es.getD i [])))),l⟩))) none
  | _=>none
 | _=>none
def tg(es:List (List AV))(o:Option Nat)(r:List AV):List (List AV) :=
 match o with
 | none=>es++[r]
 | some i=>es.set i r
def sI(s:AS)(kz:Nat)(ka va:Bool)(vz:Nat)(ks:List CK)(m k v:AV):Option AS :=
 match m with
 | .mref l=>match s.H[l]? with
  | some (.map kH kG kQ es)=>k.drop.cells.bind fun kc=>v.cells.bind fun vc =>
    cond (Nat.beq kc.length kz&&Nat.beq vc.length vz&&Nat.beq kz kH&&ka==kG&&va==kQ&&ka==k.drop.isAgg&&va==v.isAgg&&vc.all (aR l)&&kc.all AV.plain)
     ((fB ks kc es).map fun o=>s.dZ ⟨s.H.set l (.map kz ka va (tg es o (kc++cond va (vc.map AV.drop) vc))),l⟩) none
  | _=>none
 | _=>none
section
variable (G:Nat->List AV)(cf:cC)
def kO(s:AS)(take obj:Bool)(x:ak):Option (AV × Option AS) :=
 match x with
 | .tmp t=>match s.T t with
  | .lbox g _=>some (.lref t g 0,none)
  | .lsl g e=>cond take (cond obj (some (.lsl s.gen e,some { s.bz t .any with gen:=s.gen+1 })) (cond (gd e) (some (.slice e true,some (s.bz t (.slice e false)))) none)) (some (.lsr t g,none))
  | .slice e own=>some (.slice e (take&&own),cond (take&&own) (some (s.bz t (.slice e false))) none)
  | .iter ..=>none
  | v=>some (v,none)
 | x=>some (x.eval G s.T,none)
def dX(s:AS)(isB wr:Bool)(sz bytes:Nat)(x y:ak):Option (AV × Option AS) :=
 match x with
 | .tmp t=>match s.T t with
  | .lsl _ e=>(dG sz (y.eval G s.T)).bind fun f=>cond (wr&&b9 sz bytes e f) (some (.lsl s.gen (e++f),some { s.bz t .any with gen:=s.gen+1 })) none
  | .slice e own=>cond wr
    ((dG sz (y.eval G s.T)).bind fun f=>cond (e.isEmpty&&own&&b9 sz bytes [] f) (some (.lsl s.gen f,some { s.bz t .any with gen:=s.gen+1 })) none)
    ((aq isB sz bytes (.slice e own) (y.eval G s.T)).map (·,some (s.bz t (.slice e false))))
  | .ay=>cond wr
    ((dG sz (y.eval G s.T)).bind fun f=>cond (b9 sz bytes [] f) (some (.lsl s.gen f,some { s.bz t .any with gen:=s.gen+1 })) none)
    ((aq isB sz bytes (.slice [] true) (y.eval G s.T)).map (·,some s))
  | _=>none
 | x=>cond wr none ((aq isB sz bytes (x.eval G s.T) (y.eval G s.T)).map (·,none))
def UJ(s:AS)(x:ak):Option (AV × AS) :=
 match x with
 | .tmp t=>match s.T t with
  | .slice e own=>some (.slice e own,s.bz t (.slice e false))
  | _=>none
 | .a8 v=>match v with
  | .slice [] true=>some (.slice [] true,s)
  | _=>none
 | _=>none
def ai(s:AS)(o:dQ):Option (AV × Option AS) :=
 match o with
 | .qN c x=>cond (fA c (x.addr G s.T)) (some (.undef,none)) none
 | .mov take obj x=>kO G s take obj x
 | .pick c a b=>match c.eval G s.T with
  | .bool t=>some (cond t (a.addr G s.T).drop (b.addr G s.T).drop,none)
  | _=>none
 | .allocL zero=>some (.lbox s.gen zero,some { s with gen:=s.gen+1 })
 | .boxL x=>(x.eval G s.T).drop.cells.map fun cs=>(.lbox s.gen (cs.map AV.drop),some { s with gen:=s.gen+1 })
 | .ot ty zero=>some (.ref s.H.length 0,some (s.dZ ⟨s.H++[.box ty zero],s.H.length⟩))
 | .box ty x=>(x.eval G s.T).drop.cells.bind fun cs=>cond (cs.all (aR s.H.length)) (some (.ref s.H.length 0,some (s.dZ ⟨s.H++[.box ty (cs.map AV.drop)],s.H.length⟩))) none
 | .build zero parts=>(cF zero (parts.map fun p=>(p.1,p.2.1,(p.2.2.eval G s.T).drop))).map (.agg ·,none)
 | .mkslice isB sz DJ parts=>(bL sz DJ (parts.map fun p=>(p.1,(p.2.eval G s.T).drop))).bind fun E=>cond (ji isB E) (some (.slice E true,none)) none
 | .lS sz DJ parts=>(bL sz DJ (parts.map fun p=>(p.1,(p.2.eval G s.T).drop))).bind fun E=>cond (ff E) (some (.sref s.H.length 0 E.length sz,some (s.dZ ⟨s.H++[.box cO E.flatten],s.H.length⟩))) none
 | .load take agg sz x=>cG s take agg sz (x.addr G s.T)
 | .store sz a v=>(ba s sz (a.addr G s.T) (v.eval G s.T)).map fun s'=>(.undef,some (s'.cq v))
 | .nilCheck x=>cond (bO s (x.addr G s.T)) (some (x.addr G s.T,none)) none
 | .bin op q x y=>(uT op q (n7 x || n7 y) (x.eval G s.T) (y.eval G s.T)).map (·,none)
 | .un op x=>(AY op (x.eval G s.T)).map (·,none)
 | .mm mx x y=>(Ov mx (x.eval G s.T) (y.eval G s.T)).map (·,none)
 | .conv c x=>(jH c (x.eval G s.T)).map (·,none)
 | .uJ t x=>(JC t (x.eval G s.T)).map (·,none)
 | .slice k x lo hi mx=>(gB k (x.eval G s.T) (lo.map (·.eval G s.T)) (hi.map (·.eval G s.T)) (mx.map (·.eval G s.T))).map (·,none)
 | .fieldAddr off x=>cond (bO s (x.addr G s.T)) ((fK off (x.addr G s.T)).map (·,none)) none
 | .field agg off sz x=>match x.eval G s.T with
  | .agg cs=>(an false agg sz off cs).map (·,none)
  | _=>none
 | .ixSl sz x i=>match x.addr G s.T with
  | .slice e _=>(asNat (i.eval G s.T)).bind fun n=>(e[n]?).bind fun r=>cond (Nat.beq r.length sz) (some (.eptr r,none)) none
  | .sref l o m _=>(asNat (i.eval G s.T)).bind fun n=>cond (Nat.blt n m) (some (.ref l (o+n*sz),none)) none
  | .lsr t g=>match s.T t with
   | .lsl g' e=>cond (Nat.beq g g') ((asNat (i.eval G s.T)).bind fun n=>(e[n]?).bind fun r=>cond (Nat.beq r.length sz) (some (.eref t g n sz 0,none)) none) none
   | _=>none
  | _=>none
 | .ixArr n sz x i=>(asNat (i.eval G s.T)).bind fun k=>cond (Nat.blt k n&&bO s (x.addr G s.T)) ((fK (k*sz) (x.addr G s.T)).map (·,none)) none
 | .index agg n sz x i=>(asNat (i.eval G s.T)).bind fun k=>cond (Nat.blt k n)
   (match x.eval G s.T with
    | .agg cs=>(an false agg sz (k*sz) cs).map (·,none)
    | _=>none) none
 | .indexStr x i=>match x.eval G s.T with
  | .str l=>(asNat (i.eval G s.T)).bind fun n=>(l[n]?).map fun (b:UInt8)=>(AV.int .u8 b.toNat,none)
  | _=>none
 | .extract x i=>match x.eval G s.T with
  | .tuple vs=>(vs[i]?).map fun v=>(v.bf,none)
  | _=>none
 | .len k x=>match x.addr G s.T with
  | .lsr t g=>match s.T t with
   | .lsl g' e=>cond (Nat.beq g g') ((jL k (.slice e false)).map (·,none)) none
   | _=>none
  | v=>(jL k v).map (·,none)
 | .append isB wr sz bytes x y=>dX G s isB wr sz bytes x y
 | .appendO sz bytes x y=>jr s sz bytes (x.addr G s.T) (y.eval G s.T)
 | .tU sz bytes zero n=>pg s sz bytes zero (n.eval G s.T)
 | .copyO x y=>kT s (x.addr G s.T) (y.eval G s.T)
 | .It x=>(x.eval G s.T).drop.cells.bind fun cs=>cond (cs.all ar) (some (.ref s.H.length 0,some (s.dZ ⟨s.H++[.dL (cs.map AV.drop)],s.H.length⟩))) none
 | .nilS neg x=>(Oz (x.eval G s.T)).map fun b=>(.bool (neg != b),none)
 | .call f args=>match f.eval G s.T with
  | .func (.func n) fs cs=>cond ((args.map fun a=>a.addr G s.T).all ar)
    ((cf n (fs++args.map (fun a=>(a.addr G s.T).bf)++cs) s.H).map fun r=>(r.1,r.2.map s.dZ)) none
  | _=>none
 | .iP f args=>match f.eval G s.T with
  | .func (.func n) fs cs=>cond ((args.map fun a=>a.addr G s.T).all ar)
    ((cf n (fs++args.map (fun a=>(a.addr G s.T).bf)++cs) s.H).bind fun r=>match r.2 with|none=>some (r.1,none)|some _=>none) none
  | _=>none
 | .xW f pre x post=>cond ((pre.map fun a=>a.addr G s.T).all ar&&(post.map fun a=>a.addr G s.T).all ar)
   ((UJ s x).bind fun p=>(cf f (pre.map (fun a=>(a.addr G s.T).bf)++p.1 :: post.map (fun a=>(a.addr G s.T).bf)) s.H).map fun r=>(r.1,some ((r.2.map p.2.dZ).getD p.2))) none
 | .mkfunc f first captured=>cond ((first.map fun a=>a.addr G s.T).all ar&&(captured.map fun a=>a.addr G s.T).all ar)
   (some (.func f (first.map fun a=>(a.addr G s.T).drop) (captured.map fun a=>(a.addr G s.T).drop),none)) none
 | .yI kz ka va=>some (.mref s.H.length,some (s.dZ ⟨s.H++[.map kz ka va []],s.H.length⟩))
 | .look ok kz ka va ks zero m k=>sH s ok kz ka va ks zero (m.addr G s.T) (k.eval G s.T)
 | .HR kz ka ks zero m k=>zR s kz ka ks zero (m.addr G s.T) (k.eval G s.T)
 | .JD kz ka va vz ks m k v=>(sI s kz ka va vz ks (m.addr G s.T) (k.eval G s.T) (v.eval G s.T)).map fun s'=>(.undef,some (s'.cq v))
 | .SZ m=>match m.addr G s.T with
  | .cw=>some (.int .i64 0,none)
  | .dp _ _ _ es=>some (.int .i64 es.length,none)
  | .mref l=>match s.H[l]? with
   | some (.map _ _ _ es)=>some (.int .i64 es.length,none)
   | some (.dp _ _ _ es)=>some (.int .i64 es.length,none)
   | _=>none
  | _=>none
 | .ZJ kz ka va m=>match m.addr G s.T with
  | .cw=>some (.iter s.gen kz ka va [] [],some { s with gen:=s.gen+1 })
  | .dp kH kG kQ es=>cond (Nat.beq kz kH&&ka==kG&&va==kQ) (some (.iter s.gen kz ka va [] es,some { s with gen:=s.gen+1 })) none
  | .mc kH kG kQ es=>cond (Nat.beq kz kH&&ka==kG&&va==kQ) (some (.iter s.gen kz ka va [] es,some { s with gen:=s.gen+1 })) none
  | .mref l=>match s.H[l]? with
   | some (.map kH kG kQ es)=>cond (Nat.beq kz kH&&ka==kG&&va==kQ&&ff es)
     (some (.iter s.gen kz ka va [] es,some { s.dZ ⟨s.H.set l (.dp kz ka va es),l⟩ with gen:=s.gen+1 })) none
   | _=>none
  | _=>none
 | .next _=>none
 | .Zr it=>match it with
  | .tmp t=>match s.T t with
   | .iter _ kz ka va cur _=>cond (Nat.ble kz cur.length&&!cur.isEmpty) (some (.tuple [qe ka (cur.take kz),qe va (cur.drop kz)],none)) none
   | _=>none
  | _=>none
def AS.ca(s:AS)(d:Option Nat)(v:AV):AS:=match d with|none=>s|some d=>s.bz d v
def bQ(draw:Bool)(s:AS)(o:az):Option AS :=
 let run:Option AS:=(ai G cf s o.op).bind fun r=>match r.2 with
  | none=>cond (draw&&(aQ r.1).isSome) none (some (s.ca o.dst r.1))
  | some s'=>cond draw none (some (s'.ca o.dst r.1))
 match o.guard with
 | none=>run
 | some (g,want)=>match s.T g with
  | .bool b=>cond (b==want) run (some (s.ca o.dst .undef))
  | .tuple []=>some (s.ca o.dst .undef)
  | _=>none
def dT(draw:Bool):List az->AS->Option AS
 | [],s=>some s
 | o :: r,s=>(bQ G cf draw s o).bind (dT draw r)
def iter(f:AS->Option (bC × AS)):Nat->AS->Option (bC × AS)
 | 0,_=>none
 | n+1,s=>(f s).bind fun r=>match r.1 with
  | .normal=>iter f n r.2
  | _=>some r
def gL(n:Nat):aZ->AS->Option (bC × AS)
 | .skip,s=>some (.normal,s)
 | .region d ops,s=>(dT G cf d ops s).map (.normal,·)
 | .seq a b,s=>(gL n a s).bind fun r=>match r.1 with
  | .normal=>gL n b r.2
  | _=>some r
 | .cond c a b,s=>match c.eval G s.T with
  | .bool t=>cond t (gL n a s) (gL n b s)
  | _=>none
 | .block id a,s=>(gL n a s).map fun r=>match r.1 with
  | .exit i=>(cond (Nat.beq i id) .normal (.exit i),r.2)
  | e=>(e,r.2)
 | .loop a,s=>iter (gL n a) n s
 | .exit id,s=>some (.exit id,s)
 | .ret,s=>some (.ret,s)
 | .xd _ _ _,_=>none
end
def iE(s:AS):fJ->Option AV
 | .tmp t=>cond (ar (s.T t)) (some (s.T t)) none
 | .cell a agg sz=>match s.T a with
  | .lbox _ cs=>an false agg sz 0 cs
  | .ref loc 0=>match s.H[loc]? with
   | some (.box _ cs)=>an false agg sz 0 cs
   | _=>none
  | _=>none
def nL(s:AS):fJ->Option Nat
 | .tmp t=>match s.T t with
  | .lsl _ _=>some t
  | .lsr b g=>match s.T b with
   | .lsl g' _=>cond (Nat.beq g g') (some b) none
   | _=>none
  | _=>none
 | .cell ..=>none
def mD(s:AS):List fJ->Option (List AV)
 | []=>some []
 | r :: rs=>(iE s r).bind fun v=>(mD s rs).map (v.bf :: ·)
def lZ(s:AS)(rs:List fJ):Option AV :=
 match rs with
 | [r]=>match nL s r with
  | some b=>(match s.T b with|.lsl _ e=>cond (gd e) (some (.slice e true)) none|_=>none)
  | none=>iE s r
 | rs=>(mD s rs).map .tuple
def jJ(base:Nat)(rs:List fJ)(s:AS):Option (AV × Option fz) :=
 (lZ s rs).bind fun r =>
  cond (r.leaves base) (some (r,cond (Nat.beq s.lo base) none (some ⟨s.H.take base,s.lo⟩))) none
def O3(e:List (List AV)):Nat:=(e.head?.map List.length).getD 0
def ta(s:AS)(base:Nat):List fJ->Option (List AV × Option (List (List AV)))
 | []=>some ([],none)
 | r :: rs=>(ta s base rs).bind fun q=>match nL s r with
  | some b=>match s.T b with
   | .lsl _ e=>cond (q.2.isNone&&!e.isEmpty&&e.all (fun r=>r.all AV.plain)) (some (.sref base 0 e.length (O3 e) :: q.1,some e)) none
   | _=>none
  | none=>(iE s r).bind fun v=>cond (v.bf.bg base) (some (v.bf :: q.1,q.2)) none
def qk(base:Nat)(rs:List fJ)(s:AS):Option (AV × Option fz) :=
 cond (Nat.beq rs.length 1) none ((ta s base rs).bind fun q=>q.2.map fun e=>(.tuple q.1,some ⟨s.H.take base++[.box cO e.flatten],s.lo⟩))
def py:AV->Bool
 | .int .u8 _=>false
 | .any=>false
 | _=>true
def lU:AV->AV
 | .slice [] true=>.ay
 | v=>v
def AV.norm:AV->AV
 | .ay=>.slice [] false
 | v=>v
def mY:de->Option (List AV)
 | .box _ cs=>some cs
 | .dL cs=>some cs
 | _=>none
def oa(H:ag)(base:Nat):Nat->AV->AV
 | 0,v=>v
 | k+1,v=>match v with
  | .sref l off n z=>cond (Nat.ble base l) (match (H[l]?).bind mY with
   | some cs=>cond (Nat.blt 0 z&&Nat.ble (off+n*z) cs.length&&(cs.all fun x=>(oa H base k x.drop).plain&&py x)) (.slice (chunks z n ((cs.map fun x=>oa H base k x.drop).drop off)) false) v
   | none=>v) v
  | v=>v
abbrev QE:Nat:=3
def Lt(H:ag)(base:Nat):AV->AV
 | .agg cs=>.agg (cs.map (oa H base QE))
 | v=>oa H base QE v
def uL(base:Nat)(s:AS)(rs:List fJ):Option AV :=
 match rs with
 | [r]=>(iE s r).map fun v=>Lt s.H base v.bf
 | rs=>(mD s rs).map fun vs=>.tuple (vs.map (Lt s.H base))
def qj(base:Nat)(rs:List fJ)(s:AS):Option (AV × Option fz) :=
 (uL base s rs).bind fun r=>cond (r.leaves base) (some (r,cond (Nat.beq s.lo base) none (some ⟨s.H.take base,s.lo⟩))) none
def oG(base:Nat)(rs:List fJ)(s:AS):Option (AV × Option fz) :=
 match rs with
 | [r]=>(iE s r).bind fun v=>match v with
  | .sref l off n z=>match s.H[l]? with
   | some (.box _ cs)=>cond (Nat.ble base l&&cs.all AV.plain) (some (.sref base off n z,some ⟨s.H.take base++[.dL cs],s.lo⟩)) none
   | _=>none
  | _=>none
 | _=>none
def nC(base:Nat)(fn:au)(s:AS):Option (AV × Option fz):=cond (fn.muts.elem 888888) (oG base fn.results s) none
def mB(base:Nat)(s:AS):Bool:=cond (Nat.beq s.lo base) true (((s.H.take base).drop s.lo).all fun o=>match o with|.dL cs=>cs.all (AV.aN base)|_=>true)
def rj(base:Nat)(fn:au)(s:AS):Option (AV × Option fz) :=
 match nC base fn s with
 | some r=>some r
 | none=>match jJ base fn.results s with
 | some r=>some r
 | none=>match qk base fn.results s with
  | some r=>some r
  | none=>qj base fn.results s
def kU(base:Nat)(fn:au)(s:AS):Option (AV × Option fz):=cond (mB base s) (rj base fn s) none
def n1:AV->AV
 | .ay=>.slice [] false
 | v=>v
def n2:AV->AV
 | .ay=>.slice [] false
 | .slice e false=>.slice (e.map fun r=>r.map n1) false
 | v=>v
def n3:AV->AV
 | .agg cs=>.agg (cs.map n2)
 | v=>n2 v
def lV:AV->AV
 | .tuple vs=>.tuple (vs.map n3)
 | v=>n3 v
def pR(fn:au)(r:AV × Option fz):AV × Option fz:=cond (fn.muts.elem 777777) (lV r.1,r.2) r
def finish(base:Nat)(fn:au)(s:AS):Option (AV × Option fz):=(kU base fn s).map (pR fn)
def gn(args:List AV):aC:=fun i=>args.getD i .undef
def td(G:Nat->List AV)(cf:cC)(n:Nat)(fn:au)(args:List AV)(H:ag):Option (AV × Option fz) :=
 cond (Nat.beq args.length fn.np)
  ((gL G cf n fn.body { T:=gn args,H,lo:=H.length,gen:=0 }).bind fun r=>match r.1 with
   | .exit _=>none
   | _=>finish H.length fn r.2)
  none
structure AP where
 fns:FuncId->Option au
 ov:FuncId->Option (List AV->ag->Option (AV × Option fz))
 aP:Nat->List AV
def pz:AV->Bool
 | .slice _ true=>false
 | _=>true
def x9(A:AP):Nat->cC
 | 0=>fun _ _ _=>none
 | n+1=>fun f args H=>match A.ov f with
  | some g=>cond (args.all pz) (g args H) none
  | none=>match A.fns f with
   | none=>none
   | some fn=>td A.aP (x9 A n) n fn args H
def iM:Value->Option AV
 | .bool b=>some (.bool b)
 | .int k n=>some (.int k n)
 | .string s=>some (.str s.data.toList)
 | .slice none 0 0=>some (.slice [] true)
 | .pointer none=>some .cx
 | .map none=>some .cw
 | .nilFunc=>some .bV
 | .nilIface=>some .bt
 | _=>none
def cY:List Value->Option (List AV)
 | []=>some []
 | v :: r=>(iM v).bind fun x=>(cY r).map (x :: ·)
def oC:Value->Option AV
 | .agg vs=>(cY vs.toList).map fun l=>.agg (l.map lU)
 | v=>iM v
section
variable (P:Program)(bK locals muts:List Nat)(nt:Nat)
def ah:Operand->Option ak
 | .tmp t=>cond (Nat.blt t nt) (some (.tmp t)) none
 | .const v=>(oC v).map .a8
 | .global g=>some (.aP g)
 | .func f=>some (.fn f)
def ij:List Operand->Option (List ak)
 | []=>some []
 | x :: r=>(ah nt x).bind fun a=>(ij r).map (a :: ·)
def da(t:TypeId):Option Nat:=(P.info? t).map (·.size)
def fD(t:TypeId):Option (List AV):=((P.info? t).bind (·.zero)).bind fun z=>cY z.cells.toList
def ki(t:TypeId):Option Bool:=(P.underlying t).map fun|.struct _=>true|.array _ _=>true|_=>false
def fu:Option Operand->Option (Option ak)
 | none=>some none
 | some x=>(ah nt x).map some
def ml(flat:TypeId->Option (List CK)):List Go.Field->Nat->Option (List CK)
 | [],_=>some []
 | f :: fs,o=>cond (Nat.beq f.offset o&&f.name != "_") ((flat f.type).bind fun k=>(ml flat fs (o+k.length)).map (k++·)) none
def kP:Nat->TypeId->Option (List CK)
 | 0,_=>none
 | d+1,t=>match P.underlying t with
  | some .bool=>some [.b]
  | some (.int _)=>some [.i]
  | some .string=>some [.s]
  | some (.struct fs)=>cond (!P.stoodInHeld t) ((ml (kP d) fs.toList 0).bind fun ks=>cond (match da P t with|some n=>Nat.beq n ks.length|none=>false) (some ks) none) none
  | _=>none
def lG(t:TypeId):se :=
 match P.underlying t with
 | some .bool=>.bool
 | some (.interface _)=>.iface
 | some (.func _ _ _)=>.func
 | some (.struct _)=>cond (!P.eqGuardType P.depth t) (match kP P 8 t with|some ks=>.flat ks|none=>.other) .other
 | _=>.other
def lj(fs:List Go.Field):List (Nat × Operand)->Option (List (Nat × Nat × ak))
 | []=>some []
 | (i,x) :: r=>(fs[i]?).bind fun f=>(da P f.type).bind fun z=>(ah nt x).bind fun a=>(lj fs r).map ((f.offset,z,a) :: ·)
def iK(sz:Nat):List (Nat × Operand)->Option (List (Nat × Nat × ak))
 | []=>some []
 | (i,x) :: r=>(ah nt x).bind fun a=>(iK sz r).map ((i*sz,sz,a) :: ·)
def jo:List (Nat × Operand)->Option (List (Nat × ak))
 | []=>some []
 | (i,x) :: r=>(ah nt x).bind fun a=>(jo r).map ((i,a) :: ·)
def Kw:Value->Bool
 | .agg _=>true
 | _=>false
def Jz(t:TypeId):Option (List CK × Bool × Bool × List AV) :=
 match P.underlying t with
 | some (.map k e)=>(kP P 8 k).bind fun ks=>(ki P k).bind fun ka=>(P.info? e).bind fun i=>i.zero.bind fun z=>(cY z.cells.toList).bind fun zero =>
   cond (Kw z || Nat.beq zero.length 1) (some (ks,ka,Kw z,zero)) none
 | _=>none
def AM:Operand->Operand->Bool
 | .tmp a,.tmp b=>Nat.beq a b
 | _,_=>false
def gR(d:Option Nat):Bool:=match d with|some d=>bK.contains d|none=>false
def isLocal(d:Option Nat):Bool:=match d with|some d=>locals.contains d|none=>false
def qX(d:Option Nat)(g:ak)(ys:List ak):dQ:=cond (gR bK d) (.call g ys) (.call g ys)
def qW(d:Option Nat)(c:Call):Option dQ :=
 match c.callee with
 | .value f=>(ah nt f).bind fun g=>(ij nt c.args.toList).map (qX bK d g ·)
 | .builtin .len=>match c.args.toList,c.argTypes.toList with
  | [x],[t]=>(ah nt x).bind fun a=>match P.underlying t with
   | some .string=>some (.len .str a)
   | some (.slice _)=>some (.len .sl a)
   | some (.array n _)=>some (.len (.arr n) a)
   | some (.map _ _)=>none
   | _=>none
  | _,_=>none
 | .builtin .append=>match c.args.toList,c.argTypes.toList with
  | [x,y],[t,u]=>(ah nt x).bind fun a=>(ah nt y).bind fun b=>match P.underlying t,P.underlying u with
   | some (.slice e),some (.slice _)|some (.slice e),some .string=>(P.info? e).bind fun i=>cond (Nat.blt 0 i.size&&(i.zero.map fun z=>Nat.beq z.cells.size i.size).getD false) (some (cond (isLocal locals d) (.appendO i.size i.bytes a b) (.append (Nat.beq e fP) (gR muts d) i.size i.bytes a b))) none
   | _,_=>none
  | _,_=>none
 | .builtin .copy=>match c.args.toList,c.argTypes.toList with
  | [x,y],[t,u]=>(ah nt x).bind fun a=>(ah nt y).bind fun b=>match P.underlying t,P.underlying u with
   | some (.slice e),some (.slice _)=>(da P e).bind fun sz=>cond (Nat.beq sz 1) (some (.copyO a b)) none
   | _,_=>none
  | _,_=>none
 | .builtin .max=>match c.args.toList with
  | [x,y]=>(ah nt x).bind fun a=>(ah nt y).map (.mm true a ·)
  | _=>none
 | .builtin .min=>match c.args.toList with
  | [x,y]=>(ah nt x).bind fun a=>(ah nt y).map (.mm false a ·)
  | _=>none
 | _=>none
def Lp(k:Nat)(l:List Nat)(d:Option Nat):Bool:=match d with|some d=>l.elem (k+d)|none=>false
def GF(op:BinOp)(t:TypeId)(y:Operand):Option Bool :=
 match y,P.underlying t with
 | .const (.slice none 0 0),some (.slice _)=>(match op with|.eql=>some false|.neq=>some true|_=>none)
 | _,_=>none
def Ao:ak->ak
 | .a8 v=>.a8 (lU v)
 | x=>x
def cr(d:Option Nat)(o:Op):Option dQ :=
 match o with
 | .move x|.assign x=>(ah nt x).map fun a=>.mov (gR bK d) (gR muts d) (cond (gR muts d) (Ao a) a)
 | .pick c a b=>(ah nt c).bind fun c=>(ah nt a).bind fun a=>(ah nt b).map (.pick c a ·)
 | .alloc t=>((fD P t).map fun z=>cond (Lp 700000 bK d) (z.map lU) z).bind fun z=>cond (isLocal locals d) (some (.allocL z)) (some (.ot t z))
 | .box t x=>(ah nt x).map fun a=>cond (isLocal locals d) (.boxL a) (cond (Lp 500000 muts d) (.It a) (.box t a))
 | .build t parts=>((fD P t).map fun z=>cond (gR bK d) (z.map lU) z).bind fun z=>match P.underlying t with
  | some (.struct fs)=>cond ((fs.toList.mapM fun f=>(P.info? f.type).map fun i=>(f.offset,i.size)).isSome) ((lj P nt fs.toList parts.toList).map (.build z ·)) none
  | some (.array _ e)=>(da P e).bind fun sz=>(iK nt sz parts.toList).map (.build z ·)
  | _=>none
 | .buildSlice t len parts=>match P.underlying t with
  | some (.slice e)=>(da P e).bind fun sz=>(fD P e).bind fun z=>(jo nt parts.toList).bind fun ps =>
    cond (Nat.ble (len*sz) 16777216&&Nat.beq z.length sz&&Nat.blt 0 sz) (some (cond (isLocal locals d) (.lS sz (List.replicate len (z.map AV.drop)) ps) (.mkslice (Nat.beq e fP) sz (List.replicate len (z.map AV.drop)) ps))) none
  | _=>none
 | .load t x=>(ah nt x).bind fun a=>(ki P t).bind fun g=>(da P t).map fun sz=>.load (gR bK d) g sz a
 | .store t x y=>(ah nt x).bind fun a=>(ah nt y).bind fun b=>(da P t).map fun sz=>.store sz a b
 | .nilCheck x=>(ah nt x).map .nilCheck
 | .binOp op t x y _=>(ah nt x).bind fun a=>(ah nt y).bind fun b=>match GF P op t y with
  | some neg=>some (.nilS neg a)
  | none=>some (.bin op (lG P t) a b)
 | .unOp op _ x=>(ah nt x).map (.un op ·)
 | .convert s t x=>(ah nt x).bind fun a=>match P.underlying s,P.underlying t with
  | some (.int _),some (.int k)=>some (.conv (.toInt k) a)
  | some .string,some .string=>some (.conv .AT a)
  | some (.slice e),some .string=>match P.underlying e with
   | some (.int .u8)=>some (.conv .oy a)
   | _=>none
  | _,_=>none
 | .makeFunc f first captured=>(ij nt first.toList).bind fun a=>(ij nt captured.toList).map (.mkfunc f a ·)
 | .slice t x lo hi mx=>(ah nt x).bind fun a=>(fu nt lo).bind fun lo=>(fu nt hi).bind fun hi=>(fu nt mx).bind fun mx=>match P.underlying t with
  | some .string=>some (.slice .str a lo hi mx)
  | some (.slice e)=>(da P e).map fun sz=>.slice (.sl sz) a lo hi mx
  | some (.array n e)=>(da P e).bind fun sz=>cond (Nat.blt 0 sz) (some (.slice (.arr n sz) a lo hi mx)) none
  | _=>none
 | .fieldAddr t x f=>(ah nt x).bind fun a=>match P.underlying t with
  | some (.struct fs)=>(fs[f]?).bind fun q=>(da P q.type).bind fun sz=>cond (Nat.blt 0 sz) (some (.fieldAddr q.offset a)) none
  | _=>none
 | .indexAddr t x i=>(ah nt x).bind fun a=>(ah nt i).bind fun b=>match P.underlying t with
  | some (.slice e)=>(da P e).map fun sz=>.ixSl sz a b
  | some (.array n e)=>(da P e).map fun sz=>.ixArr n sz a b
  | _=>none
 | .index t x i=>(ah nt x).bind fun a=>(ah nt i).bind fun b=>match P.underlying t with
  | some .string=>some (.indexStr a b)
  | some (.array n e)=>(da P e).bind fun sz=>(ki P e).map fun g=>.index g n sz a b
  | _=>none
 | .extract x i=>(ah nt x).map (.extract · i)
 | .call c=>qW P bK locals muts nt d c
 | .makeSlice t x y=>(ah nt x).bind fun a=>cond (AM x y) (match P.underlying t with
  | some (.slice e)=>(P.info? e).bind fun i=>i.zero.bind fun z=>(cY z.cells.toList).bind fun zero=>cond (Nat.blt 0 i.size&&Nat.beq z.cells.size i.size) (some (.tU i.size i.bytes (zero.map AV.drop) a)) none
  | _=>none) none
 | .makeMap t none=>(Jz P t).map fun m=>.yI m.1.length m.2.1 m.2.2.1
 | .lookup t x i ok=>(ah nt x).bind fun a=>(ah nt i).bind fun b=>(Jz P t).map fun m =>
   .look ok m.1.length m.2.1 m.2.2.1 m.1 m.2.2.2 a b
 | .mapUpdate t x i v|.insert t x i v=>(ah nt x).bind fun a=>(ah nt i).bind fun b=>(ah nt v).bind fun c=>(Jz P t).map fun m=>.JD m.1.length m.2.1 m.2.2.1 m.2.2.2.length m.1 a b c
 | .range t x=>cond (gR muts d) ((ah nt x).bind fun a=>(Jz P t).map fun m=>.ZJ m.1.length m.2.1 m.2.2.1 a) none
 | .next x false=>(ah nt x).map .next
 | .entry x=>(ah nt x).map .Zr
 | _=>none
def mR(ops:Array Oper):Option (Nat × Bool)->Option (Option (Nat × Bool))
 | none=>some none
 | some (j,want)=>((ops[j]?).bind (·.dst)).bind fun s=>cond (Nat.blt s nt) (some (some (s,want))) none
def oB(ops:Array Oper)(o:Oper):Option az :=
 (cr P bK locals muts nt o.dst o.op).bind fun p=>(mR nt ops o.guard).bind fun g =>
  match o.dst with
  | none=>some ⟨none,g,p⟩
  | some d=>cond (Nat.blt d nt) (some ⟨some d,g,p⟩) none
def fc(ops:Array Oper):List Oper->Option (List az)
 | []=>some []
 | o :: r=>(oB P bK locals muts nt ops o).bind fun p=>(fc ops r).map (p :: ·)
def ak.tmps:ak->List Nat
 | .tmp t=>[t]
 | _=>[]
def dQ.tmps:dQ->List Nat
 | .qN _ x|.boxL x|.It x|.mov _ _ x|.box _ x|.load _ _ _ x|.nilCheck x|.un _ x|.nilS _ x|.conv _ x|.uJ _ x|.fieldAddr _ x|.field _ _ _ x|.extract x _|.len _ x=>x.tmps
 | .pick c a b=>c.tmps++a.tmps++b.tmps
 | .allocL _|.ot _ _=>[]
 | .build _ ps=>ps.flatMap fun p=>p.2.2.tmps
 | .mkslice _ _ _ ps|.lS _ _ ps=>ps.flatMap fun p=>p.2.tmps
 | .store _ a v=>a.tmps++v.tmps
 | .bin _ _ x y|.mm _ x y|.ixSl _ x y|.ixArr _ _ x y|.index _ _ _ x y|.indexStr x y|.append _ _ _ _ x y|.appendO _ _ x y|.copyO x y=>x.tmps++y.tmps
 | .slice _ x lo hi mx=>x.tmps++(lo.toList.flatMap ak.tmps)++(hi.toList.flatMap ak.tmps)++(mx.toList.flatMap ak.tmps)
 | .call f xs|.iP f xs=>f.tmps++xs.flatMap ak.tmps
 | .xW _ pre x post=>pre.flatMap ak.tmps++x.tmps++post.flatMap ak.tmps
 | .mkfunc _ a b=>a.flatMap ak.tmps++b.flatMap ak.tmps
 | .yI _ _ _=>[]
 | .tU _ _ _ n=>n.tmps
 | .look _ _ _ _ _ _ m k|.HR _ _ _ _ m k=>m.tmps++k.tmps
 | .JD _ _ _ _ _ m k v=>m.tmps++k.tmps++v.tmps
 | .SZ m|.ZJ _ _ _ m|.next m|.Zr m=>m.tmps
def az.looks(o:az):List Nat:=o.op.tmps++(match o.guard with|some (g,_)=>[g]|none=>[])
def sD(o:Oper)(j:Nat):Bool:=o.after.any fun e=>Region.binds .any e&&Nat.beq e.on j
def rP(L:List Nat)(ops:List (Oper × az)):Bool :=
 let l:=ops.zipIdx
 l.all fun p=>(p.1.1.after.all fun e=>!Region.binds .any e || Nat.blt e.on p.2)&&(match p.1.2.dst with|some d=>!(L.contains d)|none=>true) &&
  l.all fun q=>Nat.beq p.2 q.2 || (match q.1.2.dst with
   | none=>true
   | some d=>(match p.1.2.dst with|some d'=>!(Nat.beq d d')|none=>true) &&
    (!(p.1.2.looks.contains d) || cond (Nat.blt q.2 p.2) (sD p.1.1 q.2) (sD q.1.1 p.2)))
def Pn:az->Option Nat
 | ⟨some d,none,.allocL _⟩=>some d
 | _=>none
def Vl(M:List Nat):az->Option (Nat × ak)
 | ⟨none,none,.store _ (.tmp d) y⟩=>cond (M.contains d) (some (d,y)) none
 | _=>none
def zm(is:List az):List Nat:=is.filterMap Pn
def isP(M:List Nat)(o:az):Bool:=(Pn o).isNone&&(Vl M o).isNone
def aeN:az:=⟨none,none,.mov false false (.a8 .undef)⟩
def abB(M:List Nat)(is:List az):List az:=is.map fun o=>cond (isP M o) o aeN
def SJ(M:List Nat):List az:=M.flatMap fun d=>[⟨some d,none,.allocL []⟩,⟨some d,none,.mov false false (.a8 .undef)⟩]
def abA(is:List az):List az:=is.filter fun o=>(Pn o).isSome
def abC(M:List Nat)(is:List az):List az:=is.filter fun o=>(Vl M o).isSome
def drawn(is:List az):aZ :=
 .seq (.region false (SJ (zm is))) (.seq (.region true (abB (zm is) is)) (.seq (.region false (abA is)) (.region false (abC (zm is) is))))
structure xM where
 rs:List Nat
 ws:List Nat
 rh:Bool
 wh:Bool
 wg:Bool
 deriving Inhabited
def zl(is:List az)(L:List Nat):Nat->ak->Option Nat
 | 0,_=>none
 | f+1,.tmp t=>cond (L.contains t) (some t) (match is.find? (fun o=>match o.dst with|some d=>Nat.beq d t|none=>false) with
  | some ⟨_,_,.fieldAddr _ y⟩=>zl is L f y
  | some ⟨_,_,.ixArr _ _ y _⟩=>zl is L f y
  | some ⟨_,_,.nilCheck y⟩=>zl is L f y
  | _=>none)
 | _,_=>none
def PC(is:List az):Nat->ak->Bool
 | 0,_=>false
 | f+1,.tmp t=>(match is.find? (fun o=>match o.dst with|some d=>Nat.beq d t|none=>false) with
  | some ⟨_,_,.ixSl _ x _⟩=>(match x with
   | .tmp u=>(match is.find? (fun o=>match o.dst with|some d=>Nat.beq d u|none=>false) with
    | some ⟨_,_,.load ..⟩=>false
    | _=>true)
   | _=>true)
  | some ⟨_,_,.fieldAddr _ y⟩=>PC is f y
  | some ⟨_,_,.ixArr _ _ y _⟩=>PC is f y
  | _=>false)
 | _,.aP _=>true
 | _,_=>false
def KU(mode:Bool)(is:List az)(L:List Nat)(x:ak):J' :=
 match zl is L 8 x with
 | some b=>.frame b
 | none=>cond (mode&&PC is 8 x) .Q4 .heap
def tD(mode:Bool)(is:List az)(L:List Nat):dQ->Option (J' × ak)
 | .load _ _ _ x=>some (KU mode is L x,x)
 | .store _ x _=>some (KU false is L x,x)
 | .nilCheck x=>some (KU mode is L x,x)
 | .fieldAddr _ x=>some (KU mode is L x,x)
 | .ixArr _ _ x _=>some (KU mode is L x,x)
 | .ixSl _ x _=>some (.heap,x)
 | .len _ x=>some (.heap,x)
 | _=>none
def fy:J'->List Nat
 | .frame b=>[b]
 | _=>[]
def Af:J'->Bool
 | .heap=>true
 | _=>false
def x8(pc:Bool)(c:J'):dQ->Option xM
 | .mov take obj x=>cond obj none (some ⟨x.tmps,cond take x.tmps [],false,false,false⟩)
 | .pick a b d=>some ⟨a.tmps++b.tmps++d.tmps,[],false,false,false⟩
 | .allocL _=>some ⟨[],[],false,false,true⟩
 | .boxL x=>some ⟨x.tmps,[],false,false,true⟩
 | .build z ps=>some ⟨(dQ.build z ps).tmps,[],false,false,false⟩
 | .mkslice b sz zs ps=>some ⟨(dQ.mkslice b sz zs ps).tmps,[],false,false,false⟩
 | .bin _ _ x y=>some ⟨x.tmps++y.tmps,[],false,false,false⟩
 | .mm _ x y=>some ⟨x.tmps++y.tmps,[],false,false,false⟩
 | .un _ x=>some ⟨x.tmps,[],false,false,false⟩
 | .nilS _ x=>some ⟨x.tmps,[],false,false,false⟩
 | .conv _ x=>some ⟨x.tmps,[],false,false,false⟩
 | .field _ _ _ x=>some ⟨x.tmps,[],false,false,false⟩
 | .index _ _ _ x i=>some ⟨x.tmps++i.tmps,[],false,false,false⟩
 | .indexStr x i=>some ⟨x.tmps++i.tmps,[],false,false,false⟩
 | .extract x _=>some ⟨x.tmps,[],false,false,false⟩
 | .mkfunc f a b=>some ⟨(dQ.mkfunc f a b).tmps,[],false,false,false⟩
 | .load take agg _ x=>some ⟨x.tmps++fy c,cond (take&&!agg) (fy c) [],Af c,Af c&&take&&!agg,false⟩
 | .store _ x y=>some ⟨x.tmps++y.tmps++fy c,y.tmps++fy c,Af c,Af c,false⟩
 | .nilCheck x=>some ⟨x.tmps++fy c,[],false,false,false⟩
 | .fieldAddr _ x=>some ⟨x.tmps++fy c,[],false,false,false⟩
 | .ixArr _ _ x i=>some ⟨x.tmps++i.tmps++fy c,[],false,false,false⟩
 | .ixSl _ x i=>some ⟨x.tmps++i.tmps,[],false,false,false⟩
 | .len _ x=>some ⟨x.tmps,[],false,false,false⟩
 | .append _ wr _ _ x y=>cond wr none (some ⟨x.tmps++y.tmps,x.tmps,false,false,false⟩)
 | .appendO _ _ x y=>some ⟨x.tmps++y.tmps,[],true,true,false⟩
 | .copyO x y=>some ⟨x.tmps++y.tmps,[],true,true,false⟩
 | .slice k x lo hi mx=>some ⟨(dQ.slice k x lo hi mx).tmps,[],false,false,false⟩
 | .call f xs=>some ⟨(dQ.call f xs).tmps,[],true,!pc,false⟩
 | _=>none
def BP(mode pc:Bool)(is:List az)(L:List Nat)(o:az):Option xM :=
 (x8 pc (match tD mode is L o.op with|some p=>p.1|none=>.heap) o.op).map fun e =>
  ⟨(match o.guard with|some (g,_)=>[g]|none=>[])++e.rs,o.dst.toList++e.ws,e.rh,e.wh,e.wg⟩
def meets(x y:List Nat):Bool:=x.any y.contains
def conflict(e f:xM):Bool :=
 meets e.ws f.rs || meets e.ws f.ws || meets f.ws e.rs || (e.wh&&(f.rh || f.wh)) || (f.wh&&e.rh) || (e.wg&&f.wg)
def nI(ops:List Oper):List (List Nat) :=
 ops.foldl (fun t o=>t++[(o.after.toList.flatMap fun e=>cond (Region.binds .any e) (e.on :: t.getD e.on []) []).eraseDups]) []
def oU(ops:List Oper)(es:List xM):Bool :=
 let ps:=nI ops
 (ops.zipIdx.all fun p=>p.1.after.all fun e=>!Region.binds .any e || Nat.blt e.on p.2) &&
 es.zipIdx.all fun p=>es.zipIdx.all fun q=>!(Nat.blt q.2 p.2) || !(conflict p.1 q.1) || (ps.getD p.2 []).contains q.2
def iD(pc:Bool)(o:az):az :=
 match o with
 | ⟨d,g,.call f xs⟩=>cond pc ⟨d,g,.iP f xs⟩ ⟨d,g,.call f xs⟩
 | o=>o
def inter(mode pc:Bool)(is:List az)(L:List Nat):List az->List az
 | []=>[]
 | o :: r=>match tD mode is L o.op with
  | some (c,x)=>⟨none,o.guard,.qN c x⟩ :: iD pc o :: inter mode pc is L r
  | none=>iD pc o :: inter mode pc is L r
def mw(mode pc:Bool)(is:List az)(L:List Nat):List az->Option (List xM)
 | []=>some []
 | o :: r=>(BP mode pc is L o).bind fun e=>(mw mode pc is L r).map (e :: ·)
def ZP:dQ->Bool
 | .mov take _ _=>take
 | .allocL _|.boxL _|.store ..|.append ..|.appendO ..|.copyO ..|.It ..|.tU ..|.ot ..|.box ..=>true
 | .load take agg _ _=>take&&!agg
 | _=>false
def Pk(mode pc:Bool)(L:List Nat)(ops:List Oper)(is:List az):Option aZ :=
 (mw mode pc is L is).bind fun es=>cond (oU ops es) (some (.region false (inter mode pc is L is))) none
def vf(L:List Nat)(ops:List Oper)(is:List az):Option aZ :=
 cond (L.elem 999996 || is.any fun o=>ZP o.op) (match Pk false false L ops is with
  | some c=>some c
  | none=>match cond (L.elem 999997) none (Pk true false L ops is) with
   | some c=>some c
   | none=>cond (L.elem 999999) none (Pk false true L ops is)) none
def lE(o:Oper):List Nat:=(o.after.toList.filter fun e=>Region.binds .any e).map (·.on)
def dS:Code->Option aZ
 | .skip=>some .skip
 | .region _ ops draw=>(fc P bK locals muts nt ops ops.toList).bind fun is=>match cond draw (vf locals ops.toList is) none with
  | some c=>some c
  | none=>cond (!draw || (!(locals.elem 999998)&&rP (locals++muts) (ops.toList.zip is))) (some (.region draw is)) (cond draw (some (.xd nt is (ops.toList.map lE))) none)
 | .seq a b=>(dS a).bind fun x=>(dS b).map (.seq x ·)
 | .cond c a b=>(ah nt c).bind fun c=>(dS a).bind fun x=>(dS b).map (.cond c x ·)
 | .block id a=>(dS a).map (.block id ·)
 | .loop a=>(dS a).map .loop
 | .exit id=>some (.exit id)
 | .ret=>some .ret
 | .label _=>some .skip
 | .scope a=>dS a
 | _=>none
def iY:List ResultVar->Option (List fJ)
 | []=>some []
 | .tmp t :: r=>cond (Nat.blt t nt) ((iY r).map (.tmp t :: ·)) none
 | .cell a t :: r=>cond (Nat.blt a nt) ((ki P t).bind fun g=>(da P t).bind fun sz=>(iY r).map (.cell a g sz :: ·)) none
end
def mQ(P:Program)(bK locals muts:List Nat)(f:Func):Option au :=
 f.body.bind fun c=>(dS P bK locals muts f.ntmps c).bind fun b=>(iY P f.ntmps f.results.toList).bind fun rs =>
  cond (Nat.ble (f.params.size+f.nfree) f.ntmps&&f.name != "runtime.NumGoroutine") (some { bK,locals,muts,nt:=f.ntmps,np:=f.params.size+f.nfree,results:=rs,body:=b }) none
end
inductive aX where
 | none|outer|ret
 | hb (loc:Nat)
 | hs (loc j:Nat)
 | bx (i:Nat)
 | sl (i:Nat)
 | sc (i j:Nat)
 | par (j:Nat)
 deriving DecidableEq,Inhabited
structure Gh where
 S:Nat->Nat->Prop
 κ:Nat->aX
 ρ:Nat->Nat
def oc(agg:Bool)(n:Nat)(f:Nat->Value):Value:=cond agg (.agg ((List.range n).map f).toArray) (f 0)
structure Ba (E:Array MapEntry) (ck kz:Nat) (ka va:Bool) (es:List (List AV)) (f:Nat->Nat->Value):Prop where
 size:E.size=es.length
 clk:ck=E.size
 at' : ∀ (i:Nat) (e:MapEntry),E[i]?=some e->e.born=i
 born:∀ (i:Nat) (e:MapEntry),E[i]?=some e->e.born<ck
 apart:∀ (i j:Nat) (e e' : MapEntry),E[i]?=some e->E[j]?=some e'->e.born=e'.born->i=j
 row:∀ (i:Nat) (e:MapEntry) (r:List AV),E[i]?=some e->es[i]?=some r->kz<=r.length/\(ka=false->kz=1)/\(va=false->r.length=kz+1)/\e.key=oc ka kz (f i)/\e.val=oc va (r.length-kz) (fun j=>f i (kz+j))
structure si (E:Array MapEntry) (ck kz:Nat) (ka va:Bool) (es:List (List AV)) (f:Nat->Nat->Value):Prop where
 size:E.size=es.length
 born:∀ (i:Nat) (e:MapEntry),E[i]?=some e->e.born<ck
 apart:∀ (i j:Nat) (e e' : MapEntry),E[i]?=some e->E[j]?=some e'->e.born=e'.born->i=j
 row:∀ (i:Nat) (e:MapEntry) (r:List AV),E[i]?=some e->es[i]?=some r->kz<=r.length/\(ka=false->kz=1)/\(va=false->r.length=kz+1)/\e.key=oc ka kz (f i)/\e.val=oc va (r.length-kz) (fun j=>f i (kz+j))
theorem Ba.iter{E:Array MapEntry}{ck kz:Nat}{ka va:Bool}{es:List (List AV)}{f:Nat->Nat->Value}(h:Ba E ck kz ka va es f):si E ck kz ka va es f:=⟨h.size,h.born,h.apart,h.row⟩
inductive PR (S:Nat->Nat->Prop) (w:World):Value->AV->Prop where
 | bool (b:Bool):PR S w (.bool b) (.bool b)
 | int (k:IntKind) (n:Int):PR S w (.int k n) (.int k n)
 | str (s:ByteArray) (l:List UInt8) (h:s.data.toList=l):PR S w (.string s) (.str l)
 | any (v:Value) (h:v.oneCell'=true):PR S w v .any
 | cx:PR S w (.pointer none) .cx
 | cw:PR S w (.map none) .cw
 | bV:PR S w .nilFunc .bV
 | bt:PR S w .nilIface .bt
 | func (f:Fn):PR S w (.func f #[] #[]) (.func f [] [])
 | iface (t:TypeId) (v:Value) (x:AV) (h:PR S w v x):PR S w (.iface t v) (.iface t x)
 | cB:PR S w (.slice none 0 0) (.slice [] false)
 | ay:PR S w (.slice none 0 0) .ay
 | slice (b o n cap sz:Nat) (e:List (List AV)) (f:Nat->Nat->Value) (hn:e.length=n) (iu:n<=cap)
   (br:∀ (i:Nat) (r:List AV),e[i]?=some r->r.length=sz)
   (bH:∀ (i j:Nat) (r:List AV) (x:AV),e[i]?=some r->r[j]?=some x->S b (o+i*sz+j)/\w.cell? ⟨b,o+i*sz+j,none⟩=some (f i j)/\(f i j).oneCell'=true)
   (bU:∀ (i j:Nat) (r:List AV) (x:AV),e[i]?=some r->r[j]?=some x->PR S w (f i j) x) :
   PR S w (.slice (some ⟨b,o,none⟩) n cap) (.slice e false)
 | eptr (b o:Nat) (cs:List AV) (f:Nat->Value)
   (bH:∀ (j:Nat) (x:AV),cs[j]?=some x->S b (o+j)/\w.cell? ⟨b,o+j,none⟩=some (f j)/\(f j).oneCell'=true)
   (bU:∀ (j:Nat) (x:AV),cs[j]?=some x->PR S w (f j) x) :
   PR S w (.pointer (some ⟨b,o,none⟩)) (.eptr cs)
 | dp (b kz:Nat) (ka va:Bool) (es:List (List AV)) (E:Array MapEntry) (ck:Nat) (f:Nat->Nat->Value) (hS:S b 0) (hb:w.heap[b]?=some (.map E ck)) (hE:Ba E ck kz ka va es f)
   (bU:∀ (i j:Nat) (r:List AV) (x:AV),es[i]?=some r->r[j]?=some x->PR S w (f i j) x):PR S w (.map (some b)) (.dp kz ka va es)
 | mc (b kz:Nat) (ka va:Bool) (es rY:List (List AV)) (E:Array MapEntry) (ck:Nat) (f:Nat->Nat->Value) (hS:S b 0) (hb:w.heap[b]?=some (.map E ck)) (hE:si E ck kz ka va rY f) (hp:rY.Perm es)
   (bU:∀ (i j:Nat) (r:List AV) (x:AV),rY[i]?=some r->r[j]?=some x->PR S w (f i j) x):PR S w (.map (some b)) (.mc kz ka va es)
theorem PR.dB{S:Nat->Nat->Prop}{w:World}{v:Value}{x:AV}(h:PR S w v x):v.oneCell'=true:=by
 cases h<;>first|rfl|assumption
theorem PR.mono{S S' : Nat->Nat->Prop}{w w' : World}(hS:∀ b o,S b o->S' b o)(hc:∀ b o,S b o->w'.cell? ⟨b,o,none⟩=w.cell? ⟨b,o,none⟩)
  (hm:∀ b E ck,S b 0->w.heap[b]?=some (.map E ck)->w'.heap[b]?=some (.map E ck))
  {v:Value} {x:AV} (h:PR S w v x):PR S' w' v x:=by
 induction h with
 | bool b=>exact .bool b
 | int k n=>exact .int k n
 | str s l h=>exact .str s l h
 | any v h=>exact .any v h
 | cx=>exact .cx
 | cw=>exact .cw
 | bV=>exact .bV
 | bt=>exact .bt
 | func f=>exact .func f
 | iface t v x _ ih=>exact .iface t v x ih
 | cB=>exact .cB
 | ay=>exact .ay
 | slice b o n cap sz e f hn iu br bH _ ih =>
  exact .slice b o n cap sz e f hn iu br (fun i j r x h1 h2=>by
   obtain⟨a,c,d⟩:=bH i j r x h1 h2
   exact⟨hS _ _ a,(hc _ _ a).trans c,d⟩) ih
 | eptr b o cs f bH _ ih =>
  exact .eptr b o cs f (fun j x h=>by
   obtain⟨a,c,d⟩:=bH j x h
   exact⟨hS _ _ a,(hc _ _ a).trans c,d⟩) ih
 | dp b kz ka va es E ck f h1 h2 h3 _ ih=>exact .dp b kz ka va es E ck f (hS _ _ h1) (hm _ _ _ h1 h2) h3 ih
 | mc b kz ka va es rY E ck f h1 h2 h3 h4 _ ih=>exact .mc b kz ka va es rY E ck f (hS _ _ h1) (hm _ _ _ h1 h2) h3 h4 ih
def nq(w:World)(b:Nat)(ty:TypeId)(n:Nat):Prop:=∃ C fr,w.heap[b]?=some (.cells C ty fr)/\C.size=n
inductive VR (gh:Gh) (n:Nat) (w:World):Value->AV->Prop where
 | plain (v:Value) (x:AV) (h:PR gh.S w v x):VR gh n w v x
 | full (a:Option Addr) (k:Nat) (e:List (List AV)) (h:PR gh.S w (.slice a k k) (.slice e false)) (hz:∀ ad,a=some ad->e=[]->ad.block<w.heap.size):VR gh n w (.slice a k k) (.slice e true)
 | ref (loc off:Nat) (h:loc<n):VR gh n w (.pointer (some ⟨gh.ρ loc,off,none⟩)) (.ref loc off)
 | sref (loc off k cap z:Nat) (h:loc<n) (hk:k<=cap) (hz:z≠0->∃ ty,nq w (gh.ρ loc) ty (off+cap*z)):VR gh n w (.slice (some ⟨gh.ρ loc,off,none⟩) k cap) (.sref loc off k z)
 | mref (loc:Nat) (h:loc<n):VR gh n w (.map (some (gh.ρ loc))) (.mref loc)
 | func (f:Fn) (fs cs:Array Value) (xs ys:List AV) (hf:fs.size=xs.length) (hc:cs.size=ys.length)
   (h1:∀ (j:Nat) (v:Value) (x:AV),fs[j]?=some v->xs[j]?=some x->VR gh n w v x)
   (h2:∀ (j:Nat) (v:Value) (x:AV),cs[j]?=some v->ys[j]?=some x->VR gh n w v x):VR gh n w (.func f fs cs) (.func f xs ys)
 | iface (t:TypeId) (v:Value) (x:AV) (h:VR gh n w v x):VR gh n w (.iface t v) (.iface t x)
 | agg (cs:Array Value) (xs:List AV) (hs:cs.size=xs.length)
   (fh:∀ (j:Nat) (v:Value),cs[j]?=some v->v.oneCell'=true)
   (h:∀ (j:Nat) (v:Value) (x:AV),cs[j]?=some v->xs[j]?=some x->VR gh n w v x):VR gh n w (.agg cs) (.agg xs)
 | tuple (vs:Array Value) (xs:List AV) (hs:vs.size=xs.length)
   (h:∀ (j:Nat) (v:Value) (x:AV),vs[j]?=some v->xs[j]?=some x->VR gh n w v x):VR gh n w (.tuple vs) (.tuple xs)
def Kept(S:Nat->Prop)(x y:Option Obj):Prop :=
 y=x\/∃ C ty lo hi lo' jW,x=some (.cells C ty (lo,hi))/\y=some (.cells C ty (lo',jW))/\(∃ o n,S o/\C[o]?=some (Value.int .u8 n))/\∀ m,hi<=m->(∀ o,m<=o->¬ S o)->jW<=m
theorem Kept.none{S:Nat->Prop}{x y:Option Obj}(h:Kept S x y)(hS:∀ o,¬ S o):y=x:=by
 rcases h with h|⟨_,_,_,_,_,_,_,_,⟨o,_,ho,_⟩,_⟩
 ·exact h
 ·exact absurd ho (hS o)
theorem Kept.trans{S T:Nat->Prop}{x y z:Option Obj}(h:Kept S x y)(h' : Kept T y z)(hT:∀ o,T o->S o):Kept S x z:=by
 rcases h with rfl|⟨C,ty,lo,hi,lo',jW,h1,h2,h3,h4⟩
 ·rcases h' with rfl|⟨C,ty,lo,hi,lo',jW,h1,h2,⟨o,n,ho,hn⟩,h4⟩
  ·exact .inl rfl
  ·exact .inr ⟨C,ty,lo,hi,lo',jW,h1,h2,⟨o,n,hT o ho,hn⟩,fun m hm hS=>h4 m hm (fun o ho ht=>hS o ho (hT o ht))⟩
 ·rcases h' with rfl|⟨C2,ty2,lo2,uH,lo3,hi3,k1,k2,_,k4⟩
  ·exact .inr ⟨C,ty,lo,hi,lo',jW,h1,h2,h3,h4⟩
  ·rw[h2] at k1
   injection k1 with k1
   injection k1 with e1 e2 e3
   injection e3 with e3 e4
   subst e1 e2 e3 e4
   exact .inr ⟨C,ty,lo,hi,lo3,hi3,h1,k2,h3,fun m hm hS=>k4 m (h4 m hm hS) (fun o ho ht=>hS o ho (hT o ht))⟩
structure Step (touch:aX->Prop) (n:Nat) (gh:Gh) (w:World) (aF:Gh) (w' : World):Prop where
 S:∀ b o,gh.S b o->aF.S b o
 cell:∀ b o,gh.S b o->w'.cell? ⟨b,o,none⟩=w.cell? ⟨b,o,none⟩
 size:w.heap.size<=w'.heap.size
 os:w'.os=w.os
 tape:w'.tape=w.tape
 output:w'.output=w.output
 xR:∀ b,b<w.heap.size->¬ touch (gh.κ b)->Kept (gh.S b) (w.heap[b]?) (w'.heap[b]?)/\aF.κ b=gh.κ b/\∀ o,aF.S b o->gh.S b o
 fresh:∀ b,w.heap.size<=b->aF.κ b≠.outer
 ρ:∀ loc,loc<n->aF.ρ loc=gh.ρ loc
 len:∀ b ty m,nq w b ty m->nq w' b ty m
 mp:∀ b E ck,gh.S b 0->w.heap[b]?=some (.map E ck)->w'.heap[b]?=some (.map E ck)
theorem Step.refl(touch:aX->Prop)(n:Nat)(gh:Gh)(w:World)(hf:∀ b,w.heap.size<=b->gh.κ b≠.outer):Step touch n gh w gh w :=
 ⟨fun _ _ h=>h,fun _ _ _=>rfl,aiK _,rfl,rfl,rfl,fun _ _ _=>⟨.inl rfl,rfl,fun _ h=>h⟩,hf,fun _ _=>rfl,fun _ _ _ h=>h,fun _ _ _ _ h=>h⟩
theorem Step.mono{touch Pz:aX->Prop}{n:Nat}{gh aF:Gh}{w w' : World}(h:Step touch n gh w aF w')(ht:∀ p,touch p->Pz p):Step Pz n gh w aF w' :=
 { h with xR:=fun b hb hn=>h.xR b hb (fun x=>hn (ht _ x)) }
theorem VR.mono{touch:aX->Prop}{n n' : Nat}{gh aF:Gh}{w w' : World}(st:Step touch n gh w aF w')(hn:n<=n')
  {v:Value} {x:AV} (h:VR gh n w v x):VR aF n' w' v x:=by
 induction h with
 | plain v x h=>exact .plain v x (h.mono st.S st.cell st.mp)
 | full a k e h hz=>exact .full a k e (h.mono st.S st.cell st.mp) (fun ad ha he=>ajK (hz ad ha he) st.size)
 | ref loc off h=>rw[<- st.ρ loc h];exact .ref loc off (ajK h hn)
 | sref loc off k cap z h hk hz=>rw[<- st.ρ loc h];exact .sref loc off k cap z (ajK h hn) hk (fun h0=>(hz h0).imp fun ty hb=>by rw[st.ρ loc h];exact st.len _ _ _ hb)
 | mref loc h=>rw[<- st.ρ loc h];exact .mref loc (ajK h hn)
 | func f fs cs xs ys hf hc _ _ ih1 ih2=>exact .func f fs cs xs ys hf hc ih1 ih2
 | iface t v x _ ih=>exact .iface t v x ih
 | agg cs xs hs fh _ ih=>exact .agg cs xs hs fh ih
 | tuple vs xs hs _ ih=>exact .tuple vs xs hs ih
def Hg(gh:Gh)(w:World)(p:aX)(v:Value)(e:List (List AV)):Prop :=
 ∃ b cap C ty lo hi sz,v=.slice (some ⟨b,0,none⟩) e.length cap/\gh.κ b=p/\e≠[]/\w.heap[b]?=some (.cells C ty (lo,hi))/\C.size=cap*sz /\
  (∀ (i:Nat) (r:List AV),e[i]?=some r->r.length=sz)/\e.length<=cap/\hi<=e.length*sz/\(∀ o,e.length*sz<=o->¬ gh.S b o)
theorem Hg.mono{touch:aX->Prop}{n:Nat}{gh aF:Gh}{w w' : World}(st:Step touch n gh w aF w'){p:aX}(hp:¬ touch p)
  {v:Value} {e:List (List AV)} (h:Hg gh w p v e):Hg aF w' p v e:=by
 obtain⟨b,cap,C,ty,lo,hi,sz,hv,hk,he,hb,hC,hr,hl,hh,hS⟩:=h
 have a7:b<w.heap.size:=(aiN.1 hb).1
 obtain⟨h1,h2,h3⟩:=st.xR b a7 (by rw[hk];exact hp)
 rcases h1 with h1|⟨C',j9,lo1,hi1,lo',jW,k1,k2,_,k4⟩
 ·exact⟨b,cap,C,ty,lo,hi,sz,hv,by rw[h2,hk],he,by rw[h1,hb],hC,hr,hl,hh,fun o ho hs=>hS o ho (h3 o hs)⟩
 ·rw[hb] at k1
  injection k1 with k1
  injection k1 with e1 e2 e3
  injection e3 with e3 e4
  subst e1 e2 e3 e4
  exact⟨b,cap,C,ty,lo',jW,sz,hv,by rw[h2,hk],he,k2,hC,hr,hl,k4 _ hh hS,fun o ho hs=>hS o ho (h3 o hs)⟩
def CR(gh:Gh)(n:Nat)(w:World)(p:aX)(v:Value)(x:AV):Prop :=
 VR gh n w v x\/∃ e,x=.slice e true/\PR gh.S w v (.slice e false)/\Hg gh w p v e
theorem CR.mono{touch:aX->Prop}{n n' : Nat}{gh aF:Gh}{w w' : World}(st:Step touch n gh w aF w')(hn:n<=n'){p:aX}(hp:¬ touch p)
  {v:Value} {x:AV} (h:CR gh n w p v x):CR aF n' w' p v x:=by
 rcases h with h|⟨e,rfl,h1,h2⟩
 ·exact .inl (h.mono st hn)
 ·exact .inr ⟨e,rfl,h1.mono st.S st.cell st.mp,h2.mono st hp⟩
theorem CR.dropped{gh:Gh}{n:Nat}{w:World}{p:aX}{v:Value}{x:AV}(h:CR gh n w p v x):VR gh n w v x.drop:=by
 rcases h with h|⟨e,rfl,h1,_⟩
 ·cases h with
  | plain v x h =>
   cases x<;>try exact .plain _ _ h
   cases h<;>first|exact .plain _ _ .cB|exact .plain _ _ (.slice _ _ _ _ _ _ _ ‹_› ‹_› ‹_› ‹_› ‹_›)
  | full a k e h=>exact .plain _ _ h
  | ref loc off h=>exact .ref loc off h
  | sref loc off k cap z h hk hz=>exact .sref loc off k cap z h hk hz
  | mref loc h=>exact .mref loc h
  | func f fs cs xs ys hf hc h1 h2=>exact .func f fs cs xs ys hf hc h1 h2
  | iface t v x h=>exact .iface t v x h
  | agg cs xs hs fh h=>exact .agg cs xs hs fh h
  | tuple vs xs hs h=>exact .tuple vs xs hs h
 ·exact .plain _ _ h1
theorem VR.dropped{gh:Gh}{n:Nat}{w:World}{v:Value}{x:AV}(h:VR gh n w v x):VR gh n w v x.drop:=CR.dropped (p:=.none) (.inl h)
def fI(gh:Gh)(n:Nat)(w:World)(b:Nat)(p:aX)(q:Nat->aX)(cs:List AV):Prop :=
 gh.κ b=p/\(∀ o,¬ gh.S b o)/\∃ C ty,w.heap[b]?=some (.cells C ty (0,0))/\cs.length<=C.size /\
  ∀ (j:Nat) (v:Value) (x:AV),C[j]?=some v->cs[j]?=some x->v.oneCell'=true/\CR gh n w (q j) v x
theorem fI.mono{touch:aX->Prop}{n n' : Nat}{gh aF:Gh}{w w' : World}(st:Step touch n gh w aF w')(hn:n<=n'){b:Nat}{p:aX}{q:Nat->aX}
  (hp:¬ touch p) (hq:∀ j,¬ touch (q j)) {cs:List AV} (h:fI gh n w b p q cs):fI aF n' w' b p q cs:=by
 obtain⟨hk,hS,C,ty,hb,hC,fq⟩:=h
 have a7:b<w.heap.size:=(aiN.1 hb).1
 obtain⟨h1,h2,h3⟩:=st.xR b a7 (by rw[hk];exact hp)
 have h1:=h1.none hS
 exact⟨by rw[h2,hk],fun o ho=>hS o (h3 o ho),C,ty,by rw[h1,hb],hC,fun j v x hv hx=>⟨(fq j v x hv hx).1,(fq j v x hv hx).2.mono st hn (hq j)⟩⟩
def om(gh:Gh)(w:World)(p:aX)(v:Value)(e:List (List AV)):Prop :=
 ∃ a cap,v=.slice a e.length cap/\((e=[]/\cap=0/\∀ ad,a=some ad->ad.spot=none/\ad.block<w.heap.size)\/∃ b C ty sz,e≠[]/\a=some ⟨b,0,none⟩/\gh.κ b=p/\(∀ o,¬ gh.S b o)/\w.heap[b]?=some (.cells C ty (0,0))/\C.size=cap*sz /\
  e.length<=cap/\(∀ (i:Nat) (r:List AV),e[i]?=some r->r.length=sz) /\
  ∀ (i j:Nat) (r:List AV) (x:AV),e[i]?=some r->r[j]?=some x->∃ u,C[i*sz+j]?=some u/\PR gh.S w u x)
theorem om.mono{touch:aX->Prop}{n:Nat}{gh aF:Gh}{w w' : World}(st:Step touch n gh w aF w'){p:aX}(hp:¬ touch p)
  {v:Value} {e:List (List AV)} (h:om gh w p v e):om aF w' p v e:=by
 obtain⟨a,cap,hv,h⟩:=h
 refine⟨a,cap,hv,?_⟩
 rcases h with h|⟨b,C,ty,sz,cU,ha,hk,hS,hb,hC,hl,hr,fq⟩
 ·exact .inl ⟨h.1,h.2.1,fun ad ha=>⟨(h.2.2 ad ha).1,ajK (h.2.2 ad ha).2 st.size⟩⟩
 ·have a7:b<w.heap.size:=(aiN.1 hb).1
  obtain⟨h1,h2,h3⟩:=st.xR b a7 (by rw[hk];exact hp)
  have h1:=h1.none hS
  exact .inr ⟨b,C,ty,sz,cU,ha,by rw[h2,hk],fun o ho=>hS o (h3 o ho),by rw[h1,hb],hC,hl,hr,fun i j r x hi hj=>by
   obtain⟨u,hu,hp⟩:=fq i j r x hi hj
   exact⟨u,hu,hp.mono st.S st.cell st.mp⟩⟩
def xN(gh:Gh)(n:Nat)(w:World)(b:Nat)(p:aX)(q:Nat->aX)(kz:Nat)(ka va:Bool)(es:List (List AV)):Prop :=
 gh.κ b=p/\(∀ o,¬ gh.S b o)/\∃ E ck f,w.heap[b]?=some (.map E ck)/\Ba E ck kz ka va es f /\
  (∀ (i j:Nat) (r:List AV) (x:AV),es[i]?=some r->r[j]?=some x->j<kz->PR gh.S w (f i j) x) /\
  ∀ (i j:Nat) (r:List AV) (x:AV),es[i]?=some r->r[j]?=some x->kz<=j->(f i j).oneCell'=true/\(va=true->VR gh n w (f i j) x)/\CR gh n w (q i) (f i j) x
theorem xN.mono{touch:aX->Prop}{n n' : Nat}{gh aF:Gh}{w w' : World}(st:Step touch n gh w aF w')(hn:n<=n'){b:Nat}{p:aX}{q:Nat->aX}(hp:¬ touch p)(hq:∀ i,¬ touch (q i))
  {kz:Nat} {ka va:Bool} {es:List (List AV)} (h:xN gh n w b p q kz ka va es):xN aF n' w' b p q kz ka va es:=by
 obtain⟨hk,hS,E,ck,f,hb,hE,h1,h2⟩:=h
 have a7:b<w.heap.size:=(aiN.1 hb).1
 obtain⟨k1,k2,k3⟩:=st.xR b a7 (by rw[hk];exact hp)
 have k1:=k1.none hS
 exact⟨by rw[k2,hk],fun o ho=>hS o (k3 o ho),E,ck,f,by rw[k1,hb],hE,fun i j r x hi hj hl=>(h1 i j r x hi hj hl).mono st.S st.cell st.mp,
  fun i j r x hi hj hl=>⟨(h2 i j r x hi hj hl).1,fun hv=>((h2 i j r x hi hj hl).2.1 hv).mono st hn,(h2 i j r x hi hj hl).2.2.mono st hn (hq i)⟩⟩
def p7(gh:Gh)(n:Nat)(w:World)(b loc:Nat):de->Prop
 | .map kz ka va es=>xN gh n w b (.hb loc) (fun i=>.hs loc i) kz ka va es/\(es.all fun r=>r.all (aR loc))=true
 | .dp kz ka va es=>PR gh.S w (.map (some b)) (.dp kz ka va es)
 | .FL cs=>PR gh.S w (.pointer (some ⟨b,0,none⟩)) (.eptr cs)
 | .dL cs=>fI gh n w b (.hb loc) (fun j=>.hs loc j) cs
 | _=>True
theorem p7.mono{touch:aX->Prop}{n n' : Nat}{gh aF:Gh}{w w' : World}(st:Step touch n gh w aF w')(hn:n<=n'){b loc:Nat}(hp:¬ touch (.hb loc))(hq:∀ i,¬ touch (.hs loc i))
  {o:de} (h:p7 gh n w b loc o):p7 aF n' w' b loc o:=by
 cases o with
 | map kz ka va es=>exact⟨h.1.mono st hn hp hq,h.2⟩
 | dp kz ka va es=>exact PR.mono st.S st.cell st.mp h
 | FL cs=>exact PR.mono st.S st.cell st.mp h
 | dL cs=>exact fI.mono st hn hp hq h
 | _=>trivial
def sf(gh:Gh)(w:World)(b:Nat)(p:aX)(kz:Nat)(ka va:Bool)(cur:List AV)(todo:List (List AV)):Prop :=
 gh.κ b=p/\(∀ o,¬ gh.S b o)/\∃ (m:Option Nat) (since:Nat) (seen:Array Nat) (last:Nat),w.heap[b]?=some (.mapIter m since seen last) /\
  ((m=none/\todo=[]/\seen=#[]/\cur=[])\/∃ m0 E es ck f,m=some m0/\gh.S m0 0/\w.heap[m0]?=some (.map E ck)/\si E ck kz ka va es f/\since=ck/\last=ck /\
   (∀ (i j:Nat) (r:List AV) (x:AV),es[i]?=some r->r[j]?=some x->PR gh.S w (f i j) x) /\
   ((seen.back?=none/\cur=[])\/∃ (s i:Nat) (e:MapEntry),seen.back?=some s/\E[i]?=some e/\e.born=s/\es[i]?=some cur) /\
   todo.Perm (((E.toList.zip es).filter fun p=>!seen.contains p.1.born).map (·.2)))
theorem sf.mono{touch:aX->Prop}{n:Nat}{gh aF:Gh}{w w' : World}(st:Step touch n gh w aF w'){b:Nat}{p:aX}(hp:¬ touch p)
  {kz:Nat} {ka va:Bool} {cur:List AV} {todo:List (List AV)} (h:sf gh w b p kz ka va cur todo):sf aF w' b p kz ka va cur todo:=by
 obtain⟨hk,hS,m,since,seen,last,hb,h⟩:=h
 have a7:b<w.heap.size:=(aiN.1 hb).1
 obtain⟨k1,k2,k3⟩:=st.xR b a7 (by rw[hk];exact hp)
 have k1:=k1.none hS
 refine⟨by rw[k2,hk],fun o ho=>hS o (k3 o ho),m,since,seen,last,by rw[k1,hb],?_⟩
 rcases h with h|⟨m0,E,es,ck,f,h1,h2,h3,h4,h5,h6,h7,h8,h9⟩
 ·exact .inl h
 ·exact .inr ⟨m0,E,es,ck,f,h1,st.S _ _ h2,st.mp _ _ _ h2 h3,h4,h5,h6,fun i j r x hi hj=>(h7 i j r x hi hj).mono st.S st.cell st.mp,h8,h9⟩
def SR(gh:Gh)(n nt:Nat)(w:World)(T:aC)(gen:Nat)(tm:Nat->Value)(i:Nat)(v:Value)(x:AV):Prop :=
 match x with
 | .lbox g cs=>g<gen/\∃ b,v=.pointer (some ⟨b,0,none⟩)/\fI gh n w b (.bx i) (fun j=>.sc i j) cs
 | .lsl g e=>g<gen/\om gh w (.bx i) v e
 | .lref s g off=>s<nt/\g<gen/\(aQ (T s)=some g->∀ b,tm s=.pointer (some ⟨b,0,none⟩)->v=.pointer (some ⟨b,off,none⟩))
 | .lsr s g=>s<nt/\g<gen/\(aQ (T s)=some g->v=tm s)
 | .eref s g r z off=>s<nt/\g<gen/\(aQ (T s)=some g->∀ b k cap,tm s=.slice (some ⟨b,0,none⟩) k cap->v=.pointer (some ⟨b,r*z+off,none⟩))
 | .iter g kz ka va cur todo=>g<gen/\∃ b,v=.pointer (some ⟨b,0,none⟩)/\sf gh w b (.bx i) kz ka va cur todo
 | x=>CR gh n w (.sl i) v x
structure aG (G:Nat->List AV) (base:Nat) (H:ag) (gh:Gh) (w:World):Prop where
 size:base<=w.heap.size
 l7:∀ b o,gh.S b o->b<w.heap.size
 mG:∀ b,gh.κ b≠.none->base<=b/\b<w.heap.size
 aP:∀ (g j:Nat) (x:AV),(G g)[j]?=some x->∃ v,w.cell? ⟨g,j,none⟩=some v/\PR gh.S w v x/\gh.S g j
 boxes:∀ (loc:Nat) (ty:TypeId) (cs:List AV),H[loc]?=some (de.box ty cs)->fI gh H.length w (gh.ρ loc) (.hb loc) (fun j=>.hs loc j) cs
 refs:∀ (loc:Nat) (ty:TypeId) (cs:List AV),H[loc]?=some (de.box ty cs)->cs.all (aR loc)=true
 uB:∀ g,G g≠[]->∃ ty,nq w g ty (G g).length
 bytes:∀ b o n,gh.S b o->w.cell? ⟨b,o,none⟩=some (.int .u8 n)->∃ C fr,w.heap[b]?=some (.cells C fP fr)
 more:∀ (loc:Nat) (o:de),H[loc]?=some o->p7 gh H.length w (gh.ρ loc) loc o
 types:∀ (loc:Nat) (ty:TypeId) (cs:List AV),H[loc]?=some (de.box ty cs)->ty≠cO->nq w (gh.ρ loc) ty cs.length
structure ac4 (nt:Nat) (gh:Gh) (w:World) (a:Act) (s:AS):Prop where
 defers:a.defers=[]
 size:a.tmps.size=nt
 slot:∀ i,i<nt->SR gh s.H.length nt w s.T s.gen (fun k=>a.tmps.getD k undef) i (a.tmps.getD i undef) (s.T i)
theorem aG.jc{G:Nat->List AV}{base:Nat}{H:ag}{gh aF:Gh}{w w' : World}{touch:aX->Prop}{n:Nat}(h:aG G base H gh w)(st:Step touch n gh w aF w')
  (mf:∀ b o m,aF.S b o->gh.S b o\/(w'.cell? ⟨b,o,none⟩=some (.int .u8 m)->∃ C fr,w'.heap[b]?=some (.cells C fP fr))) :
  ∀ b o m,aF.S b o->w'.cell? ⟨b,o,none⟩=some (.int .u8 m)->∃ C fr,w'.heap[b]?=some (.cells C fP fr):=by
 intro b o m hs hc
 rcases mf b o m hs with ho|hn
 ·obtain⟨C,fr,h1⟩:=h.bytes b o m ho (by rw[<- st.cell b o ho];exact hc)
  obtain⟨C',fr',h2,_⟩:=st.len b fP C.size ⟨C,fr,h1,rfl⟩
  exact⟨C',fr',h2⟩
 ·exact hn hc
theorem aG.fresh{G:Nat->List AV}{base:Nat}{H:ag}{gh:Gh}{w:World}(h:aG G base H gh w)(b:Nat)(hb:w.heap.size<=b):gh.κ b=.none:=by
 by_cases hk:gh.κ b=.none
 ·exact hk
 ·have:=(h.mG b hk).2;omega
theorem SR.mono{touch:aX->Prop}{n n' nt:Nat}{gh aF:Gh}{w w' : World}(st:Step touch n gh w aF w')(hn:n<=n'){T T' : aC}{gen gen' : Nat}(hg:gen<=gen')
  {tm tm' : Nat->Value} {i:Nat} (h1:¬ touch (.bx i)) (h2:¬ touch (.sl i)) (h3:∀ j,¬ touch (.sc i j))
  (hT:∀ s,s<nt->(aQ (T' s)=aQ (T s)/\tm' s=tm s)\/aQ (T' s)=none\/∃ g,gen<=g/\aQ (T' s)=some g)
  {v:Value} {x:AV} (h:SR gh n nt w T gen tm i v x):SR aF n' nt w' T' gen' tm' i v x:=by
 have key:∀ s g,s<nt->g<gen->aQ (T' s)=some g->aQ (T s)=some g/\tm' s=tm s:=by
  intro s g hs A7 vH
  rcases hT s hs with ⟨h,h'⟩|h|⟨g',hg',h⟩
  ·exact⟨h ▸ vH,h'⟩
  ·rw[h] at vH;cases vH
  ·rw[h] at vH;injection vH with e;omega
 cases x
 case lbox g cs =>
  obtain⟨F6,b,hv,hb⟩:=h
  exact⟨by omega,b,hv,hb.mono st hn h1 h3⟩
 case lsl g e=>exact⟨by have:=h.1;omega,h.2.mono st h1⟩
 case iter g kz ka va cur todo =>
  obtain⟨F6,b,hv,hb⟩:=h
  exact⟨by omega,b,hv,hb.mono st h1⟩
 case lref s g off =>
  obtain⟨hs,F6,hr⟩:=h
  refine⟨hs,by omega,fun vH b hb=>?_⟩
  obtain⟨k1,k2⟩:=key s g hs F6 vH
  exact hr k1 b (k2 ▸ hb)
 case lsr s g =>
  obtain⟨hs,F6,hr⟩:=h
  refine⟨hs,by omega,fun vH=>?_⟩
  obtain⟨k1,k2⟩:=key s g hs F6 vH
  rw[k2];exact hr k1
 case eref s g r z off =>
  obtain⟨hs,F6,hr⟩:=h
  refine⟨hs,by omega,fun vH b k cap hb=>?_⟩
  obtain⟨k1,k2⟩:=key s g hs F6 vH
  exact hr k1 b k cap (k2 ▸ hb)
 all_goals exact CR.mono st hn h2 h
def nn(p:aX):Prop:=p≠.none/\p≠.outer
structure Ext (n:Nat) (gh:Gh) (w:World) (aF:Gh) (w' : World):Prop where
 step:Step nn n gh w aF w'
 out:∀ b,aF.κ b=.outer->gh.κ b=.outer
theorem Ext.refl(n:Nat)(gh:Gh)(w:World)(hf:∀ b,w.heap.size<=b->gh.κ b≠.outer):Ext n gh w gh w:=⟨Step.refl _ n gh w hf,fun _ h=>h⟩
theorem Ext.trans{n n' : Nat}{g1 g2 g3:Gh}{w1 w2 w3:World}(h:Ext n g1 w1 g2 w2)(h' : Ext n' g2 w2 g3 w3)(hn:n<=n'):Ext n g1 w1 g3 w3:=by
 refine⟨⟨fun b o hs=>h'.step.S b o (h.step.S b o hs),fun b o hs=>(h'.step.cell b o (h.step.S b o hs)).trans (h.step.cell b o hs),ajt h.step.size h'.step.size,
  h'.step.os.trans h.step.os,h'.step.tape.trans h.step.tape,h'.step.output.trans h.step.output,?_,?_,fun loc hl=>(h'.step.ρ loc (ajK hl hn)).trans (h.step.ρ loc hl),fun b ty m hb=>h'.step.len b ty m (h.step.len b ty m hb),fun b E ck hs hb=>h'.step.mp b E ck (h.step.S b 0 hs) (h.step.mp b E ck hs hb)⟩,fun b hb=>h.out b (h'.out b hb)⟩
 ·intro b hb hnt
  obtain⟨a1,a2,a3⟩:=h.step.xR b hb hnt
  obtain⟨c1,c2,c3⟩:=h'.step.xR b (ajK hb h.step.size) (by rw[a2];exact hnt)
  exact⟨a1.trans c1 a3,c2.trans a2,fun o ho=>a3 o (c3 o ho)⟩
 ·intro b hb ho
  have:=h'.out b ho
  by_cases jA:w2.heap.size<=b
  ·exact h'.step.fresh b jA ho
  ·exact h.step.fresh b hb this
structure FR (L:List Nat) (nt:Nat) (gh:Gh) (w:World) (a:Act) (s:AS):Prop extends ac4 nt gh w a s where
 obj:∀ i,(aQ (s.T i)).isSome=true->i∈L
def dO(a:Act)(k:Nat):Value:=a.tmps.getD k undef
theorem mq(a:Act)(d:Nat)(v:Value)(k:Nat)(hd:d<a.tmps.size):dO (a.put (some d) v) k=if k=d then v else dO a k:=by
 unfold dO Act.put
 by_cases h:k=d
 ·subst h;simp[hd]
 ·simp[h,aku (aj6 h)]
theorem dU(a b:Nat):Nat.beq a b=decide (a=b):=by
 by_cases h:a=b
 ·subst h;simp
 ·have h1:Nat.beq a b≠true:=fun h'=>h (ajG h')
  rw[ajO h]
  exact Bool.eq_false_iff.2 h1
theorem gr(T:aC)(d:Nat)(v:AV)(k:Nat):T.put d v k=if k=d then v else T k:=by
 unfold aC.put
 rw[dU]
 by_cases h:k=d
 ·subst h;simp
 ·simp[h]
theorem FR.update{L:List Nat}{nt:Nat}{gh aF:Gh}{w w' : World}{a a' : Act}{s s' : AS}{touch:aX->Prop}(h:FR L nt gh w a s)
  (st:Step touch s.H.length gh w aF w') (LI:a'.defers=[]) (fC:a'.tmps.size=nt) (hn:s.H.length<=s'.H.length) (hg:s.gen<=s'.gen)
  (D:Nat->Prop)
  (LP:∀ i,¬ D i->s'.T i=s.T i/\(i<nt->dO a' i=dO a i/\¬ touch (.bx i)/\¬ touch (.sl i)/\∀ j,¬ touch (.sc i j)))
  (aaG:∀ i,D i->(i<nt/\aQ (s'.T i)=aQ (s.T i)/\dO a' i=dO a i)\/aQ (s'.T i)=none\/(i∈L/\∃ g,s.gen<=g/\aQ (s'.T i)=some g))
  (mf:∀ i,D i->i<nt->SR aF s'.H.length nt w' s'.T s'.gen (dO a') i (dO a' i) (s'.T i)):FR L nt aF w' a' s':=by
 have hT:∀ i,i<nt->(aQ (s'.T i)=aQ (s.T i)/\dO a' i=dO a i)\/aQ (s'.T i)=none\/∃ g,s.gen<=g/\aQ (s'.T i)=some g:=by
  intro i hi
  by_cases hD:D i
  ·rcases aaG i hD with ⟨_,h⟩|h|⟨_,h⟩
   ·exact .inl h
   ·exact .inr (.inl h)
   ·exact .inr (.inr h)
  ·obtain⟨k1,k2⟩:=LP i hD
   exact .inl ⟨by rw[k1],(k2 hi).1⟩
 refine⟨⟨LI,fC,fun i hi=>?_⟩,fun i hi=>?_⟩
 ·by_cases hD:D i
  ·exact mf i hD hi
  ·obtain⟨k1,k2⟩:=LP i hD
   obtain⟨k3,t1,t2,t3⟩:=k2 hi
   show SR aF s'.H.length nt w' s'.T s'.gen (dO a') i (dO a' i) (s'.T i)
   rw[k1,k3]
   exact SR.mono st hn hg t1 t2 t3 hT (h.slot i hi)
 ·by_cases hD:D i
  ·rcases aaG i hD with ⟨_,h',_⟩|h'|⟨h',_⟩
   ·exact h.obj i (by rw[<- h'];exact hi)
   ·rw[h'] at hi;cases hi
   ·exact h'
  ·rw[(LP i hD).1] at hi
   exact h.obj i hi
def ld(gh:Gh)(n nt:Nat)(w:World)(T:aC)(gen:Nat)(tm:Nat->Value)(v:Value)(x:AV):Prop :=
 match x with
 | .lbox ..|.lsl ..|.iter ..=>False
 | .lref s g off=>s<nt/\g<gen/\(aQ (T s)=some g->∀ b,tm s=.pointer (some ⟨b,0,none⟩)->v=.pointer (some ⟨b,off,none⟩))
 | .lsr s g=>s<nt/\g<gen/\(aQ (T s)=some g->v=tm s)
 | .eref s g r z off=>s<nt/\g<gen/\(aQ (T s)=some g->∀ b k cap,tm s=.slice (some ⟨b,0,none⟩) k cap->v=.pointer (some ⟨b,r*z+off,none⟩))
 | x=>VR gh n w v x
theorem ld.aQ{gh:Gh}{n nt:Nat}{w:World}{T:aC}{gen:Nat}{tm:Nat->Value}{v:Value}{x:AV}(h:ld gh n nt w T gen tm v x):aQ x=none:=by
 cases x<;>first|rfl|exact h.elim
theorem ld.sr{gh:Gh}{n nt:Nat}{w:World}{T:aC}{gen:Nat}{tm:Nat->Value}{v:Value}{x:AV}(h:ld gh n nt w T gen tm v x)(i:Nat):SR gh n nt w T gen tm i v x:=by
 cases x<;>first|exact h.elim|exact h|exact .inl h
theorem ld.cD{gh:Gh}{n nt:Nat}{w:World}{T:aC}{gen:Nat}{tm:Nat->Value}{v:Value}{x:AV}(h:VR gh n w v x):ld gh n nt w T gen tm v x:=by
 cases h with
 | plain v x h=>have h0:=h;cases h<;>exact .plain _ _ h0
 | full a k e h hz=>exact .full a k e h hz
 | ref loc off h=>exact .ref loc off h
 | sref loc off k cap z h hk hz=>exact .sref loc off k cap z h hk hz
 | mref loc h=>exact .mref loc h
 | func f fs cs xs ys hf hc h1 h2=>exact .func f fs cs xs ys hf hc h1 h2
 | iface t v x h=>exact .iface t v x h
 | agg cs xs hs fh h=>exact .agg cs xs hs fh h
 | tuple vs xs hs h=>exact .tuple vs xs hs h
theorem gS(s:AS)(d:Option Nat)(x:AV):(s.ca d x).H=s.H/\(s.ca d x).gen=s.gen/\(s.ca d x).lo=s.lo:=by cases d<;>exact⟨rfl,rfl,rfl⟩
theorem Dk(a:Act)(d:Option Nat)(v:Value):(a.put d v).tmps.size=a.tmps.size:=by cases d<;>simp[Act.put]
theorem tY(a:Act)(d:Option Nat)(v:Value):(a.put d v).defers=a.defers:=by cases d<;>rfl
theorem FR.put{L:List Nat}{nt:Nat}{gh aF:Gh}{w w' : World}{a:Act}{s:AS}{H' : ag}{lo' : Nat}{touch:aX->Prop}(h:FR L nt gh w a s)(st:Step touch s.H.length gh w aF w')
  (ht:∀ i,¬ touch (.bx i)/\¬ touch (.sl i)/\∀ j,¬ touch (.sc i j)) (hH:s.H.length<=H'.length)
  (d:Option Nat) (hd:∀ k,d=some k->k<nt) {v:Value} {x:AV} (hv:ld aF H'.length nt w' s.T s.gen (dO a) v x) :
  FR L nt aF w' (a.put d v) (({ s with H:=H',lo:=lo' } : AS).ca d x):=by
 cases d with
 | none =>
  exact h.update st h.defers h.size hH (aiK _) (fun _=>False) (fun i _=>⟨rfl,fun _=>⟨rfl,ht i⟩⟩) (fun _ h=>h.elim) (fun _ h=>h.elim)
 | some d =>
  have a7:=hd d rfl
  have fC:d<a.tmps.size:=by rw[h.size];exact a7
  refine h.update (s':=({ s with H:=H',lo:=lo' } : AS).ca (some d) x) st ((tY a (some d) v).trans h.defers) ((Dk a (some d) v).trans h.size) hH (aiK _) (fun i=>i=d) ?_ ?_ ?_
  ·intro i hi
   refine⟨by simp[AS.ca,AS.bz,gr,hi],fun _=>⟨by rw[mq a d v i fC,if_neg hi],ht i⟩⟩
  ·rintro i rfl
   exact .inr (.inl (by simp[AS.ca,AS.bz,gr];exact hv.aQ))
  ·rintro i rfl hi
   simp only[AS.ca,AS.bz,gr,ajY]
   rw[mq a i v i fC,if_pos rfl]
   refine SR.mono (touch:=fun _=>False) (n:=H'.length) (gh:=aF) (w:=w') (Step.refl _ _ _ _ (fun b hb=>st.fresh b (ajt st.size hb))) (aiK _) (aiK _) id id (fun _=>id) ?_ (hv.sr i)
   intro k hk
   by_cases Kh:k=i
   ·subst Kh;exact .inr (.inl (by simp[aC.put];exact hv.aQ))
   ·exact .inl ⟨by simp[gr,Kh],by rw[mq a i v k fC,if_neg Kh]⟩
section
section
variable {gh:Gh}{n:Nat}{w:World}{v:Value}
theorem VR.iw{b:Bool}(h:VR gh n w v (.bool b)):v=.bool b:=by cases h with|plain _ _ h=>cases h;rfl
theorem VR.gU{k:IntKind}{m:Int}(h:VR gh n w v (.int k m)):v=.int k m:=by cases h with|plain _ _ h=>cases h;rfl
theorem VR.gW{l:List UInt8}(h:VR gh n w v (.str l)):∃ s:ByteArray,v=.string s/\s.data.toList=l:=by cases h with|plain _ _ h=>cases h;exact⟨_,rfl,‹_›⟩
theorem VR.rG(h:VR gh n w v .bt):v=.nilIface:=by cases h with|plain _ _ h=>cases h;rfl
theorem VR.tR(h:VR gh n w v .bV):v=.nilFunc:=by cases h with|plain _ _ h=>cases h;rfl
theorem VR.Jq{t:TypeId}{x:AV}(h:VR gh n w v (.iface t x)):∃ u,v=.iface t u:=by
 cases h with
 | plain _ _ h=>cases h;exact⟨_,rfl⟩
 | iface _ _ _ _=>exact⟨_,rfl⟩
theorem VR.jX(h:VR gh n w v .ay):v=.slice none 0 0:=by cases h with|plain _ _ h=>cases h;rfl
theorem VR.ga{e:List (List AV)}(h:VR gh n w v (.slice e false)):PR gh.S w v (.slice e false):=by cases h with|plain _ _ h=>exact h
theorem VR.rF{cs:List AV}(h:VR gh n w v (.eptr cs)):PR gh.S w v (.eptr cs):=by cases h with|plain _ _ h=>exact h
theorem VR.gV{loc off:Nat}(h:VR gh n w v (.ref loc off)):loc<n/\v=.pointer (some ⟨gh.ρ loc,off,none⟩):=by
 cases h with
 | plain _ _ h=>cases h
 | ref _ _ h=>exact⟨h,rfl⟩
theorem VR.iz{loc off k z:Nat}(h:VR gh n w v (.sref loc off k z)):loc<n/\∃ cap,k<=cap/\(z≠0->∃ ty,nq w (gh.ρ loc) ty (off+cap*z))/\v=.slice (some ⟨gh.ρ loc,off,none⟩) k cap:=by
 cases h with
 | plain _ _ h=>cases h
 | sref _ _ _ cap _ h hk hz=>exact⟨h,cap,hk,hz,rfl⟩
theorem VR.lQ{loc:Nat}(h:VR gh n w v (.mref loc)):loc<n/\v=.map (some (gh.ρ loc)):=by
 cases h with
 | plain _ _ h=>cases h
 | mref _ h=>exact⟨h,rfl⟩
theorem VR.oM{f:Fn}{xs ys:List AV}(h:VR gh n w v (.func f xs ys)):∃ fs cs,v=.func f fs cs/\fs.size=xs.length/\cs.size=ys.length /\
  (∀ (j:Nat) (v:Value) (x:AV),fs[j]?=some v->xs[j]?=some x->VR gh n w v x)/\(∀ (j:Nat) (v:Value) (x:AV),cs[j]?=some v->ys[j]?=some x->VR gh n w v x):=by
 cases h with
 | plain _ _ h=>cases h;exact⟨#[],#[],rfl,rfl,rfl,fun j v x h=>by simp at h,fun j v x h=>by simp at h⟩
 | func _ fs cs _ _ hf hc h1 h2=>exact⟨fs,cs,rfl,hf,hc,h1,h2⟩
theorem VR.ja{xs:List AV}(h:VR gh n w v (.agg xs)):∃ cs:Array Value,v=.agg cs/\cs.size=xs.length/\(∀ (j:Nat) (v:Value),cs[j]?=some v->v.oneCell'=true) /\
  (∀ (j:Nat) (v:Value) (x:AV),cs[j]?=some v->xs[j]?=some x->VR gh n w v x):=by
 cases h with
 | plain _ _ h=>cases h
 | agg cs _ hs fh h=>exact⟨cs,rfl,hs,fh,h⟩
theorem VR.pq{xs:List AV}(h:VR gh n w v (.tuple xs)):∃ vs:Array Value,v=.tuple vs/\vs.size=xs.length /\
  (∀ (j:Nat) (v:Value) (x:AV),vs[j]?=some v->xs[j]?=some x->VR gh n w v x):=by
 cases h with
 | plain _ _ h=>cases h
 | tuple vs _ hs h=>exact⟨vs,rfl,hs,h⟩
theorem VR.Jr(h:VR gh n w v .undef):v=undef:=by
 obtain⟨vs,rfl,hs,_⟩:=h.pq
 have:vs=#[]:=aky (by simpa using hs)
 subst this;rfl
end
theorem VR.undef{gh:Gh}{n:Nat}{w:World} : VR gh n w undef .undef:=.tuple #[] [] rfl (fun j v x h=>by simp at h)
theorem qZ{gh:Gh}{n:Nat}{w:World}{v:Value}{x:AV}(h:iM v=some x):VR gh n w v x:=by
 unfold iM at h
 split at h<;>first|(injection h with h;subst h)|cases h
 ·exact .plain _ _ (.bool _)
 ·exact .plain _ _ (.int _ _)
 ·exact .plain _ _ (.str _ _ rfl)
 ·exact .full none 0 [] .cB (fun ad h=>by cases h)
 ·exact .plain _ _ .cx
 ·exact .plain _ _ .cw
 ·exact .plain _ _ .bV
 ·exact .plain _ _ .bt
theorem iS{gh:Gh}{n:Nat}{w:World} : ∀ {vs:List Value} {xs:List AV},cY vs=some xs->vs.length=xs.length /\
  ∀ (j:Nat) (v:Value) (x:AV),vs[j]?=some v->xs[j]?=some x->VR gh n w v x/\v.oneCell'=true
 | [],xs,h=>by simp[cY] at h;subst h;exact⟨rfl,fun j v x h=>by simp at h⟩
 | v :: r,xs,h=>by
  simp only[cY,aiF,aiE] at h
  obtain⟨x,hx,ys,hy,rfl⟩:=h
  obtain⟨h1,h2⟩:=iS (gh:=gh) (n:=n) (w:=w) hy
  refine⟨by simp[h1],fun j u y hu hy=>?_⟩
  cases j with
  | zero =>
   simp at hu hy
   subst hu hy
   refine⟨qZ hx,?_⟩
   unfold iM at hx
   split at hx<;>first|rfl|cases hx
  | succ j=>exact h2 j u y (by simpa using hu) (by simpa using hy)
theorem Fs{gh:Gh}{n:Nat}{w:World}{v:Value}{x:AV}(h:iM v=some x):VR gh n w v (lU x):=by
 have h0:=qZ (gh:=gh) (n:=n) (w:=w) h
 unfold iM at h
 split at h<;>first|(injection h with h;subst h)|cases h
 all_goals first|exact h0|exact .plain _ _ .ay
theorem pN:∀ {vs:List Value} {xs:List AV},cY vs=some xs->∀ (j:Nat) (v:Value) (x:AV),vs[j]?=some v->xs[j]?=some x->iM v=some x
 | [],_,_,j,v,x,hv,_=>by simp at hv
 | u :: r,xs,h,j,v,x,hv,hx=>by
  simp only[cY,aiF,aiE] at h
  obtain⟨y,hy,ys,L4,rfl⟩:=h
  cases j with
  | zero=>simp at hv hx;subst hv hx;exact hy
  | succ j=>exact pN L4 j v x (by simpa using hv) (by simpa using hx)
theorem ik{gh:Gh}{n:Nat}{w:World}{v:Value}{x:AV}(h:oC v=some x):VR gh n w v x:=by
 unfold oC at h
 split at h
 ·rename_i vs
  simp only[aiE] at h
  obtain⟨l,hl,rfl⟩:=h
  obtain⟨h1,h2⟩:=iS (gh:=gh) (n:=n) (w:=w) hl
  refine .agg vs _ (by simpa using h1) (fun j v hv=>?_) (fun j v x hv hx=>?_)
  ·have hj:vs.toList[j]?=some v:=by simpa using hv
   obtain⟨y,hy⟩:∃ y,l[j]?=some y:=by
    have:j<vs.toList.length:=(aiI.1 hj).1
    exact⟨_,aiJ (by omega)⟩
   exact (h2 j v y hj hy).2
  ·rw[aiW,aiE] at hx
   obtain⟨y,hy,rfl⟩:=hx
   exact Fs (pN hl j v y (by simpa using hv) hy)
 ·exact qZ h
section
variable {G:Nat->List AV}{base nt:Nat}{L:List Nat}{gh:Gh}{w:World}{a:Act}{s:AS}{x:Operand}{y:ak}
theorem QG(hW:aG G base s.H gh w)(g:Nat):VR gh s.H.length w (.pointer (some ⟨g,0,none⟩)) (.eptr (G g)):=by
 refine .plain _ _ ?_
 let f:Nat->Value:=fun j=>(w.cell? ⟨g,j,none⟩).getD undef
 refine .eptr g 0 (G g) f ?_ ?_
 ·intro j x h
  obtain⟨v,hv,hp,hs⟩:=hW.aP g j x h
  refine⟨by simpa using hs,by simp[f,hv],?_⟩
  simp only[f,hv,ajC];exact hp.dB
 ·intro j x h
  obtain⟨v,hv,hp,hs⟩:=hW.aP g j x h
  simp only[f,hv,ajC];exact hp
theorem arg_val(hW:aG G base s.H gh w)(hF:FR L nt gh w a s)(hc:ah nt x=some y) :
  ld gh s.H.length nt w s.T s.gen (dO a) (a.eval x) (y.addr G s.T).drop:=by
 cases x with
 | tmp t =>
  simp only[ah] at hc
  rcases ajE (Nat.blt t nt) with hb|hb<;>rw[hb] at hc<;>simp at hc
  subst hc
  have a7:t<nt:=by simpa [ajb] using hb
  have h:=hF.slot t a7
  show ld gh s.H.length nt w s.T s.gen (dO a) (dO a t) _
  change SR gh s.H.length nt w s.T s.gen (dO a) t (dO a t) (s.T t) at h
  simp only[ak.addr]
  generalize hX:s.T t=X at h
  cases X
  case lbox g cs =>
   obtain⟨hg,b,hv,_⟩:=h
   refine⟨a7,hg,fun _ b' fF=>fF⟩
  case lsl g e=>exact⟨a7,h.1,fun _=>rfl⟩
  case lref=>exact h
  case lsr=>exact h
  case eref=>exact h
  case iter g kz ka va cur todo =>
   obtain⟨_,b,hv,_⟩:=h
   rw[hv]
   exact .cD (.plain _ _ (.any _ rfl))
  all_goals exact .cD (CR.dropped h)
 | const v =>
  simp only[ah,aiE] at hc
  obtain⟨z,hz,rfl⟩:=hc
  exact .cD (VR.dropped (ik hz))
 | global g =>
  simp only[ah,aiG] at hc
  subst hc
  exact .cD (VR.dropped (QG hW g))
 | func f =>
  simp only[ah,aiG] at hc
  subst hc
  exact .cD (.plain _ _ (.func _))
theorem Im{T:aC}(h:aQ (y.eval G T)=none):y.addr G T=y.eval G T:=by
 cases y with
 | tmp t =>
  simp only[ak.addr,ak.eval] at h ⊢
  cases hX:T t<;>rw[hX] at h<;>first|rfl|(simp[aQ] at h)
 | a8 v=>rfl
 | aP g=>rfl
 | fn f=>rfl
theorem ld.vr{n:Nat}{T:aC}{gen:Nat}{tm:Nat->Value}{v:Value}{z:AV}(h:ld gh n nt w T gen tm v z)(hz:ar z=true):VR gh n w v z:=by
 cases z<;>first|exact h|(simp[ar] at hz)
theorem im{z:AV} : ar z.drop=ar z:=by cases z<;>rfl
theorem bS(hW:aG G base s.H gh w)(hF:FR L nt gh w a s)(hc:ah nt x=some y){z:AV}(hz:y.eval G s.T=z)(hf:ar z=true) :
  VR gh s.H.length w (a.eval x) z.drop:=by
 have hg:aQ (y.eval G s.T)=none:=by rw[hz];cases z<;>first|rfl|(simp[ar] at hf)
 have h:=arg_val hW hF hc
 rw[Im hg,hz] at h
 exact h.vr (by rw[im];exact hf)
theorem mh(hW:aG G base s.H gh w)(hF:FR L nt gh w a s)(hc:ah nt x=some y){z:AV}(hz:y.addr G s.T=z)(hf:ar z=true) :
  VR gh s.H.length w (a.eval x) z.drop:=by
 have h:=arg_val hW hF hc
 rw[hz] at h
 exact h.vr (by rw[im];exact hf)
theorem zj(hF:FR L nt gh w a s){t:Nat}(a7:t<nt){e:List (List AV)}{own:Bool}(hz:s.T t=.slice e own):CR gh s.H.length w (.sl t) (a.eval (.tmp t)) (.slice e own):=by
 have h:=hF.slot t a7
 rw[hz] at h
 exact h
end
end
section
section
variable {P:Program}{G:Nat->List AV}{base nt:Nat}{L:List Nat}{gh:Gh}{w:World}{a:Act}{s:AS}
theorem ab{α:Type}{b:Bool}{x:Option α}{y:α}(h:cond b x none=some y):b=true/\x=some y:=by cases b<;>simp_all
theorem V0(hW:aG G base s.H gh w)(hF:FR L nt gh w a s){x:Operand}{y:ak}{take obj:Bool}{z:AV}(hc:ah nt x=some y)
  (he:kO G s take obj y=some (z,none)):ld gh s.H.length nt w s.T s.gen (dO a) (a.eval x) z:=by
 have h:=arg_val hW hF hc
 cases y with
 | tmp t =>
  simp only[kO] at he
  simp only[ak.addr] at h
  generalize hX:s.T t=X at h he
  cases X<;>simp only[aiG,aiH,aj4] at he<;>(try subst he)<;>(try exact h)
  case slice e own =>
   cases take<;>cases own<;>simp at he<;>subst he<;>exact h
  case lsl g e =>
   cases take
   ·simp at he;subst he;exact h
   ·cases obj
    ·cases hn:gd e<;>rw[hn] at he<;>simp at he
    ·simp at he
  case iter=>cases he
 | a8 v =>
  simp only[kO,ak.eval,aiG,aiH,aj4] at he
  subst he
  cases x<;>simp only[ah,aiE,aiG,reduceCtorEq,ak7,ala] at hc
  case tmp t=>exact absurd (ab hc).2 (by simp)
  case const v' =>
   obtain⟨z,hz,hy⟩:=hc
   injection hy with hy
   subst hy
   exact .cD (ik hz)
 | aP g =>
  simp only[kO,ak.eval,aiG,aiH,aj4] at he
  subst he
  exact h
 | fn f =>
  simp only[kO,ak.eval,aiG,aiH,aj4] at he
  subst he
  exact h
theorem jk(hW:aG G base s.H gh w)(hF:FR L nt gh w a s){x:Operand}{y:ak}(hc:ah nt x=some y){k:Nat}(h:asNat (y.eval G s.T)=some k) :
  ∃ kd,a.eval x=.int kd (k:Int):=by
 unfold asNat at h
 split at h
 ·rename_i kd m hy
  obtain⟨h0,h1⟩:=ab h
  have hm:(0:Int)<=m:=by simpa using h0
  have QH:m.toNat=k:=by simpa using h1
  have hv:=(bS hW hF hc hy rfl).gU
  exact⟨kd,by rw[hv,<- QH,akt hm]⟩
 ·cases h
theorem kX{t:TypeId}{k:Nat}(h:da P t=some k):∃ i,P.info? t=some i/\i.size=k:=by
 simpa [da,aiE] using h
theorem cZ{t:TypeId}{k:Nat}(h:da P t=some k)(w:World):(sizeOf t).run P w=.ok k w:=by
 obtain⟨i,hi,hk⟩:=kX h
 simp[sizeOf,typeInfo,hi,hk]
theorem fT{t:TypeId}{g:Bool}(h:ki P t=some g)(w:World):(isAgg t).run P w=.ok g w:=by
 unfold ki at h
 simp only[aiE] at h
 obtain⟨d,hd,hg⟩:=h
 unfold isAgg
 rw[Sem.run_bind,run_underlying hd w]
 subst hg
 cases d<;>rfl
theorem addr_add(b o k:Nat):(⟨b,o,none⟩:Addr).add k=⟨b,o+k,none⟩:=by unfold Addr.add;split<;>simp_all
theorem jg{n:Nat}{agg:Bool}{sz off:Nat}{cs:List AV}{z:AV}(hl:an false agg sz off cs=some z){t:TypeId}(hg:ki P t=some agg)(hs:da P t=some sz)
  {b o:Nat} {f:Nat->Value} (hf:∀ (j:Nat) (x:AV),cs[j]?=some x->w.cell? ⟨b,o+j,none⟩=some (f j)/\(f j).oneCell'=true/\VR gh n w (f j) x.drop) :
  ∃ v,(loadVar t ⟨b,o+off,none⟩).run P w=.ok v w/\VR gh n w v z:=by
 unfold an at hl
 cases agg
 ·simp only[aiQ,aiE] at hl
  obtain⟨x,hx,rfl⟩:=hl
  obtain⟨h1,h2,h3⟩:=hf off x hx
  refine⟨f off,?_,h3⟩
  simp[loadVar,fT hg,h1]
 ·simp only[cond_true] at hl
  obtain⟨h0,h1⟩:=ab hl
  have Ka:off+sz<=cs.length:=by simpa [ajg] using h0
  injection h1 with h1
  subst h1
  have qn:(loadCells ⟨b,o+off,none⟩ sz).run P w=.ok ((List.range sz).map fun j=>f (off+j)).toArray w :=
   run_loadCells w _ sz (fun j=>f (off+j)) fun j hj=>by
    have a7:off+j<cs.length:=by omega
    have:=(hf (off+j) _ (aiJ a7)).1
    rw[addr_add,akm];exact this
  refine⟨.agg ((List.range sz).map fun j=>f (off+j)).toArray,by simp[loadVar,fT hg,cZ hs,qn],?_⟩
  have hlen:(((cs.drop off).take sz).map AV.drop).length=sz:=by simp;omega
  refine .agg _ _ (by simp[hlen];omega) ?_ ?_
  ·intro j v hj
   simp only[ai3,aiW,aiE] at hj
   obtain⟨k,hk,rfl⟩:=hj
   have pH:=aiI.1 hk
   obtain⟨a7,PQ⟩:=pH
   simp at a7 PQ
   subst PQ
   exact (hf (off+j) _ (aiJ (by omega))).2.1
  ·intro j v x hj hx
   simp only[ai3,aiW,aiE] at hj hx
   obtain⟨k,hk,rfl⟩:=hj
   obtain⟨a7,PQ⟩:=aiI.1 hk
   simp at a7 PQ
   subst PQ
   obtain⟨y,hy,rfl⟩:=hx
   rw[ai0,aje] at hy
   rw[if_pos a7] at hy
   exact (hf (off+j) y hy).2.2
theorem rV(hF:FR L nt gh w a s){b g:Nat}{cs:List AV}(hb:b<nt)(hT:s.T b=.lbox g cs) :
  ∃ k,dO a b=.pointer (some ⟨k,0,none⟩)/\fI gh s.H.length w k (.bx b) (fun j=>.sc b j) cs:=by
 have h:=hF.slot b hb
 rw[hT] at h
 exact h.2
theorem l8(hF:FR L nt gh w a s){b g:Nat}{e:List (List AV)}(hb:b<nt)(hT:s.T b=.lsl g e):om gh w (.bx b) (dO a b) e:=by
 have h:=hF.slot b hb
 rw[hT] at h
 exact h.2
theorem mN{n b:Nat}{p:aX}{q:Nat->aX}{cs:List AV}(h:fI gh n w b p q cs) :
  ∃ f:Nat->Value,∀ (j:Nat) (x:AV),cs[j]?=some x->w.cell? ⟨b,0+j,none⟩=some (f j)/\(f j).oneCell'=true/\VR gh n w (f j) x.drop:=by
 obtain⟨_,_,C,ty,hb,hC,fq⟩:=h
 refine⟨fun j=>C.getD j undef,fun j x hx=>?_⟩
 have hj:j<cs.length:=(aiI.1 hx).1
 have rZ:j<C.size:=by omega
 have hv:C[j]?=some C[j]:=aiS rZ
 obtain⟨h1,h2⟩:=fq j _ x hv hx
 refine⟨by rw[Nat.zero_add,cell_of_row w b j C ty _ hb];simp[rZ],by simpa [rZ] using h1,by simpa [rZ] using h2.dropped⟩
theorem Qo(hW:aG G base s.H gh w)(hF:FR L nt gh w a s){t:TypeId}{x:Operand}{y:ak}{take agg:Bool}{sz:Nat}{z:AV}(hc:ah nt x=some y)(hg:ki P t=some agg)(hs:da P t=some sz)
  (he:cG s take agg sz (y.addr G s.T)=some (z,none)) :
  ∃ v,(Instr.loadAt t (a.eval x)).run P w=.ok v w/\ld gh s.H.length nt w s.T s.gen (dO a) v z:=by
 have hv:=arg_val hW hF hc
 have HT:∀ {n:Nat} {off:Nat} {cs:List AV} {v:AV},an take agg sz off cs=some v->(take&&!agg)=false->an false agg sz off cs=some v:=by
  intro n off cs v h1 h2
  cases take
  ·exact h1
  ·cases agg
   ·cases h2
   ·exact h1
 generalize hY:y.addr G s.T=Y at hv he
 cases Y<;>simp only[cG] at he<;>try (cases he;done)
 case eptr cs =>
  simp only[aiE,aiH,aj4] at he
  obtain⟨u,hu,rfl⟩:=he
  have hp:=VR.rF (hv:VR gh s.H.length w (a.eval x) (.eptr cs))
  generalize hA:a.eval x=V at hp
  cases hp with
  | eptr b o _ f bH bU =>
   obtain⟨v,h1,h2⟩:=jg (gh:=gh) (n:=s.H.length) hu hg hs (b:=b) (o:=o) (f:=f)
    (fun j x hx=>⟨(bH j x hx).2.1,(bH j x hx).2.2,VR.dropped (.plain _ _ (bU j x hx))⟩)
   refine⟨v,?_,.cD h2⟩
   simpa [Instr.loadAt,Instr.sureAddr] using h1
 case ref loc off =>
  obtain⟨a7,nX⟩:=VR.gV (hv:VR gh s.H.length w (a.eval x) (.ref loc off))
  split at he
  ·rename_i Km cs hH
   simp only[aiE,aiH] at he
   obtain⟨u,hu,rfl,hn⟩:=he
   have hq:(take&&!agg)=false:=by cases h:(take&&!agg)<;>simp_all
   obtain⟨f,hf⟩:=mN (hW.boxes loc _ cs hH)
   obtain⟨v,h1,h2⟩:=jg (gh:=gh) (n:=s.H.length) (HT (n:=0) hu hq) hg hs (b:=gh.ρ loc) (o:=0) (f:=f) hf
   refine⟨v,?_,.cD h2⟩
   rw[nX]
   simpa [Instr.loadAt,Instr.sureAddr] using h1
  ·rename_i cs hH
   simp only[aiE,aiH,aj4] at he
   obtain⟨u,hu,rfl⟩:=he
   have hp:PR gh.S w (.pointer (some ⟨gh.ρ loc,0,none⟩)) (.eptr cs):=hW.more loc _ hH
   generalize hB:gh.ρ loc=b0 at hp nX
   cases hp with
   | eptr b o _ f bH bU =>
    obtain⟨v,h1,h2⟩:=jg (gh:=gh) (n:=s.H.length) hu hg hs (b:=b0) (o:=0) (f:=f)
     (fun j x hx=>⟨(bH j x hx).2.1,(bH j x hx).2.2,VR.dropped (.plain _ _ (bU j x hx))⟩)
    refine⟨v,?_,.cD h2⟩
    rw[nX]
    simpa [Instr.loadAt,Instr.sureAddr] using h1
  ·rename_i cs hH
   simp only[aiE,aiH,aj4] at he
   obtain⟨u,hu,rfl⟩:=he
   obtain⟨f,hf⟩:=mN (hW.more loc _ hH:fI gh s.H.length w (gh.ρ loc) (.hb loc) (fun j=>.hs loc j) cs)
   obtain⟨v,h1,h2⟩:=jg (gh:=gh) (n:=s.H.length) hu hg hs (b:=gh.ρ loc) (o:=0) (f:=f) hf
   refine⟨v,?_,.cD h2⟩
   rw[nX]
   simpa [Instr.loadAt,Instr.sureAddr] using h1
  ·cases he
 case lref b g off =>
  obtain⟨hb,F6,hr⟩:=(hv:_/\_/\_)
  split at he
  ·rename_i g' cs hT
   obtain⟨h0,nY⟩:=ab he
   clear he
   have A7:g=g':=by simpa [dU] using h0
   subst A7
   rename _=some (z,none)=>he
   simp only[aiE,aiH] at he
   obtain⟨u,hu,rfl,hn⟩:=he
   have hq:(take&&!agg)=false:=by cases h:(take&&!agg)<;>simp_all
   obtain⟨k,hk,Wj⟩:=rV hF hb hT
   have nX:=hr (by rw[hT];rfl) k hk
   obtain⟨f,hf⟩:=mN Wj
   obtain⟨v,h1,h2⟩:=jg (gh:=gh) (n:=s.H.length) (HT (n:=0) hu hq) hg hs (b:=k) (o:=0) (f:=f) hf
   refine⟨v,?_,.cD h2⟩
   rw[nX]
   simpa [Instr.loadAt,Instr.sureAddr] using h1
  ·cases he
 case eref b g i zz off =>
  obtain⟨hb,F6,hr⟩:=(hv:_/\_/\_)
  split at he
  ·rename_i g' e hT
   obtain⟨h0,nY⟩:=ab he
   clear he
   have A7:g=g':=by simpa [dU] using h0
   subst A7
   rename _=some (z,none)=>he
   simp only[aiF] at he
   obtain⟨r,HM,he⟩:=he
   obtain⟨h1,he⟩:=ab he
   have hz:r.length=zz:=by simpa [dU] using h1
   simp only[aiE,aiH,aj4] at he
   obtain⟨u,hu,rfl⟩:=he
   obtain⟨ad,cap,n6,br⟩:=l8 hF hb hT
   rcases br with ⟨rfl,_⟩|⟨k,C,ty,ia,_,rfl,hκ,hS,xz,hC,hl,Ji,fq⟩
   ·simp at HM
   ·have nX:=hr (by rw[hT];rfl) k _ _ n6
    have fC:ia=zz:=by rw[<- hz,Ji i r HM]
    subst fC
    obtain⟨v,h1,h2⟩:=jg (P:=P) (gh:=gh) (w:=w) (n:=s.H.length) hu hg hs (b:=k) (o:=i*ia) (f:=fun j=>C.getD (i*ia+j) undef) (fun j x hx=>by
     obtain⟨u,PU,ZE⟩:=fq i j r x HM hx
     have hj:i*ia+j<C.size:=(aiN.1 PU).1
     have nY:C.getD (i*ia+j) undef=u:=by
      rw[aiS hj] at PU
      injection PU with PU
      simp[hj,PU]
     rw[nY,cell_of_row w k _ C ty _ xz,PU]
     exact⟨rfl,ZE.dB,VR.dropped (.plain _ _ ZE)⟩)
    refine⟨v,?_,.cD h2⟩
    rw[nX]
    simpa [Instr.loadAt,Instr.sureAddr] using h1
  ·cases he
end
end
end Go.Abs
