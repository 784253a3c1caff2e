/-
  A part of the proof of PrintScans: AbsDefs, AbsRel, AbsFrame, AbsArg, AbsOps1.
-/
import Derived.Orders
import Derived.Laws.AppendOwn
import Derived.Below
import Derived.WalkKit
set_option linter.unusedSimpArgs false
set_option linter.unusedVariables false
set_option linter.defProp false
namespace Go
theorem tk {α:Type} {a:Option α} {f g:α} (h:a=some f) (e:f=g):a=some g:=e ▸ h
def ahK:=@Option.map_eq_some_iff
def ahL:=@Option.bind_eq_some_iff
def ahM:=@Option.some.injEq
def ahN:=@Prod.mk.injEq
def ahO:=@List.getElem?_eq_some_iff
def ahP:=@List.getElem?_eq_getElem
def ahQ:=@Nat.le_refl
def ahR:=@Bool.and_eq_true
def ahS:=@List.mem_append
def ahT:=@Array.getElem?_eq_some_iff
def ahU:=@List.all_eq_true
def ahV:=@Option.bind_some
def ahW:=@cond_false
def ahX:=@List.length_nil
def ahY:=@Array.getElem?_eq_getElem
def ahZ:=@List.mem_of_getElem?
def ah0:=@Option.map_some
def ah1:=@List.map_cons
def ah2:=@List.getElem?_map
def ah3:=@List.map_nil
def ah4:=@List.mem_singleton
def ah5:=@List.getElem?_take
def ah6:=@List.getElem?_append_left
def ah7:=@Nat.mul_le_mul_right
def ah8:=@decide_eq_true_eq
def ah9:=@List.getElem?_toArray
def ah':=@List.getElem?_cons_zero
def aia:=@List.mem_map
def aib:=@List.map_congr_left
def aic:=@List.getElem?_append_right
def aid:=@List.mem_cons_self
def aie:=@List.length_map
def aif:=@List.getElem?_of_mem
def aih:=@Nat.blt_eq
def aii:=@List.mem_cons
def aij:=@List.drop_eq_getElem_cons
def aik:=@Array.getElem?_toList
def ail:=@List.getElem?_drop
def aim:=@List.getD_eq_getElem?_getD
def ain:=@List.append_nil
def aio:=@Int.natCast_zero
def aip:=@Nat.add_mul
def aiq:=@Nat.ble_eq
def air:=@List.getElem?_eq_none
def ais:=@Bool.true_and
def ait:=@Nat.le_trans
def aiu:=@Bool.false_and
def aiv:=@List.length_drop
def aiw:=@List.getElem?_append
def aix:=@List.modify_succ_cons
def aiy:=@List.modify_zero_cons
def aiz:=@List.flatten_cons
def aiA:=@List.take_of_length_le
def aiB:=@Nat.zero_le
def aiC:=@Option.getD_some
def aiD:=@Nat.le_succ
def aiE:=@Bool.eq_false_or_eq_true
def aiF:=@beq_iff_eq
def aiG:=@decide_false
def aiH:=@Bool.not_false
def aiI:=@List.getElem?_set
def aiJ:=@Nat.lt_irrefl
def aiK:=@Nat.eq_of_beq_eq_true
def aiL:=@List.getElem?_cons_succ
def aiM:=@Option.some.inj
def aiN:=@List.take_zero
def aiO:=@List.mem_of_mem_take
def aiP:=@Nat.lt_of_lt_of_le
def aiQ:=@List.getElem_mem
def aiR:=@List.mem_flatMap
def aiS:=@Bool.false_eq_true
def aiT:=@decide_eq_false
def aiU:=@List.take_succ_cons
def aiV:=@List.length_singleton
def aiW:=@Bool.not_true
def aiX:=@List.drop_eq_nil_of_le
def aiY:=@List.flatten_nil
def aiZ:=@List.take_length
def ai0:=@beq_eq_false_iff_ne
def ai1:=@Bool.and_self
def ai2:=@List.drop_zero
def ai3:=@if_true
def ai4:=@List.mem_cons_of_mem
def ai5:=@Array.getElem?_eq_none
def ai6:=@List.length_eq_one_iff
def ai7:=@List.size_toArray
def ai8:=@List.getElem?_range
def ai9:=@and_true
def ai':=@List.cons_append
def aja:=@Nat.lt_or_ge
def ajb:=@List.all_cons
def ajc:=@List.drop_drop
def ajd:=@List.mem_append_left
def aje:=@decide_eq_false_iff_not
def ajf:=@List.append_assoc
def ajg:=@List.nil_append
def ajh:=@List.map_map
def aji:=@Nat.mul_one
def ajj:=@Nat.le_max_right
def ajk:=@Bool.or_eq_true
def ajl:=@Nat.add_zero
def ajm:=@Nat.le_of_eq
def ajn:=@Bool.not_eq_true'
def ajo:=@List.ext_getElem?
def ajp:=@Nat.add_assoc
def ajq:=@Array.getElem?_push
def ajr:=@List.drop_succ_cons
def ajs:=@Ne.symm
def ajt:=@Classical.choose_spec
def aju:=@Nat.ble_eq_true_of_le
def ajv:=@Nat.not_lt_zero
def ajw:=@List.take_add_one
def ajx:=@List.getElem?_zip_eq_some
def ajy:=@List.drop_length
def ajz:=@List.not_mem_nil
def ajA:=@Int.toNat_of_nonneg
def ajB:=@Array.getElem?_setIfInBounds_ne
def ajC:=@List.length_eq_zero_iff
def ajD:=@Bool.false_or
def ajE:=@Array.eq_empty_of_size_eq_zero
def ajF:=@Bool.not_eq_false'
def ajG:=@List.cons.injEq
def ajH:=@List.contains_cons
def ajI:=@Nat.le_max_left
def ajJ:=@Nat.lt_trichotomy
def ajK:=@Array.mem_of_getElem?
def ajL:=@Bool.true_or
def ajM:=@List.mem_append_right
def ajN:=@List.mem_iff_getElem?
def ajO:=@Nat.sub_self
def ajP:=@Option.map_map
def ajQ:=@Array.getD_eq_getD_getElem?
def ajR:=@Array.ext'
def ajS:=@Bool.not_eq_true
def ajT:=@Bool.or_eq_false_iff
def ajU:=@List.getElem?_set_ne
def ajV:=@List.getElem?_zipIdx
def ajW:=@List.isEmpty_iff
def ajX:=@List.map_toArray
def ajY:=@Nat.le_of_not_lt
def ajZ:=@Nat.lt_succ_self
def aj0:=@if_false
def aj1:=@Array.getElem?_append_left
def aj2:=@List.length_pos_iff
def aj3:=@List.isEmpty_eq_false_iff
def aj4:=@Option.isNone_iff_eq_none
def aj5:=@List.eq_of_mem_replicate
def aj6:=@Nat.beq_refl
def aj7:=@Nat.mul_comm
def aj8:=@congrArg
def aj9:=@List.getElem?_replicate
def aj':=@Array.getElem?_extract
def aka:=@Bool.and_true
def akb:=@Array.all_eq_true_iff_forall_mem
def akc:=@Array.toList_map
def akd:=@and_false
def ake:=@List.all_nil
def akf:=@List.foldl_cons
def akg:=@Option.map_none
def akh:=@exists_false
def aki:=@List.take_append_of_le_length
def akj:=@Array.length_toList
def akk:=@true_and
def akl:=@List.cons_beq_cons
def akm:=@List.filter_cons
def akn:=@Nat.add_comm
def ako:=@Nat.le_of_lt
def akp:=@Nat.zero_mul
def akq:=@List.all_append
def akr:=@List.mem_filter
def aks:=@ge_iff_le
def akt:=@Nat.one_mul
def aku:=@Bool.and_eq_true_iff
def akv:=@List.mem_of_mem_drop
def akw:=@or_false
def akx:=@Bool.or_true
end Go
namespace Go.Abs
section
inductive AV where
 | bool (b:Bool)
 | int (k:IntKind) (n:Int)
 | str (l:List UInt8)
 | any
 | cJ|cr|bU|bt
 | slice (elems:List (List AV)) (own:Bool)
 | eptr (cells:List AV)
 | ref (loc off:Nat)
 | sref (loc off n z:Nat)
 | mref (loc:Nat)
 | di (kz:Nat) (ka va:Bool) (es:List (List AV))
 | l9 (kz:Nat) (ka va:Bool) (es:List (List AV))
 | iter (g kz:Nat) (ka va:Bool) (cur:List AV) (todo:List (List AV))
 | lbox (g:Nat) (cells:List AV)
 | lref (s g off:Nat)
 | lsl (g:Nat) (elems:List (List AV))
 | lsr (s g:Nat)
 | eref (s g i z off:Nat)
 | func (f:Fn) (first captured:List AV)
 | iface (t:TypeId) (v:AV)
 | agg (cells:List AV)
 | tuple (vs:List AV)
 | ay
 deriving Inhabited,Repr
abbrev AV.undef:AV:=.tuple []
inductive dm where
 | box (ty:TypeId) (cells:List AV)
 | map (kz:Nat) (ka va:Bool) (es:List (List AV))
 | di (kz:Nat) (ka va:Bool) (es:List (List AV))
 | Fq (cells:List AV)
 | dM (cells:List AV)
 | dead
 deriving Inhabited,Repr
abbrev ag:=List dm
abbrev aA:=Nat->AV
def aA.put(T:aA)(d:Nat)(v:AV):aA:=fun i=>cond (Nat.beq i d) v (T i)
structure fD where
 heap:ag
 lo:Nat
 deriving Inhabited
abbrev cz:=FuncId->List AV->ag->Option (AV × Option fD)
inductive ak where
 | tmp (t:Nat)
 | bC (v:AV)
 | aP (g:Nat)
 | fn (f:FuncId)
 deriving Inhabited,Repr
inductive uE where
 | toInt (k:IntKind)
 | Ay
 | ot
 deriving Inhabited,Repr
inductive rZ where
 | str
 | sl (sz:Nat)
 | arr (n sz:Nat)
 deriving Inhabited,Repr
inductive CK where
 | b|i|s
 deriving Inhabited,Repr,DecidableEq
inductive rU where
 | other|bool|iface|func
 | flat (ks:List CK)
 deriving Inhabited,Repr
inductive jZ where
 | str|sl
 | arr (n:Nat)
 deriving Inhabited,Repr
inductive JT where
 | frame (b:Nat)
 | QA|heap
 deriving Inhabited,Repr
inductive dR where
 | Ds (c:JT) (x:ak)
 | mov (take obj:Bool) (x:ak)
 | pick (c a b:ak)
 | allocL (zero:List AV)
 | pW (ty:TypeId) (zero:List AV)
 | boxL (x:ak)
 | box (ty:TypeId) (x:ak)
 | build (zero:List AV) (parts:List (Nat × Nat × ak))
 | mkslice (isB:Bool) (sz:Nat) (Dp:List (List AV)) (parts:List (Nat × ak))
 | lO (sz:Nat) (Dp:List (List AV)) (parts:List (Nat × ak))
 | load (take agg:Bool) (sz:Nat) (x:ak)
 | store (sz:Nat) (a v:ak)
 | nilCheck (x:ak)
 | bin (op:BinOp) (k:rU) (x y:ak)
 | un (op:UnOp) (x:ak)
 | mm (mx:Bool) (x y:ak)
 | conv (c:uE) (x:ak)
 | uz (t:TypeId) (x:ak)
 | slice (k:rZ) (x:ak) (lo hi mx:Option ak)
 | fieldAddr (off:Nat) (x:ak)
 | field (agg:Bool) (off sz:Nat) (x:ak)
 | ixSl (sz:Nat) (x i:ak)
 | ixArr (n sz:Nat) (x i:ak)
 | index (agg:Bool) (n sz:Nat) (x i:ak)
 | indexStr (x i:ak)
 | extract (x:ak) (i:Nat)
 | len (k:jZ) (x:ak)
 | append (isB wr:Bool) (sz bytes:Nat) (x y:ak)
 | appendO (sz bytes:Nat) (x y:ak)
 | copyO (x y:ak)
 | H8 (x:ak)
 | nilS (neg:Bool) (x:ak)
 | tI (sz bytes:Nat) (zero:List AV) (n:ak)
 | call (f:ak) (args:List ak)
 | iL (f:ak) (args:List ak)
 | xF (f:FuncId) (pre:List ak) (x:ak) (post:List ak)
 | mkfunc (f:Fn) (first captured:List ak)
 | yo (kz:Nat) (ka va:Bool)
 | look (ok:Bool) (kz:Nat) (ka va:Bool) (ks:List CK) (zero:List AV) (m k:ak)
 | Hx (kz:Nat) (ka:Bool) (ks:List CK) (zero:List AV) (m k:ak)
 | Jp (kz:Nat) (ka va:Bool) (vz:Nat) (ks:List CK) (m k v:ak)
 | Sq (m:ak)
 | Y9 (kz:Nat) (ka va:Bool) (m:ak)
 | next (it:ak)
 | YQ (it:ak)
 deriving Inhabited,Repr
structure az where
 dst:Option Nat
 guard:Option (Nat × Bool)
 op:dR
 deriving Inhabited,Repr
inductive a7 where
 | skip
 | region (draw:Bool) (ops:List az)
 | wU (nt:Nat) (ops:List az) (pre:List (List Nat))
 | seq (a b:a7)
 | cond (c:ak) (a b:a7)
 | block (id:Nat) (a:a7)
 | loop (a:a7)
 | exit (id:Nat)
 | ret
 deriving Inhabited,Repr
inductive fI where
 | tmp (t:Nat)
 | cell (a:Nat) (agg:Bool) (sz:Nat)
 deriving Inhabited,Repr
structure au where
 bR:List Nat
 locals:List Nat
 muts:List Nat
 nt:Nat
 np:Nat
 results:List fI
 body:a7
 deriving Inhabited,Repr
inductive bw where
 | normal
 | exit (id:Nat)
 | ret
 deriving Inhabited,Repr,DecidableEq
structure AS where
 T:aA
 H:ag
 lo:Nat
 gen:Nat
def AV.cells:AV->Option (List AV)
 | .agg cs=>some cs
 | .any=>none
 | .tuple _=>none
 | .lbox ..=>none
 | .lref ..=>none
 | .lsl ..=>none
 | .lsr ..=>none
 | .eref ..=>none
 | .iter ..=>none
 | v=>some [v]
def AV.drop:AV->AV
 | .slice e _=>.slice e false
 | v=>v
def AV.bc:AV->AV
 | .agg cs=>.agg (cs.map AV.drop)
 | v=>v.drop
def AV.plain:AV->Bool
 | .bool _|.int ..|.str _|.any|.cJ|.cr|.bU|.bt|.eptr _|.di ..|.l9 ..|.ay=>true
 | .slice _ own=>!own
 | .func _ [] []=>true
 | .iface _ (.bool _)|.iface _ (.int ..)|.iface _ (.str _)|.iface _ .any|.iface _ .cJ=>true
 | _=>false
def AV.elem(sz:Nat)(v:AV):Option (List AV) :=
 match v.cells with
 | none=>none
 | some cs =>
  let ds:=cs.map AV.drop
  cond (Nat.beq ds.length sz&&ds.all AV.plain) (some ds) none
def AV.aN(base:Nat):AV->Bool
 | .ref loc _=>Nat.blt loc base
 | .sref loc _ _ _=>Nat.blt loc base
 | .mref loc=>Nat.blt loc base
 | v=>v.plain
def AV.bf(base:Nat):AV->Bool
 | .agg cs=>cs.all (AV.aN base)
 | v=>v.aN base
def AV.leaves(base:Nat):AV->Bool
 | .func _ fs cs=>fs.all (AV.aN base)&&cs.all (AV.aN base)
 | .iface _ v=>v.aN base
 | .tuple vs=>vs.all (AV.bf base)
 | .slice ..=>true
 | v=>v.bf base
def aQ:AV->Option Nat
 | .lbox g _=>some g
 | .lsl g _=>some g
 | .iter g ..=>some g
 | _=>none
def ak.eval(G:Nat->List AV)(T:aA):ak->AV
 | .tmp t=>T t
 | .bC v=>v
 | .aP g=>.eptr (G g)
 | .fn f=>.func (.func f) [] []
def asNat:AV->Option Nat
 | .int _ n=>cond (decide (0<=n)) (some n.toNat) none
 | _=>none
def bH:List CK->List AV->List AV->Option Bool
 | [],_,_=>some true
 | .b :: ks,.bool a :: xs,.bool b :: ys=>(bH ks xs ys).map (a==b&&·)
 | .i :: ks,.int j a :: xs,.int k b :: ys=>cond (decide (j=k)) ((bH ks xs ys).map (a==b&&·)) none
 | .s :: ks,.str a :: xs,.str b :: ys=>(bH ks xs ys).map (a==b&&·)
 | _,_,_=>none
def aa(op:BinOp)(k:IntKind)(a b:Int):Option AV :=
 match op with
 | .add=>some (.int k (k.wrap (a+b)))
 | .sub=>some (.int k (k.wrap (a-b)))
 | .mul=>some (.int k (k.wrap (a*b)))
 | .quo=>cond (decide (b=0)) none (some (.int k (k.wrap (a.tdiv b))))
 | .rem=>cond (decide (b=0)) none (some (.int k (a.tmod b)))
 | .eql=>some (.bool (a==b))
 | .neq=>some (.bool (a != b))
 | .lss=>some (.bool (decide (a<b)))
 | .leq=>some (.bool (decide (a<=b)))
 | .gtr=>some (.bool (decide (a>b)))
 | .geq=>some (.bool (decide (a>=b)))
 | _=>none
def jB(op:BinOp)(a b:List UInt8):Option AV :=
 match op with
 | .add=>cond (decide (a.length+b.length<=4611686018427387904)) (some (.str (a++b))) none
 | .eql=>some (.bool (a==b))
 | .neq=>some (.bool !(a==b))
 | .lss=>some (.bool (Op.bytesLess a b))
 | .leq=>some (.bool (Op.bytesLess a b || a==b))
 | .gtr=>some (.bool !(Op.bytesLess a b || a==b))
 | .geq=>some (.bool !(Op.bytesLess a b))
 | _=>none
def jV(op:BinOp)(b:Bool):Option AV :=
 match op with
 | .eql=>some (.bool b)
 | .neq=>some (.bool !b)
 | _=>none
def nX:ak->Bool
 | .bC _=>true
 | _=>false
def uJ(op:BinOp)(q:rU)(bC:Bool)(x y:AV):Option AV :=
 match x,y with
 | .int j a,.int k b=>cond (decide (j=k)) (aa op j a b) none
 | .str a,.str b=>jB op a b
 | .bool a,.bool b=>(match q with|.bool=>jV op (a==b)|_=>none)
 | .agg xs,.agg ys=>(match q with|.flat ks=>(bH ks xs ys).bind fun b=>jV op b|_=>none)
 | x,.bt=>cond (bC&&(match q with|.iface=>true|_=>false)) ((match x with|.bt=>some true|.iface ..=>some false|_=>none).bind fun b=>jV op b) none
 | x,.bU=>cond (match q with|.func=>true|_=>false) ((match x with|.bU=>some true|.func ..=>some false|_=>none).bind fun b=>jV op b) none
 | _,_=>none
def AD(op:UnOp)(x:AV):Option AV :=
 match op,x with
 | .neg,.int k n=>some (.int k (k.wrap (0-n)))
 | .not,.bool b=>some (.bool !b)
 | _,_=>none
def N'(mx:Bool)(x y:AV):Option AV :=
 match x,y with
 | .int k a,.int j b=>cond (decide (k=j)) (some (.int k (cond mx (if b>a then b else a) (if b<a then b else a)))) none
 | _,_=>none
def bytesOf:List (List AV)->Option (List UInt8)
 | []=>some []
 | [.int .u8 n] :: r=>(bytesOf r).map (UInt8.ofNat n.toNat :: ·)
 | _=>none
def jE(c:uE)(x:AV):Option AV :=
 match c,x with
 | .toInt k,.int _ n=>some (.int k (k.wrap n))
 | .Ay,.str l=>some (.str l)
 | .ot,.slice e _=>(bytesOf e).map .str
 | _,_=>none
def chunks(sz:Nat):Nat->List AV->List (List AV)
 | 0,_=>[]
 | n+1,l=>l.take sz :: chunks sz n (l.drop sz)
def bound(acq:Nat)(x:Option AV)(iP:Nat):Option Nat :=
 match x with
 | none=>some acq
 | some v=>(asNat v).bind fun n=>cond (Nat.ble n iP) (some n) none
def fC(sz:Nat)(e:List (List AV)):Bool:=(e.head?.map fun r=>Nat.beq r.length sz).getD true
def O5:List (List AV)->Bool
 | (_ :: _) :: _=>true
 | _=>false
def gz(k:rZ)(x:AV)(lo hi mx:Option AV):Option AV :=
 match k,x with
 | .str,.str l=>(bound l.length hi l.length).bind fun h=>(bound 0 lo h).bind fun a=>cond mx.isNone (some (.str ((l.take h).drop a))) none
 | .sl sz,.slice e _=>(bound e.length mx e.length).bind fun m=>(bound e.length hi m).bind fun h=>(bound 0 lo h).bind fun a =>
   cond ((mx.isNone || hi.isSome)&&(lo.isNone || fC sz e)) (some (.slice ((e.take h).drop a) (mx.isSome&&Nat.beq m h&&O5 e))) none
 | .sl sz,.sref l o n z=>(bound n hi n).bind fun h=>(bound 0 lo h).bind fun a=>cond (mx.isNone&&Nat.beq z sz) (some (cond (Nat.blt a n) (.sref l (o+a*z) (h-a) z) (.slice [] false))) none
 | .arr n sz,.eptr cs=>cond (Nat.beq cs.length (n*sz)) ((bound n hi n).bind fun h=>(bound 0 lo h).bind fun a=>cond mx.isNone (some (.slice (((chunks sz n cs).take h).drop a) false)) none) none
 | _,_=>none
def jH(k:jZ)(x:AV):Option AV :=
 match k,x with
 | .str,.str l=>some (.int .i64 l.length)
 | .sl,.slice e _=>some (.int .i64 e.length)
 | .sl,.sref _ _ n _=>some (.int .i64 n)
 | .sl,.ay=>some (.int .i64 0)
 | .arr n,_=>some (.int .i64 n)
 | _,_=>none
def putAt(l:List AV)(off:Nat)(cs:List AV):List AV:=l.take off++cs++l.drop (off+cs.length)
def cD:List AV->List (Nat × Nat × AV)->Option (List AV)
 | cells,[]=>some cells
 | cells,(off,sz,v) :: r =>
  match v.cells with
  | none=>none
  | some cs=>cond (Nat.beq cs.length sz&&Nat.ble (off+cs.length) cells.length) (cD (putAt cells off (cs.map AV.drop)) r) none
def ca(sz:Nat):List (List AV)->List (Nat × AV)->Option (List (List AV))
 | es,[]=>some es
 | es,(i,v) :: r =>
  match v.elem sz with
  | none=>none
  | some cs=>cond (Nat.blt i es.length) (ca sz (es.set i cs) r) none
def ar(take agg:Bool)(sz off:Nat)(cs:List AV):Option AV :=
 cond agg (cond (Nat.ble (off+sz) cs.length) (some (.agg (((cs.drop off).take sz).map AV.drop))) none)
  ((cs[off]?).map fun v=>cond take v v.drop)
def bV(off:Nat)(cs:List AV):List AV:=cs.modify off AV.drop
def AS.br(s:AS)(t:Nat)(v:AV):AS:={ s with T:=s.T.put t v }
def AS.fa(s:AS)(c:fD):AS:={ s with H:=c.heap,lo:=cond (Nat.blt c.lo s.lo) c.lo s.lo }
def ak.addr(G:Nat->List AV)(T:aA):ak->AV
 | .tmp t=>match T t with
  | .lbox g _=>.lref t g 0
  | .lsl g _=>.lsr t g
  | .iter ..=>.any
  | v=>v
 | .bC v=>v
 | .aP g=>.eptr (G g)
 | .fn f=>.func (.func f) [] []
def cO(s:AS)(take agg:Bool)(sz:Nat)(x:AV):Option (AV × Option AS) :=
 match x with
 | .eptr cs=>(ar false agg sz 0 cs).map (·,none)
 | .ref loc off=>match s.H[loc]? with
  | some (.box ty cs)=>(ar take agg sz off cs).map fun v=>(v,cond (take&&!agg) (some (s.fa ⟨s.H.set loc (.box ty (bV off cs)),loc⟩)) none)
  | some (.Fq cs)=>(ar false agg sz off cs).map (·,none)
  | some (.dM cs)=>(ar false agg sz off cs).map (·,none)
  | _=>none
 | .lref b g off=>match s.T b with
  | .lbox g' cs=>cond (Nat.beq g g') ((ar take agg sz off cs).map fun v=>(v,cond (take&&!agg) (some (s.br b (.lbox g (bV off cs)))) none)) none
  | _=>none
 | .eref b g i z off=>match s.T b with
  | .lsl g' e=>cond (Nat.beq g g') ((e[i]?).bind fun r=>cond (Nat.beq r.length z) ((ar false agg sz off r).map (·,none)) none) none
  | _=>none
 | _=>none
def fF(loc:Nat):AV->Bool
 | .ref l _=>Nat.ble l loc
 | .sref l _ _ _=>Nat.ble l loc
 | .mref l=>Nat.ble l loc
 | v=>v.drop.plain
def jG(loc:Nat):AV->Bool
 | .agg cs=>cs.all (fF loc)
 | v=>fF loc v
def aR(loc:Nat):AV->Bool
 | .ref l _=>Nat.ble l loc
 | .sref l _ _ _=>Nat.ble l loc
 | .mref l=>Nat.ble l loc
 | .func _ fs cs=>fs.all (jG loc)&&cs.all (jG loc)
 | v=>v.drop.plain
def aq:AV->Bool
 | .lref ..=>false
 | .lbox ..=>false
 | .lsl ..=>false
 | .lsr ..=>false
 | .eref ..=>false
 | .iter ..=>false
 | _=>true
def a8(s:AS)(sz:Nat)(a v:AV):Option AS :=
 match v.cells with
 | none=>none
 | some vs=>cond (Nat.beq vs.length sz)
  (match a with
   | .ref loc off=>match s.H[loc]? with
    | some (.box ty cs)=>cond (Nat.ble (off+sz) cs.length&&vs.all (aR loc)) (some (s.fa ⟨s.H.set loc (.box ty (putAt cs off vs)),loc⟩)) none
    | some (.dM cs)=>cond (Nat.ble (off+sz) cs.length&&vs.all aq) (some (s.fa ⟨s.H.set loc (.dM (putAt cs off vs)),loc⟩)) none
    | _=>none
   | .lref b g off=>match s.T b with
    | .lbox g' cs=>cond (Nat.beq g g'&&Nat.ble (off+sz) cs.length&&vs.all aq) (some (s.br b (.lbox g (putAt cs off vs)))) none
    | _=>none
   | .eref b g i z off=>match s.T b with
    | .lsl g' e=>cond (Nat.beq g g') ((e[i]?).bind fun r=>cond (Nat.beq r.length z&&Nat.ble (off+sz) r.length&&(vs.map AV.drop).all AV.plain) (some (s.br b (.lsl g (e.set i (putAt r off (vs.map AV.drop)))))) none) none
    | _=>none
   | _=>none)
  none
def AS.cm(s:AS):ak->AS
 | .tmp t=>match s.T t with
  | .slice e true=>s.br t (.slice e false)
  | _=>s
 | _=>s
def dJ(sz:Nat):AV->Option (List (List AV))
 | .slice f _=>some f
 | .str l=>cond (Nat.beq sz 1) (some (l.map fun (b:UInt8)=>[AV.int .u8 b.toNat])) none
 | _=>none
abbrev fQ:TypeId:=5
def gM(e:List (List AV)):Bool:=e.all fun r=>r.all fun|.int .u8 _=>false|.any=>false|_=>true
def oq(e:List (List AV)):Bool:=e.all fun|[.int .u8 _]=>true|_=>false
def jY(isB:Bool)(e:List (List AV)):Bool:=cond isB (oq e) (gM e)
def cF(sz bytes:Nat)(e f:List (List AV)):Bool :=
 Nat.ble ((e.length+f.length)*bytes) 70368744177664&&Nat.ble (e.length+f.length) 70368744177664&&fC sz e&&fC sz f
def an(isB:Bool)(sz bytes:Nat)(x y:AV):Option AV :=
 match x with
 | .slice e own=>(dJ sz y).bind fun f =>
  match f with
  | []=>some (.slice e own)
  | f=>cond (own&&cF sz bytes e f&&jY isB (e++f)) (some (.slice (e++f) true)) none
 | _=>none
def fg(f:List (List AV)):Bool:=f.all fun r=>r.all AV.plain
abbrev cN:TypeId:=4294967295
def Oe(x y:AV):Option AV :=
 match x with
 | .slice [] true=>(match y with|.slice [] _|.ay=>some (.slice [] false)|_=>none)
 | .ay=>(match y with|.slice [] _|.ay=>some .ay|_=>none)
 | _=>none
def ja(s:AS)(sz bytes:Nat)(x y:AV):Option (AV × Option AS) :=
 (dJ sz y).bind fun f =>
  match x with
  | .slice [] true|.ay=>cond (!f.isEmpty&&cF sz bytes [] f&&fg f) (some (.sref s.H.length 0 f.length sz,some (s.fa ⟨s.H++[.box cN f.flatten],s.H.length⟩))) none
  | .sref l o n z=>match s.H[l]? with
   | some (.box ty cs)=>cond (Nat.beq o 0&&Nat.beq z sz&&Nat.beq cs.length (n*sz)&&Nat.ble ((n+f.length)*bytes) 70368744177664&&Nat.ble (n+f.length) 70368744177664&&fC sz f&&fg f)
     (some (.sref s.H.length 0 (n+f.length) sz,some (s.fa ⟨s.H.set l .dead++[.box cN (cs++f.flatten)],l⟩))) none
   | _=>none
  | _=>none
def jl(s:AS)(sz bytes:Nat)(x y:AV):Option (AV × Option AS) :=
 match Oe x y with
 | some v=>some (v,none)
 | none=>ja s sz bytes x y
def kS(s:AS)(x y:AV):Option (AV × Option AS) :=
 match x,y with
 | .sref l o n z,.slice f _=>match s.H[l]? with
  | some (.dM cs)=>cond (Nat.beq z 1&&fC 1 f&&fg f&&Nat.ble (o+n) cs.length)
    (some (.int .i64 (Nat.min f.length n),some (s.fa ⟨s.H.set l (.dM (putAt cs o (f.take (Nat.min f.length n)).flatten)),l⟩))) none
  | _=>none
 | .slice [] _,.slice _ _=>some (.int .i64 0,none)
 | _,_=>none
def Od:AV->Option Bool
 | .ay=>some true
 | .slice (_ :: _) _=>some false
 | _=>none
def o8(s:AS)(sz bytes:Nat)(zero:List AV)(n:AV):Option (AV × Option AS) :=
 (asNat n).bind fun k=>cond (Nat.ble (k*bytes) 70368744177664&&Nat.ble k 70368744177664)
  (some (.sref s.H.length 0 k sz,some (s.fa ⟨s.H++[.box cN (List.replicate k zero).flatten],s.H.length⟩))) none
def fK(off:Nat):AV->Option AV
 | .ref l o=>some (.ref l (o+off))
 | .lref b g o=>some (.lref b g (o+off))
 | .eref b g i z o=>some (.eref b g i z (o+off))
 | .eptr cs=>some (.eptr (cs.drop off))
 | _=>none
def bM(s:AS):AV->Bool
 | .ref ..=>true
 | .eptr _=>true
 | .lref b g _=>(match s.T b with|.lbox g' _=>Nat.beq g g'|_=>false)
 | .eref b g i _ _=>(match s.T b with|.lsl g' e=>Nat.beq g g'&&Nat.blt i e.length|_=>false)
 | _=>false
def Jo(t:TypeId)(v:AV):Option AV :=
 cond (AV.plain v.drop || (match v with|.ref ..=>true|_=>false)) (some (.iface t v.drop)) none
def fy(c:JT)(v:AV):Bool :=
 match c with
 | .frame b=>(match v with|.lref b' _ _=>Nat.beq b b'|_=>false)
 | .QA=>(match v with|.lref ..=>false|.eref ..=>false|.lsr ..=>false|.ref ..=>false|_=>true)
 | .heap=>(match v with|.lref ..=>false|.eref ..=>false|.lsr ..=>false|_=>true)
def AV.isAgg:AV->Bool
 | .agg _=>true
 | _=>false
def rF(s:AS)(kz:Nat)(ka va:Bool)(m:AV):Option (List (List AV)) :=
 match m with
 | .di kG kF kQ es=>cond (Nat.beq kz kG&&ka==kF&&va==kQ) (some es) none
 | .mref l=>match s.H[l]? with
  | some (.map kG kF kQ es)=>cond (Nat.beq kz kG&&ka==kF&&va==kQ) (some es) none
  | some (.di kG kF kQ es)=>cond (Nat.beq kz kG&&ka==kF&&va==kQ) (some es) none
  | _=>none
 | _=>none
def fz(ks:List CK)(kc:List AV):List (List AV)->Option (Option Nat)
 | []=>some none
 | r :: es=>(bH ks kc r).bind fun b=>cond b (some (some 0)) ((fz ks kc es).map fun o=>o.map (· + 1))
def p8(agg:Bool)(cs:List AV):AV:=cond agg (.agg (cs.map AV.drop)) ((cs.headD .undef).drop)
def vO(ok va:Bool)(cs:List AV)(found:Bool):AV :=
 let v:=cond va (.agg (cs.map AV.drop)) ((cs.headD .undef).drop)
 cond ok (.tuple [v,.bool found]) v
def oL(ok va:Bool)(zero:List AV)(kz:Nat)(es:List (List AV)):Option Nat->AV
 | none=>vO ok va zero false
 | some i=>vO ok va ((es.getD i []).drop kz) true
def kL:List AV->Option (List UInt8)
 | .str a :: _=>some a
 | _=>none
def pX:List (List AV)->Bool
 | []=>true
 | r :: es=>(match kL r with|some a=>es.all fun q=>(match kL q with|some b=>!(a==b)|none=>false)|none=>false)&&pX es
def RZ:List CK->List AV->Bool
 | [.s],[.str _]=>true
 | _,_=>false
def sB(s:AS)(ok:Bool)(kz:Nat)(ka va:Bool)(ks:List CK)(zero:List AV)(m k:AV):Option (AV × Option AS) :=
 k.drop.cells.bind fun kc=>cond (Nat.beq kc.length kz&&ka==k.drop.isAgg)
  (match m with
   | .cr=>some (vO ok va zero false,none)
   | .l9 kG kF kQ es=>cond (Nat.beq kz kG&&ka==kF&&va==kQ&&pX es&&RZ ks kc) ((fz ks kc es).map fun o=>(oL ok va zero kz es o,none)) none
   | m=>(rF s kz ka va m).bind fun es=>(fz ks kc es).map fun o=>(oL ok va zero kz es o,none)) none
def zx(s:AS)(kz:Nat)(ka:Bool)(ks:List CK)(zero:List AV)(m k:AV):Option (AV × Option AS) :=
 match m with
 | .mref l=>match s.H[l]? with
  | some (.map kG kF false es)=>k.drop.cells.bind fun kc=>cond (Nat.beq kc.length kz&&Nat.beq kz kG&&ka==kF&&ka==k.drop.isAgg)
    ((fz ks kc es).bind fun o=>match o with
     | none=>some ((zero.headD .undef),none)
     | some i=>((es.getD i [])[kz]?).map fun v=>(v,some (s.fa ⟨s.H.set l (.map kz ka false (es.set i (bV kz (es.getD i [])))),l⟩))) none
  | _=>none
 | _=>none
def sV(es:List (List AV))(o:Option Nat)(r:List AV):List (List AV) :=
 match o with
 | none=>es++[r]
 | some i=>es.set i r
def sC(s:AS)(kz:Nat)(ka va:Bool)(vz:Nat)(ks:List CK)(m k v:AV):Option AS :=
 match m with
 | .mref l=>match s.H[l]? with
  | some (.map kG kF kQ es)=>k.drop.cells.bind fun kc=>v.cells.bind fun vc =>
    cond (Nat.beq kc.length kz&&Nat.beq vc.length vz&&Nat.beq kz kG&&ka==kF&&va==kQ&&ka==k.drop.isAgg&&va==v.isAgg&&vc.all (aR l)&&kc.all AV.plain)
     ((fz ks kc es).map fun o=>s.fa ⟨s.H.set l (.map kz ka va (sV es o (kc++cond va (vc.map AV.drop) vc))),l⟩) none
  | _=>none
 | _=>none
section
variable (G:Nat->List AV)(cf:cz)
def kN(s:AS)(take obj:Bool)(x:ak):Option (AV × Option AS) :=
 match x with
 | .tmp t=>match s.T t with
  | .lbox g _=>some (.lref t g 0,none)
  | .lsl g e=>cond take (cond obj (some (.lsl s.gen e,some { s.br t .any with gen:=s.gen+1 })) (cond (gM e) (some (.slice e true,some (s.br t .any))) none)) (some (.lsr t g,none))
  | .slice e own=>some (.slice e (take&&own),cond (take&&own) (some (s.br t (.slice e false))) none)
  | .iter ..=>none
  | v=>some (v,none)
 | x=>some (x.eval G s.T,none)
def dX(s:AS)(isB wr:Bool)(sz bytes:Nat)(x y:ak):Option (AV × Option AS) :=
 match x with
 | .tmp t=>match s.T t with
  | .lsl _ e=>(dJ sz (y.eval G s.T)).bind fun f=>cond (wr&&cF sz bytes e f) (some (.lsl s.gen (e++f),some { s.br t .any with gen:=s.gen+1 })) none
  | .slice e own=>cond wr
    ((dJ sz (y.eval G s.T)).bind fun f=>cond (e.isEmpty&&own&&cF sz bytes [] f) (some (.lsl s.gen f,some { s.br t .any with gen:=s.gen+1 })) none)
    ((an isB sz bytes (.slice e own) (y.eval G s.T)).map (·,some (s.br t (.slice e false))))
  | .ay=>cond wr
    ((dJ sz (y.eval G s.T)).bind fun f=>cond (cF sz bytes [] f) (some (.lsl s.gen f,some { s.br t .any with gen:=s.gen+1 })) none)
    ((an isB sz bytes (.slice [] true) (y.eval G s.T)).map (·,some s))
  | _=>none
 | x=>cond wr none ((an isB sz bytes (x.eval G s.T) (y.eval G s.T)).map (·,none))
def T9(s:AS)(x:ak):Option (AV × AS) :=
 match x with
 | .tmp t=>match s.T t with
  | .slice e own=>some (.slice e own,s.br t (.slice e false))
  | _=>none
 | .bC v=>match v with
  | .slice [] true=>some (.slice [] true,s)
  | _=>none
 | _=>none
def ai(s:AS)(o:dR):Option (AV × Option AS) :=
 match o with
 | .Ds c x=>cond (fy c (x.addr G s.T)) (some (.undef,none)) none
 | .mov take obj x=>kN G s take obj x
 | .pick c a b=>match c.eval G s.T with
  | .bool t=>some (cond t (a.addr G s.T).drop (b.addr G s.T).drop,none)
  | _=>none
 | .allocL zero=>some (.lbox s.gen zero,some { s with gen:=s.gen+1 })
 | .boxL x=>(x.eval G s.T).drop.cells.map fun cs=>(.lbox s.gen (cs.map AV.drop),some { s with gen:=s.gen+1 })
 | .pW ty zero=>some (.ref s.H.length 0,some (s.fa ⟨s.H++[.box ty zero],s.H.length⟩))
 | .box ty x=>(x.eval G s.T).drop.cells.bind fun cs=>cond (cs.all (aR s.H.length)) (some (.ref s.H.length 0,some (s.fa ⟨s.H++[.box ty (cs.map AV.drop)],s.H.length⟩))) none
 | .build zero parts=>(cD zero (parts.map fun p=>(p.1,p.2.1,(p.2.2.eval G s.T).drop))).map (.agg ·,none)
 | .mkslice isB sz Dp parts=>(ca sz Dp (parts.map fun p=>(p.1,(p.2.eval G s.T).drop))).bind fun E=>cond (jY isB E) (some (.slice E true,none)) none
 | .lO sz Dp parts=>(ca sz Dp (parts.map fun p=>(p.1,(p.2.eval G s.T).drop))).bind fun E=>cond (fg E) (some (.sref s.H.length 0 E.length sz,some (s.fa ⟨s.H++[.box cN E.flatten],s.H.length⟩))) none
 | .load take agg sz x=>cO s take agg sz (x.addr G s.T)
 | .store sz a v=>(a8 s sz (a.addr G s.T) (v.eval G s.T)).map fun s'=>(.undef,some (s'.cm v))
 | .nilCheck x=>cond (bM s (x.addr G s.T)) (some (x.addr G s.T,none)) none
 | .bin op q x y=>(uJ op q (nX x || nX y) (x.eval G s.T) (y.eval G s.T)).map (·,none)
 | .un op x=>(AD op (x.eval G s.T)).map (·,none)
 | .mm mx x y=>(N' mx (x.eval G s.T) (y.eval G s.T)).map (·,none)
 | .conv c x=>(jE c (x.eval G s.T)).map (·,none)
 | .uz t x=>(Jo t (x.eval G s.T)).map (·,none)
 | .slice k x lo hi mx=>(gz k (x.eval G s.T) (lo.map (·.eval G s.T)) (hi.map (·.eval G s.T)) (mx.map (·.eval G s.T))).map (·,none)
 | .fieldAddr off x=>cond (bM s (x.addr G s.T)) ((fK off (x.addr G s.T)).map (·,none)) none
 | .field agg off sz x=>match x.eval G s.T with
  | .agg cs=>(ar false agg sz off cs).map (·,none)
  | _=>none
 | .ixSl sz x i=>match x.addr G s.T with
  | .slice e _=>(asNat (i.eval G s.T)).bind fun n=>(e[n]?).bind fun r=>cond (Nat.beq r.length sz) (some (.eptr r,none)) none
  | .sref l o m _=>(asNat (i.eval G s.T)).bind fun n=>cond (Nat.blt n m) (some (.ref l (o+n*sz),none)) none
  | .lsr t g=>match s.T t with
   | .lsl g' e=>cond (Nat.beq g g') ((asNat (i.eval G s.T)).bind fun n=>(e[n]?).bind fun r=>cond (Nat.beq r.length sz) (some (.eref t g n sz 0,none)) none) none
   | _=>none
  | _=>none
 | .ixArr n sz x i=>(asNat (i.eval G s.T)).bind fun k=>cond (Nat.blt k n&&bM s (x.addr G s.T)) ((fK (k*sz) (x.addr G s.T)).map (·,none)) none
 | .index agg n sz x i=>(asNat (i.eval G s.T)).bind fun k=>cond (Nat.blt k n)
   (match x.eval G s.T with
    | .agg cs=>(ar false agg sz (k*sz) cs).map (·,none)
    | _=>none) none
 | .indexStr x i=>match x.eval G s.T with
  | .str l=>(asNat (i.eval G s.T)).bind fun n=>(l[n]?).map fun (b:UInt8)=>(AV.int .u8 b.toNat,none)
  | _=>none
 | .extract x i=>match x.eval G s.T with
  | .tuple vs=>(vs[i]?).map fun v=>(v.bc,none)
  | _=>none
 | .len k x=>match x.addr G s.T with
  | .lsr t g=>match s.T t with
   | .lsl g' e=>cond (Nat.beq g g') ((jH k (.slice e false)).map (·,none)) none
   | _=>none
  | v=>(jH k v).map (·,none)
 | .append isB wr sz bytes x y=>dX G s isB wr sz bytes x y
 | .appendO sz bytes x y=>jl s sz bytes (x.addr G s.T) (y.eval G s.T)
 | .tI sz bytes zero n=>o8 s sz bytes zero (n.eval G s.T)
 | .copyO x y=>kS s (x.addr G s.T) (y.eval G s.T)
 | .H8 x=>(x.eval G s.T).drop.cells.bind fun cs=>cond (cs.all aq) (some (.ref s.H.length 0,some (s.fa ⟨s.H++[.dM (cs.map AV.drop)],s.H.length⟩))) none
 | .nilS neg x=>(Od (x.eval G s.T)).map fun b=>(.bool (neg != b),none)
 | .call f args=>match f.eval G s.T with
  | .func (.func n) fs cs=>cond ((args.map fun a=>a.addr G s.T).all aq)
    ((cf n (fs++args.map (fun a=>(a.addr G s.T).bc)++cs) s.H).map fun r=>(r.1,r.2.map s.fa)) none
  | _=>none
 | .iL f args=>match f.eval G s.T with
  | .func (.func n) fs cs=>cond ((args.map fun a=>a.addr G s.T).all aq)
    ((cf n (fs++args.map (fun a=>(a.addr G s.T).bc)++cs) s.H).bind fun r=>match r.2 with|none=>some (r.1,none)|some _=>none) none
  | _=>none
 | .xF f pre x post=>cond ((pre.map fun a=>a.addr G s.T).all aq&&(post.map fun a=>a.addr G s.T).all aq)
   ((T9 s x).bind fun p=>(cf f (pre.map (fun a=>(a.addr G s.T).bc)++p.1 :: post.map (fun a=>(a.addr G s.T).bc)) s.H).map fun r=>(r.1,some ((r.2.map p.2.fa).getD p.2))) none
 | .mkfunc f first captured=>cond ((first.map fun a=>a.addr G s.T).all aq&&(captured.map fun a=>a.addr G s.T).all aq)
   (some (.func f (first.map fun a=>(a.addr G s.T).drop) (captured.map fun a=>(a.addr G s.T).drop),none)) none
 | .yo kz ka va=>some (.mref s.H.length,some (s.fa ⟨s.H++[.map kz ka va []],s.H.length⟩))
 | .look ok kz ka va ks zero m k=>sB s ok kz ka va ks zero (m.addr G s.T) (k.eval G s.T)
 | .Hx kz ka ks zero m k=>zx s kz ka ks zero (m.addr G s.T) (k.eval G s.T)
 | .Jp kz ka va vz ks m k v=>(sC s kz ka va vz ks (m.addr G s.T) (k.eval G s.T) (v.eval G s.T)).map fun s'=>(.undef,some (s'.cm v))
 | .Sq m=>match m.addr G s.T with
  | .cr=>some (.int .i64 0,none)
  | .di _ _ _ es=>some (.int .i64 es.length,none)
  | .mref l=>match s.H[l]? with
   | some (.map _ _ _ es)=>some (.int .i64 es.length,none)
   | some (.di _ _ _ es)=>some (.int .i64 es.length,none)
   | _=>none
  | _=>none
 | .Y9 kz ka va m=>match m.addr G s.T with
  | .cr=>some (.iter s.gen kz ka va [] [],some { s with gen:=s.gen+1 })
  | .di kG kF kQ es=>cond (Nat.beq kz kG&&ka==kF&&va==kQ) (some (.iter s.gen kz ka va [] es,some { s with gen:=s.gen+1 })) none
  | .l9 kG kF kQ es=>cond (Nat.beq kz kG&&ka==kF&&va==kQ) (some (.iter s.gen kz ka va [] es,some { s with gen:=s.gen+1 })) none
  | .mref l=>match s.H[l]? with
   | some (.map kG kF kQ es)=>cond (Nat.beq kz kG&&ka==kF&&va==kQ&&fg es)
     (some (.iter s.gen kz ka va [] es,some { s.fa ⟨s.H.set l (.di kz ka va es),l⟩ with gen:=s.gen+1 })) none
   | _=>none
  | _=>none
 | .next _=>none
 | .YQ it=>match it with
  | .tmp t=>match s.T t with
   | .iter _ kz ka va cur _=>cond (Nat.ble kz cur.length&&!cur.isEmpty) (some (.tuple [p8 ka (cur.take kz),p8 va (cur.drop kz)],none)) none
   | _=>none
  | _=>none
def AS.b9(s:AS)(d:Option Nat)(v:AV):AS:=match d with|none=>s|some d=>s.br d v
def bO(draw:Bool)(s:AS)(o:az):Option AS :=
 let run:Option AS:=(ai G cf s o.op).bind fun r=>match r.2 with
  | none=>cond (draw&&(aQ r.1).isSome) none (some (s.b9 o.dst r.1))
  | some s'=>cond draw none (some (s'.b9 o.dst r.1))
 match o.guard with
 | none=>run
 | some (g,want)=>match s.T g with
  | .bool b=>cond (b==want) run (some (s.b9 o.dst .undef))
  | .tuple []=>some (s.b9 o.dst .undef)
  | _=>none
def dU(draw:Bool):List az->AS->Option AS
 | [],s=>some s
 | o :: r,s=>(bO G cf draw s o).bind (dU draw r)
def iter(f:AS->Option (bw × AS)):Nat->AS->Option (bw × AS)
 | 0,_=>none
 | n+1,s=>(f s).bind fun r=>match r.1 with
  | .normal=>iter f n r.2
  | _=>some r
def gH(n:Nat):a7->AS->Option (bw × AS)
 | .skip,s=>some (.normal,s)
 | .region d ops,s=>(dU G cf d ops s).map (.normal,·)
 | .seq a b,s=>(gH n a s).bind fun r=>match r.1 with
  | .normal=>gH n b r.2
  | _=>some r
 | .cond c a b,s=>match c.eval G s.T with
  | .bool t=>cond t (gH n a s) (gH n b s)
  | _=>none
 | .block id a,s=>(gH n a s).map fun r=>match r.1 with
  | .exit i=>(cond (Nat.beq i id) .normal (.exit i),r.2)
  | e=>(e,r.2)
 | .loop a,s=>iter (gH n a) n s
 | .exit id,s=>some (.exit id,s)
 | .ret,s=>some (.ret,s)
 | .wU _ _ _,_=>none
end
def iz(s:AS):fI->Option AV
 | .tmp t=>cond (aq (s.T t)) (some (s.T t)) none
 | .cell a agg sz=>match s.T a with
  | .lbox _ cs=>ar false agg sz 0 cs
  | .ref loc 0=>match s.H[loc]? with
   | some (.box _ cs)=>ar false agg sz 0 cs
   | _=>none
  | _=>none
def nJ(s:AS):fI->Option Nat
 | .tmp t=>match s.T t with
  | .lsl _ _=>some t
  | .lsr b g=>match s.T b with
   | .lsl g' _=>cond (Nat.beq g g') (some b) none
   | _=>none
  | _=>none
 | .cell ..=>none
def mC(s:AS):List fI->Option (List AV)
 | []=>some []
 | r :: rs=>(iz s r).bind fun v=>(mC s rs).map (v.bc :: ·)
def lV(s:AS)(rs:List fI):Option AV :=
 match rs with
 | [r]=>match nJ s r with
  | some b=>(match s.T b with|.lsl _ e=>cond (gM e) (some (.slice e true)) none|_=>none)
  | none=>iz s r
 | rs=>(mC s rs).map .tuple
def jF(base:Nat)(rs:List fI)(s:AS):Option (AV × Option fD) :=
 (lV s rs).bind fun r =>
  cond (r.leaves base) (some (r,cond (Nat.beq s.lo base) none (some ⟨s.H.take base,s.lo⟩))) none
def OH(e:List (List AV)):Nat:=(e.head?.map List.length).getD 0
def sQ(s:AS)(base:Nat):List fI->Option (List AV × Option (List (List AV)))
 | []=>some ([],none)
 | r :: rs=>(sQ s base rs).bind fun q=>match nJ s r with
  | some b=>match s.T b with
   | .lsl _ e=>cond (q.2.isNone&&!e.isEmpty&&e.all (fun r=>r.all AV.plain)) (some (.sref base 0 e.length (OH e) :: q.1,some e)) none
   | _=>none
  | none=>(iz s r).bind fun v=>cond (v.bc.bf base) (some (v.bc :: q.1,q.2)) none
def qe(base:Nat)(rs:List fI)(s:AS):Option (AV × Option fD) :=
 cond (Nat.beq rs.length 1) none ((sQ s base rs).bind fun q=>q.2.map fun e=>(.tuple q.1,some ⟨s.H.take base++[.box cN e.flatten],s.lo⟩))
def pk:AV->Bool
 | .int .u8 _=>false
 | .any=>false
 | _=>true
def lQ:AV->AV
 | .slice [] true=>.ay
 | v=>v
def AV.norm:AV->AV
 | .ay=>.slice [] false
 | v=>v
def mW:dm->Option (List AV)
 | .box _ cs=>some cs
 | .dM cs=>some cs
 | _=>none
def n6(H:ag)(base:Nat):Nat->AV->AV
 | 0,v=>v
 | k+1,v=>match v with
  | .sref l off n z=>cond (Nat.ble base l) (match (H[l]?).bind mW with
   | some cs=>cond (Nat.blt 0 z&&Nat.ble (off+n*z) cs.length&&(cs.all fun x=>(n6 H base k x.drop).plain&&pk x)) (.slice (chunks z n ((cs.map fun x=>n6 H base k x.drop).drop off)) false) v
   | none=>v) v
  | v=>v
abbrev Qa:Nat:=3
def K'(H:ag)(base:Nat):AV->AV
 | .agg cs=>.agg (cs.map (n6 H base Qa))
 | v=>n6 H base Qa v
def uB(base:Nat)(s:AS)(rs:List fI):Option AV :=
 match rs with
 | [r]=>(iz s r).map fun v=>K' s.H base v.bc
 | rs=>(mC s rs).map fun vs=>.tuple (vs.map (K' s.H base))
def qd(base:Nat)(rs:List fI)(s:AS):Option (AV × Option fD) :=
 (uB base s rs).bind fun r=>cond (r.leaves base) (some (r,cond (Nat.beq s.lo base) none (some ⟨s.H.take base,s.lo⟩))) none
def oC(base:Nat)(rs:List fI)(s:AS):Option (AV × Option fD) :=
 match rs with
 | [r]=>(iz s r).bind fun v=>match v with
  | .sref l off n z=>match s.H[l]? with
   | some (.box _ cs)=>cond (Nat.ble base l&&cs.all AV.plain) (some (.sref base off n z,some ⟨s.H.take base++[.dM cs],s.lo⟩)) none
   | _=>none
  | _=>none
 | _=>none
def nA(base:Nat)(fn:au)(s:AS):Option (AV × Option fD):=cond (fn.muts.elem 888888) (oC base fn.results s) none
def mA(base:Nat)(s:AS):Bool:=cond (Nat.beq s.lo base) true (((s.H.take base).drop s.lo).all fun o=>match o with|.dM cs=>cs.all (AV.aN base)|_=>true)
def qW(base:Nat)(fn:au)(s:AS):Option (AV × Option fD) :=
 match nA base fn s with
 | some r=>some r
 | none=>match jF base fn.results s with
 | some r=>some r
 | none=>match qe base fn.results s with
  | some r=>some r
  | none=>qd base fn.results s
def kT(base:Nat)(fn:au)(s:AS):Option (AV × Option fD):=cond (mA base s) (qW base fn s) none
def n1:AV->AV
 | .ay=>.slice [] false
 | v=>v
def n2:AV->AV
 | .ay=>.slice [] false
 | .slice e false=>.slice (e.map fun r=>r.map n1) false
 | v=>v
def n3:AV->AV
 | .agg cs=>.agg (cs.map n2)
 | v=>n2 v
def lR:AV->AV
 | .tuple vs=>.tuple (vs.map n3)
 | v=>n3 v
def pL(fn:au)(r:AV × Option fD):AV × Option fD:=cond (fn.muts.elem 777777) (lR r.1,r.2) r
def finish(base:Nat)(fn:au)(s:AS):Option (AV × Option fD):=(kT base fn s).map (pL fn)
def gl(args:List AV):aA:=fun i=>args.getD i .undef
def sS(G:Nat->List AV)(cf:cz)(n:Nat)(fn:au)(args:List AV)(H:ag):Option (AV × Option fD) :=
 cond (Nat.beq args.length fn.np)
  ((gH G cf n fn.body { T:=gl args,H,lo:=H.length,gen:=0 }).bind fun r=>match r.1 with
   | .exit _=>none
   | _=>finish H.length fn r.2)
  none
structure AP where
 fns:FuncId->Option au
 ov:FuncId->Option (List AV->ag->Option (AV × Option fD))
 aP:Nat->List AV
def rG:AV->Bool
 | .slice _ true=>false
 | _=>true
def xN(A:AP):Nat->cz
 | 0=>fun _ _ _=>none
 | n+1=>fun f args H=>match A.ov f with
  | some g=>cond (args.all rG) (g args H) none
  | none=>match A.fns f with
   | none=>none
   | some fn=>sS A.aP (xN A n) n fn args H
def iI:Value->Option AV
 | .bool b=>some (.bool b)
 | .int k n=>some (.int k n)
 | .string s=>some (.str s.data.toList)
 | .slice none 0 0=>some (.slice [] true)
 | .pointer none=>some .cJ
 | .map none=>some .cr
 | .nilFunc=>some .bU
 | .nilIface=>some .bt
 | _=>none
def cV:List Value->Option (List AV)
 | []=>some []
 | v :: r=>(iI v).bind fun x=>(cV r).map (x :: ·)
def oy:Value->Option AV
 | .agg vs=>(cV vs.toList).map fun l=>.agg (l.map lQ)
 | v=>iI v
section
variable (P:Program)(bR locals muts:List Nat)(nt:Nat)
def ah:Operand->Option ak
 | .tmp t=>cond (Nat.blt t nt) (some (.tmp t)) none
 | .const v=>(oy v).map .bC
 | .global g=>some (.aP g)
 | .func f=>some (.fn f)
def hJ:List Operand->Option (List ak)
 | []=>some []
 | x :: r=>(ah nt x).bind fun a=>(hJ r).map (a :: ·)
def cY(t:TypeId):Option Nat:=(P.info? t).map (·.size)
def fB(t:TypeId):Option (List AV):=((P.info? t).bind (·.zero)).bind fun z=>cV z.cells.toList
def ke(t:TypeId):Option Bool:=(P.underlying t).map fun|.struct _=>true|.array _ _=>true|_=>false
def fu:Option Operand->Option (Option ak)
 | none=>some none
 | some x=>(ah nt x).map some
def mh(flat:TypeId->Option (List CK)):List Go.Field->Nat->Option (List CK)
 | [],_=>some []
 | f :: fs,o=>cond (Nat.beq f.offset o&&f.name != "_") ((flat f.type).bind fun k=>(mh flat fs (o+k.length)).map (k++·)) none
def kO:Nat->TypeId->Option (List CK)
 | 0,_=>none
 | d+1,t=>match P.underlying t with
  | some .bool=>some [.b]
  | some (.int _)=>some [.i]
  | some .string=>some [.s]
  | some (.struct fs)=>cond (!P.stoodInHeld t) ((mh (kO d) fs.toList 0).bind fun ks=>cond (match cY P t with|some n=>Nat.beq n ks.length|none=>false) (some ks) none) none
  | _=>none
def lB(t:TypeId):rU :=
 match P.underlying t with
 | some .bool=>.bool
 | some (.interface _)=>.iface
 | some (.func _ _ _)=>.func
 | some (.struct _)=>cond (!P.eqGuardType P.depth t) (match kO P 8 t with|some ks=>.flat ks|none=>.other) .other
 | _=>.other
def ld(fs:List Go.Field):List (Nat × Operand)->Option (List (Nat × Nat × ak))
 | []=>some []
 | (i,x) :: r=>(fs[i]?).bind fun f=>(cY P f.type).bind fun z=>(ah nt x).bind fun a=>(ld fs r).map ((f.offset,z,a) :: ·)
def iF(sz:Nat):List (Nat × Operand)->Option (List (Nat × Nat × ak))
 | []=>some []
 | (i,x) :: r=>(ah nt x).bind fun a=>(iF sz r).map ((i*sz,sz,a) :: ·)
def jj:List (Nat × Operand)->Option (List (Nat × ak))
 | []=>some []
 | (i,x) :: r=>(ah nt x).bind fun a=>(jj r).map ((i,a) :: ·)
def Ke:Value->Bool
 | .agg _=>true
 | _=>false
def Jl(t:TypeId):Option (List CK × Bool × Bool × List AV) :=
 match P.underlying t with
 | some (.map k e)=>(kO P 8 k).bind fun ks=>(ke P k).bind fun ka=>(P.info? e).bind fun i=>i.zero.bind fun z=>(cV z.cells.toList).bind fun zero =>
   cond (Ke z || Nat.beq zero.length 1) (some (ks,ka,Ke z,zero)) none
 | _=>none
def Au:Operand->Operand->Bool
 | .tmp a,.tmp b=>Nat.beq a b
 | _,_=>false
def gL(d:Option Nat):Bool:=match d with|some d=>bR.contains d|none=>false
def isLocal(d:Option Nat):Bool:=match d with|some d=>locals.contains d|none=>false
def qO(d:Option Nat)(g:ak)(ys:List ak):dR:=cond (gL bR d) (.call g ys) (.call g ys)
def qN(d:Option Nat)(c:Call):Option dR :=
 match c.callee with
 | .value f=>(ah nt f).bind fun g=>(hJ nt c.args.toList).map (qO bR d g ·)
 | .builtin .len=>match c.args.toList,c.argTypes.toList with
  | [x],[t]=>(ah nt x).bind fun a=>match P.underlying t with
   | some .string=>some (.len .str a)
   | some (.slice _)=>some (.len .sl a)
   | some (.array n _)=>some (.len (.arr n) a)
   | some (.map _ _)=>none
   | _=>none
  | _,_=>none
 | .builtin .append=>match c.args.toList,c.argTypes.toList with
  | [x,y],[t,u]=>(ah nt x).bind fun a=>(ah nt y).bind fun b=>match P.underlying t,P.underlying u with
   | some (.slice e),some (.slice _)|some (.slice e),some .string=>(P.info? e).bind fun i=>cond (Nat.blt 0 i.size&&(i.zero.map fun z=>Nat.beq z.cells.size i.size).getD false) (some (cond (isLocal locals d) (.appendO i.size i.bytes a b) (.append (Nat.beq e fQ) (gL muts d) i.size i.bytes a b))) none
   | _,_=>none
  | _,_=>none
 | .builtin .copy=>match c.args.toList,c.argTypes.toList with
  | [x,y],[t,u]=>(ah nt x).bind fun a=>(ah nt y).bind fun b=>match P.underlying t,P.underlying u with
   | some (.slice e),some (.slice _)=>(cY P e).bind fun sz=>cond (Nat.beq sz 1) (some (.copyO a b)) none
   | _,_=>none
  | _,_=>none
 | .builtin .max=>match c.args.toList with
  | [x,y]=>(ah nt x).bind fun a=>(ah nt y).map (.mm true a ·)
  | _=>none
 | .builtin .min=>match c.args.toList with
  | [x,y]=>(ah nt x).bind fun a=>(ah nt y).map (.mm false a ·)
  | _=>none
 | _=>none
def K6(k:Nat)(l:List Nat)(d:Option Nat):Bool:=match d with|some d=>l.elem (k+d)|none=>false
def Gn(op:BinOp)(t:TypeId)(y:Operand):Option Bool :=
 match y,P.underlying t with
 | .const (.slice none 0 0),some (.slice _)=>(match op with|.eql=>some false|.neq=>some true|_=>none)
 | _,_=>none
def z6:ak->ak
 | .bC v=>.bC (lQ v)
 | x=>x
def cn(d:Option Nat)(o:Op):Option dR :=
 match o with
 | .move x|.assign x=>(ah nt x).map fun a=>.mov (gL bR d) (gL muts d) (cond (gL muts d) (z6 a) a)
 | .pick c a b=>(ah nt c).bind fun c=>(ah nt a).bind fun a=>(ah nt b).map (.pick c a ·)
 | .alloc t=>((fB P t).map fun z=>cond (K6 700000 bR d) (z.map lQ) z).bind fun z=>cond (isLocal locals d) (some (.allocL z)) (some (.pW t z))
 | .box t x=>(ah nt x).map fun a=>cond (isLocal locals d) (.boxL a) (cond (K6 500000 muts d) (.H8 a) (.box t a))
 | .build t parts=>((fB P t).map fun z=>cond (gL bR d) (z.map lQ) z).bind fun z=>match P.underlying t with
  | some (.struct fs)=>cond ((fs.toList.mapM fun f=>(P.info? f.type).map fun i=>(f.offset,i.size)).isSome) ((ld P nt fs.toList parts.toList).map (.build z ·)) none
  | some (.array _ e)=>(cY P e).bind fun sz=>(iF nt sz parts.toList).map (.build z ·)
  | _=>none
 | .buildSlice t len parts=>match P.underlying t with
  | some (.slice e)=>(cY P e).bind fun sz=>(fB P e).bind fun z=>(jj nt parts.toList).bind fun ps =>
    cond (Nat.ble (len*sz) 16777216&&Nat.beq z.length sz&&Nat.blt 0 sz) (some (cond (isLocal locals d) (.lO sz (List.replicate len (z.map AV.drop)) ps) (.mkslice (Nat.beq e fQ) sz (List.replicate len (z.map AV.drop)) ps))) none
  | _=>none
 | .load t x=>(ah nt x).bind fun a=>(ke P t).bind fun g=>(cY P t).map fun sz=>.load (gL bR d) g sz a
 | .store t x y=>(ah nt x).bind fun a=>(ah nt y).bind fun b=>(cY P t).map fun sz=>.store sz a b
 | .nilCheck x=>(ah nt x).map .nilCheck
 | .binOp op t x y _=>(ah nt x).bind fun a=>(ah nt y).bind fun b=>match Gn P op t y with
  | some neg=>some (.nilS neg a)
  | none=>some (.bin op (lB P t) a b)
 | .unOp op _ x=>(ah nt x).map (.un op ·)
 | .convert s t x=>(ah nt x).bind fun a=>match P.underlying s,P.underlying t with
  | some (.int _),some (.int k)=>some (.conv (.toInt k) a)
  | some .string,some .string=>some (.conv .Ay a)
  | some (.slice e),some .string=>match P.underlying e with
   | some (.int .u8)=>some (.conv .ot a)
   | _=>none
  | _,_=>none
 | .makeFunc f first captured=>(hJ nt first.toList).bind fun a=>(hJ nt captured.toList).map (.mkfunc f a ·)
 | .slice t x lo hi mx=>(ah nt x).bind fun a=>(fu nt lo).bind fun lo=>(fu nt hi).bind fun hi=>(fu nt mx).bind fun mx=>match P.underlying t with
  | some .string=>some (.slice .str a lo hi mx)
  | some (.slice e)=>(cY P e).map fun sz=>.slice (.sl sz) a lo hi mx
  | some (.array n e)=>(cY P e).bind fun sz=>cond (Nat.blt 0 sz) (some (.slice (.arr n sz) a lo hi mx)) none
  | _=>none
 | .fieldAddr t x f=>(ah nt x).bind fun a=>match P.underlying t with
  | some (.struct fs)=>(fs[f]?).bind fun q=>(cY P q.type).bind fun sz=>cond (Nat.blt 0 sz) (some (.fieldAddr q.offset a)) none
  | _=>none
 | .indexAddr t x i=>(ah nt x).bind fun a=>(ah nt i).bind fun b=>match P.underlying t with
  | some (.slice e)=>(cY P e).map fun sz=>.ixSl sz a b
  | some (.array n e)=>(cY P e).map fun sz=>.ixArr n sz a b
  | _=>none
 | .index t x i=>(ah nt x).bind fun a=>(ah nt i).bind fun b=>match P.underlying t with
  | some .string=>some (.indexStr a b)
  | some (.array n e)=>(cY P e).bind fun sz=>(ke P e).map fun g=>.index g n sz a b
  | _=>none
 | .extract x i=>(ah nt x).map (.extract · i)
 | .call c=>qN P bR locals muts nt d c
 | .makeSlice t x y=>(ah nt x).bind fun a=>cond (Au x y) (match P.underlying t with
  | some (.slice e)=>(P.info? e).bind fun i=>i.zero.bind fun z=>(cV z.cells.toList).bind fun zero=>cond (Nat.blt 0 i.size&&Nat.beq z.cells.size i.size) (some (.tI i.size i.bytes (zero.map AV.drop) a)) none
  | _=>none) none
 | .makeMap t none=>(Jl P t).map fun m=>.yo m.1.length m.2.1 m.2.2.1
 | .lookup t x i ok=>(ah nt x).bind fun a=>(ah nt i).bind fun b=>(Jl P t).map fun m =>
   .look ok m.1.length m.2.1 m.2.2.1 m.1 m.2.2.2 a b
 | .mapUpdate t x i v|.insert t x i v=>(ah nt x).bind fun a=>(ah nt i).bind fun b=>(ah nt v).bind fun c=>(Jl P t).map fun m=>.Jp m.1.length m.2.1 m.2.2.1 m.2.2.2.length m.1 a b c
 | .range t x=>cond (gL muts d) ((ah nt x).bind fun a=>(Jl P t).map fun m=>.Y9 m.1.length m.2.1 m.2.2.1 a) none
 | .next x false=>(ah nt x).map .next
 | .entry x=>(ah nt x).map .YQ
 | _=>none
def mQ(ops:Array Oper):Option (Nat × Bool)->Option (Option (Nat × Bool))
 | none=>some none
 | some (j,want)=>((ops[j]?).bind (·.dst)).bind fun s=>cond (Nat.blt s nt) (some (some (s,want))) none
def ox(ops:Array Oper)(o:Oper):Option az :=
 (cn P bR locals muts nt o.dst o.op).bind fun p=>(mQ nt ops o.guard).bind fun g =>
  match o.dst with
  | none=>some ⟨none,g,p⟩
  | some d=>cond (Nat.blt d nt) (some ⟨some d,g,p⟩) none
def fe(ops:Array Oper):List Oper->Option (List az)
 | []=>some []
 | o :: r=>(ox P bR locals muts nt ops o).bind fun p=>(fe ops r).map (p :: ·)
def ak.tmps:ak->List Nat
 | .tmp t=>[t]
 | _=>[]
def dR.tmps:dR->List Nat
 | .Ds _ x|.boxL x|.H8 x|.mov _ _ x|.box _ x|.load _ _ _ x|.nilCheck x|.un _ x|.nilS _ x|.conv _ x|.uz _ x|.fieldAddr _ x|.field _ _ _ x|.extract x _|.len _ x=>x.tmps
 | .pick c a b=>c.tmps++a.tmps++b.tmps
 | .allocL _|.pW _ _=>[]
 | .build _ ps=>ps.flatMap fun p=>p.2.2.tmps
 | .mkslice _ _ _ ps|.lO _ _ ps=>ps.flatMap fun p=>p.2.tmps
 | .store _ a v=>a.tmps++v.tmps
 | .bin _ _ x y|.mm _ x y|.ixSl _ x y|.ixArr _ _ x y|.index _ _ _ x y|.indexStr x y|.append _ _ _ _ x y|.appendO _ _ x y|.copyO x y=>x.tmps++y.tmps
 | .slice _ x lo hi mx=>x.tmps++(lo.toList.flatMap ak.tmps)++(hi.toList.flatMap ak.tmps)++(mx.toList.flatMap ak.tmps)
 | .call f xs|.iL f xs=>f.tmps++xs.flatMap ak.tmps
 | .xF _ pre x post=>pre.flatMap ak.tmps++x.tmps++post.flatMap ak.tmps
 | .mkfunc _ a b=>a.flatMap ak.tmps++b.flatMap ak.tmps
 | .yo _ _ _=>[]
 | .tI _ _ _ n=>n.tmps
 | .look _ _ _ _ _ _ m k|.Hx _ _ _ _ m k=>m.tmps++k.tmps
 | .Jp _ _ _ _ _ m k v=>m.tmps++k.tmps++v.tmps
 | .Sq m|.Y9 _ _ _ m|.next m|.YQ m=>m.tmps
def az.looks(o:az):List Nat:=o.op.tmps++(match o.guard with|some (g,_)=>[g]|none=>[])
def sx(o:Oper)(j:Nat):Bool:=o.after.any fun e=>Region.binds .any e&&Nat.beq e.on j
def rI(L:List Nat)(ops:List (Oper × az)):Bool :=
 let l:=ops.zipIdx
 l.all fun p=>(p.1.1.after.all fun e=>!Region.binds .any e || Nat.blt e.on p.2)&&(match p.1.2.dst with|some d=>!(L.contains d)|none=>true) &&
  l.all fun q=>Nat.beq p.2 q.2 || (match q.1.2.dst with
   | none=>true
   | some d=>(match p.1.2.dst with|some d'=>!(Nat.beq d d')|none=>true) &&
    (!(p.1.2.looks.contains d) || cond (Nat.blt q.2 p.2) (sx p.1.1 q.2) (sx q.1.1 p.2)))
def OZ:az->Option Nat
 | ⟨some d,none,.allocL _⟩=>some d
 | _=>none
def UL(M:List Nat):az->Option (Nat × ak)
 | ⟨none,none,.store _ (.tmp d) y⟩=>cond (M.contains d) (some (d,y)) none
 | _=>none
def y5(is:List az):List Nat:=is.filterMap OZ
def isP(M:List Nat)(o:az):Bool:=(OZ o).isNone&&(UL M o).isNone
def adR:az:=⟨none,none,.mov false false (.bC .undef)⟩
def aaU(M:List Nat)(is:List az):List az:=is.map fun o=>cond (isP M o) o adR
def Sa(M:List Nat):List az:=M.flatMap fun d=>[⟨some d,none,.allocL []⟩,⟨some d,none,.mov false false (.bC .undef)⟩]
def aaT(is:List az):List az:=is.filter fun o=>(OZ o).isSome
def aaV(M:List Nat)(is:List az):List az:=is.filter fun o=>(UL M o).isSome
def drawn(is:List az):a7 :=
 .seq (.region false (Sa (y5 is))) (.seq (.region true (aaU (y5 is) is)) (.seq (.region false (aaT is)) (.region false (aaV (y5 is) is))))
structure xx where
 rs:List Nat
 ws:List Nat
 rh:Bool
 wh:Bool
 wg:Bool
 deriving Inhabited
def y4(is:List az)(L:List Nat):Nat->ak->Option Nat
 | 0,_=>none
 | f+1,.tmp t=>cond (L.contains t) (some t) (match is.find? (fun o=>match o.dst with|some d=>Nat.beq d t|none=>false) with
  | some ⟨_,_,.fieldAddr _ y⟩=>y4 is L f y
  | some ⟨_,_,.ixArr _ _ y _⟩=>y4 is L f y
  | some ⟨_,_,.nilCheck y⟩=>y4 is L f y
  | _=>none)
 | _,_=>none
def Pd(is:List az):Nat->ak->Bool
 | 0,_=>false
 | f+1,.tmp t=>(match is.find? (fun o=>match o.dst with|some d=>Nat.beq d t|none=>false) with
  | some ⟨_,_,.ixSl _ x _⟩=>(match x with
   | .tmp u=>(match is.find? (fun o=>match o.dst with|some d=>Nat.beq d u|none=>false) with
    | some ⟨_,_,.load ..⟩=>false
    | _=>true)
   | _=>true)
  | some ⟨_,_,.fieldAddr _ y⟩=>Pd is f y
  | some ⟨_,_,.ixArr _ _ y _⟩=>Pd is f y
  | _=>false)
 | _,.aP _=>true
 | _,_=>false
def KC(mode:Bool)(is:List az)(L:List Nat)(x:ak):JT :=
 match y4 is L 8 x with
 | some b=>.frame b
 | none=>cond (mode&&Pd is 8 x) .QA .heap
def tf(mode:Bool)(is:List az)(L:List Nat):dR->Option (JT × ak)
 | .load _ _ _ x=>some (KC mode is L x,x)
 | .store _ x _=>some (KC false is L x,x)
 | .nilCheck x=>some (KC mode is L x,x)
 | .fieldAddr _ x=>some (KC mode is L x,x)
 | .ixArr _ _ x _=>some (KC mode is L x,x)
 | .ixSl _ x _=>some (.heap,x)
 | .len _ x=>some (.heap,x)
 | _=>none
def fw:JT->List Nat
 | .frame b=>[b]
 | _=>[]
def zS:JT->Bool
 | .heap=>true
 | _=>false
def xM(pc:Bool)(c:JT):dR->Option xx
 | .mov take obj x=>cond obj none (some ⟨x.tmps,cond take x.tmps [],false,false,false⟩)
 | .pick a b d=>some ⟨a.tmps++b.tmps++d.tmps,[],false,false,false⟩
 | .allocL _=>some ⟨[],[],false,false,true⟩
 | .boxL x=>some ⟨x.tmps,[],false,false,true⟩
 | .build z ps=>some ⟨(dR.build z ps).tmps,[],false,false,false⟩
 | .mkslice b sz zs ps=>some ⟨(dR.mkslice b sz zs ps).tmps,[],false,false,false⟩
 | .bin _ _ x y=>some ⟨x.tmps++y.tmps,[],false,false,false⟩
 | .mm _ x y=>some ⟨x.tmps++y.tmps,[],false,false,false⟩
 | .un _ x=>some ⟨x.tmps,[],false,false,false⟩
 | .nilS _ x=>some ⟨x.tmps,[],false,false,false⟩
 | .conv _ x=>some ⟨x.tmps,[],false,false,false⟩
 | .field _ _ _ x=>some ⟨x.tmps,[],false,false,false⟩
 | .index _ _ _ x i=>some ⟨x.tmps++i.tmps,[],false,false,false⟩
 | .indexStr x i=>some ⟨x.tmps++i.tmps,[],false,false,false⟩
 | .extract x _=>some ⟨x.tmps,[],false,false,false⟩
 | .mkfunc f a b=>some ⟨(dR.mkfunc f a b).tmps,[],false,false,false⟩
 | .load take agg _ x=>some ⟨x.tmps++fw c,cond (take&&!agg) (fw c) [],zS c,zS c&&take&&!agg,false⟩
 | .store _ x y=>some ⟨x.tmps++y.tmps++fw c,y.tmps++fw c,zS c,zS c,false⟩
 | .nilCheck x=>some ⟨x.tmps++fw c,[],false,false,false⟩
 | .fieldAddr _ x=>some ⟨x.tmps++fw c,[],false,false,false⟩
 | .ixArr _ _ x i=>some ⟨x.tmps++i.tmps++fw c,[],false,false,false⟩
 | .ixSl _ x i=>some ⟨x.tmps++i.tmps,[],false,false,false⟩
 | .len _ x=>some ⟨x.tmps,[],false,false,false⟩
 | .append _ wr _ _ x y=>cond wr none (some ⟨x.tmps++y.tmps,x.tmps,false,false,false⟩)
 | .appendO _ _ x y=>some ⟨x.tmps++y.tmps,[],true,true,false⟩
 | .copyO x y=>some ⟨x.tmps++y.tmps,[],true,true,false⟩
 | .slice k x lo hi mx=>some ⟨(dR.slice k x lo hi mx).tmps,[],false,false,false⟩
 | .call f xs=>some ⟨(dR.call f xs).tmps,[],true,!pc,false⟩
 | _=>none
def Bt(mode pc:Bool)(is:List az)(L:List Nat)(o:az):Option xx :=
 (xM pc (match tf mode is L o.op with|some p=>p.1|none=>.heap) o.op).map fun e =>
  ⟨(match o.guard with|some (g,_)=>[g]|none=>[])++e.rs,o.dst.toList++e.ws,e.rh,e.wh,e.wg⟩
def meets(x y:List Nat):Bool:=x.any y.contains
def conflict(e f:xx):Bool :=
 meets e.ws f.rs || meets e.ws f.ws || meets f.ws e.rs || (e.wh&&(f.rh || f.wh)) || (f.wh&&e.rh) || (e.wg&&f.wg)
def nH(ops:List Oper):List (List Nat) :=
 ops.foldl (fun t o=>t++[(o.after.toList.flatMap fun e=>cond (Region.binds .any e) (e.on :: t.getD e.on []) []).eraseDups]) []
def oQ(ops:List Oper)(es:List xx):Bool :=
 let ps:=nH ops
 (ops.zipIdx.all fun p=>p.1.after.all fun e=>!Region.binds .any e || Nat.blt e.on p.2) &&
 es.zipIdx.all fun p=>es.zipIdx.all fun q=>!(Nat.blt q.2 p.2) || !(conflict p.1 q.1) || (ps.getD p.2 []).contains q.2
def iw(pc:Bool)(o:az):az :=
 match o with
 | ⟨d,g,.call f xs⟩=>cond pc ⟨d,g,.iL f xs⟩ ⟨d,g,.call f xs⟩
 | o=>o
def inter(mode pc:Bool)(is:List az)(L:List Nat):List az->List az
 | []=>[]
 | o :: r=>match tf mode is L o.op with
  | some (c,x)=>⟨none,o.guard,.Ds c x⟩ :: iw pc o :: inter mode pc is L r
  | none=>iw pc o :: inter mode pc is L r
def mr(mode pc:Bool)(is:List az)(L:List Nat):List az->Option (List xx)
 | []=>some []
 | o :: r=>(Bt mode pc is L o).bind fun e=>(mr mode pc is L r).map (e :: ·)
def Zf:dR->Bool
 | .mov take _ _=>take
 | .allocL _|.boxL _|.store ..|.append ..|.appendO ..|.copyO ..|.H8 ..|.tI ..|.pW ..|.box ..=>true
 | .load take agg _ _=>take&&!agg
 | _=>false
def OW(mode pc:Bool)(L:List Nat)(ops:List Oper)(is:List az):Option a7 :=
 (mr mode pc is L is).bind fun es=>cond (oQ ops es) (some (.region false (inter mode pc is L is))) none
def uW(L:List Nat)(ops:List Oper)(is:List az):Option a7 :=
 cond (L.elem 999996 || is.any fun o=>Zf o.op) (match OW false false L ops is with
  | some c=>some c
  | none=>match cond (L.elem 999997) none (OW true false L ops is) with
   | some c=>some c
   | none=>cond (L.elem 999999) none (OW false true L ops is)) none
def lr(o:Oper):List Nat:=(o.after.toList.filter fun e=>Region.binds .any e).map (·.on)
def dT:Code->Option a7
 | .skip=>some .skip
 | .region _ ops draw=>(fe P bR locals muts nt ops ops.toList).bind fun is=>match cond draw (uW locals ops.toList is) none with
  | some c=>some c
  | none=>cond (!draw || (!(locals.elem 999998)&&rI (locals++muts) (ops.toList.zip is))) (some (.region draw is)) (cond draw (some (.wU nt is (ops.toList.map lr))) none)
 | .seq a b=>(dT a).bind fun x=>(dT b).map (.seq x ·)
 | .cond c a b=>(ah nt c).bind fun c=>(dT a).bind fun x=>(dT b).map (.cond c x ·)
 | .block id a=>(dT a).map (.block id ·)
 | .loop a=>(dT a).map .loop
 | .exit id=>some (.exit id)
 | .ret=>some .ret
 | .label _=>some .skip
 | .scope a=>dT a
 | _=>none
def iT:List ResultVar->Option (List fI)
 | []=>some []
 | .tmp t :: r=>cond (Nat.blt t nt) ((iT r).map (.tmp t :: ·)) none
 | .cell a t :: r=>cond (Nat.blt a nt) ((ke P t).bind fun g=>(cY P t).bind fun sz=>(iT r).map (.cell a g sz :: ·)) none
end
def pG(P:Program)(bR locals muts:List Nat)(f:Func):Option au :=
 f.body.bind fun c=>(dT P bR locals muts f.ntmps c).bind fun b=>(iT P f.ntmps f.results.toList).bind fun rs =>
  cond (Nat.ble (f.params.size+f.nfree) f.ntmps&&f.name != "runtime.NumGoroutine") (some { bR,locals,muts,nt:=f.ntmps,np:=f.params.size+f.nfree,results:=rs,body:=b }) none
end
inductive aW where
 | none|outer|ret
 | hb (loc:Nat)
 | hs (loc j:Nat)
 | bx (i:Nat)
 | sl (i:Nat)
 | sc (i j:Nat)
 | par (j:Nat)
 deriving DecidableEq,Inhabited
structure Gh where
 S:Nat->Nat->Prop
 κ:Nat->aW
 ρ:Nat->Nat
def n8(agg:Bool)(n:Nat)(f:Nat->Value):Value:=cond agg (.agg ((List.range n).map f).toArray) (f 0)
structure AQ (E:Array MapEntry) (ck kz:Nat) (ka va:Bool) (es:List (List AV)) (f:Nat->Nat->Value):Prop where
 size:E.size=es.length
 clk:ck=E.size
 at' : ∀ (i:Nat) (e:MapEntry),E[i]?=some e->e.born=i
 born:∀ (i:Nat) (e:MapEntry),E[i]?=some e->e.born<ck
 apart:∀ (i j:Nat) (e e' : MapEntry),E[i]?=some e->E[j]?=some e'->e.born=e'.born->i=j
 row:∀ (i:Nat) (e:MapEntry) (r:List AV),E[i]?=some e->es[i]?=some r->kz<=r.length/\(ka=false->kz=1)/\(va=false->r.length=kz+1)/\e.key=n8 ka kz (f i)/\e.val=n8 va (r.length-kz) (fun j=>f i (kz+j))
structure rW (E:Array MapEntry) (ck kz:Nat) (ka va:Bool) (es:List (List AV)) (f:Nat->Nat->Value):Prop where
 size:E.size=es.length
 born:∀ (i:Nat) (e:MapEntry),E[i]?=some e->e.born<ck
 apart:∀ (i j:Nat) (e e' : MapEntry),E[i]?=some e->E[j]?=some e'->e.born=e'.born->i=j
 row:∀ (i:Nat) (e:MapEntry) (r:List AV),E[i]?=some e->es[i]?=some r->kz<=r.length/\(ka=false->kz=1)/\(va=false->r.length=kz+1)/\e.key=n8 ka kz (f i)/\e.val=n8 va (r.length-kz) (fun j=>f i (kz+j))
theorem AQ.iter{E:Array MapEntry}{ck kz:Nat}{ka va:Bool}{es:List (List AV)}{f:Nat->Nat->Value}(h:AQ E ck kz ka va es f):rW E ck kz ka va es f:=⟨h.size,h.born,h.apart,h.row⟩
inductive PR (S:Nat->Nat->Prop) (w:World):Value->AV->Prop where
 | bool (b:Bool):PR S w (.bool b) (.bool b)
 | int (k:IntKind) (n:Int):PR S w (.int k n) (.int k n)
 | str (s:ByteArray) (l:List UInt8) (h:s.data.toList=l):PR S w (.string s) (.str l)
 | any (v:Value) (h:v.oneCell'=true):PR S w v .any
 | cJ:PR S w (.pointer none) .cJ
 | cr:PR S w (.map none) .cr
 | bU:PR S w .nilFunc .bU
 | bt:PR S w .nilIface .bt
 | func (f:Fn):PR S w (.func f #[] #[]) (.func f [] [])
 | iface (t:TypeId) (v:Value) (x:AV) (h:PR S w v x):PR S w (.iface t v) (.iface t x)
 | cy:PR S w (.slice none 0 0) (.slice [] false)
 | ay:PR S w (.slice none 0 0) .ay
 | slice (b o n cap sz:Nat) (e:List (List AV)) (f:Nat->Nat->Value) (hn:e.length=n) (ig:n<=cap)
   (bp:∀ (i:Nat) (r:List AV),e[i]?=some r->r.length=sz)
   (bI:∀ (i j:Nat) (r:List AV) (x:AV),e[i]?=some r->r[j]?=some x->S b (o+i*sz+j)/\w.cell? ⟨b,o+i*sz+j,none⟩=some (f i j)/\(f i j).oneCell'=true)
   (bX:∀ (i j:Nat) (r:List AV) (x:AV),e[i]?=some r->r[j]?=some x->PR S w (f i j) x) :
   PR S w (.slice (some ⟨b,o,none⟩) n cap) (.slice e false)
 | eptr (b o:Nat) (cs:List AV) (f:Nat->Value)
   (bI:∀ (j:Nat) (x:AV),cs[j]?=some x->S b (o+j)/\w.cell? ⟨b,o+j,none⟩=some (f j)/\(f j).oneCell'=true)
   (bX:∀ (j:Nat) (x:AV),cs[j]?=some x->PR S w (f j) x) :
   PR S w (.pointer (some ⟨b,o,none⟩)) (.eptr cs)
 | di (b kz:Nat) (ka va:Bool) (es:List (List AV)) (E:Array MapEntry) (ck:Nat) (f:Nat->Nat->Value) (hS:S b 0) (hb:w.heap[b]?=some (.map E ck)) (hE:AQ E ck kz ka va es f)
   (bX:∀ (i j:Nat) (r:List AV) (x:AV),es[i]?=some r->r[j]?=some x->PR S w (f i j) x):PR S w (.map (some b)) (.di kz ka va es)
 | l9 (b kz:Nat) (ka va:Bool) (es rS:List (List AV)) (E:Array MapEntry) (ck:Nat) (f:Nat->Nat->Value) (hS:S b 0) (hb:w.heap[b]?=some (.map E ck)) (hE:rW E ck kz ka va rS f) (hp:rS.Perm es)
   (bX:∀ (i j:Nat) (r:List AV) (x:AV),rS[i]?=some r->r[j]?=some x->PR S w (f i j) x):PR S w (.map (some b)) (.l9 kz ka va es)
theorem PR.dv{S:Nat->Nat->Prop}{w:World}{v:Value}{x:AV}(h:PR S w v x):v.oneCell'=true:=by
 cases h<;>first|rfl|assumption
theorem PR.mono{S S' : Nat->Nat->Prop}{w w' : World}(hS:∀ b o,S b o->S' b o)(hc:∀ b o,S b o->w'.cell? ⟨b,o,none⟩=w.cell? ⟨b,o,none⟩)
  (hm:∀ b E ck,S b 0->w.heap[b]?=some (.map E ck)->w'.heap[b]?=some (.map E ck))
  {v:Value} {x:AV} (h:PR S w v x):PR S' w' v x:=by
 induction h with
 | bool b=>exact .bool b
 | int k n=>exact .int k n
 | str s l h=>exact .str s l h
 | any v h=>exact .any v h
 | cJ=>exact .cJ
 | cr=>exact .cr
 | bU=>exact .bU
 | bt=>exact .bt
 | func f=>exact .func f
 | iface t v x _ ih=>exact .iface t v x ih
 | cy=>exact .cy
 | ay=>exact .ay
 | slice b o n cap sz e f hn ig bp bI _ ih =>
  exact .slice b o n cap sz e f hn ig bp (fun i j r x h1 h2=>by
   obtain⟨a,c,d⟩:=bI i j r x h1 h2
   exact⟨hS _ _ a,(hc _ _ a).trans c,d⟩) ih
 | eptr b o cs f bI _ ih =>
  exact .eptr b o cs f (fun j x h=>by
   obtain⟨a,c,d⟩:=bI j x h
   exact⟨hS _ _ a,(hc _ _ a).trans c,d⟩) ih
 | di b kz ka va es E ck f h1 h2 h3 _ ih=>exact .di b kz ka va es E ck f (hS _ _ h1) (hm _ _ _ h1 h2) h3 ih
 | l9 b kz ka va es rS E ck f h1 h2 h3 h4 _ ih=>exact .l9 b kz ka va es rS E ck f (hS _ _ h1) (hm _ _ _ h1 h2) h3 h4 ih
def nj(w:World)(b:Nat)(ty:TypeId)(n:Nat):Prop:=∃ C fr,w.heap[b]?=some (.cells C ty fr)/\C.size=n
inductive VR (gh:Gh) (n:Nat) (w:World):Value->AV->Prop where
 | plain (v:Value) (x:AV) (h:PR gh.S w v x):VR gh n w v x
 | full (a:Option Addr) (k:Nat) (e:List (List AV)) (h:PR gh.S w (.slice a k k) (.slice e false)) (hz:∀ ad,a=some ad->e=[]->ad.block<w.heap.size):VR gh n w (.slice a k k) (.slice e true)
 | ref (loc off:Nat) (h:loc<n):VR gh n w (.pointer (some ⟨gh.ρ loc,off,none⟩)) (.ref loc off)
 | sref (loc off k cap z:Nat) (h:loc<n) (hk:k<=cap) (hz:z≠0->∃ ty,nj w (gh.ρ loc) ty (off+cap*z)):VR gh n w (.slice (some ⟨gh.ρ loc,off,none⟩) k cap) (.sref loc off k z)
 | mref (loc:Nat) (h:loc<n):VR gh n w (.map (some (gh.ρ loc))) (.mref loc)
 | func (f:Fn) (fs cs:Array Value) (xs ys:List AV) (hf:fs.size=xs.length) (hc:cs.size=ys.length)
   (h1:∀ (j:Nat) (v:Value) (x:AV),fs[j]?=some v->xs[j]?=some x->VR gh n w v x)
   (h2:∀ (j:Nat) (v:Value) (x:AV),cs[j]?=some v->ys[j]?=some x->VR gh n w v x):VR gh n w (.func f fs cs) (.func f xs ys)
 | iface (t:TypeId) (v:Value) (x:AV) (h:VR gh n w v x):VR gh n w (.iface t v) (.iface t x)
 | agg (cs:Array Value) (xs:List AV) (hs:cs.size=xs.length)
   (dY:∀ (j:Nat) (v:Value),cs[j]?=some v->v.oneCell'=true)
   (h:∀ (j:Nat) (v:Value) (x:AV),cs[j]?=some v->xs[j]?=some x->VR gh n w v x):VR gh n w (.agg cs) (.agg xs)
 | tuple (vs:Array Value) (xs:List AV) (hs:vs.size=xs.length)
   (h:∀ (j:Nat) (v:Value) (x:AV),vs[j]?=some v->xs[j]?=some x->VR gh n w v x):VR gh n w (.tuple vs) (.tuple xs)
def Kept(S:Nat->Prop)(x y:Option Obj):Prop :=
 y=x\/∃ C ty lo hi lo' ku,x=some (.cells C ty (lo,hi))/\y=some (.cells C ty (lo',ku))/\(∃ o n,S o/\C[o]?=some (Value.int .u8 n))/\∀ m,hi<=m->(∀ o,m<=o->¬ S o)->ku<=m
theorem Kept.none{S:Nat->Prop}{x y:Option Obj}(h:Kept S x y)(hS:∀ o,¬ S o):y=x:=by
 rcases h with h|⟨_,_,_,_,_,_,_,_,⟨o,_,ho,_⟩,_⟩
 ·exact h
 ·exact absurd ho (hS o)
theorem Kept.trans{S T:Nat->Prop}{x y z:Option Obj}(h:Kept S x y)(h' : Kept T y z)(hT:∀ o,T o->S o):Kept S x z:=by
 rcases h with rfl|⟨C,ty,lo,hi,lo',ku,h1,h2,h3,h4⟩
 ·rcases h' with rfl|⟨C,ty,lo,hi,lo',ku,h1,h2,⟨o,n,ho,hn⟩,h4⟩
  ·exact .inl rfl
  ·exact .inr ⟨C,ty,lo,hi,lo',ku,h1,h2,⟨o,n,hT o ho,hn⟩,fun m hm hS=>h4 m hm (fun o ho ht=>hS o ho (hT o ht))⟩
 ·rcases h' with rfl|⟨C2,ty2,lo2,uw,lo3,hi3,k1,k2,_,k4⟩
  ·exact .inr ⟨C,ty,lo,hi,lo',ku,h1,h2,h3,h4⟩
  ·rw[h2] at k1
   injection k1 with k1
   injection k1 with e1 e2 e3
   injection e3 with e3 e4
   subst e1 e2 e3 e4
   exact .inr ⟨C,ty,lo,hi,lo3,hi3,h1,k2,h3,fun m hm hS=>k4 m (h4 m hm hS) (fun o ho ht=>hS o ho (hT o ht))⟩
structure Step (touch:aW->Prop) (n:Nat) (gh:Gh) (w:World) (aD:Gh) (w' : World):Prop where
 S:∀ b o,gh.S b o->aD.S b o
 cell:∀ b o,gh.S b o->w'.cell? ⟨b,o,none⟩=w.cell? ⟨b,o,none⟩
 size:w.heap.size<=w'.heap.size
 os:w'.os=w.os
 tape:w'.tape=w.tape
 output:w'.output=w.output
 xB:∀ b,b<w.heap.size->¬ touch (gh.κ b)->Kept (gh.S b) (w.heap[b]?) (w'.heap[b]?)/\aD.κ b=gh.κ b/\∀ o,aD.S b o->gh.S b o
 fresh:∀ b,w.heap.size<=b->aD.κ b≠.outer
 ρ:∀ loc,loc<n->aD.ρ loc=gh.ρ loc
 len:∀ b ty m,nj w b ty m->nj w' b ty m
 mp:∀ b E ck,gh.S b 0->w.heap[b]?=some (.map E ck)->w'.heap[b]?=some (.map E ck)
theorem Step.refl(touch:aW->Prop)(n:Nat)(gh:Gh)(w:World)(hf:∀ b,w.heap.size<=b->gh.κ b≠.outer):Step touch n gh w gh w :=
 ⟨fun _ _ h=>h,fun _ _ _=>rfl,ahQ _,rfl,rfl,rfl,fun _ _ _=>⟨.inl rfl,rfl,fun _ h=>h⟩,hf,fun _ _=>rfl,fun _ _ _ h=>h,fun _ _ _ _ h=>h⟩
theorem Step.mono{touch Pb:aW->Prop}{n:Nat}{gh aD:Gh}{w w' : World}(h:Step touch n gh w aD w')(ht:∀ p,touch p->Pb p):Step Pb n gh w aD w' :=
 { h with xB:=fun b hb hn=>h.xB b hb (fun x=>hn (ht _ x)) }
theorem VR.mono{touch:aW->Prop}{n n' : Nat}{gh aD:Gh}{w w' : World}(st:Step touch n gh w aD w')(hn:n<=n')
  {v:Value} {x:AV} (h:VR gh n w v x):VR aD n' w' v x:=by
 induction h with
 | plain v x h=>exact .plain v x (h.mono st.S st.cell st.mp)
 | full a k e h hz=>exact .full a k e (h.mono st.S st.cell st.mp) (fun ad ha he=>aiP (hz ad ha he) st.size)
 | ref loc off h=>rw[<- st.ρ loc h];exact .ref loc off (aiP h hn)
 | sref loc off k cap z h hk hz=>rw[<- st.ρ loc h];exact .sref loc off k cap z (aiP h hn) hk (fun h0=>(hz h0).imp fun ty hb=>by rw[st.ρ loc h];exact st.len _ _ _ hb)
 | mref loc h=>rw[<- st.ρ loc h];exact .mref loc (aiP h hn)
 | func f fs cs xs ys hf hc _ _ ih1 ih2=>exact .func f fs cs xs ys hf hc ih1 ih2
 | iface t v x _ ih=>exact .iface t v x ih
 | agg cs xs hs dY _ ih=>exact .agg cs xs hs dY ih
 | tuple vs xs hs _ ih=>exact .tuple vs xs hs ih
def GY(gh:Gh)(w:World)(p:aW)(v:Value)(e:List (List AV)):Prop :=
 ∃ b cap C ty lo hi sz,v=.slice (some ⟨b,0,none⟩) e.length cap/\gh.κ b=p/\e≠[]/\w.heap[b]?=some (.cells C ty (lo,hi))/\C.size=cap*sz /\
  (∀ (i:Nat) (r:List AV),e[i]?=some r->r.length=sz)/\e.length<=cap/\hi<=e.length*sz/\(∀ o,e.length*sz<=o->¬ gh.S b o)
theorem GY.mono{touch:aW->Prop}{n:Nat}{gh aD:Gh}{w w' : World}(st:Step touch n gh w aD w'){p:aW}(hp:¬ touch p)
  {v:Value} {e:List (List AV)} (h:GY gh w p v e):GY aD w' p v e:=by
 obtain⟨b,cap,C,ty,lo,hi,sz,hv,hk,he,hb,hC,hr,hl,hh,hS⟩:=h
 have aZ:b<w.heap.size:=(ahT.1 hb).1
 obtain⟨h1,h2,h3⟩:=st.xB b aZ (by rw[hk];exact hp)
 rcases h1 with h1|⟨C',j7,lo1,hi1,lo',ku,k1,k2,_,k4⟩
 ·exact⟨b,cap,C,ty,lo,hi,sz,hv,by rw[h2,hk],he,by rw[h1,hb],hC,hr,hl,hh,fun o ho hs=>hS o ho (h3 o hs)⟩
 ·rw[hb] at k1
  injection k1 with k1
  injection k1 with e1 e2 e3
  injection e3 with e3 e4
  subst e1 e2 e3 e4
  exact⟨b,cap,C,ty,lo',ku,sz,hv,by rw[h2,hk],he,k2,hC,hr,hl,k4 _ hh hS,fun o ho hs=>hS o ho (h3 o hs)⟩
def CR(gh:Gh)(n:Nat)(w:World)(p:aW)(v:Value)(x:AV):Prop :=
 VR gh n w v x\/∃ e,x=.slice e true/\PR gh.S w v (.slice e false)/\GY gh w p v e
theorem CR.mono{touch:aW->Prop}{n n' : Nat}{gh aD:Gh}{w w' : World}(st:Step touch n gh w aD w')(hn:n<=n'){p:aW}(hp:¬ touch p)
  {v:Value} {x:AV} (h:CR gh n w p v x):CR aD n' w' p v x:=by
 rcases h with h|⟨e,rfl,h1,h2⟩
 ·exact .inl (h.mono st hn)
 ·exact .inr ⟨e,rfl,h1.mono st.S st.cell st.mp,h2.mono st hp⟩
theorem CR.dropped{gh:Gh}{n:Nat}{w:World}{p:aW}{v:Value}{x:AV}(h:CR gh n w p v x):VR gh n w v x.drop:=by
 rcases h with h|⟨e,rfl,h1,_⟩
 ·cases h with
  | plain v x h =>
   cases x<;>try exact .plain _ _ h
   cases h<;>first|exact .plain _ _ .cy|exact .plain _ _ (.slice _ _ _ _ _ _ _ ‹_› ‹_› ‹_› ‹_› ‹_›)
  | full a k e h=>exact .plain _ _ h
  | ref loc off h=>exact .ref loc off h
  | sref loc off k cap z h hk hz=>exact .sref loc off k cap z h hk hz
  | mref loc h=>exact .mref loc h
  | func f fs cs xs ys hf hc h1 h2=>exact .func f fs cs xs ys hf hc h1 h2
  | iface t v x h=>exact .iface t v x h
  | agg cs xs hs dY h=>exact .agg cs xs hs dY h
  | tuple vs xs hs h=>exact .tuple vs xs hs h
 ·exact .plain _ _ h1
theorem VR.dropped{gh:Gh}{n:Nat}{w:World}{v:Value}{x:AV}(h:VR gh n w v x):VR gh n w v x.drop:=CR.dropped (p:=.none) (.inl h)
def fH(gh:Gh)(n:Nat)(w:World)(b:Nat)(p:aW)(q:Nat->aW)(cs:List AV):Prop :=
 gh.κ b=p/\(∀ o,¬ gh.S b o)/\∃ C ty,w.heap[b]?=some (.cells C ty (0,0))/\cs.length<=C.size /\
  ∀ (j:Nat) (v:Value) (x:AV),C[j]?=some v->cs[j]?=some x->v.oneCell'=true/\CR gh n w (q j) v x
theorem fH.mono{touch:aW->Prop}{n n' : Nat}{gh aD:Gh}{w w' : World}(st:Step touch n gh w aD w')(hn:n<=n'){b:Nat}{p:aW}{q:Nat->aW}
  (hp:¬ touch p) (hq:∀ j,¬ touch (q j)) {cs:List AV} (h:fH gh n w b p q cs):fH aD n' w' b p q cs:=by
 obtain⟨hk,hS,C,ty,hb,hC,fq⟩:=h
 have aZ:b<w.heap.size:=(ahT.1 hb).1
 obtain⟨h1,h2,h3⟩:=st.xB b aZ (by rw[hk];exact hp)
 have h1:=h1.none hS
 exact⟨by rw[h2,hk],fun o ho=>hS o (h3 o ho),C,ty,by rw[h1,hb],hC,fun j v x hv hx=>⟨(fq j v x hv hx).1,(fq j v x hv hx).2.mono st hn (hq j)⟩⟩
def oc(gh:Gh)(w:World)(p:aW)(v:Value)(e:List (List AV)):Prop :=
 ∃ a cap,v=.slice a e.length cap/\((e=[]/\cap=0/\∀ ad,a=some ad->ad.spot=none/\ad.block<w.heap.size)\/∃ b C ty sz,e≠[]/\a=some ⟨b,0,none⟩/\gh.κ b=p/\(∀ o,¬ gh.S b o)/\w.heap[b]?=some (.cells C ty (0,0))/\C.size=cap*sz /\
  e.length<=cap/\(∀ (i:Nat) (r:List AV),e[i]?=some r->r.length=sz) /\
  ∀ (i j:Nat) (r:List AV) (x:AV),e[i]?=some r->r[j]?=some x->∃ u,C[i*sz+j]?=some u/\PR gh.S w u x)
theorem oc.mono{touch:aW->Prop}{n:Nat}{gh aD:Gh}{w w' : World}(st:Step touch n gh w aD w'){p:aW}(hp:¬ touch p)
  {v:Value} {e:List (List AV)} (h:oc gh w p v e):oc aD w' p v e:=by
 obtain⟨a,cap,hv,h⟩:=h
 refine⟨a,cap,hv,?_⟩
 rcases h with h|⟨b,C,ty,sz,cS,ha,hk,hS,hb,hC,hl,hr,fq⟩
 ·exact .inl ⟨h.1,h.2.1,fun ad ha=>⟨(h.2.2 ad ha).1,aiP (h.2.2 ad ha).2 st.size⟩⟩
 ·have aZ:b<w.heap.size:=(ahT.1 hb).1
  obtain⟨h1,h2,h3⟩:=st.xB b aZ (by rw[hk];exact hp)
  have h1:=h1.none hS
  exact .inr ⟨b,C,ty,sz,cS,ha,by rw[h2,hk],fun o ho=>hS o (h3 o ho),by rw[h1,hb],hC,hl,hr,fun i j r x hi hj=>by
   obtain⟨u,hu,hp⟩:=fq i j r x hi hj
   exact⟨u,hu,hp.mono st.S st.cell st.mp⟩⟩
def xy(gh:Gh)(n:Nat)(w:World)(b:Nat)(p:aW)(q:Nat->aW)(kz:Nat)(ka va:Bool)(es:List (List AV)):Prop :=
 gh.κ b=p/\(∀ o,¬ gh.S b o)/\∃ E ck f,w.heap[b]?=some (.map E ck)/\AQ E ck kz ka va es f /\
  (∀ (i j:Nat) (r:List AV) (x:AV),es[i]?=some r->r[j]?=some x->j<kz->PR gh.S w (f i j) x) /\
  ∀ (i j:Nat) (r:List AV) (x:AV),es[i]?=some r->r[j]?=some x->kz<=j->(f i j).oneCell'=true/\(va=true->VR gh n w (f i j) x)/\CR gh n w (q i) (f i j) x
theorem xy.mono{touch:aW->Prop}{n n' : Nat}{gh aD:Gh}{w w' : World}(st:Step touch n gh w aD w')(hn:n<=n'){b:Nat}{p:aW}{q:Nat->aW}(hp:¬ touch p)(hq:∀ i,¬ touch (q i))
  {kz:Nat} {ka va:Bool} {es:List (List AV)} (h:xy gh n w b p q kz ka va es):xy aD n' w' b p q kz ka va es:=by
 obtain⟨hk,hS,E,ck,f,hb,hE,h1,h2⟩:=h
 have aZ:b<w.heap.size:=(ahT.1 hb).1
 obtain⟨k1,k2,k3⟩:=st.xB b aZ (by rw[hk];exact hp)
 have k1:=k1.none hS
 exact⟨by rw[k2,hk],fun o ho=>hS o (k3 o ho),E,ck,f,by rw[k1,hb],hE,fun i j r x hi hj hl=>(h1 i j r x hi hj hl).mono st.S st.cell st.mp,
  fun i j r x hi hj hl=>⟨(h2 i j r x hi hj hl).1,fun hv=>((h2 i j r x hi hj hl).2.1 hv).mono st hn,(h2 i j r x hi hj hl).2.2.mono st hn (hq i)⟩⟩
def pV(gh:Gh)(n:Nat)(w:World)(b loc:Nat):dm->Prop
 | .map kz ka va es=>xy gh n w b (.hb loc) (fun i=>.hs loc i) kz ka va es/\(es.all fun r=>r.all (aR loc))=true
 | .di kz ka va es=>PR gh.S w (.map (some b)) (.di kz ka va es)
 | .Fq cs=>PR gh.S w (.pointer (some ⟨b,0,none⟩)) (.eptr cs)
 | .dM cs=>fH gh n w b (.hb loc) (fun j=>.hs loc j) cs
 | _=>True
theorem pV.mono{touch:aW->Prop}{n n' : Nat}{gh aD:Gh}{w w' : World}(st:Step touch n gh w aD w')(hn:n<=n'){b loc:Nat}(hp:¬ touch (.hb loc))(hq:∀ i,¬ touch (.hs loc i))
  {o:dm} (h:pV gh n w b loc o):pV aD n' w' b loc o:=by
 cases o with
 | map kz ka va es=>exact⟨h.1.mono st hn hp hq,h.2⟩
 | di kz ka va es=>exact PR.mono st.S st.cell st.mp h
 | Fq cs=>exact PR.mono st.S st.cell st.mp h
 | dM cs=>exact fH.mono st hn hp hq h
 | _=>trivial
def rV(gh:Gh)(w:World)(b:Nat)(p:aW)(kz:Nat)(ka va:Bool)(cur:List AV)(todo:List (List AV)):Prop :=
 gh.κ b=p/\(∀ o,¬ gh.S b o)/\∃ (m:Option Nat) (since:Nat) (seen:Array Nat) (last:Nat),w.heap[b]?=some (.mapIter m since seen last) /\
  ((m=none/\todo=[]/\seen=#[]/\cur=[])\/∃ m0 E es ck f,m=some m0/\gh.S m0 0/\w.heap[m0]?=some (.map E ck)/\rW E ck kz ka va es f/\since=ck/\last=ck /\
   (∀ (i j:Nat) (r:List AV) (x:AV),es[i]?=some r->r[j]?=some x->PR gh.S w (f i j) x) /\
   ((seen.back?=none/\cur=[])\/∃ (s i:Nat) (e:MapEntry),seen.back?=some s/\E[i]?=some e/\e.born=s/\es[i]?=some cur) /\
   todo.Perm (((E.toList.zip es).filter fun p=>!seen.contains p.1.born).map (·.2)))
theorem rV.mono{touch:aW->Prop}{n:Nat}{gh aD:Gh}{w w' : World}(st:Step touch n gh w aD w'){b:Nat}{p:aW}(hp:¬ touch p)
  {kz:Nat} {ka va:Bool} {cur:List AV} {todo:List (List AV)} (h:rV gh w b p kz ka va cur todo):rV aD w' b p kz ka va cur todo:=by
 obtain⟨hk,hS,m,since,seen,last,hb,h⟩:=h
 have aZ:b<w.heap.size:=(ahT.1 hb).1
 obtain⟨k1,k2,k3⟩:=st.xB b aZ (by rw[hk];exact hp)
 have k1:=k1.none hS
 refine⟨by rw[k2,hk],fun o ho=>hS o (k3 o ho),m,since,seen,last,by rw[k1,hb],?_⟩
 rcases h with h|⟨m0,E,es,ck,f,h1,h2,h3,h4,h5,h6,h7,h8,h9⟩
 ·exact .inl h
 ·exact .inr ⟨m0,E,es,ck,f,h1,st.S _ _ h2,st.mp _ _ _ h2 h3,h4,h5,h6,fun i j r x hi hj=>(h7 i j r x hi hj).mono st.S st.cell st.mp,h8,h9⟩
def SR(gh:Gh)(n nt:Nat)(w:World)(T:aA)(gen:Nat)(tm:Nat->Value)(i:Nat)(v:Value)(x:AV):Prop :=
 match x with
 | .lbox g cs=>g<gen/\∃ b,v=.pointer (some ⟨b,0,none⟩)/\fH gh n w b (.bx i) (fun j=>.sc i j) cs
 | .lsl g e=>g<gen/\oc gh w (.bx i) v e
 | .lref s g off=>s<nt/\g<gen/\(aQ (T s)=some g->∀ b,tm s=.pointer (some ⟨b,0,none⟩)->v=.pointer (some ⟨b,off,none⟩))
 | .lsr s g=>s<nt/\g<gen/\(aQ (T s)=some g->v=tm s)
 | .eref s g r z off=>s<nt/\g<gen/\(aQ (T s)=some g->∀ b k cap,tm s=.slice (some ⟨b,0,none⟩) k cap->v=.pointer (some ⟨b,r*z+off,none⟩))
 | .iter g kz ka va cur todo=>g<gen/\∃ b,v=.pointer (some ⟨b,0,none⟩)/\rV gh w b (.bx i) kz ka va cur todo
 | x=>CR gh n w (.sl i) v x
structure aF (G:Nat->List AV) (base:Nat) (H:ag) (gh:Gh) (w:World):Prop where
 size:base<=w.heap.size
 lX:∀ b o,gh.S b o->b<w.heap.size
 mH:∀ b,gh.κ b≠.none->base<=b/\b<w.heap.size
 aP:∀ (g j:Nat) (x:AV),(G g)[j]?=some x->∃ v,w.cell? ⟨g,j,none⟩=some v/\PR gh.S w v x/\gh.S g j
 boxes:∀ (loc:Nat) (ty:TypeId) (cs:List AV),H[loc]?=some (dm.box ty cs)->fH gh H.length w (gh.ρ loc) (.hb loc) (fun j=>.hs loc j) cs
 refs:∀ (loc:Nat) (ty:TypeId) (cs:List AV),H[loc]?=some (dm.box ty cs)->cs.all (aR loc)=true
 uj:∀ g,G g≠[]->∃ ty,nj w g ty (G g).length
 bytes:∀ b o n,gh.S b o->w.cell? ⟨b,o,none⟩=some (.int .u8 n)->∃ C fr,w.heap[b]?=some (.cells C fQ fr)
 more:∀ (loc:Nat) (o:dm),H[loc]?=some o->pV gh H.length w (gh.ρ loc) loc o
 types:∀ (loc:Nat) (ty:TypeId) (cs:List AV),H[loc]?=some (dm.box ty cs)->ty≠cN->nj w (gh.ρ loc) ty cs.length
structure ach (nt:Nat) (gh:Gh) (w:World) (a:Act) (s:AS):Prop where
 defers:a.defers=[]
 size:a.tmps.size=nt
 slot:∀ i,i<nt->SR gh s.H.length nt w s.T s.gen (fun k=>a.tmps.getD k undef) i (a.tmps.getD i undef) (s.T i)
theorem aF.iY{G:Nat->List AV}{base:Nat}{H:ag}{gh aD:Gh}{w w' : World}{touch:aW->Prop}{n:Nat}(h:aF G base H gh w)(st:Step touch n gh w aD w')
  (mb:∀ b o m,aD.S b o->gh.S b o\/(w'.cell? ⟨b,o,none⟩=some (.int .u8 m)->∃ C fr,w'.heap[b]?=some (.cells C fQ fr))) :
  ∀ b o m,aD.S b o->w'.cell? ⟨b,o,none⟩=some (.int .u8 m)->∃ C fr,w'.heap[b]?=some (.cells C fQ fr):=by
 intro b o m hs hc
 rcases mb b o m hs with ho|hn
 ·obtain⟨C,fr,h1⟩:=h.bytes b o m ho (by rw[<- st.cell b o ho];exact hc)
  obtain⟨C',ZD,h2,_⟩:=st.len b fQ C.size ⟨C,fr,h1,rfl⟩
  exact⟨C',ZD,h2⟩
 ·exact hn hc
theorem aF.fresh{G:Nat->List AV}{base:Nat}{H:ag}{gh:Gh}{w:World}(h:aF G base H gh w)(b:Nat)(hb:w.heap.size<=b):gh.κ b=.none:=by
 by_cases hk:gh.κ b=.none
 ·exact hk
 ·have:=(h.mH b hk).2;omega
theorem SR.mono{touch:aW->Prop}{n n' nt:Nat}{gh aD:Gh}{w w' : World}(st:Step touch n gh w aD w')(hn:n<=n'){T T' : aA}{gen gen' : Nat}(hg:gen<=gen')
  {tm tm' : Nat->Value} {i:Nat} (h1:¬ touch (.bx i)) (h2:¬ touch (.sl i)) (h3:∀ j,¬ touch (.sc i j))
  (hT:∀ s,s<nt->(aQ (T' s)=aQ (T s)/\tm' s=tm s)\/aQ (T' s)=none\/∃ g,gen<=g/\aQ (T' s)=some g)
  {v:Value} {x:AV} (h:SR gh n nt w T gen tm i v x):SR aD n' nt w' T' gen' tm' i v x:=by
 have key:∀ s g,s<nt->g<gen->aQ (T' s)=some g->aQ (T s)=some g/\tm' s=tm s:=by
  intro s g hs AL vw
  rcases hT s hs with ⟨h,h'⟩|h|⟨g',hg',h⟩
  ·exact⟨h ▸ vw,h'⟩
  ·rw[h] at vw;cases vw
  ·rw[h] at vw;injection vw with e;omega
 cases x
 case lbox g cs =>
  obtain⟨FN,b,hv,hb⟩:=h
  exact⟨by omega,b,hv,hb.mono st hn h1 h3⟩
 case lsl g e=>exact⟨by have:=h.1;omega,h.2.mono st h1⟩
 case iter g kz ka va cur todo =>
  obtain⟨FN,b,hv,hb⟩:=h
  exact⟨by omega,b,hv,hb.mono st h1⟩
 case lref s g off =>
  obtain⟨hs,FN,hr⟩:=h
  refine⟨hs,by omega,fun vw b hb=>?_⟩
  obtain⟨k1,k2⟩:=key s g hs FN vw
  exact hr k1 b (k2 ▸ hb)
 case lsr s g =>
  obtain⟨hs,FN,hr⟩:=h
  refine⟨hs,by omega,fun vw=>?_⟩
  obtain⟨k1,k2⟩:=key s g hs FN vw
  rw[k2];exact hr k1
 case eref s g r z off =>
  obtain⟨hs,FN,hr⟩:=h
  refine⟨hs,by omega,fun vw b k cap hb=>?_⟩
  obtain⟨k1,k2⟩:=key s g hs FN vw
  exact hr k1 b k cap (k2 ▸ hb)
 all_goals exact CR.mono st hn h2 h
def nh(p:aW):Prop:=p≠.none/\p≠.outer
structure Ext (n:Nat) (gh:Gh) (w:World) (aD:Gh) (w' : World):Prop where
 step:Step nh n gh w aD w'
 out:∀ b,aD.κ b=.outer->gh.κ b=.outer
theorem Ext.refl(n:Nat)(gh:Gh)(w:World)(hf:∀ b,w.heap.size<=b->gh.κ b≠.outer):Ext n gh w gh w:=⟨Step.refl _ n gh w hf,fun _ h=>h⟩
theorem Ext.trans{n n' : Nat}{g1 g2 g3:Gh}{w1 w2 w3:World}(h:Ext n g1 w1 g2 w2)(h' : Ext n' g2 w2 g3 w3)(hn:n<=n'):Ext n g1 w1 g3 w3:=by
 refine⟨⟨fun b o hs=>h'.step.S b o (h.step.S b o hs),fun b o hs=>(h'.step.cell b o (h.step.S b o hs)).trans (h.step.cell b o hs),ait h.step.size h'.step.size,
  h'.step.os.trans h.step.os,h'.step.tape.trans h.step.tape,h'.step.output.trans h.step.output,?_,?_,fun loc hl=>(h'.step.ρ loc (aiP hl hn)).trans (h.step.ρ loc hl),fun b ty m hb=>h'.step.len b ty m (h.step.len b ty m hb),fun b E ck hs hb=>h'.step.mp b E ck (h.step.S b 0 hs) (h.step.mp b E ck hs hb)⟩,fun b hb=>h.out b (h'.out b hb)⟩
 ·intro b hb hnt
  obtain⟨a1,a2,a3⟩:=h.step.xB b hb hnt
  obtain⟨c1,c2,c3⟩:=h'.step.xB b (aiP hb h.step.size) (by rw[a2];exact hnt)
  exact⟨a1.trans c1 a3,c2.trans a2,fun o ho=>a3 o (c3 o ho)⟩
 ·intro b hb ho
  have:=h'.out b ho
  by_cases iV:w2.heap.size<=b
  ·exact h'.step.fresh b iV ho
  ·exact h.step.fresh b hb this
structure FR (L:List Nat) (nt:Nat) (gh:Gh) (w:World) (a:Act) (s:AS):Prop extends ach nt gh w a s where
 obj:∀ i,(aQ (s.T i)).isSome=true->i∈L
def dQ(a:Act)(k:Nat):Value:=a.tmps.getD k undef
theorem mo(a:Act)(d:Nat)(v:Value)(k:Nat)(hd:d<a.tmps.size):dQ (a.put (some d) v) k=if k=d then v else dQ a k:=by
 unfold dQ Act.put
 by_cases h:k=d
 ·subst h;simp[hd]
 ·simp[h,ajB (ajs h)]
theorem dV(a b:Nat):Nat.beq a b=decide (a=b):=by
 by_cases h:a=b
 ·subst h;simp
 ·have h1:Nat.beq a b≠true:=fun h'=>h (aiK h')
  rw[aiT h]
  exact Bool.eq_false_iff.2 h1
theorem gn(T:aA)(d:Nat)(v:AV)(k:Nat):T.put d v k=if k=d then v else T k:=by
 unfold aA.put
 rw[dV]
 by_cases h:k=d
 ·subst h;simp
 ·simp[h]
theorem FR.update{L:List Nat}{nt:Nat}{gh aD:Gh}{w w' : World}{a a' : Act}{s s' : AS}{touch:aW->Prop}(h:FR L nt gh w a s)
  (st:Step touch s.H.length gh w aD w') (Lo:a'.defers=[]) (fA:a'.tmps.size=nt) (hn:s.H.length<=s'.H.length) (hg:s.gen<=s'.gen)
  (D:Nat->Prop)
  (Lv:∀ i,¬ D i->s'.T i=s.T i/\(i<nt->dQ a' i=dQ a i/\¬ touch (.bx i)/\¬ touch (.sl i)/\∀ j,¬ touch (.sc i j)))
  (Z2:∀ i,D i->(i<nt/\aQ (s'.T i)=aQ (s.T i)/\dQ a' i=dQ a i)\/aQ (s'.T i)=none\/(i∈L/\∃ g,s.gen<=g/\aQ (s'.T i)=some g))
  (mb:∀ i,D i->i<nt->SR aD s'.H.length nt w' s'.T s'.gen (dQ a') i (dQ a' i) (s'.T i)):FR L nt aD w' a' s':=by
 have hT:∀ i,i<nt->(aQ (s'.T i)=aQ (s.T i)/\dQ a' i=dQ a i)\/aQ (s'.T i)=none\/∃ g,s.gen<=g/\aQ (s'.T i)=some g:=by
  intro i hi
  by_cases hD:D i
  ·rcases Z2 i hD with ⟨_,h⟩|h|⟨_,h⟩
   ·exact .inl h
   ·exact .inr (.inl h)
   ·exact .inr (.inr h)
  ·obtain⟨k1,k2⟩:=Lv i hD
   exact .inl ⟨by rw[k1],(k2 hi).1⟩
 refine⟨⟨Lo,fA,fun i hi=>?_⟩,fun i hi=>?_⟩
 ·by_cases hD:D i
  ·exact mb i hD hi
  ·obtain⟨k1,k2⟩:=Lv i hD
   obtain⟨k3,t1,t2,t3⟩:=k2 hi
   show SR aD s'.H.length nt w' s'.T s'.gen (dQ a') i (dQ a' i) (s'.T i)
   rw[k1,k3]
   exact SR.mono st hn hg t1 t2 t3 hT (h.slot i hi)
 ·by_cases hD:D i
  ·rcases Z2 i hD with ⟨_,h',_⟩|h'|⟨h',_⟩
   ·exact h.obj i (by rw[<- h'];exact hi)
   ·rw[h'] at hi;cases hi
   ·exact h'
  ·rw[(Lv i hD).1] at hi
   exact h.obj i hi
def k8(gh:Gh)(n nt:Nat)(w:World)(T:aA)(gen:Nat)(tm:Nat->Value)(v:Value)(x:AV):Prop :=
 match x with
 | .lbox ..|.lsl ..|.iter ..=>False
 | .lref s g off=>s<nt/\g<gen/\(aQ (T s)=some g->∀ b,tm s=.pointer (some ⟨b,0,none⟩)->v=.pointer (some ⟨b,off,none⟩))
 | .lsr s g=>s<nt/\g<gen/\(aQ (T s)=some g->v=tm s)
 | .eref s g r z off=>s<nt/\g<gen/\(aQ (T s)=some g->∀ b k cap,tm s=.slice (some ⟨b,0,none⟩) k cap->v=.pointer (some ⟨b,r*z+off,none⟩))
 | x=>VR gh n w v x
theorem k8.aQ{gh:Gh}{n nt:Nat}{w:World}{T:aA}{gen:Nat}{tm:Nat->Value}{v:Value}{x:AV}(h:k8 gh n nt w T gen tm v x):aQ x=none:=by
 cases x<;>first|rfl|exact h.elim
theorem k8.sr{gh:Gh}{n nt:Nat}{w:World}{T:aA}{gen:Nat}{tm:Nat->Value}{v:Value}{x:AV}(h:k8 gh n nt w T gen tm v x)(i:Nat):SR gh n nt w T gen tm i v x:=by
 cases x<;>first|exact h.elim|exact h|exact .inl h
theorem k8.cB{gh:Gh}{n nt:Nat}{w:World}{T:aA}{gen:Nat}{tm:Nat->Value}{v:Value}{x:AV}(h:VR gh n w v x):k8 gh n nt w T gen tm v x:=by
 cases h with
 | plain v x h=>have h0:=h;cases h<;>exact .plain _ _ h0
 | full a k e h hz=>exact .full a k e h hz
 | ref loc off h=>exact .ref loc off h
 | sref loc off k cap z h hk hz=>exact .sref loc off k cap z h hk hz
 | mref loc h=>exact .mref loc h
 | func f fs cs xs ys hf hc h1 h2=>exact .func f fs cs xs ys hf hc h1 h2
 | iface t v x h=>exact .iface t v x h
 | agg cs xs hs dY h=>exact .agg cs xs hs dY h
 | tuple vs xs hs h=>exact .tuple vs xs hs h
theorem gN(s:AS)(d:Option Nat)(x:AV):(s.b9 d x).H=s.H/\(s.b9 d x).gen=s.gen/\(s.b9 d x).lo=s.lo:=by cases d<;>exact⟨rfl,rfl,rfl⟩
theorem CU(a:Act)(d:Option Nat)(v:Value):(a.put d v).tmps.size=a.tmps.size:=by cases d<;>simp[Act.put]
theorem tL(a:Act)(d:Option Nat)(v:Value):(a.put d v).defers=a.defers:=by cases d<;>rfl
theorem FR.put{L:List Nat}{nt:Nat}{gh aD:Gh}{w w' : World}{a:Act}{s:AS}{H' : ag}{lo' : Nat}{touch:aW->Prop}(h:FR L nt gh w a s)(st:Step touch s.H.length gh w aD w')
  (ht:∀ i,¬ touch (.bx i)/\¬ touch (.sl i)/\∀ j,¬ touch (.sc i j)) (hH:s.H.length<=H'.length)
  (d:Option Nat) (hd:∀ k,d=some k->k<nt) {v:Value} {x:AV} (hv:k8 aD H'.length nt w' s.T s.gen (dQ a) v x) :
  FR L nt aD w' (a.put d v) (({ s with H:=H',lo:=lo' } : AS).b9 d x):=by
 cases d with
 | none =>
  exact h.update st h.defers h.size hH (ahQ _) (fun _=>False) (fun i _=>⟨rfl,fun _=>⟨rfl,ht i⟩⟩) (fun _ h=>h.elim) (fun _ h=>h.elim)
 | some d =>
  have aZ:=hd d rfl
  have fA:d<a.tmps.size:=by rw[h.size];exact aZ
  refine h.update (s':=({ s with H:=H',lo:=lo' } : AS).b9 (some d) x) st ((tL a (some d) v).trans h.defers) ((CU a (some d) v).trans h.size) hH (ahQ _) (fun i=>i=d) ?_ ?_ ?_
  ·intro i hi
   refine⟨by simp[AS.b9,AS.br,gn,hi],fun _=>⟨by rw[mo a d v i fA,if_neg hi],ht i⟩⟩
  ·rintro i rfl
   exact .inr (.inl (by simp[AS.b9,AS.br,gn];exact hv.aQ))
  ·rintro i rfl hi
   simp only[AS.b9,AS.br,gn,ai3]
   rw[mo a i v i fA,if_pos rfl]
   refine SR.mono (touch:=fun _=>False) (n:=H'.length) (gh:=aD) (w:=w') (Step.refl _ _ _ _ (fun b hb=>st.fresh b (ait st.size hb))) (ahQ _) (ahQ _) id id (fun _=>id) ?_ (hv.sr i)
   intro k hk
   by_cases J1:k=i
   ·subst J1;exact .inr (.inl (by simp[aA.put];exact hv.aQ))
   ·exact .inl ⟨by simp[gn,J1],by rw[mo a i v k fA,if_neg J1]⟩
section
section
variable {gh:Gh}{n:Nat}{w:World}{v:Value}
theorem VR.ik{b:Bool}(h:VR gh n w v (.bool b)):v=.bool b:=by cases h with|plain _ _ h=>cases h;rfl
theorem VR.gQ{k:IntKind}{m:Int}(h:VR gh n w v (.int k m)):v=.int k m:=by cases h with|plain _ _ h=>cases h;rfl
theorem VR.gS{l:List UInt8}(h:VR gh n w v (.str l)):∃ s:ByteArray,v=.string s/\s.data.toList=l:=by cases h with|plain _ _ h=>cases h;exact⟨_,rfl,‹_›⟩
theorem VR.rz(h:VR gh n w v .bt):v=.nilIface:=by cases h with|plain _ _ h=>cases h;rfl
theorem VR.tF(h:VR gh n w v .bU):v=.nilFunc:=by cases h with|plain _ _ h=>cases h;rfl
theorem VR.I'{t:TypeId}{x:AV}(h:VR gh n w v (.iface t x)):∃ u,v=.iface t u:=by
 cases h with
 | plain _ _ h=>cases h;exact⟨_,rfl⟩
 | iface _ _ _ _=>exact⟨_,rfl⟩
theorem VR.jU(h:VR gh n w v .ay):v=.slice none 0 0:=by cases h with|plain _ _ h=>cases h;rfl
theorem VR.fZ{e:List (List AV)}(h:VR gh n w v (.slice e false)):PR gh.S w v (.slice e false):=by cases h with|plain _ _ h=>exact h
theorem VR.ry{cs:List AV}(h:VR gh n w v (.eptr cs)):PR gh.S w v (.eptr cs):=by cases h with|plain _ _ h=>exact h
theorem VR.gR{loc off:Nat}(h:VR gh n w v (.ref loc off)):loc<n/\v=.pointer (some ⟨gh.ρ loc,off,none⟩):=by
 cases h with
 | plain _ _ h=>cases h
 | ref _ _ h=>exact⟨h,rfl⟩
theorem VR.il{loc off k z:Nat}(h:VR gh n w v (.sref loc off k z)):loc<n/\∃ cap,k<=cap/\(z≠0->∃ ty,nj w (gh.ρ loc) ty (off+cap*z))/\v=.slice (some ⟨gh.ρ loc,off,none⟩) k cap:=by
 cases h with
 | plain _ _ h=>cases h
 | sref _ _ _ cap _ h hk hz=>exact⟨h,cap,hk,hz,rfl⟩
theorem VR.lM{loc:Nat}(h:VR gh n w v (.mref loc)):loc<n/\v=.map (some (gh.ρ loc)):=by
 cases h with
 | plain _ _ h=>cases h
 | mref _ h=>exact⟨h,rfl⟩
theorem VR.oH{f:Fn}{xs ys:List AV}(h:VR gh n w v (.func f xs ys)):∃ fs cs,v=.func f fs cs/\fs.size=xs.length/\cs.size=ys.length /\
  (∀ (j:Nat) (v:Value) (x:AV),fs[j]?=some v->xs[j]?=some x->VR gh n w v x)/\(∀ (j:Nat) (v:Value) (x:AV),cs[j]?=some v->ys[j]?=some x->VR gh n w v x):=by
 cases h with
 | plain _ _ h=>cases h;exact⟨#[],#[],rfl,rfl,rfl,fun j v x h=>by simp at h,fun j v x h=>by simp at h⟩
 | func _ fs cs _ _ hf hc h1 h2=>exact⟨fs,cs,rfl,hf,hc,h1,h2⟩
theorem VR.iW{xs:List AV}(h:VR gh n w v (.agg xs)):∃ cs:Array Value,v=.agg cs/\cs.size=xs.length/\(∀ (j:Nat) (v:Value),cs[j]?=some v->v.oneCell'=true) /\
  (∀ (j:Nat) (v:Value) (x:AV),cs[j]?=some v->xs[j]?=some x->VR gh n w v x):=by
 cases h with
 | plain _ _ h=>cases h
 | agg cs _ hs dY h=>exact⟨cs,rfl,hs,dY,h⟩
theorem VR.pf{xs:List AV}(h:VR gh n w v (.tuple xs)):∃ vs:Array Value,v=.tuple vs/\vs.size=xs.length /\
  (∀ (j:Nat) (v:Value) (x:AV),vs[j]?=some v->xs[j]?=some x->VR gh n w v x):=by
 cases h with
 | plain _ _ h=>cases h
 | tuple vs _ hs h=>exact⟨vs,rfl,hs,h⟩
theorem VR.Ja(h:VR gh n w v .undef):v=undef:=by
 obtain⟨vs,rfl,hs,_⟩:=h.pf
 have:vs=#[]:=ajE (by simpa using hs)
 subst this;rfl
end
theorem VR.undef{gh:Gh}{n:Nat}{w:World} : VR gh n w undef .undef:=.tuple #[] [] rfl (fun j v x h=>by simp at h)
theorem qQ{gh:Gh}{n:Nat}{w:World}{v:Value}{x:AV}(h:iI v=some x):VR gh n w v x:=by
 unfold iI at h
 split at h<;>first|(injection h with h;subst h)|cases h
 ·exact .plain _ _ (.bool _)
 ·exact .plain _ _ (.int _ _)
 ·exact .plain _ _ (.str _ _ rfl)
 ·exact .full none 0 [] .cy (fun ad h=>by cases h)
 ·exact .plain _ _ .cJ
 ·exact .plain _ _ .cr
 ·exact .plain _ _ .bU
 ·exact .plain _ _ .bt
theorem iO{gh:Gh}{n:Nat}{w:World} : ∀ {vs:List Value} {xs:List AV},cV vs=some xs->vs.length=xs.length /\
  ∀ (j:Nat) (v:Value) (x:AV),vs[j]?=some v->xs[j]?=some x->VR gh n w v x/\v.oneCell'=true
 | [],xs,h=>by simp[cV] at h;subst h;exact⟨rfl,fun j v x h=>by simp at h⟩
 | v :: r,xs,h=>by
  simp only[cV,ahL,ahK] at h
  obtain⟨x,hx,ys,hy,rfl⟩:=h
  obtain⟨h1,h2⟩:=iO (gh:=gh) (n:=n) (w:=w) hy
  refine⟨by simp[h1],fun j u y hu hy=>?_⟩
  cases j with
  | zero =>
   simp at hu hy
   subst hu hy
   refine⟨qQ hx,?_⟩
   unfold iI at hx
   split at hx<;>first|rfl|cases hx
  | succ j=>exact h2 j u y (by simpa using hu) (by simpa using hy)
theorem D6{gh:Gh}{n:Nat}{w:World}{v:Value}{x:AV}(h:iI v=some x):VR gh n w v (lQ x):=by
 have h0:=qQ (gh:=gh) (n:=n) (w:=w) h
 unfold iI at h
 split at h<;>first|(injection h with h;subst h)|cases h
 all_goals first|exact h0|exact .plain _ _ .ay
theorem pH:∀ {vs:List Value} {xs:List AV},cV vs=some xs->∀ (j:Nat) (v:Value) (x:AV),vs[j]?=some v->xs[j]?=some x->iI v=some x
 | [],_,_,j,v,x,hv,_=>by simp at hv
 | u :: r,xs,h,j,v,x,hv,hx=>by
  simp only[cV,ahL,ahK] at h
  obtain⟨y,hy,ys,LL,rfl⟩:=h
  cases j with
  | zero=>simp at hv hx;subst hv hx;exact hy
  | succ j=>exact pH LL j v x (by simpa using hv) (by simpa using hx)
theorem hN{gh:Gh}{n:Nat}{w:World}{v:Value}{x:AV}(h:oy v=some x):VR gh n w v x:=by
 unfold oy at h
 split at h
 ·rename_i vs
  simp only[ahK] at h
  obtain⟨l,hl,rfl⟩:=h
  obtain⟨h1,h2⟩:=iO (gh:=gh) (n:=n) (w:=w) hl
  refine .agg vs _ (by simpa using h1) (fun j v hv=>?_) (fun j v x hv hx=>?_)
  ·have hj:vs.toList[j]?=some v:=by simpa using hv
   obtain⟨y,hy⟩:∃ y,l[j]?=some y:=by
    have:j<vs.toList.length:=(ahO.1 hj).1
    exact⟨_,ahP (by omega)⟩
   exact (h2 j v y hj hy).2
  ·rw[ah2,ahK] at hx
   obtain⟨y,hy,rfl⟩:=hx
   exact D6 (pH hl j v y (by simpa using hv) hy)
 ·exact qQ h
section
variable {G:Nat->List AV}{base nt:Nat}{L:List Nat}{gh:Gh}{w:World}{a:Act}{s:AS}{x:Operand}{y:ak}
theorem Qc(hW:aF G base s.H gh w)(g:Nat):VR gh s.H.length w (.pointer (some ⟨g,0,none⟩)) (.eptr (G g)):=by
 refine .plain _ _ ?_
 let f:Nat->Value:=fun j=>(w.cell? ⟨g,j,none⟩).getD undef
 refine .eptr g 0 (G g) f ?_ ?_
 ·intro j x h
  obtain⟨v,hv,hp,hs⟩:=hW.aP g j x h
  refine⟨by simpa using hs,by simp[f,hv],?_⟩
  simp only[f,hv,aiC];exact hp.dv
 ·intro j x h
  obtain⟨v,hv,hp,hs⟩:=hW.aP g j x h
  simp only[f,hv,aiC];exact hp
theorem arg_val(hW:aF G base s.H gh w)(hF:FR L nt gh w a s)(hc:ah nt x=some y) :
  k8 gh s.H.length nt w s.T s.gen (dQ a) (a.eval x) (y.addr G s.T).drop:=by
 cases x with
 | tmp t =>
  simp only[ah] at hc
  rcases aiE (Nat.blt t nt) with hb|hb<;>rw[hb] at hc<;>simp at hc
  subst hc
  have aZ:t<nt:=by simpa [aih] using hb
  have h:=hF.slot t aZ
  show k8 gh s.H.length nt w s.T s.gen (dQ a) (dQ a t) _
  change SR gh s.H.length nt w s.T s.gen (dQ a) t (dQ a t) (s.T t) at h
  simp only[ak.addr]
  generalize hX:s.T t=X at h
  cases X
  case lbox g cs =>
   obtain⟨hg,b,hv,_⟩:=h
   refine⟨aZ,hg,fun _ b' fE=>fE⟩
  case lsl g e=>exact⟨aZ,h.1,fun _=>rfl⟩
  case lref=>exact h
  case lsr=>exact h
  case eref=>exact h
  case iter g kz ka va cur todo =>
   obtain⟨_,b,hv,_⟩:=h
   rw[hv]
   exact .cB (.plain _ _ (.any _ rfl))
  all_goals exact .cB (CR.dropped h)
 | const v =>
  simp only[ah,ahK] at hc
  obtain⟨z,hz,rfl⟩:=hc
  exact .cB (VR.dropped (hN hz))
 | global g =>
  simp only[ah,ahM] at hc
  subst hc
  exact .cB (VR.dropped (Qc hW g))
 | func f =>
  simp only[ah,ahM] at hc
  subst hc
  exact .cB (.plain _ _ (.func _))
theorem H2{T:aA}(h:aQ (y.eval G T)=none):y.addr G T=y.eval G T:=by
 cases y with
 | tmp t =>
  simp only[ak.addr,ak.eval] at h ⊢
  cases hX:T t<;>rw[hX] at h<;>first|rfl|(simp[aQ] at h)
 | bC v=>rfl
 | aP g=>rfl
 | fn f=>rfl
theorem k8.vr{n:Nat}{T:aA}{gen:Nat}{tm:Nat->Value}{v:Value}{z:AV}(h:k8 gh n nt w T gen tm v z)(hz:aq z=true):VR gh n w v z:=by
 cases z<;>first|exact h|(simp[aq] at hz)
theorem ib{z:AV} : aq z.drop=aq z:=by cases z<;>rfl
theorem bS(hW:aF G base s.H gh w)(hF:FR L nt gh w a s)(hc:ah nt x=some y){z:AV}(hz:y.eval G s.T=z)(hf:aq z=true) :
  VR gh s.H.length w (a.eval x) z.drop:=by
 have hg:aQ (y.eval G s.T)=none:=by rw[hz];cases z<;>first|rfl|(simp[aq] at hf)
 have h:=arg_val hW hF hc
 rw[H2 hg,hz] at h
 exact h.vr (by rw[ib];exact hf)
theorem me(hW:aF G base s.H gh w)(hF:FR L nt gh w a s)(hc:ah nt x=some y){z:AV}(hz:y.addr G s.T=z)(hf:aq z=true) :
  VR gh s.H.length w (a.eval x) z.drop:=by
 have h:=arg_val hW hF hc
 rw[hz] at h
 exact h.vr (by rw[ib];exact hf)
theorem yZ(hF:FR L nt gh w a s){t:Nat}(aZ:t<nt){e:List (List AV)}{own:Bool}(hz:s.T t=.slice e own):CR gh s.H.length w (.sl t) (a.eval (.tmp t)) (.slice e own):=by
 have h:=hF.slot t aZ
 rw[hz] at h
 exact h
end
end
section
section
variable {P:Program}{G:Nat->List AV}{base nt:Nat}{L:List Nat}{gh:Gh}{w:World}{a:Act}{s:AS}
theorem ab{α:Type}{b:Bool}{x:Option α}{y:α}(h:cond b x none=some y):b=true/\x=some y:=by cases b<;>simp_all
theorem Vs(hW:aF G base s.H gh w)(hF:FR L nt gh w a s){x:Operand}{y:ak}{take obj:Bool}{z:AV}(hc:ah nt x=some y)
  (he:kN G s take obj y=some (z,none)):k8 gh s.H.length nt w s.T s.gen (dQ a) (a.eval x) z:=by
 have h:=arg_val hW hF hc
 cases y with
 | tmp t =>
  simp only[kN] at he
  simp only[ak.addr] at h
  generalize hX:s.T t=X at h he
  cases X<;>simp only[ahM,ahN,ai9] at he<;>(try subst he)<;>(try exact h)
  case slice e own =>
   cases take<;>cases own<;>simp at he<;>subst he<;>exact h
  case lsl g e =>
   cases take
   ·simp at he;subst he;exact h
   ·cases obj
    ·cases hn:gM e<;>rw[hn] at he<;>simp at he
    ·simp at he
  case iter=>cases he
 | bC v =>
  simp only[kN,ak.eval,ahM,ahN,ai9] at he
  subst he
  cases x<;>simp only[ah,ahK,ahM,reduceCtorEq,akd,akh] at hc
  case tmp t=>exact absurd (ab hc).2 (by simp)
  case const v' =>
   obtain⟨z,hz,hy⟩:=hc
   injection hy with hy
   subst hy
   exact .cB (hN hz)
 | aP g =>
  simp only[kN,ak.eval,ahM,ahN,ai9] at he
  subst he
  exact h
 | fn f =>
  simp only[kN,ak.eval,ahM,ahN,ai9] at he
  subst he
  exact h
theorem jg(hW:aF G base s.H gh w)(hF:FR L nt gh w a s){x:Operand}{y:ak}(hc:ah nt x=some y){k:Nat}(h:asNat (y.eval G s.T)=some k) :
  ∃ kd,a.eval x=.int kd (k:Int):=by
 unfold asNat at h
 split at h
 ·rename_i kd m hy
  obtain⟨h0,h1⟩:=ab h
  have hm:(0:Int)<=m:=by simpa using h0
  have Qd:m.toNat=k:=by simpa using h1
  have hv:=(bS hW hF hc hy rfl).gQ
  exact⟨kd,by rw[hv,<- Qd,ajA hm]⟩
 ·cases h
theorem kV{t:TypeId}{k:Nat}(h:cY P t=some k):∃ i,P.info? t=some i/\i.size=k:=by
 simpa [cY,ahK] using h
theorem cX{t:TypeId}{k:Nat}(h:cY P t=some k)(w:World):(sizeOf t).run P w=.ok k w:=by
 obtain⟨i,hi,hk⟩:=kV h
 simp[sizeOf,typeInfo,hi,hk]
theorem fT{t:TypeId}{g:Bool}(h:ke P t=some g)(w:World):(isAgg t).run P w=.ok g w:=by
 unfold ke at h
 simp only[ahK] at h
 obtain⟨d,hd,hg⟩:=h
 unfold isAgg
 rw[Sem.run_bind,run_underlying hd w]
 subst hg
 cases d<;>rfl
theorem addr_add(b o k:Nat):(⟨b,o,none⟩:Addr).add k=⟨b,o+k,none⟩:=by unfold Addr.add;split<;>simp_all
theorem jd{n:Nat}{agg:Bool}{sz off:Nat}{cs:List AV}{z:AV}(hl:ar false agg sz off cs=some z){t:TypeId}(hg:ke P t=some agg)(hs:cY P t=some sz)
  {b o:Nat} {f:Nat->Value} (hf:∀ (j:Nat) (x:AV),cs[j]?=some x->w.cell? ⟨b,o+j,none⟩=some (f j)/\(f j).oneCell'=true/\VR gh n w (f j) x.drop) :
  ∃ v,(loadVar t ⟨b,o+off,none⟩).run P w=.ok v w/\VR gh n w v z:=by
 unfold ar at hl
 cases agg
 ·simp only[ahW,ahK] at hl
  obtain⟨x,hx,rfl⟩:=hl
  obtain⟨h1,h2,h3⟩:=hf off x hx
  refine⟨f off,?_,h3⟩
  simp[loadVar,fT hg,h1]
 ·simp only[cond_true] at hl
  obtain⟨h0,h1⟩:=ab hl
  have JU:off+sz<=cs.length:=by simpa [aiq] using h0
  injection h1 with h1
  subst h1
  have qg:(loadCells ⟨b,o+off,none⟩ sz).run P w=.ok ((List.range sz).map fun j=>f (off+j)).toArray w :=
   run_loadCells w _ sz (fun j=>f (off+j)) fun j hj=>by
    have aZ:off+j<cs.length:=by omega
    have:=(hf (off+j) _ (ahP aZ)).1
    rw[addr_add,ajp];exact this
  refine⟨.agg ((List.range sz).map fun j=>f (off+j)).toArray,by simp[loadVar,fT hg,cX hs,qg],?_⟩
  have hlen:(((cs.drop off).take sz).map AV.drop).length=sz:=by simp;omega
  refine .agg _ _ (by simp[hlen];omega) ?_ ?_
  ·intro j v hj
   simp only[ah9,ah2,ahK] at hj
   obtain⟨k,hk,rfl⟩:=hj
   have pz:=ahO.1 hk
   obtain⟨aZ,Po⟩:=pz
   simp at aZ Po
   subst Po
   exact (hf (off+j) _ (ahP (by omega))).2.1
  ·intro j v x hj hx
   simp only[ah9,ah2,ahK] at hj hx
   obtain⟨k,hk,rfl⟩:=hj
   obtain⟨aZ,Po⟩:=ahO.1 hk
   simp at aZ Po
   subst Po
   obtain⟨y,hy,rfl⟩:=hx
   rw[ah5,ail] at hy
   rw[if_pos aZ] at hy
   exact (hf (off+j) y hy).2.2
theorem rP(hF:FR L nt gh w a s){b g:Nat}{cs:List AV}(hb:b<nt)(hT:s.T b=.lbox g cs) :
  ∃ k,dQ a b=.pointer (some ⟨k,0,none⟩)/\fH gh s.H.length w k (.bx b) (fun j=>.sc b j) cs:=by
 have h:=hF.slot b hb
 rw[hT] at h
 exact h.2
theorem lY(hF:FR L nt gh w a s){b g:Nat}{e:List (List AV)}(hb:b<nt)(hT:s.T b=.lsl g e):oc gh w (.bx b) (dQ a b) e:=by
 have h:=hF.slot b hb
 rw[hT] at h
 exact h.2
theorem mN{n b:Nat}{p:aW}{q:Nat->aW}{cs:List AV}(h:fH gh n w b p q cs) :
  ∃ f:Nat->Value,∀ (j:Nat) (x:AV),cs[j]?=some x->w.cell? ⟨b,0+j,none⟩=some (f j)/\(f j).oneCell'=true/\VR gh n w (f j) x.drop:=by
 obtain⟨_,_,C,ty,hb,hC,fq⟩:=h
 refine⟨fun j=>C.getD j undef,fun j x hx=>?_⟩
 have hj:j<cs.length:=(ahO.1 hx).1
 have tZ:j<C.size:=by omega
 have hv:C[j]?=some C[j]:=ahY tZ
 obtain⟨h1,h2⟩:=fq j _ x hv hx
 refine⟨by rw[Nat.zero_add,cell_of_row w b j C ty _ hb];simp[tZ],by simpa [tZ] using h1,by simpa [tZ] using h2.dropped⟩
theorem PW(hW:aF G base s.H gh w)(hF:FR L nt gh w a s){t:TypeId}{x:Operand}{y:ak}{take agg:Bool}{sz:Nat}{z:AV}(hc:ah nt x=some y)(hg:ke P t=some agg)(hs:cY P t=some sz)
  (he:cO s take agg sz (y.addr G s.T)=some (z,none)) :
  ∃ v,(Instr.loadAt t (a.eval x)).run P w=.ok v w/\k8 gh s.H.length nt w s.T s.gen (dQ a) v z:=by
 have hv:=arg_val hW hF hc
 have Hz:∀ {n:Nat} {off:Nat} {cs:List AV} {v:AV},ar take agg sz off cs=some v->(take&&!agg)=false->ar false agg sz off cs=some v:=by
  intro n off cs v h1 h2
  cases take
  ·exact h1
  ·cases agg
   ·cases h2
   ·exact h1
 generalize hY:y.addr G s.T=Y at hv he
 cases Y<;>simp only[cO] at he<;>try (cases he;done)
 case eptr cs =>
  simp only[ahK,ahN,ai9] at he
  obtain⟨u,hu,rfl⟩:=he
  have hp:=VR.ry (hv:VR gh s.H.length w (a.eval x) (.eptr cs))
  generalize hA:a.eval x=V at hp
  cases hp with
  | eptr b o _ f bI bX =>
   obtain⟨v,h1,h2⟩:=jd (gh:=gh) (n:=s.H.length) hu hg hs (b:=b) (o:=o) (f:=f)
    (fun j x hx=>⟨(bI j x hx).2.1,(bI j x hx).2.2,VR.dropped (.plain _ _ (bX j x hx))⟩)
   refine⟨v,?_,.cB h2⟩
   simpa [Instr.loadAt,Instr.sureAddr] using h1
 case ref loc off =>
  obtain⟨aZ,nT⟩:=VR.gR (hv:VR gh s.H.length w (a.eval x) (.ref loc off))
  split at he
  ·rename_i J4 cs hH
   simp only[ahK,ahN] at he
   obtain⟨u,hu,rfl,hn⟩:=he
   have hq:(take&&!agg)=false:=by cases h:(take&&!agg)<;>simp_all
   obtain⟨f,hf⟩:=mN (hW.boxes loc _ cs hH)
   obtain⟨v,h1,h2⟩:=jd (gh:=gh) (n:=s.H.length) (Hz (n:=0) hu hq) hg hs (b:=gh.ρ loc) (o:=0) (f:=f) hf
   refine⟨v,?_,.cB h2⟩
   rw[nT]
   simpa [Instr.loadAt,Instr.sureAddr] using h1
  ·rename_i cs hH
   simp only[ahK,ahN,ai9] at he
   obtain⟨u,hu,rfl⟩:=he
   have hp:PR gh.S w (.pointer (some ⟨gh.ρ loc,0,none⟩)) (.eptr cs):=hW.more loc _ hH
   generalize hB:gh.ρ loc=b0 at hp nT
   cases hp with
   | eptr b o _ f bI bX =>
    obtain⟨v,h1,h2⟩:=jd (gh:=gh) (n:=s.H.length) hu hg hs (b:=b0) (o:=0) (f:=f)
     (fun j x hx=>⟨(bI j x hx).2.1,(bI j x hx).2.2,VR.dropped (.plain _ _ (bX j x hx))⟩)
    refine⟨v,?_,.cB h2⟩
    rw[nT]
    simpa [Instr.loadAt,Instr.sureAddr] using h1
  ·rename_i cs hH
   simp only[ahK,ahN,ai9] at he
   obtain⟨u,hu,rfl⟩:=he
   obtain⟨f,hf⟩:=mN (hW.more loc _ hH:fH gh s.H.length w (gh.ρ loc) (.hb loc) (fun j=>.hs loc j) cs)
   obtain⟨v,h1,h2⟩:=jd (gh:=gh) (n:=s.H.length) hu hg hs (b:=gh.ρ loc) (o:=0) (f:=f) hf
   refine⟨v,?_,.cB h2⟩
   rw[nT]
   simpa [Instr.loadAt,Instr.sureAddr] using h1
  ·cases he
 case lref b g off =>
  obtain⟨hb,FN,hr⟩:=(hv:_/\_/\_)
  split at he
  ·rename_i g' cs hT
   obtain⟨h0,nU⟩:=ab he
   clear he
   have AL:g=g':=by simpa [dV] using h0
   subst AL
   rename _=some (z,none)=>he
   simp only[ahK,ahN] at he
   obtain⟨u,hu,rfl,hn⟩:=he
   have hq:(take&&!agg)=false:=by cases h:(take&&!agg)<;>simp_all
   obtain⟨k,hk,VJ⟩:=rP hF hb hT
   have nT:=hr (by rw[hT];rfl) k hk
   obtain⟨f,hf⟩:=mN VJ
   obtain⟨v,h1,h2⟩:=jd (gh:=gh) (n:=s.H.length) (Hz (n:=0) hu hq) hg hs (b:=k) (o:=0) (f:=f) hf
   refine⟨v,?_,.cB h2⟩
   rw[nT]
   simpa [Instr.loadAt,Instr.sureAddr] using h1
  ·cases he
 case eref b g i zz off =>
  obtain⟨hb,FN,hr⟩:=(hv:_/\_/\_)
  split at he
  ·rename_i g' e hT
   obtain⟨h0,nU⟩:=ab he
   clear he
   have AL:g=g':=by simpa [dV] using h0
   subst AL
   rename _=some (z,none)=>he
   simp only[ahL] at he
   obtain⟨r,Hr,he⟩:=he
   obtain⟨h1,he⟩:=ab he
   have hz:r.length=zz:=by simpa [dV] using h1
   simp only[ahK,ahN,ai9] at he
   obtain⟨u,hu,rfl⟩:=he
   obtain⟨ad,cap,nW,bp⟩:=lY hF hb hT
   rcases bp with ⟨rfl,_⟩|⟨k,C,ty,gY,_,rfl,hκ,hS,uy,hC,hl,Pr,fq⟩
   ·simp at Hr
   ·have nT:=hr (by rw[hT];rfl) k _ _ nW
    have fA:gY=zz:=by rw[<- hz,Pr i r Hr]
    subst fA
    obtain⟨v,h1,h2⟩:=jd (P:=P) (gh:=gh) (w:=w) (n:=s.H.length) hu hg hs (b:=k) (o:=i*gY) (f:=fun j=>C.getD (i*gY+j) undef) (fun j x hx=>by
     obtain⟨u,Pt,Y4⟩:=fq i j r x Hr hx
     have hj:i*gY+j<C.size:=(ahT.1 Pt).1
     have nU:C.getD (i*gY+j) undef=u:=by
      rw[ahY hj] at Pt
      injection Pt with Pt
      simp[hj,Pt]
     rw[nU,cell_of_row w k _ C ty _ uy,Pt]
     exact⟨rfl,Y4.dv,VR.dropped (.plain _ _ Y4)⟩)
    refine⟨v,?_,.cB h2⟩
    rw[nT]
    simpa [Instr.loadAt,Instr.sureAddr] using h1
  ·cases he
end
end
end Go.Abs
