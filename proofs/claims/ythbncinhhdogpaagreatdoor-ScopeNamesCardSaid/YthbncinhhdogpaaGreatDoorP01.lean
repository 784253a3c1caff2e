/-
  A part of the proof of ScopeNames: AbsDefs, AbsRel, AbsFrame, AbsArg, AbsOps1.
-/
import Derived.Orders
import Derived.Laws.AppendOwn
import Derived.Below
import Derived.WalkKit
set_option linter.unusedSimpArgs false
set_option linter.unusedVariables false
set_option linter.defProp false
namespace Go
theorem tk {α:Type} {a:Option α} {f g:α} (h:a=some f) (e:f=g):a=some g:=e ▸ h
def aoO:=@Option.map_eq_some_iff
def aoP:=@Option.bind_eq_some_iff
def aoQ:=@Option.some.injEq
def aoR:=@List.getElem?_eq_some_iff
def aoS:=@Prod.mk.injEq
def aoT:=@List.getElem?_eq_getElem
def aoU:=@Nat.le_refl
def aoV:=@List.all_eq_true
def aoW:=@Option.bind_some
def aoX:=@List.mem_append
def aoY:=@Array.getElem?_eq_some_iff
def aoZ:=@cond_false
def ao0:=@List.mem_of_getElem?
def ao1:=@List.getElem?_map
def ao2:=@Array.getElem?_eq_getElem
def ao3:=@List.mem_singleton
def ao4:=@List.getElem?_cons_zero
def ao5:=@List.getElem?_append_right
def ao6:=@List.length_append
def ao7:=@List.getElem?_append_left
def ao8:=@List.mem_cons
def ao9:=@List.mem_cons_self
def ao':=@List.length_map
def apa:=@List.getElem?_take
def apb:=@Int.natCast_zero
def apc:=@decide_eq_true_eq
def apd:=@List.mem_cons_of_mem
def ape:=@List.getElem?_toArray
def apf:=@List.getElem?_cons_succ
def apg:=@List.getD_eq_getElem?_getD
def aph:=@List.map_congr_left
def api:=@Nat.blt_eq
def apj:=@List.cons_append
def apk:=@List.getElem?_set_ne
def apl:=@Nat.mul_le_mul_right
def apm:=@List.map_cons
def apn:=@List.mem_iff_getElem?
def apo:=@List.getElem?_set_self
def apq:=@List.getElem?_drop
def apr:=@List.getElem?_set
def aps:=@Array.getElem?_toList
def apt:=@List.length_singleton
def apu:=@List.mem_map
def apv:=@List.nil_append
def apw:=@List.getElem?_of_mem
def apx:=@List.set_append_right
def apy:=@Nat.add_mul
def apz:=@List.map_nil
def apA:=@Option.some.inj
def apB:=@Bool.not_eq_true'
def apC:=@Bool.false_eq_true
def apD:=@Nat.ble_eq_true_of_le
def apE:=@Bool.eq_false_or_eq_true
def apF:=@List.length_pos_iff
def apG:=@List.drop_eq_getElem_cons
def apH:=@Nat.le_succ
def apI:=@Option.isSome_iff_exists
def apJ:=@List.flatten_cons
def apK:=@List.mem_filter
def apL:=@decide_eq_false_iff_not
def apM:=@List.take_of_length_le
def apN:=@List.drop_zero
def apO:=@List.modify_succ_cons
def apP:=@List.modify_zero_cons
def apQ:=@Nat.eq_of_beq_eq_true
def apR:=@List.append_nil
def apS:=@decide_eq_false
def apT:=@List.mem_flatMap
def apU:=@List.getElem?_append
def apV:=@Nat.le_trans
def apW:=@Nat.sub_self
def apX:=@List.length_set
def apY:=@List.not_mem_nil
def apZ:=@Nat.zero_le
def ap0:=@Nat.le_of_eq
def ap1:=@beq_iff_eq
def ap2:=@if_false
def ap3:=@Ne.symm
def ap4:=@if_true
def ap5:=@List.nodup_cons
def ap6:=@Nat.add_zero
def ap7:=@Nat.lt_or_ge
def ap8:=@List.length_eq_one_iff
def ap9:=@List.take_succ_cons
def ap':=@List.append_assoc
def aqa:=@List.ext_getElem?
def aqb:=@Bool.false_and
def aqc:=@List.getElem?_eq_none
def aqd:=@List.cons.injEq
def aqe:=@and_true
def aqf:=@Array.getElem?_eq_none
def aqg:=@List.size_toArray
def aqh:=@List.filterMap_cons
def aqi:=@Bool.or_eq_true
def aqj:=@Option.isNone_iff_eq_none
def aqk:=@Nat.lt_of_lt_of_le
def aql:=@Bool.true_and
def aqm:=@List.contains_eq_mem
def aqn:=@List.mem_append_left
def aqo:=@Nat.lt_trichotomy
def aqp:=@List.drop_length
def aqq:=@Bool.not_false
def aqr:=@List.drop_drop
def aqs:=@List.getElem?_zip_eq_some
def aqt:=@List.foldl_cons
def aqu:=@Nat.add_assoc
def aqv:=@Array.getElem?_push
def aqw:=@List.drop_succ_cons
def aqx:=@List.filter_cons
def aqy:=@List.getElem_mem
def aqz:=@List.take_zero
def aqA:=@Nat.le_max_right
def aqB:=@Classical.choose_spec
def aqC:=@List.getElem?_zipIdx
def aqD:=@List.isEmpty_eq_false_iff
def aqE:=@Nat.one_mul
def aqF:=@Option.map_map
def aqG:=@Array.all_eq_true_iff_forall_mem
def aqH:=@Nat.lt_succ_self
def aqI:=@Nat.zero_mul
def aqJ:=@List.length_eq_zero_iff
def aqK:=@Array.eq_empty_of_size_eq_zero
def aqL:=@Nat.le_max_left
def aqM:=@or_false
def aqN:=@Array.mem_of_getElem?
def aqO:=@Bool.or_true
def aqP:=@Bool.true_or
def aqQ:=@List.map_map
def aqR:=@List.mem_append_right
def aqS:=@Nat.le_of_lt
def aqT:=@Array.getD_eq_getD_getElem?
def aqU:=@Array.ext'
def aqV:=@List.length_drop
def aqW:=@List.length_take
def aqX:=@List.map_toArray
def aqY:=@List.mem_flatten
def aqZ:=@List.mem_of_mem_take
def aq0:=@List.take_length
def aq1:=@Bool.not_true
def aq2:=@beq_eq_false_iff_ne
def aq3:=@List.map_append
def aq4:=@List.eq_of_mem_replicate
def aq5:=@Nat.add_comm
def aq6:=@Nat.mul_comm
def aq7:=@exists_false
def aq8:=@true_and
def aq9:=@Array.getElem?_extract
def aq':=@Bool.false_or
def ara:=@Array.toList_map
def arb:=@Bool.not_eq_true
def arc:=@Array.getElem?_setIfInBounds_ne
def ard:=@Bool.and_eq_true_iff
def are:=@List.all_append
def arf:=@Nat.not_lt_zero
def arh:=@List.take_append_of_le_length
def ari:=@congrArg
def arj:=@Array.getElem?_map
def ark:=@List.contains_cons
def arl:=@List.mem_filterMap
def arn:=@Array.getElem?_append_left
def aro:=@List.mem_or_eq_of_mem_set
def arp:=@List.flatten_nil
def arq:=@beq_self_eq_true
def ars:=@List.getElem?_replicate
def art:=@and_false
def aru:=@List.drop_eq_nil_of_le
def arv:=@Nat.mul_one
def arw:=@Bool.and_false
def arx:=@Bool.or_false
def ary:=@Array.length_toList
def arz:=@decide_true
end Go
namespace Go.Abs
section
inductive AV where
 | bool (b:Bool)
 | int (k:IntKind) (n:Int)
 | str (l:List UInt8)
 | any
 | df|cI|ct|bR
 | slice (elems:List (List AV)) (own:Bool)
 | eptr (cells:List AV)
 | ref (loc off:Nat)
 | sref (loc off n z:Nat)
 | mref (loc:Nat)
 | dM (kz:Nat) (ka va:Bool) (es:List (List AV))
 | mF (kz:Nat) (ka va:Bool) (es:List (List AV))
 | iter (g kz:Nat) (ka va:Bool) (cur:List AV) (todo:List (List AV))
 | lbox (g:Nat) (cells:List AV)
 | lref (s g off:Nat)
 | lsl (g:Nat) (elems:List (List AV))
 | lsr (s g:Nat)
 | eref (s g i z off:Nat)
 | func (f:Fn) (first captured:List AV)
 | iface (t:TypeId) (v:AV)
 | agg (cells:List AV)
 | tuple (vs:List AV)
 | ae
 deriving Inhabited,Repr
abbrev AV.undef:AV:=.tuple []
inductive cj where
 | box (ty:TypeId) (cells:List AV)
 | map (kz:Nat) (ka va:Bool) (es:List (List AV))
 | dM (kz:Nat) (ka va:Bool) (es:List (List AV))
 | Im (cells:List AV)
 | ca (cells:List AV)
 | dead
 deriving Inhabited,Repr
abbrev ah:=List cj
abbrev aw:=Nat->AV
def aw.put(T:aw)(d:Nat)(v:AV):aw:=fun i=>cond (Nat.beq i d) v (T i)
structure fQ where
 heap:ah
 lo:Nat
 deriving Inhabited
abbrev cu:=FuncId->List AV->ah->Option (AV × Option fQ)
inductive an where
 | tmp (t:Nat)
 | cg (v:AV)
 | aN (g:Nat)
 | fn (f:FuncId)
 deriving Inhabited,Repr
inductive w5 where
 | toInt (k:IntKind)
 | Di
 | xh
 deriving Inhabited,Repr
inductive uX where
 | str
 | sl (sz:Nat)
 | arr (n sz:Nat)
 deriving Inhabited,Repr
inductive CK where
 | b|i|s
 deriving Inhabited,Repr,DecidableEq
inductive uU where
 | other|bool|iface|func
 | flat (ks:List CK)
 deriving Inhabited,Repr
inductive ly where
 | str|sl
 | arr (n:Nat)
 deriving Inhabited,Repr
inductive NB where
 | frame (b:Nat)
 | TA|heap
 deriving Inhabited,Repr
inductive fc where
 | jR (c:NB) (x:an)
 | mov (take obj:Bool) (x:an)
 | pick (c a b:an)
 | allocL (zero:List AV)
 | sQ (ty:TypeId) (zero:List AV)
 | boxL (x:an)
 | box (ty:TypeId) (x:an)
 | build (zero:List AV) (parts:List (Nat × Nat × an))
 | mkslice (isB:Bool) (sz:Nat) (He:List (List AV)) (parts:List (Nat × an))
 | lS (sz:Nat) (He:List (List AV)) (parts:List (Nat × an))
 | load (take agg:Bool) (sz:Nat) (x:an)
 | store (sz:Nat) (a v:an)
 | nilCheck (x:an)
 | bin (op:BinOp) (k:uU) (x y:an)
 | un (op:UnOp) (x:an)
 | mm (mx:Bool) (x y:an)
 | conv (c:w5) (x:an)
 | uz (t:TypeId) (x:an)
 | slice (k:uX) (x:an) (lo hi mx:Option an)
 | fieldAddr (off:Nat) (x:an)
 | field (agg:Bool) (off sz:Nat) (x:an)
 | ixSl (sz:Nat) (x i:an)
 | ixArr (n sz:Nat) (x i:an)
 | index (agg:Bool) (n sz:Nat) (x i:an)
 | indexStr (x i:an)
 | extract (x:an) (i:Nat)
 | len (k:ly) (x:an)
 | append (isB wr:Bool) (sz bytes:Nat) (x y:an)
 | appendO (sz bytes:Nat) (x y:an)
 | copyO (x y:an)
 | BB (x:an)
 | nilS (neg:Bool) (x:an)
 | yB (sz bytes:Nat) (zero:List AV) (n:an)
 | call (f:an) (args:List an)
 | tJ (f:an) (args:List an)
 | tK (f:FuncId) (pre:List an) (x:an) (post:List an)
 | mkfunc (f:Fn) (first captured:List an)
 | uA (kz:Nat) (ka va:Bool)
 | look (ok:Bool) (kz:Nat) (ka va:Bool) (ks:List CK) (zero:List AV) (m k:an)
 | Gf (kz:Nat) (ka:Bool) (ks:List CK) (zero:List AV) (m k:an)
 | wJ (kz:Nat) (ka va:Bool) (vz:Nat) (ks:List CK) (m k v:an)
 | MQ (m:an)
 | rng (kz:Nat) (ka va:Bool) (m:an)
 | next (it:an)
 | T5 (it:an)
 | same (agg:Bool) (sz d:Nat) (x:an)
 | oB (sz:Nat) (a v:an)
 deriving Inhabited,Repr
structure aj where
 dst:Option Nat
 guard:Option (Nat × Bool)
 op:fc
 deriving Inhabited,Repr
inductive bJ where
 | skip
 | region (draw:Bool) (ops:List aj)
 | tG (nt:Nat) (ops:List aj) (pre:List (List Nat))
 | seq (a b:bJ)
 | cond (c:an) (a b:bJ)
 | block (id:Nat) (a:bJ)
 | loop (a:bJ)
 | exit (id:Nat)
 | ret
 deriving Inhabited,Repr
inductive fZ where
 | tmp (t:Nat)
 | cell (a:Nat) (agg:Bool) (sz:Nat)
 deriving Inhabited,Repr
structure ax where
 bF:List Nat
 locals:List Nat
 muts:List Nat
 nt:Nat
 np:Nat
 results:List fZ
 body:bJ
 deriving Inhabited,Repr
inductive bp where
 | normal
 | exit (id:Nat)
 | ret
 deriving Inhabited,Repr,DecidableEq
structure AS where
 T:aw
 H:ah
 lo:Nat
 gen:Nat
def AV.cells:AV->Option (List AV)
 | .agg cs=>some cs
 | .any=>none
 | .tuple _=>none
 | .lbox ..=>none
 | .lref ..=>none
 | .lsl ..=>none
 | .lsr ..=>none
 | .eref ..=>none
 | .iter ..=>none
 | v=>some [v]
def AV.drop:AV->AV
 | .slice e _=>.slice e false
 | v=>v
def AV.aX:AV->AV
 | .agg cs=>.agg (cs.map AV.drop)
 | v=>v.drop
def AV.plain:AV->Bool
 | .bool _|.int ..|.str _|.any|.df|.cI|.ct|.bR|.eptr _|.dM ..|.mF ..|.ae=>true
 | .slice _ own=>!own
 | .func _ [] []=>true
 | .iface _ (.bool _)|.iface _ (.int ..)|.iface _ (.str _)|.iface _ .any|.iface _ .df=>true
 | _=>false
def AV.elem(sz:Nat)(v:AV):Option (List AV) :=
 match v.cells with
 | none=>none
 | some cs =>
  let ds:=cs.map AV.drop
  cond (Nat.beq ds.length sz&&ds.all AV.plain) (some ds) none
def AV.aG(base:Nat):AV->Bool
 | .ref loc _=>Nat.blt loc base
 | .sref loc _ _ _=>Nat.blt loc base
 | .mref loc=>Nat.blt loc base
 | v=>v.plain
def AV.bn(base:Nat):AV->Bool
 | .agg cs=>cs.all (AV.aG base)
 | v=>v.aG base
def AV.leaves(base:Nat):AV->Bool
 | .func _ fs cs=>fs.all (AV.aG base)&&cs.all (AV.aG base)
 | .iface _ v=>v.aG base
 | .tuple vs=>vs.all (AV.bn base)
 | .slice ..=>true
 | v=>v.bn base
def aO:AV->Option Nat
 | .lbox g _=>some g
 | .lsl g _=>some g
 | .iter g ..=>some g
 | _=>none
def an.eval(G:Nat->List AV)(T:aw):an->AV
 | .tmp t=>T t
 | .cg v=>v
 | .aN g=>.eptr (G g)
 | .fn f=>.func (.func f) [] []
def asNat:AV->Option Nat
 | .int _ n=>cond (decide (0<=n)) (some n.toNat) none
 | _=>none
def bI:List CK->List AV->List AV->Option Bool
 | [],_,_=>some true
 | .b :: ks,.bool a :: xs,.bool b :: ys=>(bI ks xs ys).map (a==b&&·)
 | .i :: ks,.int j a :: xs,.int k b :: ys=>cond (decide (j=k)) ((bI ks xs ys).map (a==b&&·)) none
 | .s :: ks,.str a :: xs,.str b :: ys=>(bI ks xs ys).map (a==b&&·)
 | _,_,_=>none
def aa(op:BinOp)(k:IntKind)(a b:Int):Option AV :=
 match op with
 | .add=>some (.int k (k.wrap (a+b)))
 | .sub=>some (.int k (k.wrap (a-b)))
 | .mul=>some (.int k (k.wrap (a*b)))
 | .quo=>cond (decide (b=0)) none (some (.int k (k.wrap (a.tdiv b))))
 | .rem=>cond (decide (b=0)) none (some (.int k (a.tmod b)))
 | .eql=>some (.bool (a==b))
 | .neq=>some (.bool (a != b))
 | .lss=>some (.bool (decide (a<b)))
 | .leq=>some (.bool (decide (a<=b)))
 | .gtr=>some (.bool (decide (a>b)))
 | .geq=>some (.bool (decide (a>=b)))
 | _=>none
def j3(op:BinOp)(a b:List UInt8):Option AV :=
 match op with
 | .add=>cond (decide (a.length+b.length<=4611686018427387904)) (some (.str (a++b))) none
 | .eql=>some (.bool (a==b))
 | .neq=>some (.bool !(a==b))
 | .lss=>some (.bool (Op.bytesLess a b))
 | .leq=>some (.bool (Op.bytesLess a b || a==b))
 | .gtr=>some (.bool !(Op.bytesLess a b || a==b))
 | .geq=>some (.bool !(Op.bytesLess a b))
 | _=>none
def j9(op:BinOp)(b:Bool):Option AV :=
 match op with
 | .eql=>some (.bool b)
 | .neq=>some (.bool !b)
 | _=>none
def oR:an->Bool
 | .cg _=>true
 | _=>false
def vJ(op:BinOp)(q:uU)(cg:Bool)(x y:AV):Option AV :=
 match x,y with
 | .int j a,.int k b=>cond (decide (j=k)) (aa op j a b) none
 | .str a,.str b=>j3 op a b
 | .bool a,.bool b=>(match q with|.bool=>j9 op (a==b)|_=>none)
 | .agg xs,.agg ys=>(match q with|.flat ks=>(bI ks xs ys).bind fun b=>j9 op b|_=>none)
 | x,.bR=>cond (cg&&(match q with|.iface=>true|_=>false)) ((match x with|.bR=>some true|.iface ..=>some false|_=>none).bind fun b=>j9 op b) none
 | x,.ct=>cond (match q with|.func=>true|_=>false) ((match x with|.ct=>some true|.func ..=>some false|_=>none).bind fun b=>j9 op b) none
 | _,_=>none
def za(op:UnOp)(x:AV):Option AV :=
 match op,x with
 | .neg,.int k n=>some (.int k (k.wrap (0-n)))
 | .not,.bool b=>some (.bool !b)
 | _,_=>none
def Sg(mx:Bool)(x y:AV):Option AV :=
 match x,y with
 | .int k a,.int j b=>cond (decide (k=j)) (some (.int k (cond mx (if b>a then b else a) (if b<a then b else a)))) none
 | _,_=>none
def bytesOf:List (List AV)->Option (List UInt8)
 | []=>some []
 | [.int .u8 n] :: r=>(bytesOf r).map (UInt8.ofNat n.toNat :: ·)
 | _=>none
def j6(c:w5)(x:AV):Option AV :=
 match c,x with
 | .toInt k,.int _ n=>some (.int k (k.wrap n))
 | .Di,.str l=>some (.str l)
 | .xh,.slice e _=>(bytesOf e).map .str
 | _,_=>none
def chunks(sz:Nat):Nat->List AV->List (List AV)
 | 0,_=>[]
 | n+1,l=>l.take sz :: chunks sz n (l.drop sz)
def bound(aii:Nat)(x:Option AV)(MS:Nat):Option Nat :=
 match x with
 | none=>some aii
 | some v=>(asNat v).bind fun n=>cond (Nat.ble n MS) (some n) none
def fR(sz:Nat)(e:List (List AV)):Bool:=(e.head?.map fun r=>Nat.beq r.length sz).getD true
def ij(k:uX)(x:AV)(lo hi mx:Option AV):Option AV :=
 match k,x with
 | .str,.str l=>(bound l.length hi l.length).bind fun h=>(bound 0 lo h).bind fun a=>cond mx.isNone (some (.str ((l.take h).drop a))) none
 | .sl sz,.slice e _=>(bound e.length mx e.length).bind fun m=>(bound e.length hi m).bind fun h=>(bound 0 lo h).bind fun a =>
   cond ((mx.isNone || hi.isSome)&&(lo.isNone || fR sz e)) (some (.slice ((e.take h).drop a) (mx.isSome&&Nat.beq m h))) none
 | .sl sz,.sref l o n z=>(bound n hi n).bind fun h=>(bound 0 lo h).bind fun a=>cond (mx.isNone&&Nat.beq z sz) (some (cond (Nat.blt a n) (.sref l (o+a*z) (h-a) z) (.slice [] false))) none
 | .arr n sz,.eptr cs=>cond (Nat.beq cs.length (n*sz)) ((bound n hi n).bind fun h=>(bound 0 lo h).bind fun a=>cond mx.isNone (some (.slice (((chunks sz n cs).take h).drop a) false)) none) none
 | _,_=>none
def kx(k:ly)(x:AV):Option AV :=
 match k,x with
 | .str,.str l=>some (.int .i64 l.length)
 | .sl,.slice e _=>some (.int .i64 e.length)
 | .sl,.sref _ _ n _=>some (.int .i64 n)
 | .sl,.ae=>some (.int .i64 0)
 | .arr n,_=>some (.int .i64 n)
 | _,_=>none
def putAt(l:List AV)(off:Nat)(cs:List AV):List AV:=l.take off++cs++l.drop (off+cs.length)
def fz:List AV->List (Nat × Nat × AV)->Option (List AV)
 | cells,[]=>some cells
 | cells,(off,sz,v) :: r =>
  match v.cells with
  | none=>none
  | some cs=>cond (Nat.beq cs.length sz&&Nat.ble (off+cs.length) cells.length) (fz (putAt cells off (cs.map AV.drop)) r) none
def cA(sz:Nat):List (List AV)->List (Nat × AV)->Option (List (List AV))
 | es,[]=>some es
 | es,(i,v) :: r =>
  match v.elem sz with
  | none=>none
  | some cs=>cond (Nat.blt i es.length) (cA sz (es.set i cs) r) none
def ag(take agg:Bool)(sz off:Nat)(cs:List AV):Option AV :=
 cond agg (cond (Nat.ble (off+sz) cs.length) (some (.agg (((cs.drop off).take sz).map AV.drop))) none)
  ((cs[off]?).map fun v=>cond take v v.drop)
def bP(off:Nat)(cs:List AV):List AV:=cs.modify off AV.drop
def AS.br(s:AS)(t:Nat)(v:AV):AS:={ s with T:=s.T.put t v }
def AS.fp(s:AS)(c:fQ):AS:={ s with H:=c.heap,lo:=cond (Nat.blt c.lo s.lo) c.lo s.lo }
def an.addr(G:Nat->List AV)(T:aw):an->AV
 | .tmp t=>match T t with
  | .lbox g _=>.lref t g 0
  | .lsl g _=>.lsr t g
  | .iter ..=>.any
  | v=>v
 | .cg v=>v
 | .aN g=>.eptr (G g)
 | .fn f=>.func (.func f) [] []
def cM(s:AS)(take agg:Bool)(sz:Nat)(x:AV):Option (AV × Option AS) :=
 match x with
 | .eptr cs=>(ag false agg sz 0 cs).map (·,none)
 | .ref loc off=>match s.H[loc]? with
  | some (.box ty cs)=>(ag take agg sz off cs).map fun v=>(v,cond (take&&!agg) (some (s.fp ⟨s.H.set loc (.box ty (bP off cs)),loc⟩)) none)
  | some (.Im cs)=>(ag false agg sz off cs).map (·,none)
  | some (.ca cs)=>(ag false agg sz off cs).map (·,none)
  | _=>none
 | .lref b g off=>match s.T b with
  | .lbox g' cs=>cond (Nat.beq g g') ((ag take agg sz off cs).map fun v=>(v,cond (take&&!agg) (some (s.br b (.lbox g (bP off cs)))) none)) none
  | _=>none
 | .eref b g i z off=>match s.T b with
  | .lsl g' e=>cond (Nat.beq g g') ((e[i]?).bind fun r=>cond (Nat.beq r.length z) ((ag false agg sz off r).map (·,none)) none) none
  | _=>none
 | _=>none
def gH(loc:Nat):AV->Bool
 | .ref l _=>Nat.ble l loc
 | .sref l _ _ _=>Nat.ble l loc
 | .mref l=>Nat.ble l loc
 | v=>v.drop.plain
def kJ(loc:Nat):AV->Bool
 | .agg cs=>cs.all (gH loc)
 | v=>gH loc v
def aV(loc:Nat):AV->Bool
 | .ref l _=>Nat.ble l loc
 | .sref l _ _ _=>Nat.ble l loc
 | .mref l=>Nat.ble l loc
 | .func _ fs cs=>fs.all (kJ loc)&&cs.all (kJ loc)
 | v=>v.drop.plain
def al:AV->Bool
 | .lref ..=>false
 | .lbox ..=>false
 | .lsl ..=>false
 | .lsr ..=>false
 | .eref ..=>false
 | .iter ..=>false
 | _=>true
def gl(s:AS)(sz:Nat)(a v:AV):Option AS :=
 match v.cells with
 | none=>none
 | some vs=>cond (Nat.beq vs.length sz)
  (match a with
   | .ref loc off=>match s.H[loc]? with
    | some (.box ty cs)=>cond (Nat.ble (off+sz) cs.length&&vs.all (aV loc)) (some (s.fp ⟨s.H.set loc (.box ty (putAt cs off vs)),loc⟩)) none
    | some (.ca cs)=>cond (Nat.ble (off+sz) cs.length&&vs.all al) (some (s.fp ⟨s.H.set loc (.ca (putAt cs off vs)),loc⟩)) none
    | _=>none
   | .lref b g off=>match s.T b with
    | .lbox g' cs=>cond (Nat.beq g g'&&Nat.ble (off+sz) cs.length&&vs.all al) (some (s.br b (.lbox g (putAt cs off vs)))) none
    | _=>none
   | .eref b g i z off=>match s.T b with
    | .lsl g' e=>cond (Nat.beq g g') ((e[i]?).bind fun r=>cond (Nat.beq r.length z&&Nat.ble (off+sz) r.length&&(vs.map AV.drop).all AV.plain) (some (s.br b (.lsl g (e.set i (putAt r off (vs.map AV.drop)))))) none) none
    | _=>none
   | _=>none)
  none
abbrev aJ:TypeId:=4294967295
def kN(s:AS)(a:AV):AS :=
 match a with
 | .ref loc _=>match s.H[loc]? with
  | some (.box ty cs)=>cond (Nat.beq ty aJ) (s.fp ⟨s.H.set loc (.ca cs),loc⟩) s
  | _=>s
 | _=>s
def AS.bD(s:AS):an->AS
 | .tmp t=>match s.T t with
  | .slice e true=>s.br t (.slice e false)
  | _=>s
 | _=>s
def dQ(sz:Nat):AV->Option (List (List AV))
 | .slice f _=>some f
 | .str l=>cond (Nat.beq sz 1) (some (l.map fun (b:UInt8)=>[AV.int .u8 b.toNat])) none
 | .ae=>some []
 | _=>none
abbrev iF:TypeId:=5
def iY(e:List (List AV)):Bool:=e.all fun r=>r.all fun|.int .u8 _=>false|.any=>false|_=>true
def xg(e:List (List AV)):Bool:=e.all fun|[.int .u8 _]=>true|_=>false
def nG(isB:Bool)(e:List (List AV)):Bool:=cond isB (xg e) (iY e)
def cw(sz bytes:Nat)(e f:List (List AV)):Bool :=
 Nat.ble ((e.length+f.length)*bytes) 70368744177664&&Nat.ble (e.length+f.length) 70368744177664&&fR sz e&&fR sz f
def bw(isB:Bool)(sz bytes:Nat)(x y:AV):Option AV :=
 match x with
 | .slice e own=>(dQ sz y).bind fun f =>
  match f with
  | []=>some (.slice e own)
  | f=>cond (own&&cw sz bytes e f&&nG isB (e++f)) (some (.slice (e++f) true)) none
 | _=>none
def cC(f:List (List AV)):Bool:=f.all fun r=>r.all AV.plain
def Gq(x y:AV):Option AV :=
 match x with
 | .slice [] true=>(match y with|.slice [] _|.ae=>some (.slice [] false)|_=>none)
 | .ae=>(match y with|.slice [] _|.ae=>some .ae|_=>none)
 | _=>none
def gU(s:AS)(sz bytes:Nat)(x y:AV):Option (AV × Option AS) :=
 (dQ sz y).bind fun f =>
  match x with
  | .slice [] true|.ae=>cond (!f.isEmpty&&cw sz bytes [] f&&cC f) (some (.sref s.H.length 0 f.length sz,some (s.fp ⟨s.H++[.box aJ f.flatten],s.H.length⟩))) none
  | .sref l o n z=>match s.H[l]? with
   | some (.box ty cs)=>cond (Nat.beq o 0&&Nat.beq z sz&&Nat.beq cs.length (n*sz)&&Nat.ble ((n+f.length)*bytes) 70368744177664&&Nat.ble (n+f.length) 70368744177664&&fR sz f&&cC f)
     (some (.sref s.H.length 0 (n+f.length) sz,some (s.fp ⟨s.H.set l .dead++[.box aJ (cs++f.flatten)],l⟩))) none
   | _=>none
  | _=>none
def il(s:AS)(sz bytes:Nat)(x y:AV):Option (AV × Option AS) :=
 match Gq x y with
 | some v=>some (v,none)
 | none=>gU s sz bytes x y
def pF(s:AS)(x y:AV):Option (AV × Option AS) :=
 match x,y with
 | .sref l o n z,.slice f _=>match s.H[l]? with
  | some (.ca cs)=>cond (Nat.beq z 1&&fR 1 f&&cC f&&Nat.ble (o+n) cs.length)
    (some (.int .i64 (Nat.min f.length n),some (s.fp ⟨s.H.set l (.ca (putAt cs o (f.take (Nat.min f.length n)).flatten)),l⟩))) none
  | _=>none
 | .slice [] _,.slice _ _=>some (.int .i64 0,none)
 | _,_=>none
def yF:AV->Option Bool
 | .ae=>some true
 | .slice (_ :: _) _=>some false
 | _=>none
def pG(s:AS)(sz bytes:Nat)(zero:List AV)(n:AV):Option (AV × Option AS) :=
 (asNat n).bind fun k=>cond (Nat.ble (k*bytes) 70368744177664&&Nat.ble k 70368744177664)
  (some (.sref s.H.length 0 k sz,some (s.fp ⟨s.H++[.box aJ (List.replicate k zero).flatten],s.H.length⟩))) none
def gD(off:Nat):AV->Option AV
 | .ref l o=>some (.ref l (o+off))
 | .lref b g o=>some (.lref b g (o+off))
 | .eref b g i z o=>some (.eref b g i z (o+off))
 | .eptr cs=>some (.eptr (cs.drop off))
 | _=>none
def bZ(s:AS):AV->Bool
 | .ref ..=>true
 | .eptr _=>true
 | .lref b g _=>(match s.T b with|.lbox g' _=>Nat.beq g g'|_=>false)
 | .eref b g i _ _=>(match s.T b with|.lsl g' e=>Nat.beq g g'&&Nat.blt i e.length|_=>false)
 | _=>false
def vp(t:TypeId)(v:AV):Option AV :=
 cond (AV.plain v.drop || (match v with|.ref ..=>true|_=>false)) (some (.iface t v.drop)) none
def fG(c:NB)(v:AV):Bool :=
 match c with
 | .frame b=>(match v with|.lref b' _ _=>Nat.beq b b'|_=>false)
 | .TA=>(match v with|.lref ..=>false|.eref ..=>false|.lsr ..=>false|.ref ..=>false|_=>true)
 | .heap=>(match v with|.lref ..=>false|.eref ..=>false|.lsr ..=>false|_=>true)
def AV.isAgg:AV->Bool
 | .agg _=>true
 | _=>false
def uy(s:AS)(kz:Nat)(ka va:Bool)(m:AV):Option (List (List AV)) :=
 match m with
 | .dM lR lQ mC es=>cond (Nat.beq kz lR&&ka==lQ&&va==mC) (some es) none
 | .mref l=>match s.H[l]? with
  | some (.map lR lQ mC es)=>cond (Nat.beq kz lR&&ka==lQ&&va==mC) (some es) none
  | some (.dM lR lQ mC es)=>cond (Nat.beq kz lR&&ka==lQ&&va==mC) (some es) none
  | _=>none
 | _=>none
def fw(ks:List CK)(kc:List AV):List (List AV)->Option (Option Nat)
 | []=>some none
 | r :: es=>(bI ks kc r).bind fun b=>cond b (some (some 0)) ((fw ks kc es).map fun o=>o.map (· + 1))
def om(agg:Bool)(cs:List AV):AV:=cond agg (.agg (cs.map AV.drop)) ((cs.headD .undef).drop)
def yt(ok va:Bool)(cs:List AV)(found:Bool):AV :=
 let v:=cond va (.agg (cs.map AV.drop)) ((cs.headD .undef).drop)
 cond ok (.tuple [v,.bool found]) v
def oS(ok va:Bool)(zero:List AV)(kz:Nat)(es:List (List AV)):Option Nat->AV
 | none=>yt ok va zero false
 | some i=>yt ok va ((es.getD i []).drop kz) true
def mu:List AV->Option (List UInt8)
 | .str a :: _=>some a
 | _=>none
def sR:List (List AV)->Bool
 | []=>true
 | r :: es=>(match mu r with|some a=>es.all fun q=>(match mu q with|some b=>!(a==b)|none=>false)|none=>false)&&sR es
def Ws:List CK->List AV->Bool
 | [.s],[.str _]=>true
 | _,_=>false
def sX(s:AS)(ok:Bool)(kz:Nat)(ka va:Bool)(ks:List CK)(zero:List AV)(m k:AV):Option (AV × Option AS) :=
 k.drop.cells.bind fun kc=>cond (Nat.beq kc.length kz&&ka==k.drop.isAgg)
  (match m with
   | .cI=>some (yt ok va zero false,none)
   | .mF lR lQ mC es=>cond (Nat.beq kz lR&&ka==lQ&&va==mC&&sR es&&Ws ks kc) ((fw ks kc es).map fun o=>(oS ok va zero kz es o,none)) none
   | m=>(uy s kz ka va m).bind fun es=>(fw ks kc es).map fun o=>(oS ok va zero kz es o,none)) none
def rO(s:AS)(kz:Nat)(ka:Bool)(ks:List CK)(zero:List AV)(m k:AV):Option (AV × Option AS) :=
 match m with
 | .mref l=>match s.H[l]? with
  | some (.map lR lQ false es)=>k.drop.cells.bind fun kc=>cond (Nat.beq kc.length kz&&Nat.beq kz lR&&ka==lQ&&ka==k.drop.isAgg)
    ((fw ks kc es).bind fun o=>match o with
     | none=>some ((zero.headD .undef),none)
     | some i=>((es.getD i [])[kz]?).map fun v=>(v,some (s.fp ⟨s.H.set l (.map kz ka false (es.set i (bP kz (es.getD i [])))),l⟩))) none
  | _=>none
 | _=>none
def tz(es:List (List AV))(o:Option Nat)(r:List AV):List (List AV) :=
 match o with
 | none=>es++[r]
 | some i=>es.set i r
def nj(s:AS)(kz:Nat)(ka va:Bool)(vz:Nat)(ks:List CK)(m k v:AV):Option AS :=
 match m with
 | .mref l=>match s.H[l]? with
  | some (.map lR lQ mC es)=>k.drop.cells.bind fun kc=>v.cells.bind fun vc =>
    cond (Nat.beq kc.length kz&&Nat.beq vc.length vz&&Nat.beq kz lR&&ka==lQ&&va==mC&&ka==k.drop.isAgg&&va==v.isAgg&&vc.all (aV l)&&kc.all AV.plain)
     ((fw ks kc es).map fun o=>s.fp ⟨s.H.set l (.map kz ka va (tz es o (kc++cond va (vc.map AV.drop) vc))),l⟩) none
  | _=>none
 | _=>none
mutual
def nK:AV->AV->Bool
 | .bool a,y=>match y with|.bool b=>a==b|_=>false
 | .int k a,y=>match y with|.int k' b=>k==k'&&a==b|_=>false
 | .str a,y=>match y with|.str b=>a==b|_=>false
 | .any,y=>match y with|.any=>true|_=>false
 | .df,y=>match y with|.df=>true|_=>false
 | .cI,y=>match y with|.cI=>true|_=>false
 | .ct,y=>match y with|.ct=>true|_=>false
 | .bR,y=>match y with|.bR=>true|_=>false
 | .ae,y=>match y with|.ae=>true|_=>false
 | .slice e o,y=>match y with|.slice f q=>tW e f&&o==q|_=>false
 | .ref l o,y=>match y with|.ref l' o'=>l==l'&&o==o'|_=>false
 | .sref l o n z,y=>match y with|.sref l' o' n' z'=>l==l'&&o==o'&&n==n'&&z==z'|_=>false
 | .mref l,y=>match y with|.mref l'=>l==l'|_=>false
 | .agg a,y=>match y with|.agg b=>B9 a b|_=>false
 | .tuple a,y=>match y with|.tuple b=>B9 a b|_=>false
 | .iface t a,y=>match y with|.iface t' b=>t==t'&&nK a b|_=>false
 | .eptr a,y=>match y with|.eptr b=>B9 a b|_=>false
 | .lbox g a,y=>match y with|.lbox g' b=>g==g'&&B9 a b|_=>false
 | .lref s g o,y=>match y with|.lref s' g' o'=>s==s'&&g==g'&&o==o'|_=>false
 | .lsl g e,y=>match y with|.lsl g' f=>g==g'&&tW e f|_=>false
 | .lsr s g,y=>match y with|.lsr s' g'=>s==s'&&g==g'|_=>false
 | .eref s g i z o,y=>match y with|.eref s' g' i' z' o'=>s==s'&&g==g'&&i==i'&&z==z'&&o==o'|_=>false
 | .dM kz ka va e,y=>match y with|.dM lR lQ mC f=>kz==lR&&ka==lQ&&va==mC&&tW e f|_=>false
 | .mF kz ka va e,y=>match y with|.mF lR lQ mC f=>kz==lR&&ka==lQ&&va==mC&&tW e f|_=>false
 | .iter g kz ka va c e,y=>match y with|.iter g' lR lQ mC c' f=>g==g'&&kz==lR&&ka==lQ&&va==mC&&B9 c c'&&tW e f|_=>false
 | .func f a c,y=>match y with|.func g b d=>decide (f=g)&&B9 a b&&B9 c d|_=>false
def B9:List AV->List AV->Bool
 | [],y=>match y with|[]=>true|_=>false
 | a :: l,y=>match y with|b :: m=>nK a b&&B9 l m|_=>false
def tW:List (List AV)->List (List AV)->Bool
 | [],y=>match y with|[]=>true|_=>false
 | a :: l,y=>match y with|b :: m=>B9 a b&&tW l m|_=>false
end
section
variable (G:Nat->List AV)(cf:cu)
def kV(s:AS)(take obj:Bool)(x:an):Option (AV × Option AS) :=
 match x with
 | .tmp t=>match s.T t with
  | .lbox g _=>some (.lref t g 0,none)
  | .lsl g e=>cond take (cond obj (some (.lsl s.gen e,some { s.br t .any with gen:=s.gen+1 })) (cond (iY e) (some (.slice e true,some (s.br t (.slice e false)))) none)) (some (.lsr t g,none))
  | .slice e own=>some (.slice e (take&&own),cond (take&&own) (some (s.br t (.slice e false))) none)
  | .iter ..=>none
  | v=>some (v,none)
 | x=>some (x.eval G s.T,none)
def fe(s:AS)(isB wr:Bool)(sz bytes:Nat)(x y:an):Option (AV × Option AS) :=
 match x with
 | .tmp t=>match s.T t with
  | .lsl _ e=>(dQ sz (y.eval G s.T)).bind fun f=>cond (wr&&cw sz bytes e f) (some (.lsl s.gen (e++f),some { s.br t .any with gen:=s.gen+1 })) none
  | .slice e own=>cond wr
    ((dQ sz (y.eval G s.T)).bind fun f=>cond (e.isEmpty&&own&&cw sz bytes [] f) (some (.lsl s.gen f,some { s.br t .any with gen:=s.gen+1 })) none)
    ((bw isB sz bytes (.slice e own) (y.eval G s.T)).map (·,some (s.br t (.slice e false))))
  | .ae=>cond wr
    ((dQ sz (y.eval G s.T)).bind fun f=>cond (cw sz bytes [] f) (some (.lsl s.gen f,some { s.br t .any with gen:=s.gen+1 })) none)
    ((bw isB sz bytes (.slice [] true) (y.eval G s.T)).map (·,some s))
  | _=>none
 | x=>cond wr none ((bw isB sz bytes (x.eval G s.T) (y.eval G s.T)).map (·,none))
def Ax(s:AS)(x:an):Option (AV × AS) :=
 match x with
 | .tmp t=>match s.T t with
  | .slice e own=>some (.slice e own,s.br t (.slice e false))
  | _=>none
 | .cg v=>match v with
  | .slice [] true=>some (.slice [] true,s)
  | _=>none
 | _=>none
def aq(s:AS)(o:fc):Option (AV × Option AS) :=
 match o with
 | .jR c x=>cond (fG c (x.addr G s.T)) (some (.undef,none)) none
 | .mov take obj x=>kV G s take obj x
 | .pick c a b=>match c.eval G s.T with
  | .bool t=>some (cond t (a.addr G s.T).drop (b.addr G s.T).drop,none)
  | _=>none
 | .allocL zero=>some (.lbox s.gen zero,some { s with gen:=s.gen+1 })
 | .boxL x=>(x.eval G s.T).drop.cells.map fun cs=>(.lbox s.gen (cs.map AV.drop),some { s with gen:=s.gen+1 })
 | .sQ ty zero=>some (.ref s.H.length 0,some (s.fp ⟨s.H++[.box ty zero],s.H.length⟩))
 | .box ty x=>(x.eval G s.T).drop.cells.bind fun cs=>cond (cs.all (aV s.H.length)) (some (.ref s.H.length 0,some (s.fp ⟨s.H++[.box ty (cs.map AV.drop)],s.H.length⟩))) none
 | .build zero parts=>(fz zero (parts.map fun p=>(p.1,p.2.1,(p.2.2.eval G s.T).drop))).map (.agg ·,none)
 | .mkslice isB sz He parts=>(cA sz He (parts.map fun p=>(p.1,(p.2.eval G s.T).drop))).bind fun E=>cond (nG isB E) (some (.slice E true,none)) none
 | .lS sz He parts=>(cA sz He (parts.map fun p=>(p.1,(p.2.eval G s.T).drop))).bind fun E=>cond (cC E) (some (.sref s.H.length 0 E.length sz,some (s.fp ⟨s.H++[.box aJ E.flatten],s.H.length⟩))) none
 | .load take agg sz x=>cM s take agg sz (x.addr G s.T)
 | .store sz a v=>(gl s sz (a.addr G s.T) (v.eval G s.T)).map fun s'=>(.undef,some (s'.bD v))
 | .oB sz a v=>(gl (kN s (a.addr G s.T)) sz (a.addr G s.T) (v.eval G s.T)).map fun s'=>(.undef,some (s'.bD v))
 | .nilCheck x=>cond (bZ s (x.addr G s.T)) (some (x.addr G s.T,none)) none
 | .bin op q x y=>(vJ op q (oR x || oR y) (x.eval G s.T) (y.eval G s.T)).map (·,none)
 | .un op x=>(za op (x.eval G s.T)).map (·,none)
 | .mm mx x y=>(Sg mx (x.eval G s.T) (y.eval G s.T)).map (·,none)
 | .conv c x=>(j6 c (x.eval G s.T)).map (·,none)
 | .uz t x=>(vp t (x.eval G s.T)).map (·,none)
 | .slice k x lo hi mx=>(ij k (x.eval G s.T) (lo.map (·.eval G s.T)) (hi.map (·.eval G s.T)) (mx.map (·.eval G s.T))).map (·,none)
 | .fieldAddr off x=>cond (bZ s (x.addr G s.T)) ((gD off (x.addr G s.T)).map (·,none)) none
 | .field agg off sz x=>match x.eval G s.T with
  | .agg cs=>(ag false agg sz off cs).map (·,none)
  | _=>none
 | .ixSl sz x i=>match x.addr G s.T with
  | .slice e _=>(asNat (i.eval G s.T)).bind fun n=>(e[n]?).bind fun r=>cond (Nat.beq r.length sz) (some (.eptr r,none)) none
  | .sref l o m _=>(asNat (i.eval G s.T)).bind fun n=>cond (Nat.blt n m) (some (.ref l (o+n*sz),none)) none
  | .lsr t g=>match s.T t with
   | .lsl g' e=>cond (Nat.beq g g') ((asNat (i.eval G s.T)).bind fun n=>(e[n]?).bind fun r=>cond (Nat.beq r.length sz) (some (.eref t g n sz 0,none)) none) none
   | _=>none
  | _=>none
 | .ixArr n sz x i=>(asNat (i.eval G s.T)).bind fun k=>cond (Nat.blt k n&&bZ s (x.addr G s.T)) ((gD (k*sz) (x.addr G s.T)).map (·,none)) none
 | .index agg n sz x i=>(asNat (i.eval G s.T)).bind fun k=>cond (Nat.blt k n)
   (match x.eval G s.T with
    | .agg cs=>(ag false agg sz (k*sz) cs).map (·,none)
    | _=>none) none
 | .indexStr x i=>match x.eval G s.T with
  | .str l=>(asNat (i.eval G s.T)).bind fun n=>(l[n]?).map fun (b:UInt8)=>(AV.int .u8 b.toNat,none)
  | _=>none
 | .extract x i=>match x.eval G s.T with
  | .tuple vs=>(vs[i]?).map fun v=>(v.aX,none)
  | _=>none
 | .len k x=>match x.addr G s.T with
  | .lsr t g=>match s.T t with
   | .lsl g' e=>cond (Nat.beq g g') ((kx k (.slice e false)).map (·,none)) none
   | _=>none
  | v=>(kx k v).map (·,none)
 | .append isB wr sz bytes x y=>fe G s isB wr sz bytes x y
 | .appendO sz bytes x y=>il s sz bytes (x.addr G s.T) (y.eval G s.T)
 | .yB sz bytes zero n=>pG s sz bytes zero (n.eval G s.T)
 | .copyO x y=>pF s (x.addr G s.T) (y.eval G s.T)
 | .BB x=>(x.eval G s.T).drop.cells.bind fun cs=>cond (cs.all al) (some (.ref s.H.length 0,some (s.fp ⟨s.H++[.ca (cs.map AV.drop)],s.H.length⟩))) none
 | .nilS neg x=>(yF (x.eval G s.T)).map fun b=>(.bool (neg != b),none)
 | .call f args=>match f.eval G s.T with
  | .func (.func n) fs cs=>cond ((args.map fun a=>a.addr G s.T).all al)
    ((cf n (fs++args.map (fun a=>(a.addr G s.T).aX)++cs) s.H).map fun r=>(r.1,r.2.map s.fp)) none
  | _=>none
 | .tJ f args=>match f.eval G s.T with
  | .func (.func n) fs cs=>cond ((args.map fun a=>a.addr G s.T).all al)
    ((cf n (fs++args.map (fun a=>(a.addr G s.T).aX)++cs) s.H).bind fun r=>match r.2 with|none=>some (r.1,none)|some _=>none) none
  | _=>none
 | .tK f pre x post=>cond ((pre.map fun a=>a.addr G s.T).all al&&(post.map fun a=>a.addr G s.T).all al)
   ((Ax s x).bind fun p=>(cf f (pre.map (fun a=>(a.addr G s.T).aX)++p.1 :: post.map (fun a=>(a.addr G s.T).aX)) s.H).map fun r=>(r.1,some ((r.2.map p.2.fp).getD p.2))) none
 | .mkfunc f first captured=>cond ((first.map fun a=>a.addr G s.T).all al&&(captured.map fun a=>a.addr G s.T).all al)
   (some (.func f (first.map fun a=>(a.addr G s.T).drop) (captured.map fun a=>(a.addr G s.T).drop),none)) none
 | .uA kz ka va=>some (.mref s.H.length,some (s.fp ⟨s.H++[.map kz ka va []],s.H.length⟩))
 | .look ok kz ka va ks zero m k=>sX s ok kz ka va ks zero (m.addr G s.T) (k.eval G s.T)
 | .Gf kz ka ks zero m k=>rO s kz ka ks zero (m.addr G s.T) (k.eval G s.T)
 | .wJ kz ka va vz ks m k v=>(nj s kz ka va vz ks (m.addr G s.T) (k.eval G s.T) (v.eval G s.T)).map fun s'=>(.undef,some (s'.bD v))
 | .MQ m=>match m.addr G s.T with
  | .cI=>some (.int .i64 0,none)
  | .dM _ _ _ es=>some (.int .i64 es.length,none)
  | .mref l=>match s.H[l]? with
   | some (.map _ _ _ es)=>some (.int .i64 es.length,none)
   | some (.dM _ _ _ es)=>some (.int .i64 es.length,none)
   | _=>none
  | _=>none
 | .rng kz ka va m=>match m.addr G s.T with
  | .cI=>some (.iter s.gen kz ka va [] [],some { s with gen:=s.gen+1 })
  | .dM lR lQ mC es=>cond (Nat.beq kz lR&&ka==lQ&&va==mC) (some (.iter s.gen kz ka va [] es,some { s with gen:=s.gen+1 })) none
  | .mF lR lQ mC es=>cond (Nat.beq kz lR&&ka==lQ&&va==mC) (some (.iter s.gen kz ka va [] es,some { s with gen:=s.gen+1 })) none
  | .mref l=>match s.H[l]? with
   | some (.map lR lQ mC es)=>cond (Nat.beq kz lR&&ka==lQ&&va==mC&&cC es)
     (some (.iter s.gen kz ka va [] es,some { s.fp ⟨s.H.set l (.dM kz ka va es),l⟩ with gen:=s.gen+1 })) none
   | _=>none
  | _=>none
 | .same agg sz d x=>match cM s false agg sz (x.addr G s.T) with
  | some (v,none)=>cond (nK v (s.T d)) (some (.undef,none)) none
  | _=>none
 | .next _=>none
 | .T5 it=>match it with
  | .tmp t=>match s.T t with
   | .iter _ kz ka va cur _=>cond (Nat.ble kz cur.length&&!cur.isEmpty) (some (.tuple [om ka (cur.take kz),om va (cur.drop kz)],none)) none
   | _=>none
  | _=>none
def AS.bM(s:AS)(d:Option Nat)(v:AV):AS:=match d with|none=>s|some d=>s.br d v
def bt(draw:Bool)(s:AS)(o:aj):Option AS :=
 let run:Option AS:=(aq G cf s o.op).bind fun r=>match r.2 with
  | none=>cond (draw&&(aO r.1).isSome) none (some (s.bM o.dst r.1))
  | some s'=>cond draw none (some (s'.bM o.dst r.1))
 match o.guard with
 | none=>run
 | some (g,want)=>match s.T g with
  | .bool b=>cond (b==want) run (some (s.bM o.dst .undef))
  | .tuple []=>some (s.bM o.dst .undef)
  | _=>none
def bK(draw:Bool):List aj->AS->Option AS
 | [],s=>some s
 | o :: r,s=>(bt G cf draw s o).bind (bK draw r)
def iter(f:AS->Option (bp × AS)):Nat->AS->Option (bp × AS)
 | 0,_=>none
 | n+1,s=>(f s).bind fun r=>match r.1 with
  | .normal=>iter f n r.2
  | _=>some r
def im(n:Nat):bJ->AS->Option (bp × AS)
 | .skip,s=>some (.normal,s)
 | .region d ops,s=>(bK G cf d ops s).map (.normal,·)
 | .seq a b,s=>(im n a s).bind fun r=>match r.1 with
  | .normal=>im n b r.2
  | _=>some r
 | .cond c a b,s=>match c.eval G s.T with
  | .bool t=>cond t (im n a s) (im n b s)
  | _=>none
 | .block id a,s=>(im n a s).map fun r=>match r.1 with
  | .exit i=>(cond (Nat.beq i id) .normal (.exit i),r.2)
  | e=>(e,r.2)
 | .loop a,s=>iter (im n a) n s
 | .exit id,s=>some (.exit id,s)
 | .ret,s=>some (.ret,s)
 | .tG _ _ _,_=>none
end
def iR(s:AS):fZ->Option AV
 | .tmp t=>cond (al (s.T t)) (some (s.T t)) none
 | .cell a agg sz=>match s.T a with
  | .lbox _ cs=>ag false agg sz 0 cs
  | .ref loc 0=>match s.H[loc]? with
   | some (.box _ cs)=>ag false agg sz 0 cs
   | _=>none
  | _=>none
def mr(s:AS):fZ->Option Nat
 | .tmp t=>match s.T t with
  | .lsl _ _=>some t
  | .lsr b g=>match s.T b with
   | .lsl g' _=>cond (Nat.beq g g') (some b) none
   | _=>none
  | _=>none
 | .cell ..=>none
def mq(s:AS):List fZ->Option (List AV)
 | []=>some []
 | r :: rs=>(iR s r).bind fun v=>(mq s rs).map (v.aX :: ·)
def kO(s:AS)(rs:List fZ):Option AV :=
 match rs with
 | [r]=>match mr s r with
  | some b=>(match s.T b with|.lsl _ e=>cond (iY e) (some (.slice e true)) none|_=>none)
  | none=>iR s r
 | rs=>(mq s rs).map .tuple
def gN(base:Nat)(rs:List fZ)(s:AS):Option (AV × Option fQ) :=
 (kO s rs).bind fun r =>
  cond (r.leaves base) (some (r,cond (Nat.beq s.lo base) none (some ⟨s.H.take base,s.lo⟩))) none
def SO(e:List (List AV)):Nat:=(e.head?.map List.length).getD 0
def vu(s:AS)(base:Nat):List fZ->Option (List AV × Option (List (List AV)))
 | []=>some ([],none)
 | r :: rs=>(vu s base rs).bind fun q=>match mr s r with
  | some b=>match s.T b with
   | .lsl _ e=>cond (q.2.isNone&&!e.isEmpty&&e.all (fun r=>r.all AV.plain)) (some (.sref base 0 e.length (SO e) :: q.1,some e)) none
   | _=>none
  | none=>(iR s r).bind fun v=>cond (v.aX.bn base) (some (v.aX :: q.1,q.2)) none
def pL(base:Nat)(rs:List fZ)(s:AS):Option (AV × Option fQ) :=
 cond (Nat.beq rs.length 1) none ((vu s base rs).bind fun q=>q.2.map fun e=>(.tuple q.1,some ⟨s.H.take base++[.box aJ e.flatten],s.lo⟩))
def jG:AV->Bool
 | .int .u8 _=>false
 | .any=>false
 | _=>true
def mA:AV->AV
 | .slice [] true=>.ae
 | v=>v
def jV:cj->Option (List AV)
 | .box _ cs=>some cs
 | .ca cs=>some cs
 | _=>none
def dY(H:ah)(base:Nat):Nat->AV->AV
 | 0,v=>v
 | k+1,v=>match v with
  | .sref l off n z=>cond (Nat.ble base l) (match (H[l]?).bind jV with
   | some cs=>cond (Nat.blt 0 z&&Nat.ble (off+n*z) cs.length&&(cs.all fun x=>(dY H base k x.drop).plain&&jG x)) (.slice (chunks z n ((cs.map fun x=>dY H base k x.drop).drop off)) false) v
   | none=>v) v
  | v=>v
abbrev Uu:Nat:=3
def L4(H:ah)(base:Nat):AV->AV
 | .agg cs=>.agg (cs.map (dY H base Uu))
 | v=>dY H base Uu v
def uG(base:Nat)(s:AS)(rs:List fZ):Option AV :=
 match rs with
 | [r]=>(iR s r).map fun v=>L4 s.H base v.aX
 | rs=>(mq s rs).map fun vs=>.tuple (vs.map (L4 s.H base))
def pK(base:Nat)(rs:List fZ)(s:AS):Option (AV × Option fQ) :=
 (uG base s rs).bind fun r=>cond (r.leaves base) (some (r,cond (Nat.beq s.lo base) none (some ⟨s.H.take base,s.lo⟩))) none
def s5(base:Nat)(rs:List fZ)(s:AS):Option (AV × Option fQ) :=
 match rs with
 | [r]=>(iR s r).bind fun v=>match v with
  | .sref l off n z=>match s.H[l]? with
   | some (.box _ cs)=>cond (Nat.ble base l&&cs.all AV.plain) (some (.sref base off n z,some ⟨s.H.take base++[.ca cs],s.lo⟩)) none
   | _=>none
  | _=>none
 | _=>none
def nW(base:Nat)(fn:ax)(s:AS):Option (AV × Option fQ):=cond (fn.muts.elem 888888) (s5 base fn.results s) none
def nD(base:Nat)(s:AS):Bool:=cond (Nat.beq s.lo base) true (((s.H.take base).drop s.lo).all fun o=>match o with|.ca cs=>cs.all (AV.aG base)|_=>true)
def rP(base:Nat)(fn:ax)(s:AS):Option (AV × Option fQ) :=
 match nW base fn s with
 | some r=>some r
 | none=>match gN base fn.results s with
 | some r=>some r
 | none=>match pL base fn.results s with
  | some r=>some r
  | none=>pK base fn.results s
def kI(base:Nat)(fn:ax)(s:AS):Option (AV × Option fQ):=cond (nD base s) (rP base fn s) none
def n1:AV->AV
 | .ae=>.slice [] false
 | v=>v
def n2:AV->AV
 | .ae=>.slice [] false
 | .slice e false=>.slice (e.map fun r=>r.map n1) false
 | v=>v
def n3:AV->AV
 | .agg cs=>.agg (cs.map n2)
 | v=>n2 v
def oV:AV->AV
 | .tuple vs=>.tuple (vs.map n3)
 | v=>n3 v
def sI(fn:ax)(r:AV × Option fQ):AV × Option fQ:=cond (fn.muts.elem 777777) (oV r.1,r.2) r
def xM(rs:List fZ)(s:AS):Option (AV × Option fQ) :=
 cond (Nat.beq rs.length 1) none ((mq s rs).map fun vs=>(.tuple vs,some ⟨s.H,s.lo⟩))
def Kb(fn:ax)(s:AS):Option (AV × Option fQ):=cond (fn.muts.elem 888887) (xM fn.results s) none
def finish(base:Nat)(fn:ax)(s:AS):Option (AV × Option fQ) :=
 match (kI base fn s).map (sI fn) with
 | some r=>some r
 | none=>Kb fn s
def gn(args:List AV):aw:=fun i=>args.getD i .undef
def tv(G:Nat->List AV)(cf:cu)(n:Nat)(fn:ax)(args:List AV)(H:ah):Option (AV × Option fQ) :=
 cond (Nat.beq args.length fn.np)
  ((im G cf n fn.body { T:=gn args,H,lo:=H.length,gen:=0 }).bind fun r=>match r.1 with
   | .exit _=>none
   | _=>finish H.length fn r.2)
  none
structure AP where
 fns:FuncId->Option ax
 ov:FuncId->Option (List AV->ah->Option (AV × Option fQ))
 aN:Nat->List AV
def pV:AV->Bool
 | .slice _ true=>false
 | _=>true
def zd(A:AP):Nat->cu
 | 0=>fun _ _ _=>none
 | n+1=>fun f args H=>match A.ov f with
  | some g=>cond (args.all pV) (g args H) none
  | none=>match A.fns f with
   | none=>none
   | some fn=>tv A.aN (zd A n) n fn args H
def jB:Value->Option AV
 | .bool b=>some (.bool b)
 | .int k n=>some (.int k n)
 | .string s=>some (.str s.data.toList)
 | .slice none 0 0=>some (.slice [] true)
 | .pointer none=>some .df
 | .map none=>some .cI
 | .nilFunc=>some .ct
 | .nilIface=>some .bR
 | _=>none
def dk:List Value->Option (List AV)
 | []=>some []
 | v :: r=>(jB v).bind fun x=>(dk r).map (x :: ·)
def qJ:Value->Option AV
 | .agg vs=>(dk vs.toList).map fun l=>.agg (l.map mA)
 | v=>jB v
section
variable (P:Program)(bF locals muts:List Nat)(nt:Nat)
def ak:Operand->Option an
 | .tmp t=>cond (Nat.blt t nt) (some (.tmp t)) none
 | .const v=>(qJ v).map .cg
 | .global g=>some (.aN g)
 | .func f=>some (.fn f)
def iM:List Operand->Option (List an)
 | []=>some []
 | x :: r=>(ak nt x).bind fun a=>(iM r).map (a :: ·)
def de(t:TypeId):Option Nat:=(P.info? t).map (·.size)
def la(t:TypeId):Option (List AV):=((P.info? t).bind (·.zero)).bind fun z=>dk z.cells.toList
def kQ(t:TypeId):Option Bool:=(P.underlying t).map fun|.struct _=>true|.array _ _=>true|_=>false
def gB:Option Operand->Option (Option an)
 | none=>some none
 | some x=>(ak nt x).map some
def nV(flat:TypeId->Option (List CK)):List Go.Field->Nat->Option (List CK)
 | [],_=>some []
 | f :: fs,o=>cond (Nat.beq f.offset o&&f.name != "_") ((flat f.type).bind fun k=>(nV flat fs (o+k.length)).map (k++·)) none
def my:Nat->TypeId->Option (List CK)
 | 0,_=>none
 | d+1,t=>match P.underlying t with
  | some .bool=>some [.b]
  | some (.int _)=>some [.i]
  | some .string=>some [.s]
  | some (.struct fs)=>cond (!P.stoodInHeld t) ((nV (my d) fs.toList 0).bind fun ks=>cond (match de P t with|some n=>Nat.beq n ks.length|none=>false) (some ks) none) none
  | _=>none
def ni(t:TypeId):uU :=
 match P.underlying t with
 | some .bool=>.bool
 | some (.interface _)=>.iface
 | some (.func _ _ _)=>.func
 | some (.struct _)=>cond (!P.eqGuardType P.depth t) (match my P 8 t with|some ks=>.flat ks|none=>.other) .other
 | _=>.other
def mP(fs:List Go.Field):List (Nat × Operand)->Option (List (Nat × Nat × an))
 | []=>some []
 | (i,x) :: r=>(fs[i]?).bind fun f=>(de P f.type).bind fun z=>(ak nt x).bind fun a=>(mP fs r).map ((f.offset,z,a) :: ·)
def jz(sz:Nat):List (Nat × Operand)->Option (List (Nat × Nat × an))
 | []=>some []
 | (i,x) :: r=>(ak nt x).bind fun a=>(jz sz r).map ((i*sz,sz,a) :: ·)
def ki:List (Nat × Operand)->Option (List (Nat × an))
 | []=>some []
 | (i,x) :: r=>(ak nt x).bind fun a=>(ki r).map ((i,a) :: ·)
def Ld:Value->Bool
 | .agg _=>true
 | _=>false
def MN(t:TypeId):Option (List CK × Bool × Bool × List AV) :=
 match P.underlying t with
 | some (.map k e)=>(my P 8 k).bind fun ks=>(kQ P k).bind fun ka=>(P.info? e).bind fun i=>i.zero.bind fun z=>(dk z.cells.toList).bind fun zero =>
   cond (Ld z || Nat.beq zero.length 1) (some (ks,ka,Ld z,zero)) none
 | _=>none
def De:Operand->Operand->Bool
 | .tmp a,.tmp b=>Nat.beq a b
 | _,_=>false
def iI(d:Option Nat):Bool:=match d with|some d=>bF.contains d|none=>false
def isLocal(d:Option Nat):Bool:=match d with|some d=>locals.contains d|none=>false
def Uw(d:Option Nat):an->Bool
 | .tmp t=>bF.contains t
 | .cg (.slice [] true)=>iI bF d
 | _=>false
def qH(d:Option Nat)(g:an)(ys:List an):fc :=
 match g with
 | .fn n=>match ys.findIdx? (Uw bF d) with
  | some k=>match ys.drop k with
   | x :: post=>.tK n (ys.take k) x post
   | []=>.call g ys
  | none=>.call g ys
 | g=>.call g ys
def tQ(d:Option Nat)(c:Call):Option fc :=
 match c.callee with
 | .value f=>(ak nt f).bind fun g=>(iM nt c.args.toList).map (qH bF d g ·)
 | .builtin .len=>match c.args.toList,c.argTypes.toList with
  | [x],[t]=>(ak nt x).bind fun a=>match P.underlying t with
   | some .string=>some (.len .str a)
   | some (.slice _)=>some (.len .sl a)
   | some (.array n _)=>some (.len (.arr n) a)
   | some (.map _ _)=>some (.MQ a)
   | _=>none
  | _,_=>none
 | .builtin .append=>match c.args.toList,c.argTypes.toList with
  | [x,y],[t,u]=>(ak nt x).bind fun a=>(ak nt y).bind fun b=>match P.underlying t,P.underlying u with
   | some (.slice e),some (.slice _)|some (.slice e),some .string=>(P.info? e).bind fun i=>cond (Nat.blt 0 i.size&&(i.zero.map fun z=>Nat.beq z.cells.size i.size).getD false) (some (cond (isLocal locals d) (.appendO i.size i.bytes a b) (.append (Nat.beq e iF) (iI muts d) i.size i.bytes a b))) none
   | _,_=>none
  | _,_=>none
 | .builtin .copy=>match c.args.toList,c.argTypes.toList with
  | [x,y],[t,u]=>(ak nt x).bind fun a=>(ak nt y).bind fun b=>match P.underlying t,P.underlying u with
   | some (.slice e),some (.slice _)=>(de P e).bind fun sz=>cond (Nat.beq sz 1) (some (.copyO a b)) none
   | _,_=>none
  | _,_=>none
 | .builtin .max=>match c.args.toList with
  | [x,y]=>(ak nt x).bind fun a=>(ak nt y).map (.mm true a ·)
  | _=>none
 | .builtin .min=>match c.args.toList with
  | [x,y]=>(ak nt x).bind fun a=>(ak nt y).map (.mm false a ·)
  | _=>none
 | .builtin .clear=>some (.un .neg (.cg .undef))
 | _=>none
def FC(k:Nat)(l:List Nat)(d:Option Nat):Bool:=match d with|some d=>l.elem (k+d)|none=>false
def Jp(op:BinOp)(t:TypeId)(y:Operand):Option Bool :=
 match y,P.underlying t with
 | .const (.slice none 0 0),some (.slice _)=>(match op with|.eql=>some false|.neq=>some true|_=>none)
 | _,_=>none
def CL:an->an
 | .cg v=>.cg (mA v)
 | x=>x
def KP(l:List Nat):Operand->Bool
 | .tmp t=>l.elem (900000+t)
 | _=>false
def cG(d:Option Nat)(o:Op):Option fc :=
 match o with
 | .move x|.assign x=>(ak nt x).map fun a=>.mov (iI bF d) (iI muts d) (cond (iI muts d) (CL a) a)
 | .pick c a b=>(ak nt c).bind fun c=>(ak nt a).bind fun a=>(ak nt b).map (.pick c a ·)
 | .alloc t=>((la P t).map fun z=>cond (FC 700000 bF d) (z.map mA) z).bind fun z=>cond (isLocal locals d) (some (.allocL z)) (some (cond (FC 500000 muts d) (.BB (.cg (.agg z))) (.sQ t z)))
 | .box t x=>(ak nt x).map fun a=>cond (isLocal locals d) (.boxL a) (cond (FC 500000 muts d) (.BB a) (.box t a))
 | .build t parts=>((la P t).map fun z=>cond (iI bF d) (z.map mA) z).bind fun z=>match P.underlying t with
  | some (.struct fs)=>cond ((fs.toList.mapM fun f=>(P.info? f.type).map fun i=>(f.offset,i.size)).isSome) ((mP P nt fs.toList parts.toList).map (.build z ·)) none
  | some (.array _ e)=>(de P e).bind fun sz=>(jz nt sz parts.toList).map (.build z ·)
  | _=>none
 | .buildSlice t len parts=>match P.underlying t with
  | some (.slice e)=>(de P e).bind fun sz=>(la P e).bind fun z=>(ki nt parts.toList).bind fun ps =>
    cond (Nat.ble (len*sz) 16777216&&Nat.beq z.length sz&&Nat.blt 0 sz) (some (cond (isLocal locals d) (.lS sz (List.replicate len (z.map AV.drop)) ps) (.mkslice (Nat.beq e iF) sz (List.replicate len (z.map AV.drop)) ps))) none
  | _=>none
 | .load t x=>(ak nt x).bind fun a=>(kQ P t).bind fun g=>(de P t).map fun sz=>.load (iI bF d) g sz a
 | .store t x y=>(ak nt x).bind fun a=>(ak nt y).bind fun b=>(de P t).map fun sz=>cond (KP locals x) (.oB sz a b) (.store sz a b)
 | .nilCheck x=>(ak nt x).map .nilCheck
 | .binOp op t x y _=>(ak nt x).bind fun a=>(ak nt y).bind fun b=>match Jp P op t y with
  | some neg=>some (.nilS neg a)
  | none=>some (.bin op (ni P t) a b)
 | .unOp op _ x=>(ak nt x).map (.un op ·)
 | .convert s t x=>(ak nt x).bind fun a=>match P.underlying s,P.underlying t with
  | some (.int _),some (.int k)=>some (.conv (.toInt k) a)
  | some .string,some .string=>some (.conv .Di a)
  | some (.slice e),some .string=>match P.underlying e with
   | some (.int .u8)=>some (.conv .xh a)
   | _=>none
  | _,_=>none
 | .makeInterface t x=>(ak nt x).bind fun a=>match P.underlying t with
  | some (.interface _)=>none
  | some _=>some (.uz t a)
  | none=>none
 | .makeFunc f first captured=>(iM nt first.toList).bind fun a=>(iM nt captured.toList).map (.mkfunc f a ·)
 | .slice t x lo hi mx=>(ak nt x).bind fun a=>(gB nt lo).bind fun lo=>(gB nt hi).bind fun hi=>(gB nt mx).bind fun mx=>match P.underlying t with
  | some .string=>some (.slice .str a lo hi mx)
  | some (.slice e)=>(de P e).map fun sz=>.slice (.sl sz) a lo hi mx
  | some (.array n e)=>(de P e).bind fun sz=>cond (Nat.blt 0 sz) (some (.slice (.arr n sz) a lo hi mx)) none
  | _=>none
 | .fieldAddr t x f=>(ak nt x).bind fun a=>match P.underlying t with
  | some (.struct fs)=>(fs[f]?).bind fun q=>(de P q.type).bind fun sz=>cond (Nat.blt 0 sz) (some (.fieldAddr q.offset a)) none
  | _=>none
 | .field t x f=>(ak nt x).bind fun a=>match P.underlying t with
  | some (.struct fs)=>(fs[f]?).bind fun q=>(de P q.type).bind fun sz=>(kQ P q.type).map fun g=>.field g q.offset sz a
  | _=>none
 | .indexAddr t x i=>(ak nt x).bind fun a=>(ak nt i).bind fun b=>match P.underlying t with
  | some (.slice e)=>(de P e).map fun sz=>.ixSl sz a b
  | some (.array n e)=>(de P e).map fun sz=>.ixArr n sz a b
  | _=>none
 | .index t x i=>(ak nt x).bind fun a=>(ak nt i).bind fun b=>match P.underlying t with
  | some .string=>some (.indexStr a b)
  | some (.array n e)=>(de P e).bind fun sz=>(kQ P e).map fun g=>.index g n sz a b
  | _=>none
 | .extract x i=>(ak nt x).map (.extract · i)
 | .call c=>tQ P bF locals muts nt d c
 | .makeSlice t x y=>(ak nt x).bind fun a=>cond (De x y) (match P.underlying t with
  | some (.slice e)=>(P.info? e).bind fun i=>i.zero.bind fun z=>(dk z.cells.toList).bind fun zero=>cond (Nat.blt 0 i.size&&Nat.beq z.cells.size i.size) (some (.yB i.size i.bytes (zero.map AV.drop) a)) none
  | _=>none) none
 | .makeMap t none=>(MN P t).map fun m=>.uA m.1.length m.2.1 m.2.2.1
 | .lookup t x i ok=>(ak nt x).bind fun a=>(ak nt i).bind fun b=>(MN P t).map fun m =>
   cond (!ok&&!m.2.2.1&&iI bF d) (.Gf m.1.length m.2.1 m.1 m.2.2.2 a b) (.look ok m.1.length m.2.1 m.2.2.1 m.1 m.2.2.2 a b)
 | .mapUpdate t x i v|.insert t x i v=>(ak nt x).bind fun a=>(ak nt i).bind fun b=>(ak nt v).bind fun c=>(MN P t).map fun m=>.wJ m.1.length m.2.1 m.2.2.1 m.2.2.2.length m.1 a b c
 | .range t x=>cond (iI muts d) ((ak nt x).bind fun a=>(MN P t).map fun m=>.rng m.1.length m.2.1 m.2.2.1 a) none
 | .next x false=>(ak nt x).map .next
 | .entry x=>(ak nt x).map .T5
 | _=>none
def oH(ops:Array Oper):Option (Nat × Bool)->Option (Option (Nat × Bool))
 | none=>some none
 | some (j,want)=>((ops[j]?).bind (·.dst)).bind fun s=>cond (Nat.blt s nt) (some (some (s,want))) none
def qI(ops:Array Oper)(o:Oper):Option aj :=
 (cG P bF locals muts nt o.dst o.op).bind fun p=>(oH nt ops o.guard).bind fun g =>
  match o.dst with
  | none=>some ⟨none,g,p⟩
  | some d=>cond (Nat.blt d nt) (some ⟨some d,g,p⟩) none
def fA(ops:Array Oper):List Oper->Option (List aj)
 | []=>some []
 | o :: r=>(qI P bF locals muts nt ops o).bind fun p=>(fA ops r).map (p :: ·)
def an.tmps:an->List Nat
 | .tmp t=>[t]
 | _=>[]
def fc.tmps:fc->List Nat
 | .jR _ x|.boxL x|.BB x|.mov _ _ x|.box _ x|.load _ _ _ x|.nilCheck x|.un _ x|.nilS _ x|.conv _ x|.uz _ x|.fieldAddr _ x|.field _ _ _ x|.extract x _|.len _ x=>x.tmps
 | .pick c a b=>c.tmps++a.tmps++b.tmps
 | .allocL _|.sQ _ _=>[]
 | .build _ ps=>ps.flatMap fun p=>p.2.2.tmps
 | .mkslice _ _ _ ps|.lS _ _ ps=>ps.flatMap fun p=>p.2.tmps
 | .store _ a v|.oB _ a v=>a.tmps++v.tmps
 | .bin _ _ x y|.mm _ x y|.ixSl _ x y|.ixArr _ _ x y|.index _ _ _ x y|.indexStr x y|.append _ _ _ _ x y|.appendO _ _ x y|.copyO x y=>x.tmps++y.tmps
 | .slice _ x lo hi mx=>x.tmps++(lo.toList.flatMap an.tmps)++(hi.toList.flatMap an.tmps)++(mx.toList.flatMap an.tmps)
 | .call f xs|.tJ f xs=>f.tmps++xs.flatMap an.tmps
 | .tK _ pre x post=>pre.flatMap an.tmps++x.tmps++post.flatMap an.tmps
 | .mkfunc _ a b=>a.flatMap an.tmps++b.flatMap an.tmps
 | .uA _ _ _=>[]
 | .yB _ _ _ n=>n.tmps
 | .look _ _ _ _ _ _ m k|.Gf _ _ _ _ m k=>m.tmps++k.tmps
 | .wJ _ _ _ _ _ m k v=>m.tmps++k.tmps++v.tmps
 | .MQ m|.rng _ _ _ m|.next m|.T5 m=>m.tmps
 | .same _ _ d x=>d :: x.tmps
def aj.looks(o:aj):List Nat:=o.op.tmps++(match o.guard with|some (g,_)=>[g]|none=>[])
def og(o:Oper)(j:Nat):Bool:=o.after.any fun e=>Region.binds .any e&&Nat.beq e.on j
def uC(L:List Nat)(ops:List (Oper × aj)):Bool :=
 let l:=ops.zipIdx
 l.all fun p=>(p.1.1.after.all fun e=>!Region.binds .any e || Nat.blt e.on p.2)&&(match p.1.2.dst with|some d=>!(L.contains d)|none=>true) &&
  l.all fun q=>Nat.beq p.2 q.2 || (match q.1.2.dst with
   | none=>true
   | some d=>(match p.1.2.dst with|some d'=>!(Nat.beq d d')|none=>true) &&
    (!(p.1.2.looks.contains d) || cond (Nat.blt q.2 p.2) (og p.1.1 q.2) (og q.1.1 p.2)))
def fy:aj->Option Nat
 | ⟨some d,none,.allocL _⟩=>some d
 | _=>none
def rG(o:aj):List AV:=match o.op with|.allocL z=>z|_=>[]
def dP(M:List Nat):aj->Option (Nat × an)
 | ⟨none,none,.store _ (.tmp d) y⟩=>cond (M.contains d) (some (d,y)) none
 | _=>none
def ay(is:List aj):List Nat:=is.filterMap fy
def AQ(M:List Nat)(o:aj):Bool:=(fy o).isNone&&(dP M o).isNone
def ago:aj:=⟨none,none,.mov false false (.cg .undef)⟩
def oW(M:List Nat)(is:List aj):List aj:=is.map fun o=>cond (AQ M o) o ago
def lE(M:List Nat):List aj:=M.flatMap fun d=>[⟨some d,none,.allocL []⟩,⟨some d,none,.mov false false (.cg .undef)⟩]
def rl(is:List aj):List aj:=is.filter fun o=>(fy o).isSome
def wj(M:List Nat)(is:List aj):List aj:=is.filter fun o=>(dP M o).isSome
def drawn(is:List aj):bJ :=
 .seq (.region false (lE (ay is))) (.seq (.region true (oW (ay is) is)) (.seq (.region false (rl is)) (.region false (wj (ay is) is))))
def Jr:List Nat->Bool
 | []=>true
 | x :: l=>!(l.contains x)&&Jr l
def Am(l:List ((Oper × aj) × Nat))(p:(Oper × aj) × Nat):Bool:=p.1.1.after.all fun e=>!Region.binds .any e || Nat.blt e.on p.2
def kindOk(L M:List Nat)(l:List ((Oper × aj) × Nat))(p:(Oper × aj) × Nat):Bool :=
 match dP M p.1.2 with
 | some (d,y)=>y.tmps.all (fun t=>!(M.contains t))&&l.all fun q=>Nat.beq p.2 q.2 ||
   ((match dP M q.1.2 with|some (e,_)=>!(Nat.beq d e)|none=>true)&&y.tmps.all (fun t=>!(q.1.2.looks.contains t)) &&
    (match q.1.2.dst with|some t=>!(Nat.beq t d || y.tmps.contains t) || Nat.blt q.2 p.2|none=>true))
 | none=>cond (AQ M p.1.2) ((match p.1.2.dst with|some d=>!(L.contains d)|none=>true)&&p.1.2.looks.all (fun t=>!(M.contains t))) true
def rn(L:List Nat)(ops:List (Oper × aj)):Bool :=
 let M:=ay (ops.map (·.2))
 let l:=ops.zipIdx
 !M.isEmpty&&M.all (fun d=>L.contains d)&&l.all fun p=>Am l p&&kindOk L M l p &&
  l.all fun q=>Nat.beq p.2 q.2 || (match q.1.2.dst with
   | none=>true
   | some d=>(match p.1.2.dst with|some d'=>!(Nat.beq d d')|none=>true) &&
    (!(p.1.2.looks.contains d) || cond (Nat.blt q.2 p.2) (og p.1.1 q.2) (og q.1.1 p.2)))
structure qj where
 rs:List Nat
 ws:List Nat
 rh:Bool
 wh:Bool
 wg:Bool
 deriving Inhabited
def Bz(is:List aj)(L:List Nat):Nat->an->Option Nat
 | 0,_=>none
 | f+1,.tmp t=>cond (L.contains t) (some t) (match is.find? (fun o=>match o.dst with|some d=>Nat.beq d t|none=>false) with
  | some ⟨_,_,.fieldAddr _ y⟩=>Bz is L f y
  | some ⟨_,_,.ixArr _ _ y _⟩=>Bz is L f y
  | some ⟨_,_,.nilCheck y⟩=>Bz is L f y
  | _=>none)
 | _,_=>none
def Th(is:List aj):Nat->an->Bool
 | 0,_=>false
 | f+1,.tmp t=>(match is.find? (fun o=>match o.dst with|some d=>Nat.beq d t|none=>false) with
  | some ⟨_,_,.ixSl _ x _⟩=>(match x with
   | .tmp u=>(match is.find? (fun o=>match o.dst with|some d=>Nat.beq d u|none=>false) with
    | some ⟨_,_,.load ..⟩=>false
    | _=>true)
   | _=>true)
  | some ⟨_,_,.fieldAddr _ y⟩=>Th is f y
  | some ⟨_,_,.ixArr _ _ y _⟩=>Th is f y
  | _=>false)
 | _,.aN _=>true
 | _,_=>false
def DV(mode:Bool)(is:List aj)(L:List Nat)(x:an):NB :=
 match Bz is L 8 x with
 | some b=>.frame b
 | none=>cond (mode&&Th is 8 x) .TA .heap
def qk(mode:Bool)(is:List aj)(L:List Nat):fc->Option (NB × an)
 | .load _ _ _ x=>some (DV mode is L x,x)
 | .store _ x _=>some (DV false is L x,x)
 | .nilCheck x=>some (DV mode is L x,x)
 | .fieldAddr _ x=>some (DV mode is L x,x)
 | .ixArr _ _ x _=>some (DV mode is L x,x)
 | .ixSl _ x _=>some (.heap,x)
 | .len _ x=>some (.heap,x)
 | _=>none
def gb:NB->List Nat
 | .frame b=>[b]
 | _=>[]
def vl:NB->Bool
 | .heap=>true
 | _=>false
def xE(pc:Bool)(c:NB):fc->Option qj
 | .mov take obj x=>cond obj none (some ⟨x.tmps,cond take x.tmps [],false,false,false⟩)
 | .pick a b d=>some ⟨a.tmps++b.tmps++d.tmps,[],false,false,false⟩
 | .allocL _=>some ⟨[],[],false,false,true⟩
 | .boxL x=>some ⟨x.tmps,[],false,false,true⟩
 | .build z ps=>some ⟨(fc.build z ps).tmps,[],false,false,false⟩
 | .mkslice b sz zs ps=>some ⟨(fc.mkslice b sz zs ps).tmps,[],false,false,false⟩
 | .bin _ _ x y=>some ⟨x.tmps++y.tmps,[],false,false,false⟩
 | .mm _ x y=>some ⟨x.tmps++y.tmps,[],false,false,false⟩
 | .un _ x=>some ⟨x.tmps,[],false,false,false⟩
 | .nilS _ x=>some ⟨x.tmps,[],false,false,false⟩
 | .conv _ x=>some ⟨x.tmps,[],false,false,false⟩
 | .field _ _ _ x=>some ⟨x.tmps,[],false,false,false⟩
 | .index _ _ _ x i=>some ⟨x.tmps++i.tmps,[],false,false,false⟩
 | .indexStr x i=>some ⟨x.tmps++i.tmps,[],false,false,false⟩
 | .extract x _=>some ⟨x.tmps,[],false,false,false⟩
 | .mkfunc f a b=>some ⟨(fc.mkfunc f a b).tmps,[],false,false,false⟩
 | .load take agg _ x=>some ⟨x.tmps++gb c,cond (take&&!agg) (gb c) [],vl c,vl c&&take&&!agg,false⟩
 | .store _ x y=>some ⟨x.tmps++y.tmps++gb c,y.tmps++gb c,vl c,vl c,false⟩
 | .nilCheck x=>some ⟨x.tmps++gb c,[],false,false,false⟩
 | .fieldAddr _ x=>some ⟨x.tmps++gb c,[],false,false,false⟩
 | .ixArr _ _ x i=>some ⟨x.tmps++i.tmps++gb c,[],false,false,false⟩
 | .ixSl _ x i=>some ⟨x.tmps++i.tmps,[],false,false,false⟩
 | .len _ x=>some ⟨x.tmps,[],false,false,false⟩
 | .append _ wr _ _ x y=>cond wr none (some ⟨x.tmps++y.tmps,x.tmps,false,false,false⟩)
 | .appendO _ _ x y=>some ⟨x.tmps++y.tmps,[],true,true,false⟩
 | .copyO x y=>some ⟨x.tmps++y.tmps,[],true,true,false⟩
 | .slice k x lo hi mx=>some ⟨(fc.slice k x lo hi mx).tmps,[],false,false,false⟩
 | .call f xs=>some ⟨(fc.call f xs).tmps,[],true,!pc,false⟩
 | _=>none
def vO(mode pc:Bool)(is:List aj)(L:List Nat)(o:aj):Option qj :=
 (xE pc (match qk mode is L o.op with|some p=>p.1|none=>.heap) o.op).map fun e =>
  ⟨(match o.guard with|some (g,_)=>[g]|none=>[])++e.rs,o.dst.toList++e.ws,e.rh,e.wh,e.wg⟩
def meets(x y:List Nat):Bool:=x.any y.contains
def conflict(e f:qj):Bool :=
 meets e.ws f.rs || meets e.ws f.ws || meets f.ws e.rs || (e.wh&&(f.rh || f.wh)) || (f.wh&&e.rh) || (e.wg&&f.wg)
def p5(ops:List Oper):List (List Nat) :=
 ops.foldl (fun t o=>t++[(o.after.toList.flatMap fun e=>cond (Region.binds .any e) (e.on :: t.getD e.on []) []).eraseDups]) []
def rp(ops:List Oper)(es:List qj):Bool :=
 let ps:=p5 ops
 (ops.zipIdx.all fun p=>p.1.after.all fun e=>!Region.binds .any e || Nat.blt e.on p.2) &&
 es.zipIdx.all fun p=>es.zipIdx.all fun q=>!(Nat.blt q.2 p.2) || !(conflict p.1 q.1) || (ps.getD p.2 []).contains q.2
def iB(pc:Bool)(o:aj):aj :=
 match o with
 | ⟨d,g,.call f xs⟩=>cond pc ⟨d,g,.tJ f xs⟩ ⟨d,g,.call f xs⟩
 | o=>o
def inter(mode pc:Bool)(is:List aj)(L:List Nat):List aj->List aj
 | []=>[]
 | o :: r=>match qk mode is L o.op with
  | some (c,x)=>⟨none,o.guard,.jR c x⟩ :: iB pc o :: inter mode pc is L r
  | none=>iB pc o :: inter mode pc is L r
def oh(mode pc:Bool)(is:List aj)(L:List Nat):List aj->Option (List qj)
 | []=>some []
 | o :: r=>(vO mode pc is L o).bind fun e=>(oh mode pc is L r).map (e :: ·)
def aeD:fc->Bool
 | .mov take _ _=>take
 | .allocL _|.boxL _|.store ..|.oB ..|.append ..|.appendO ..|.copyO ..|.BB ..|.yB ..|.sQ ..|.box ..=>true
 | .load take agg _ _=>take&&!agg
 | _=>false
def SZ(mode pc:Bool)(L:List Nat)(ops:List Oper)(is:List aj):Option bJ :=
 (oh mode pc is L is).bind fun es=>cond (rp ops es) (some (.region false (inter mode pc is L is))) none
def xx(L:List Nat)(ops:List Oper)(is:List aj):Option bJ :=
 cond (L.elem 999996 || is.any fun o=>aeD o.op) (match SZ false false L ops is with
  | some c=>some c
  | none=>match cond (L.elem 999997) none (SZ true false L ops is) with
   | some c=>some c
   | none=>cond (L.elem 999999) none (SZ false true L ops is)) none
def nh(o:Oper):List Nat:=(o.after.toList.filter fun e=>Region.binds .any e).map (·.on)
def fC:Code->Option bJ
 | .skip=>some .skip
 | .region _ ops draw=>(fA P bF locals muts nt ops ops.toList).bind fun is=>match cond draw (xx locals ops.toList is) none with
  | some c=>some c
  | none=>cond (!draw || (!(locals.elem 999998)&&uC (locals++muts) (ops.toList.zip is))) (some (.region draw is)) (cond (!(locals.elem 999998)&&rn (locals++muts) (ops.toList.zip is)) (some (drawn is)) (cond draw (some (.tG nt is (ops.toList.map nh))) none))
 | .seq a b=>(fC a).bind fun x=>(fC b).map (.seq x ·)
 | .cond c a b=>(ak nt c).bind fun c=>(fC a).bind fun x=>(fC b).map (.cond c x ·)
 | .block id a=>(fC a).map (.block id ·)
 | .loop a=>(fC a).map .loop
 | .exit id=>some (.exit id)
 | .ret=>some .ret
 | .label _=>some .skip
 | .scope a=>fC a
 | _=>none
def jA:List ResultVar->Option (List fZ)
 | []=>some []
 | .tmp t :: r=>cond (Nat.blt t nt) ((jA r).map (.tmp t :: ·)) none
 | .cell a t :: r=>cond (Nat.blt a nt) ((kQ P t).bind fun g=>(de P t).bind fun sz=>(jA r).map (.cell a g sz :: ·)) none
end
def kU(P:Program)(bF locals muts:List Nat)(f:Func):Option ax :=
 f.body.bind fun c=>(fC P bF locals muts f.ntmps c).bind fun b=>(jA P f.ntmps f.results.toList).bind fun rs =>
  cond (Nat.ble (f.params.size+f.nfree) f.ntmps&&f.name != "runtime.NumGoroutine") (some { bF,locals,muts,nt:=f.ntmps,np:=f.params.size+f.nfree,results:=rs,body:=b }) none
end
inductive ba where
 | none|outer|ret
 | hb (loc:Nat)
 | hs (loc j:Nat)
 | bx (i:Nat)
 | sl (i:Nat)
 | sc (i j:Nat)
 | par (j:Nat)
 deriving DecidableEq,Inhabited
structure Gh where
 S:Nat->Nat->Prop
 κ:Nat->ba
 ρ:Nat->Nat
def qp(agg:Bool)(n:Nat)(f:Nat->Value):Value:=cond agg (.agg ((List.range n).map f).toArray) (f 0)
structure zU (E:Array MapEntry) (ck kz:Nat) (ka va:Bool) (es:List (List AV)) (f:Nat->Nat->Value):Prop where
 size:E.size=es.length
 clk:ck=E.size
 at' : ∀ (i:Nat) (e:MapEntry),E[i]?=some e->e.born=i
 born:∀ (i:Nat) (e:MapEntry),E[i]?=some e->e.born<ck
 apart:∀ (i j:Nat) (e e' : MapEntry),E[i]?=some e->E[j]?=some e'->e.born=e'.born->i=j
 row:∀ (i:Nat) (e:MapEntry) (r:List AV),E[i]?=some e->es[i]?=some r->kz<=r.length/\(ka=false->kz=1)/\(va=false->r.length=kz+1)/\e.key=qp ka kz (f i)/\e.val=qp va (r.length-kz) (fun j=>f i (kz+j))
structure uW (E:Array MapEntry) (ck kz:Nat) (ka va:Bool) (es:List (List AV)) (f:Nat->Nat->Value):Prop where
 size:E.size=es.length
 born:∀ (i:Nat) (e:MapEntry),E[i]?=some e->e.born<ck
 apart:∀ (i j:Nat) (e e' : MapEntry),E[i]?=some e->E[j]?=some e'->e.born=e'.born->i=j
 row:∀ (i:Nat) (e:MapEntry) (r:List AV),E[i]?=some e->es[i]?=some r->kz<=r.length/\(ka=false->kz=1)/\(va=false->r.length=kz+1)/\e.key=qp ka kz (f i)/\e.val=qp va (r.length-kz) (fun j=>f i (kz+j))
theorem zU.iter{E:Array MapEntry}{ck kz:Nat}{ka va:Bool}{es:List (List AV)}{f:Nat->Nat->Value}(h:zU E ck kz ka va es f):uW E ck kz ka va es f:=⟨h.size,h.born,h.apart,h.row⟩
inductive PR (S:Nat->Nat->Prop) (w:World):Value->AV->Prop where
 | bool (b:Bool):PR S w (.bool b) (.bool b)
 | int (k:IntKind) (n:Int):PR S w (.int k n) (.int k n)
 | str (s:ByteArray) (l:List UInt8) (h:s.data.toList=l):PR S w (.string s) (.str l)
 | any (v:Value) (h:v.oneCell'=true):PR S w v .any
 | df:PR S w (.pointer none) .df
 | cI:PR S w (.map none) .cI
 | ct:PR S w .nilFunc .ct
 | bR:PR S w .nilIface .bR
 | func (f:Fn):PR S w (.func f #[] #[]) (.func f [] [])
 | iface (t:TypeId) (v:Value) (x:AV) (h:PR S w v x):PR S w (.iface t v) (.iface t x)
 | cT:PR S w (.slice none 0 0) (.slice [] false)
 | ae:PR S w (.slice none 0 0) .ae
 | slice (b o n cap sz:Nat) (e:List (List AV)) (f:Nat->Nat->Value) (hn:e.length=n) (jC:n<=cap)
   (bE:∀ (i:Nat) (r:List AV),e[i]?=some r->r.length=sz)
   (cL:∀ (i j:Nat) (r:List AV) (x:AV),e[i]?=some r->r[j]?=some x->S b (o+i*sz+j)/\w.cell? ⟨b,o+i*sz+j,none⟩=some (f i j)/\(f i j).oneCell'=true)
   (cr:∀ (i j:Nat) (r:List AV) (x:AV),e[i]?=some r->r[j]?=some x->PR S w (f i j) x) :
   PR S w (.slice (some ⟨b,o,none⟩) n cap) (.slice e false)
 | eptr (b o:Nat) (cs:List AV) (f:Nat->Value)
   (cL:∀ (j:Nat) (x:AV),cs[j]?=some x->S b (o+j)/\w.cell? ⟨b,o+j,none⟩=some (f j)/\(f j).oneCell'=true)
   (cr:∀ (j:Nat) (x:AV),cs[j]?=some x->PR S w (f j) x) :
   PR S w (.pointer (some ⟨b,o,none⟩)) (.eptr cs)
 | dM (b kz:Nat) (ka va:Bool) (es:List (List AV)) (E:Array MapEntry) (ck:Nat) (f:Nat->Nat->Value) (hS:S b 0) (hb:w.heap[b]?=some (.map E ck)) (hE:zU E ck kz ka va es f)
   (cr:∀ (i j:Nat) (r:List AV) (x:AV),es[i]?=some r->r[j]?=some x->PR S w (f i j) x):PR S w (.map (some b)) (.dM kz ka va es)
 | mF (b kz:Nat) (ka va:Bool) (es tX:List (List AV)) (E:Array MapEntry) (ck:Nat) (f:Nat->Nat->Value) (hS:S b 0) (hb:w.heap[b]?=some (.map E ck)) (hE:uW E ck kz ka va tX f) (hp:tX.Perm es)
   (cr:∀ (i j:Nat) (r:List AV) (x:AV),tX[i]?=some r->r[j]?=some x->PR S w (f i j) x):PR S w (.map (some b)) (.mF kz ka va es)
theorem PR.dX{S:Nat->Nat->Prop}{w:World}{v:Value}{x:AV}(h:PR S w v x):v.oneCell'=true:=by
 cases h<;>first|rfl|assumption
theorem PR.mono{S S' : Nat->Nat->Prop}{w w' : World}(hS:∀ b o,S b o->S' b o)(hc:∀ b o,S b o->w'.cell? ⟨b,o,none⟩=w.cell? ⟨b,o,none⟩)
  (hm:∀ b E ck,S b 0->w.heap[b]?=some (.map E ck)->w'.heap[b]?=some (.map E ck))
  {v:Value} {x:AV} (h:PR S w v x):PR S' w' v x:=by
 induction h with
 | bool b=>exact .bool b
 | int k n=>exact .int k n
 | str s l h=>exact .str s l h
 | any v h=>exact .any v h
 | df=>exact .df
 | cI=>exact .cI
 | ct=>exact .ct
 | bR=>exact .bR
 | func f=>exact .func f
 | iface t v x _ ih=>exact .iface t v x ih
 | cT=>exact .cT
 | ae=>exact .ae
 | slice b o n cap sz e f hn jC bE cL _ ih =>
  exact .slice b o n cap sz e f hn jC bE (fun i j r x h1 h2=>by
   obtain⟨a,c,d⟩:=cL i j r x h1 h2
   exact⟨hS _ _ a,(hc _ _ a).trans c,d⟩) ih
 | eptr b o cs f cL _ ih =>
  exact .eptr b o cs f (fun j x h=>by
   obtain⟨a,c,d⟩:=cL j x h
   exact⟨hS _ _ a,(hc _ _ a).trans c,d⟩) ih
 | dM b kz ka va es E ck f h1 h2 h3 _ ih=>exact .dM b kz ka va es E ck f (hS _ _ h1) (hm _ _ _ h1 h2) h3 ih
 | mF b kz ka va es tX E ck f h1 h2 h3 h4 _ ih=>exact .mF b kz ka va es tX E ck f (hS _ _ h1) (hm _ _ _ h1 h2) h3 h4 ih
def pq(w:World)(b:Nat)(ty:TypeId)(n:Nat):Prop:=∃ C fr,w.heap[b]?=some (.cells C ty fr)/\C.size=n
inductive VR (gh:Gh) (n:Nat) (w:World):Value->AV->Prop where
 | plain (v:Value) (x:AV) (h:PR gh.S w v x):VR gh n w v x
 | full (a:Option Addr) (k:Nat) (e:List (List AV)) (h:PR gh.S w (.slice a k k) (.slice e false)) (hz:True):VR gh n w (.slice a k k) (.slice e true)
 | ref (loc off:Nat) (h:loc<n):VR gh n w (.pointer (some ⟨gh.ρ loc,off,none⟩)) (.ref loc off)
 | sref (loc off k cap z:Nat) (h:loc<n) (hk:k<=cap) (hz:z≠0->∃ ty,pq w (gh.ρ loc) ty (off+cap*z)):VR gh n w (.slice (some ⟨gh.ρ loc,off,none⟩) k cap) (.sref loc off k z)
 | mref (loc:Nat) (h:loc<n):VR gh n w (.map (some (gh.ρ loc))) (.mref loc)
 | func (f:Fn) (fs cs:Array Value) (xs ys:List AV) (hf:fs.size=xs.length) (hc:cs.size=ys.length)
   (h1:∀ (j:Nat) (v:Value) (x:AV),fs[j]?=some v->xs[j]?=some x->VR gh n w v x)
   (h2:∀ (j:Nat) (v:Value) (x:AV),cs[j]?=some v->ys[j]?=some x->VR gh n w v x):VR gh n w (.func f fs cs) (.func f xs ys)
 | iface (t:TypeId) (v:Value) (x:AV) (h:VR gh n w v x):VR gh n w (.iface t v) (.iface t x)
 | agg (cs:Array Value) (xs:List AV) (hs:cs.size=xs.length)
   (fL:∀ (j:Nat) (v:Value),cs[j]?=some v->v.oneCell'=true)
   (h:∀ (j:Nat) (v:Value) (x:AV),cs[j]?=some v->xs[j]?=some x->VR gh n w v x):VR gh n w (.agg cs) (.agg xs)
 | tuple (vs:Array Value) (xs:List AV) (hs:vs.size=xs.length)
   (h:∀ (j:Nat) (v:Value) (x:AV),vs[j]?=some v->xs[j]?=some x->VR gh n w v x):VR gh n w (.tuple vs) (.tuple xs)
def Kept(S:Nat->Prop)(x y:Option Obj):Prop :=
 y=x\/∃ C ty lo hi lo' jT,x=some (.cells C ty (lo,hi))/\y=some (.cells C ty (lo',jT))/\(∃ o n,S o/\C[o]?=some (Value.int .u8 n))/\∀ m,hi<=m->(∀ o,m<=o->¬ S o)->jT<=m
theorem Kept.none{S:Nat->Prop}{x y:Option Obj}(h:Kept S x y)(hS:∀ o,¬ S o):y=x:=by
 rcases h with h|⟨_,_,_,_,_,_,_,_,⟨o,_,ho,_⟩,_⟩
 ·exact h
 ·exact absurd ho (hS o)
theorem Kept.trans{S T:Nat->Prop}{x y z:Option Obj}(h:Kept S x y)(h' : Kept T y z)(hT:∀ o,T o->S o):Kept S x z:=by
 rcases h with rfl|⟨C,ty,lo,hi,lo',jT,h1,h2,h3,h4⟩
 ·rcases h' with rfl|⟨C,ty,lo,hi,lo',jT,h1,h2,⟨o,n,ho,hn⟩,h4⟩
  ·exact .inl rfl
  ·exact .inr ⟨C,ty,lo,hi,lo',jT,h1,h2,⟨o,n,hT o ho,hn⟩,fun m hm hS=>h4 m hm (fun o ho ht=>hS o ho (hT o ht))⟩
 ·rcases h' with rfl|⟨C2,ty2,lo2,hi2,lo3,hi3,k1,k2,_,k4⟩
  ·exact .inr ⟨C,ty,lo,hi,lo',jT,h1,h2,h3,h4⟩
  ·rw[h2] at k1
   injection k1 with k1
   injection k1 with e1 e2 e3
   injection e3 with e3 e4
   subst e1 e2 e3 e4
   exact .inr ⟨C,ty,lo,hi,lo3,hi3,h1,k2,h3,fun m hm hS=>k4 m (h4 m hm hS) (fun o ho ht=>hS o ho (hT o ht))⟩
structure Step (touch:ba->Prop) (n:Nat) (gh:Gh) (w:World) (aH:Gh) (w' : World):Prop where
 S:∀ b o,gh.S b o->aH.S b o
 cell:∀ b o,gh.S b o->w'.cell? ⟨b,o,none⟩=w.cell? ⟨b,o,none⟩
 size:w.heap.size<=w'.heap.size
 os:w'.os=w.os
 tape:w'.tape=w.tape
 output:w'.output=w.output
 zi:∀ b,b<w.heap.size->¬ touch (gh.κ b)->Kept (gh.S b) (w.heap[b]?) (w'.heap[b]?)/\aH.κ b=gh.κ b/\∀ o,aH.S b o->gh.S b o
 fresh:∀ b,w.heap.size<=b->aH.κ b≠.outer
 ρ:∀ loc,loc<n->aH.ρ loc=gh.ρ loc
 len:∀ b ty m,pq w b ty m->pq w' b ty m
 mp:∀ b E ck,gh.S b 0->w.heap[b]?=some (.map E ck)->w'.heap[b]?=some (.map E ck)
theorem Step.refl(touch:ba->Prop)(n:Nat)(gh:Gh)(w:World)(hf:∀ b,w.heap.size<=b->gh.κ b≠.outer):Step touch n gh w gh w :=
 ⟨fun _ _ h=>h,fun _ _ _=>rfl,aoU _,rfl,rfl,rfl,fun _ _ _=>⟨.inl rfl,rfl,fun _ h=>h⟩,hf,fun _ _=>rfl,fun _ _ _ h=>h,fun _ _ _ _ h=>h⟩
theorem Step.mono{touch Tg:ba->Prop}{n:Nat}{gh aH:Gh}{w w' : World}(h:Step touch n gh w aH w')(ht:∀ p,touch p->Tg p):Step Tg n gh w aH w' :=
 { h with zi:=fun b hb hn=>h.zi b hb (fun x=>hn (ht _ x)) }
theorem VR.mono{touch:ba->Prop}{n n' : Nat}{gh aH:Gh}{w w' : World}(st:Step touch n gh w aH w')(hn:n<=n')
  {v:Value} {x:AV} (h:VR gh n w v x):VR aH n' w' v x:=by
 induction h with
 | plain v x h=>exact .plain v x (h.mono st.S st.cell st.mp)
 | full a k e h hz=>exact .full a k e (h.mono st.S st.cell st.mp) trivial
 | ref loc off h=>rw[<- st.ρ loc h];exact .ref loc off (aqk h hn)
 | sref loc off k cap z h hk hz=>rw[<- st.ρ loc h];exact .sref loc off k cap z (aqk h hn) hk (fun h0=>(hz h0).imp fun ty hb=>by rw[st.ρ loc h];exact st.len _ _ _ hb)
 | mref loc h=>rw[<- st.ρ loc h];exact .mref loc (aqk h hn)
 | func f fs cs xs ys hf hc _ _ ih1 ih2=>exact .func f fs cs xs ys hf hc ih1 ih2
 | iface t v x _ ih=>exact .iface t v x ih
 | agg cs xs hs fL _ ih=>exact .agg cs xs hs fL ih
 | tuple vs xs hs _ ih=>exact .tuple vs xs hs ih
def JU(gh:Gh)(w:World)(p:ba)(v:Value)(e:List (List AV)):Prop :=
 ∃ b cap C ty lo hi sz,v=.slice (some ⟨b,0,none⟩) e.length cap/\gh.κ b=p/\e≠[]/\w.heap[b]?=some (.cells C ty (lo,hi))/\C.size=cap*sz /\
  (∀ (i:Nat) (r:List AV),e[i]?=some r->r.length=sz)/\e.length<=cap/\hi<=e.length*sz/\(∀ o,e.length*sz<=o->¬ gh.S b o)
theorem JU.mono{touch:ba->Prop}{n:Nat}{gh aH:Gh}{w w' : World}(st:Step touch n gh w aH w'){p:ba}(hp:¬ touch p)
  {v:Value} {e:List (List AV)} (h:JU gh w p v e):JU aH w' p v e:=by
 obtain⟨b,cap,C,ty,lo,hi,sz,hv,hk,he,hb,hC,hr,hl,hh,hS⟩:=h
 have aU:b<w.heap.size:=(aoY.1 hb).1
 obtain⟨h1,h2,h3⟩:=st.zi b aU (by rw[hk];exact hp)
 rcases h1 with h1|⟨C',kC,lo1,hi1,lo',jT,k1,k2,_,k4⟩
 ·exact⟨b,cap,C,ty,lo,hi,sz,hv,by rw[h2,hk],he,by rw[h1,hb],hC,hr,hl,hh,fun o ho hs=>hS o ho (h3 o hs)⟩
 ·rw[hb] at k1
  injection k1 with k1
  injection k1 with e1 e2 e3
  injection e3 with e3 e4
  subst e1 e2 e3 e4
  exact⟨b,cap,C,ty,lo',jT,sz,hv,by rw[h2,hk],he,k2,hC,hr,hl,k4 _ hh hS,fun o ho hs=>hS o ho (h3 o hs)⟩
def CR(gh:Gh)(n:Nat)(w:World)(p:ba)(v:Value)(x:AV):Prop :=
 VR gh n w v x\/∃ e,x=.slice e true/\PR gh.S w v (.slice e false)/\JU gh w p v e
theorem CR.mono{touch:ba->Prop}{n n' : Nat}{gh aH:Gh}{w w' : World}(st:Step touch n gh w aH w')(hn:n<=n'){p:ba}(hp:¬ touch p)
  {v:Value} {x:AV} (h:CR gh n w p v x):CR aH n' w' p v x:=by
 rcases h with h|⟨e,rfl,h1,h2⟩
 ·exact .inl (h.mono st hn)
 ·exact .inr ⟨e,rfl,h1.mono st.S st.cell st.mp,h2.mono st hp⟩
theorem CR.dropped{gh:Gh}{n:Nat}{w:World}{p:ba}{v:Value}{x:AV}(h:CR gh n w p v x):VR gh n w v x.drop:=by
 rcases h with h|⟨e,rfl,h1,_⟩
 ·cases h with
  | plain v x h =>
   cases x<;>try exact .plain _ _ h
   cases h<;>first|exact .plain _ _ .cT|exact .plain _ _ (.slice _ _ _ _ _ _ _ ‹_› ‹_› ‹_› ‹_› ‹_›)
  | full a k e h=>exact .plain _ _ h
  | ref loc off h=>exact .ref loc off h
  | sref loc off k cap z h hk hz=>exact .sref loc off k cap z h hk hz
  | mref loc h=>exact .mref loc h
  | func f fs cs xs ys hf hc h1 h2=>exact .func f fs cs xs ys hf hc h1 h2
  | iface t v x h=>exact .iface t v x h
  | agg cs xs hs fL h=>exact .agg cs xs hs fL h
  | tuple vs xs hs h=>exact .tuple vs xs hs h
 ·exact .plain _ _ h1
theorem VR.dropped{gh:Gh}{n:Nat}{w:World}{v:Value}{x:AV}(h:VR gh n w v x):VR gh n w v x.drop:=CR.dropped (p:=.none) (.inl h)
def gF(gh:Gh)(n:Nat)(w:World)(b:Nat)(p:ba)(q:Nat->ba)(cs:List AV):Prop :=
 gh.κ b=p/\(∀ o,¬ gh.S b o)/\∃ C ty,w.heap[b]?=some (.cells C ty (0,0))/\cs.length<=C.size /\
  ∀ (j:Nat) (v:Value) (x:AV),C[j]?=some v->cs[j]?=some x->v.oneCell'=true/\CR gh n w (q j) v x
theorem gF.mono{touch:ba->Prop}{n n' : Nat}{gh aH:Gh}{w w' : World}(st:Step touch n gh w aH w')(hn:n<=n'){b:Nat}{p:ba}{q:Nat->ba}
  (hp:¬ touch p) (hq:∀ j,¬ touch (q j)) {cs:List AV} (h:gF gh n w b p q cs):gF aH n' w' b p q cs:=by
 obtain⟨hk,hS,C,ty,hb,hC,fi⟩:=h
 have aU:b<w.heap.size:=(aoY.1 hb).1
 obtain⟨h1,h2,h3⟩:=st.zi b aU (by rw[hk];exact hp)
 have h1:=h1.none hS
 exact⟨by rw[h2,hk],fun o ho=>hS o (h3 o ho),C,ty,by rw[h1,hb],hC,fun j v x hv hx=>⟨(fi j v x hv hx).1,(fi j v x hv hx).2.mono st hn (hq j)⟩⟩
def qA(gh:Gh)(w:World)(p:ba)(v:Value)(e:List (List AV)):Prop :=
 ∃ a cap,v=.slice a e.length cap/\((e=[]/\cap=0/\∀ ad,a=some ad->ad.spot=none/\True)\/∃ b C ty sz,e≠[]/\a=some ⟨b,0,none⟩/\gh.κ b=p/\(∀ o,¬ gh.S b o)/\w.heap[b]?=some (.cells C ty (0,0))/\C.size=cap*sz /\
  e.length<=cap/\(∀ (i:Nat) (r:List AV),e[i]?=some r->r.length=sz) /\
  ∀ (i j:Nat) (r:List AV) (x:AV),e[i]?=some r->r[j]?=some x->∃ u,C[i*sz+j]?=some u/\PR gh.S w u x)
theorem qA.mono{touch:ba->Prop}{n:Nat}{gh aH:Gh}{w w' : World}(st:Step touch n gh w aH w'){p:ba}(hp:¬ touch p)
  {v:Value} {e:List (List AV)} (h:qA gh w p v e):qA aH w' p v e:=by
 obtain⟨a,cap,hv,h⟩:=h
 refine⟨a,cap,hv,?_⟩
 rcases h with h|⟨b,C,ty,sz,bB,ha,hk,hS,hb,hC,hl,hr,fi⟩
 ·exact .inl ⟨h.1,h.2.1,fun ad ha=>⟨(h.2.2 ad ha).1,trivial⟩⟩
 ·have aU:b<w.heap.size:=(aoY.1 hb).1
  obtain⟨h1,h2,h3⟩:=st.zi b aU (by rw[hk];exact hp)
  have h1:=h1.none hS
  exact .inr ⟨b,C,ty,sz,bB,ha,by rw[h2,hk],fun o ho=>hS o (h3 o ho),by rw[h1,hb],hC,hl,hr,fun i j r x hi hj=>by
   obtain⟨u,hu,hp⟩:=fi i j r x hi hj
   exact⟨u,hu,hp.mono st.S st.cell st.mp⟩⟩
def vH(gh:Gh)(n:Nat)(w:World)(b:Nat)(p:ba)(q:Nat->ba)(kz:Nat)(ka va:Bool)(es:List (List AV)):Prop :=
 gh.κ b=p/\(∀ o,¬ gh.S b o)/\∃ E ck f,w.heap[b]?=some (.map E ck)/\zU E ck kz ka va es f /\
  (∀ (i j:Nat) (r:List AV) (x:AV),es[i]?=some r->r[j]?=some x->j<kz->PR gh.S w (f i j) x) /\
  ∀ (i j:Nat) (r:List AV) (x:AV),es[i]?=some r->r[j]?=some x->kz<=j->(f i j).oneCell'=true/\(va=true->VR gh n w (f i j) x)/\CR gh n w (q i) (f i j) x
theorem vH.mono{touch:ba->Prop}{n n' : Nat}{gh aH:Gh}{w w' : World}(st:Step touch n gh w aH w')(hn:n<=n'){b:Nat}{p:ba}{q:Nat->ba}(hp:¬ touch p)(hq:∀ i,¬ touch (q i))
  {kz:Nat} {ka va:Bool} {es:List (List AV)} (h:vH gh n w b p q kz ka va es):vH aH n' w' b p q kz ka va es:=by
 obtain⟨hk,hS,E,ck,f,hb,hE,h1,h2⟩:=h
 have aU:b<w.heap.size:=(aoY.1 hb).1
 obtain⟨k1,k2,k3⟩:=st.zi b aU (by rw[hk];exact hp)
 have k1:=k1.none hS
 exact⟨by rw[k2,hk],fun o ho=>hS o (k3 o ho),E,ck,f,by rw[k1,hb],hE,fun i j r x hi hj hl=>(h1 i j r x hi hj hl).mono st.S st.cell st.mp,
  fun i j r x hi hj hl=>⟨(h2 i j r x hi hj hl).1,fun hv=>((h2 i j r x hi hj hl).2.1 hv).mono st hn,(h2 i j r x hi hj hl).2.2.mono st hn (hq i)⟩⟩
def sP(gh:Gh)(n:Nat)(w:World)(b loc:Nat):cj->Prop
 | .map kz ka va es=>vH gh n w b (.hb loc) (fun i=>.hs loc i) kz ka va es/\(es.all fun r=>r.all (aV loc))=true
 | .dM kz ka va es=>PR gh.S w (.map (some b)) (.dM kz ka va es)
 | .Im cs=>PR gh.S w (.pointer (some ⟨b,0,none⟩)) (.eptr cs)
 | .ca cs=>gF gh n w b (.hb loc) (fun j=>.hs loc j) cs
 | _=>True
theorem sP.mono{touch:ba->Prop}{n n' : Nat}{gh aH:Gh}{w w' : World}(st:Step touch n gh w aH w')(hn:n<=n'){b loc:Nat}(hp:¬ touch (.hb loc))(hq:∀ i,¬ touch (.hs loc i))
  {o:cj} (h:sP gh n w b loc o):sP aH n' w' b loc o:=by
 cases o with
 | map kz ka va es=>exact⟨h.1.mono st hn hp hq,h.2⟩
 | dM kz ka va es=>exact PR.mono st.S st.cell st.mp h
 | Im cs=>exact PR.mono st.S st.cell st.mp h
 | ca cs=>exact gF.mono st hn hp hq h
 | _=>trivial
def uV(gh:Gh)(w:World)(b:Nat)(p:ba)(kz:Nat)(ka va:Bool)(cur:List AV)(todo:List (List AV)):Prop :=
 gh.κ b=p/\(∀ o,¬ gh.S b o)/\∃ (m:Option Nat) (since:Nat) (seen:Array Nat) (last:Nat),w.heap[b]?=some (.mapIter m since seen last) /\
  ((m=none/\todo=[]/\seen=#[]/\cur=[])\/∃ m0 E es ck f,m=some m0/\gh.S m0 0/\w.heap[m0]?=some (.map E ck)/\uW E ck kz ka va es f/\since=ck/\last=ck /\
   (∀ (i j:Nat) (r:List AV) (x:AV),es[i]?=some r->r[j]?=some x->PR gh.S w (f i j) x) /\
   ((seen.back?=none/\cur=[])\/∃ (s i:Nat) (e:MapEntry),seen.back?=some s/\E[i]?=some e/\e.born=s/\es[i]?=some cur) /\
   todo.Perm (((E.toList.zip es).filter fun p=>!seen.contains p.1.born).map (·.2)))
theorem uV.mono{touch:ba->Prop}{n:Nat}{gh aH:Gh}{w w' : World}(st:Step touch n gh w aH w'){b:Nat}{p:ba}(hp:¬ touch p)
  {kz:Nat} {ka va:Bool} {cur:List AV} {todo:List (List AV)} (h:uV gh w b p kz ka va cur todo):uV aH w' b p kz ka va cur todo:=by
 obtain⟨hk,hS,m,since,seen,last,hb,h⟩:=h
 have aU:b<w.heap.size:=(aoY.1 hb).1
 obtain⟨k1,k2,k3⟩:=st.zi b aU (by rw[hk];exact hp)
 have k1:=k1.none hS
 refine⟨by rw[k2,hk],fun o ho=>hS o (k3 o ho),m,since,seen,last,by rw[k1,hb],?_⟩
 rcases h with h|⟨m0,E,es,ck,f,h1,h2,h3,h4,h5,h6,h7,h8,h9⟩
 ·exact .inl h
 ·exact .inr ⟨m0,E,es,ck,f,h1,st.S _ _ h2,st.mp _ _ _ h2 h3,h4,h5,h6,fun i j r x hi hj=>(h7 i j r x hi hj).mono st.S st.cell st.mp,h8,h9⟩
def SR(gh:Gh)(n nt:Nat)(w:World)(T:aw)(gen:Nat)(tm:Nat->Value)(i:Nat)(v:Value)(x:AV):Prop :=
 match x with
 | .lbox g cs=>g<gen/\∃ b,v=.pointer (some ⟨b,0,none⟩)/\gF gh n w b (.bx i) (fun j=>.sc i j) cs
 | .lsl g e=>g<gen/\qA gh w (.bx i) v e
 | .lref s g off=>s<nt/\g<gen/\(aO (T s)=some g->∀ b,tm s=.pointer (some ⟨b,0,none⟩)->v=.pointer (some ⟨b,off,none⟩))
 | .lsr s g=>s<nt/\g<gen/\(aO (T s)=some g->v=tm s)
 | .eref s g r z off=>s<nt/\g<gen/\(aO (T s)=some g->∀ b k cap,tm s=.slice (some ⟨b,0,none⟩) k cap->v=.pointer (some ⟨b,r*z+off,none⟩))
 | .iter g kz ka va cur todo=>g<gen/\∃ b,v=.pointer (some ⟨b,0,none⟩)/\uV gh w b (.bx i) kz ka va cur todo
 | x=>CR gh n w (.sl i) v x
structure aK (G:Nat->List AV) (base:Nat) (H:ah) (gh:Gh) (w:World):Prop where
 size:base<=w.heap.size
 mX:∀ b o,gh.S b o->b<w.heap.size
 ow:∀ b,gh.κ b≠.none->base<=b/\b<w.heap.size
 aN:∀ (g j:Nat) (x:AV),(G g)[j]?=some x->∃ v,w.cell? ⟨g,j,none⟩=some v/\PR gh.S w v x/\gh.S g j
 boxes:∀ (loc:Nat) (ty:TypeId) (cs:List AV),H[loc]?=some (cj.box ty cs)->gF gh H.length w (gh.ρ loc) (.hb loc) (fun j=>.hs loc j) cs
 refs:∀ (loc:Nat) (ty:TypeId) (cs:List AV),H[loc]?=some (cj.box ty cs)->cs.all (aV loc)=true
 wL:∀ g,G g≠[]->∃ ty,pq w g ty (G g).length
 bytes:∀ b o n,gh.S b o->w.cell? ⟨b,o,none⟩=some (.int .u8 n)->∃ C fr,w.heap[b]?=some (.cells C iF fr)
 more:∀ (loc:Nat) (o:cj),H[loc]?=some o->sP gh H.length w (gh.ρ loc) loc o
 types:∀ (loc:Nat) (ty:TypeId) (cs:List AV),H[loc]?=some (cj.box ty cs)->ty≠aJ->pq w (gh.ρ loc) ty cs.length
structure ah6 (nt:Nat) (gh:Gh) (w:World) (a:Act) (s:AS):Prop where
 defers:a.defers=[]
 size:a.tmps.size=nt
 slot:∀ i,i<nt->SR gh s.H.length nt w s.T s.gen (fun k=>a.tmps.getD k undef) i (a.tmps.getD i undef) (s.T i)
theorem aK.j4{G:Nat->List AV}{base:Nat}{H:ah}{gh aH:Gh}{w w' : World}{touch:ba->Prop}{n:Nat}(h:aK G base H gh w)(st:Step touch n gh w aH w')
  (qt:∀ b o m,aH.S b o->gh.S b o\/(w'.cell? ⟨b,o,none⟩=some (.int .u8 m)->∃ C fr,w'.heap[b]?=some (.cells C iF fr))) :
  ∀ b o m,aH.S b o->w'.cell? ⟨b,o,none⟩=some (.int .u8 m)->∃ C fr,w'.heap[b]?=some (.cells C iF fr):=by
 intro b o m hs hc
 rcases qt b o m hs with ho|hn
 ·obtain⟨C,fr,h1⟩:=h.bytes b o m ho (by rw[<- st.cell b o ho];exact hc)
  obtain⟨C',fr',h2,_⟩:=st.len b iF C.size ⟨C,fr,h1,rfl⟩
  exact⟨C',fr',h2⟩
 ·exact hn hc
theorem aK.fresh{G:Nat->List AV}{base:Nat}{H:ah}{gh:Gh}{w:World}(h:aK G base H gh w)(b:Nat)(hb:w.heap.size<=b):gh.κ b=.none:=by
 by_cases hk:gh.κ b=.none
 ·exact hk
 ·have:=(h.ow b hk).2;omega
theorem SR.mono{touch:ba->Prop}{n n' nt:Nat}{gh aH:Gh}{w w' : World}(st:Step touch n gh w aH w')(hn:n<=n'){T T' : aw}{gen gen' : Nat}(hg:gen<=gen')
  {tm tm' : Nat->Value} {i:Nat} (h1:¬ touch (.bx i)) (h2:¬ touch (.sl i)) (h3:∀ j,¬ touch (.sc i j))
  (hT:∀ s,s<nt->(aO (T' s)=aO (T s)/\tm' s=tm s)\/aO (T' s)=none\/∃ g,gen<=g/\aO (T' s)=some g)
  {v:Value} {x:AV} (h:SR gh n nt w T gen tm i v x):SR aH n' nt w' T' gen' tm' i v x:=by
 have key:∀ s g,s<nt->g<gen->aO (T' s)=some g->aO (T s)=some g/\tm' s=tm s:=by
  intro s g hs Dp x4
  rcases hT s hs with ⟨h,h'⟩|h|⟨g',IK,h⟩
  ·exact⟨h ▸ x4,h'⟩
  ·rw[h] at x4;cases x4
  ·rw[h] at x4;injection x4 with e;omega
 cases x
 case lbox g cs =>
  obtain⟨IL,b,hv,hb⟩:=h
  exact⟨by omega,b,hv,hb.mono st hn h1 h3⟩
 case lsl g e=>exact⟨by have:=h.1;omega,h.2.mono st h1⟩
 case iter g kz ka va cur todo =>
  obtain⟨IL,b,hv,hb⟩:=h
  exact⟨by omega,b,hv,hb.mono st h1⟩
 case lref s g off =>
  obtain⟨hs,IL,hr⟩:=h
  refine⟨hs,by omega,fun x4 b hb=>?_⟩
  obtain⟨k1,k2⟩:=key s g hs IL x4
  exact hr k1 b (k2 ▸ hb)
 case lsr s g =>
  obtain⟨hs,IL,hr⟩:=h
  refine⟨hs,by omega,fun x4=>?_⟩
  obtain⟨k1,k2⟩:=key s g hs IL x4
  rw[k2];exact hr k1
 case eref s g r z off =>
  obtain⟨hs,IL,hr⟩:=h
  refine⟨hs,by omega,fun x4 b k cap hb=>?_⟩
  obtain⟨k1,k2⟩:=key s g hs IL x4
  exact hr k1 b k cap (k2 ▸ hb)
 all_goals exact CR.mono st hn h2 h
def pg(p:ba):Prop:=p≠.none/\p≠.outer
structure Ext (n:Nat) (gh:Gh) (w:World) (aH:Gh) (w' : World):Prop where
 step:Step pg n gh w aH w'
 out:∀ b,aH.κ b=.outer->gh.κ b=.outer
theorem Ext.refl(n:Nat)(gh:Gh)(w:World)(hf:∀ b,w.heap.size<=b->gh.κ b≠.outer):Ext n gh w gh w:=⟨Step.refl _ n gh w hf,fun _ h=>h⟩
theorem Ext.trans{n n' : Nat}{g1 g2 g3:Gh}{w1 w2 w3:World}(h:Ext n g1 w1 g2 w2)(h' : Ext n' g2 w2 g3 w3)(hn:n<=n'):Ext n g1 w1 g3 w3:=by
 refine⟨⟨fun b o hs=>h'.step.S b o (h.step.S b o hs),fun b o hs=>(h'.step.cell b o (h.step.S b o hs)).trans (h.step.cell b o hs),apV h.step.size h'.step.size,
  h'.step.os.trans h.step.os,h'.step.tape.trans h.step.tape,h'.step.output.trans h.step.output,?_,?_,fun loc hl=>(h'.step.ρ loc (aqk hl hn)).trans (h.step.ρ loc hl),fun b ty m hb=>h'.step.len b ty m (h.step.len b ty m hb),fun b E ck hs hb=>h'.step.mp b E ck (h.step.S b 0 hs) (h.step.mp b E ck hs hb)⟩,fun b hb=>h.out b (h'.out b hb)⟩
 ·intro b hb PA
  obtain⟨a1,a2,a3⟩:=h.step.zi b hb PA
  obtain⟨c1,c2,c3⟩:=h'.step.zi b (aqk hb h.step.size) (by rw[a2];exact PA)
  exact⟨a1.trans c1 a3,c2.trans a2,fun o ho=>a3 o (c3 o ho)⟩
 ·intro b hb ho
  have:=h'.out b ho
  by_cases iO:w2.heap.size<=b
  ·exact h'.step.fresh b iO ho
  ·exact h.step.fresh b hb this
structure FR (L:List Nat) (nt:Nat) (gh:Gh) (w:World) (a:Act) (s:AS):Prop extends ah6 nt gh w a s where
 obj:∀ i,(aO (s.T i)).isSome=true->i∈L
def fj(a:Act)(k:Nat):Value:=a.tmps.getD k undef
theorem oc(a:Act)(d:Nat)(v:Value)(k:Nat)(hd:d<a.tmps.size):fj (a.put (some d) v) k=if k=d then v else fj a k:=by
 unfold fj Act.put
 by_cases h:k=d
 ·subst h;simp[hd]
 ·simp[h,arc (ap3 h)]
theorem dR(a b:Nat):Nat.beq a b=decide (a=b):=by
 by_cases h:a=b
 ·subst h;simp
 ·have h1:Nat.beq a b≠true:=fun h'=>h (apQ h')
  rw[apS h]
  exact Bool.eq_false_iff.2 h1
theorem db(T:aw)(d:Nat)(v:AV)(k:Nat):T.put d v k=if k=d then v else T k:=by
 unfold aw.put
 rw[dR]
 by_cases h:k=d
 ·subst h;simp
 ·simp[h]
theorem FR.update{L:List Nat}{nt:Nat}{gh aH:Gh}{w w' : World}{a a' : Act}{s s' : AS}{touch:ba->Prop}(h:FR L nt gh w a s)
  (st:Step touch s.H.length gh w aH w') (aao:a'.defers=[]) (gA:a'.tmps.size=nt) (hn:s.H.length<=s'.H.length) (hg:s.gen<=s'.gen)
  (D:Nat->Prop)
  (AE:∀ i,¬ D i->s'.T i=s.T i/\(i<nt->fj a' i=fj a i/\¬ touch (.bx i)/\¬ touch (.sl i)/\∀ j,¬ touch (.sc i j)))
  (FQ:∀ i,D i->(i<nt/\aO (s'.T i)=aO (s.T i)/\fj a' i=fj a i)\/aO (s'.T i)=none\/(i∈L/\∃ g,s.gen<=g/\aO (s'.T i)=some g))
  (qt:∀ i,D i->i<nt->SR aH s'.H.length nt w' s'.T s'.gen (fj a') i (fj a' i) (s'.T i)):FR L nt aH w' a' s':=by
 have hT:∀ i,i<nt->(aO (s'.T i)=aO (s.T i)/\fj a' i=fj a i)\/aO (s'.T i)=none\/∃ g,s.gen<=g/\aO (s'.T i)=some g:=by
  intro i hi
  by_cases hD:D i
  ·rcases FQ i hD with ⟨_,h⟩|h|⟨_,h⟩
   ·exact .inl h
   ·exact .inr (.inl h)
   ·exact .inr (.inr h)
  ·obtain⟨k1,k2⟩:=AE i hD
   exact .inl ⟨by rw[k1],(k2 hi).1⟩
 refine⟨⟨aao,gA,fun i hi=>?_⟩,fun i hi=>?_⟩
 ·by_cases hD:D i
  ·exact qt i hD hi
  ·obtain⟨k1,k2⟩:=AE i hD
   obtain⟨k3,t1,t2,t3⟩:=k2 hi
   show SR aH s'.H.length nt w' s'.T s'.gen (fj a') i (fj a' i) (s'.T i)
   rw[k1,k3]
   exact SR.mono st hn hg t1 t2 t3 hT (h.slot i hi)
 ·by_cases hD:D i
  ·rcases FQ i hD with ⟨_,h',_⟩|h'|⟨h',_⟩
   ·exact h.obj i (by rw[<- h'];exact hi)
   ·rw[h'] at hi;cases hi
   ·exact h'
  ·rw[(AE i hD).1] at hi
   exact h.obj i hi
def lZ(gh:Gh)(n nt:Nat)(w:World)(T:aw)(gen:Nat)(tm:Nat->Value)(v:Value)(x:AV):Prop :=
 match x with
 | .lbox ..|.lsl ..|.iter ..=>False
 | .lref s g off=>s<nt/\g<gen/\(aO (T s)=some g->∀ b,tm s=.pointer (some ⟨b,0,none⟩)->v=.pointer (some ⟨b,off,none⟩))
 | .lsr s g=>s<nt/\g<gen/\(aO (T s)=some g->v=tm s)
 | .eref s g r z off=>s<nt/\g<gen/\(aO (T s)=some g->∀ b k cap,tm s=.slice (some ⟨b,0,none⟩) k cap->v=.pointer (some ⟨b,r*z+off,none⟩))
 | x=>VR gh n w v x
theorem lZ.aO{gh:Gh}{n nt:Nat}{w:World}{T:aw}{gen:Nat}{tm:Nat->Value}{v:Value}{x:AV}(h:lZ gh n nt w T gen tm v x):aO x=none:=by
 cases x<;>first|rfl|exact h.elim
theorem lZ.sr{gh:Gh}{n nt:Nat}{w:World}{T:aw}{gen:Nat}{tm:Nat->Value}{v:Value}{x:AV}(h:lZ gh n nt w T gen tm v x)(i:Nat):SR gh n nt w T gen tm i v x:=by
 cases x<;>first|exact h.elim|exact h|exact .inl h
theorem lZ.cF{gh:Gh}{n nt:Nat}{w:World}{T:aw}{gen:Nat}{tm:Nat->Value}{v:Value}{x:AV}(h:VR gh n w v x):lZ gh n nt w T gen tm v x:=by
 cases h with
 | plain v x h=>have h0:=h;cases h<;>exact .plain _ _ h0
 | full a k e h hz=>exact .full a k e h hz
 | ref loc off h=>exact .ref loc off h
 | sref loc off k cap z h hk hz=>exact .sref loc off k cap z h hk hz
 | mref loc h=>exact .mref loc h
 | func f fs cs xs ys hf hc h1 h2=>exact .func f fs cs xs ys hf hc h1 h2
 | iface t v x h=>exact .iface t v x h
 | agg cs xs hs fL h=>exact .agg cs xs hs fL h
 | tuple vs xs hs h=>exact .tuple vs xs hs h
theorem gG(s:AS)(d:Option Nat)(x:AV):(s.bM d x).H=s.H/\(s.bM d x).gen=s.gen/\(s.bM d x).lo=s.lo:=by cases d<;>exact⟨rfl,rfl,rfl⟩
theorem GU(a:Act)(d:Option Nat)(v:Value):(a.put d v).tmps.size=a.tmps.size:=by cases d<;>simp[Act.put]
theorem wm(a:Act)(d:Option Nat)(v:Value):(a.put d v).defers=a.defers:=by cases d<;>rfl
theorem FR.put{L:List Nat}{nt:Nat}{gh aH:Gh}{w w' : World}{a:Act}{s:AS}{H' : ah}{lo' : Nat}{touch:ba->Prop}(h:FR L nt gh w a s)(st:Step touch s.H.length gh w aH w')
  (ht:∀ i,¬ touch (.bx i)/\¬ touch (.sl i)/\∀ j,¬ touch (.sc i j)) (hH:s.H.length<=H'.length)
  (d:Option Nat) (hd:∀ k,d=some k->k<nt) {v:Value} {x:AV} (hv:lZ aH H'.length nt w' s.T s.gen (fj a) v x) :
  FR L nt aH w' (a.put d v) (({ s with H:=H',lo:=lo' } : AS).bM d x):=by
 cases d with
 | none =>
  exact h.update st h.defers h.size hH (aoU _) (fun _=>False) (fun i _=>⟨rfl,fun _=>⟨rfl,ht i⟩⟩) (fun _ h=>h.elim) (fun _ h=>h.elim)
 | some d =>
  have aU:=hd d rfl
  have gA:d<a.tmps.size:=by rw[h.size];exact aU
  refine h.update (s':=({ s with H:=H',lo:=lo' } : AS).bM (some d) x) st ((wm a (some d) v).trans h.defers) ((GU a (some d) v).trans h.size) hH (aoU _) (fun i=>i=d) ?_ ?_ ?_
  ·intro i hi
   refine⟨by simp[AS.bM,AS.br,db,hi],fun _=>⟨by rw[oc a d v i gA,if_neg hi],ht i⟩⟩
  ·rintro i rfl
   exact .inr (.inl (by simp[AS.bM,AS.br,db];exact hv.aO))
  ·rintro i rfl hi
   simp only[AS.bM,AS.br,db,ap4]
   rw[oc a i v i gA,if_pos rfl]
   refine SR.mono (touch:=fun _=>False) (n:=H'.length) (gh:=aH) (w:=w') (Step.refl _ _ _ _ (fun b hb=>st.fresh b (apV st.size hb))) (aoU _) (aoU _) id id (fun _=>id) ?_ (hv.sr i)
   intro k hk
   by_cases NK:k=i
   ·subst NK;exact .inr (.inl (by simp[aw.put];exact hv.aO))
   ·exact .inl ⟨by simp[db,NK],by rw[oc a i v k gA,if_neg NK]⟩
section
section
variable {gh:Gh}{n:Nat}{w:World}{v:Value}
theorem VR.jm{b:Bool}(h:VR gh n w v (.bool b)):v=.bool b:=by cases h with|plain _ _ h=>cases h;rfl
theorem VR.jE{k:IntKind}{m:Int}(h:VR gh n w v (.int k m)):v=.int k m:=by cases h with|plain _ _ h=>cases h;rfl
theorem VR.jF{l:List UInt8}(h:VR gh n w v (.str l)):∃ s:ByteArray,v=.string s/\s.data.toList=l:=by cases h with|plain _ _ h=>cases h;exact⟨_,rfl,‹_›⟩
theorem VR.uu(h:VR gh n w v .bR):v=.nilIface:=by cases h with|plain _ _ h=>cases h;rfl
theorem VR.wa(h:VR gh n w v .ct):v=.nilFunc:=by cases h with|plain _ _ h=>cases h;rfl
theorem VR.Mz{t:TypeId}{x:AV}(h:VR gh n w v (.iface t x)):∃ u,v=.iface t u:=by
 cases h with
 | plain _ _ h=>cases h;exact⟨_,rfl⟩
 | iface _ _ _ _=>exact⟨_,rfl⟩
theorem VR.kq(h:VR gh n w v .ae):v=.slice none 0 0:=by cases h with|plain _ _ h=>cases h;rfl
theorem VR.iw{e:List (List AV)}(h:VR gh n w v (.slice e false)):PR gh.S w v (.slice e false):=by cases h with|plain _ _ h=>exact h
theorem VR.ur{cs:List AV}(h:VR gh n w v (.eptr cs)):PR gh.S w v (.eptr cs):=by cases h with|plain _ _ h=>exact h
theorem VR.lC{loc off:Nat}(h:VR gh n w v (.ref loc off)):loc<n/\v=.pointer (some ⟨gh.ρ loc,off,none⟩):=by
 cases h with
 | plain _ _ h=>cases h
 | ref _ _ h=>exact⟨h,rfl⟩
theorem VR.jn{loc off k z:Nat}(h:VR gh n w v (.sref loc off k z)):loc<n/\∃ cap,k<=cap/\(z≠0->∃ ty,pq w (gh.ρ loc) ty (off+cap*z))/\v=.slice (some ⟨gh.ρ loc,off,none⟩) k cap:=by
 cases h with
 | plain _ _ h=>cases h
 | sref _ _ _ cap _ h hk hz=>exact⟨h,cap,hk,hz,rfl⟩
theorem VR.ny{loc:Nat}(h:VR gh n w v (.mref loc)):loc<n/\v=.map (some (gh.ρ loc)):=by
 cases h with
 | plain _ _ h=>cases h
 | mref _ h=>exact⟨h,rfl⟩
theorem VR.rb{f:Fn}{xs ys:List AV}(h:VR gh n w v (.func f xs ys)):∃ fs cs,v=.func f fs cs/\fs.size=xs.length/\cs.size=ys.length /\
  (∀ (j:Nat) (v:Value) (x:AV),fs[j]?=some v->xs[j]?=some x->VR gh n w v x)/\(∀ (j:Nat) (v:Value) (x:AV),cs[j]?=some v->ys[j]?=some x->VR gh n w v x):=by
 cases h with
 | plain _ _ h=>cases h;exact⟨#[],#[],rfl,rfl,rfl,fun j v x h=>by simp at h,fun j v x h=>by simp at h⟩
 | func _ fs cs _ _ hf hc h1 h2=>exact⟨fs,cs,rfl,hf,hc,h1,h2⟩
theorem VR.jD{xs:List AV}(h:VR gh n w v (.agg xs)):∃ cs:Array Value,v=.agg cs/\cs.size=xs.length/\(∀ (j:Nat) (v:Value),cs[j]?=some v->v.oneCell'=true) /\
  (∀ (j:Nat) (v:Value) (x:AV),cs[j]?=some v->xs[j]?=some x->VR gh n w v x):=by
 cases h with
 | plain _ _ h=>cases h
 | agg cs _ hs fL h=>exact⟨cs,rfl,hs,fL,h⟩
theorem VR.rR{xs:List AV}(h:VR gh n w v (.tuple xs)):∃ vs:Array Value,v=.tuple vs/\vs.size=xs.length /\
  (∀ (j:Nat) (v:Value) (x:AV),vs[j]?=some v->xs[j]?=some x->VR gh n w v x):=by
 cases h with
 | plain _ _ h=>cases h
 | tuple vs _ hs h=>exact⟨vs,rfl,hs,h⟩
theorem VR.MA(h:VR gh n w v .undef):v=undef:=by
 obtain⟨vs,rfl,hs,_⟩:=h.rR
 have:vs=#[]:=aqK (by simpa using hs)
 subst this;rfl
end
theorem VR.undef{gh:Gh}{n:Nat}{w:World} : VR gh n w undef .undef:=.tuple #[] [] rfl (fun j v x h=>by simp at h)
theorem tS{gh:Gh}{n:Nat}{w:World}{v:Value}{x:AV}(h:jB v=some x):VR gh n w v x:=by
 unfold jB at h
 split at h<;>first|(injection h with h;subst h)|cases h
 ·exact .plain _ _ (.bool _)
 ·exact .plain _ _ (.int _ _)
 ·exact .plain _ _ (.str _ _ rfl)
 ·exact .full none 0 [] .cT trivial
 ·exact .plain _ _ .df
 ·exact .plain _ _ .cI
 ·exact .plain _ _ .ct
 ·exact .plain _ _ .bR
theorem iT{gh:Gh}{n:Nat}{w:World} : ∀ {vs:List Value} {xs:List AV},dk vs=some xs->vs.length=xs.length /\
  ∀ (j:Nat) (v:Value) (x:AV),vs[j]?=some v->xs[j]?=some x->VR gh n w v x/\v.oneCell'=true
 | [],xs,h=>by simp[dk] at h;subst h;exact⟨rfl,fun j v x h=>by simp at h⟩
 | v :: r,xs,h=>by
  simp only[dk,aoP,aoO] at h
  obtain⟨x,hx,ys,hy,rfl⟩:=h
  obtain⟨h1,h2⟩:=iT (gh:=gh) (n:=n) (w:=w) hy
  refine⟨by simp[h1],fun j u y hu hy=>?_⟩
  cases j with
  | zero =>
   simp at hu hy
   subst hu hy
   refine⟨tS hx,?_⟩
   unfold jB at hx
   split at hx<;>first|rfl|cases hx
  | succ j=>exact h2 j u y (by simpa using hu) (by simpa using hy)
theorem HT{gh:Gh}{n:Nat}{w:World}{v:Value}{x:AV}(h:jB v=some x):VR gh n w v (mA x):=by
 have h0:=tS (gh:=gh) (n:=n) (w:=w) h
 unfold jB at h
 split at h<;>first|(injection h with h;subst h)|cases h
 all_goals first|exact h0|exact .plain _ _ .ae
theorem sy:∀ {vs:List Value} {xs:List AV},dk vs=some xs->∀ (j:Nat) (v:Value) (x:AV),vs[j]?=some v->xs[j]?=some x->jB v=some x
 | [],_,_,j,v,x,hv,_=>by simp at hv
 | u :: r,xs,h,j,v,x,hv,hx=>by
  simp only[dk,aoP,aoO] at h
  obtain⟨y,hy,ys,Mu,rfl⟩:=h
  cases j with
  | zero=>simp at hv hx;subst hv hx;exact hy
  | succ j=>exact sy Mu j v x (by simpa using hv) (by simpa using hx)
theorem iD{gh:Gh}{n:Nat}{w:World}{v:Value}{x:AV}(h:qJ v=some x):VR gh n w v x:=by
 unfold qJ at h
 split at h
 ·rename_i vs
  simp only[aoO] at h
  obtain⟨l,hl,rfl⟩:=h
  obtain⟨h1,h2⟩:=iT (gh:=gh) (n:=n) (w:=w) hl
  refine .agg vs _ (by simpa using h1) (fun j v hv=>?_) (fun j v x hv hx=>?_)
  ·have hj:vs.toList[j]?=some v:=by simpa using hv
   obtain⟨y,hy⟩:∃ y,l[j]?=some y:=by
    have:j<vs.toList.length:=(aoR.1 hj).1
    exact⟨_,aoT (by omega)⟩
   exact (h2 j v y hj hy).2
  ·rw[ao1,aoO] at hx
   obtain⟨y,hy,rfl⟩:=hx
   exact HT (sy hl j v y (by simpa using hv) hy)
 ·exact tS h
section
variable {G:Nat->List AV}{base nt:Nat}{L:List Nat}{gh:Gh}{w:World}{a:Act}{s:AS}{x:Operand}{y:an}
theorem Ux(hW:aK G base s.H gh w)(g:Nat):VR gh s.H.length w (.pointer (some ⟨g,0,none⟩)) (.eptr (G g)):=by
 refine .plain _ _ ?_
 let f:Nat->Value:=fun j=>(w.cell? ⟨g,j,none⟩).getD undef
 refine .eptr g 0 (G g) f ?_ ?_
 ·intro j x h
  obtain⟨v,hv,hp,hs⟩:=hW.aN g j x h
  refine⟨by simpa using hs,by simp[f,hv],?_⟩
  simp only[f,hv,Option.getD_some];exact hp.dX
 ·intro j x h
  obtain⟨v,hv,hp,hs⟩:=hW.aN g j x h
  simp only[f,hv,Option.getD_some];exact hp
theorem arg_val(hW:aK G base s.H gh w)(hF:FR L nt gh w a s)(hc:ak nt x=some y) :
  lZ gh s.H.length nt w s.T s.gen (fj a) (a.eval x) (y.addr G s.T).drop:=by
 cases x with
 | tmp t =>
  simp only[ak] at hc
  rcases apE (Nat.blt t nt) with hb|hb<;>rw[hb] at hc<;>simp at hc
  subst hc
  have aU:t<nt:=by simpa [api] using hb
  have h:=hF.slot t aU
  show lZ gh s.H.length nt w s.T s.gen (fj a) (fj a t) _
  change SR gh s.H.length nt w s.T s.gen (fj a) t (fj a t) (s.T t) at h
  simp only[an.addr]
  generalize hX:s.T t=X at h
  cases X
  case lbox g cs =>
   obtain⟨hg,b,hv,_⟩:=h
   refine⟨aU,hg,fun _ b' fP=>fP⟩
  case lsl g e=>exact⟨aU,h.1,fun _=>rfl⟩
  case lref=>exact h
  case lsr=>exact h
  case eref=>exact h
  case iter g kz ka va cur todo =>
   obtain⟨_,b,hv,_⟩:=h
   rw[hv]
   exact .cF (.plain _ _ (.any _ rfl))
  all_goals exact .cF (CR.dropped h)
 | const v =>
  simp only[ak,aoO] at hc
  obtain⟨z,hz,rfl⟩:=hc
  exact .cF (VR.dropped (iD hz))
 | global g =>
  simp only[ak,aoQ] at hc
  subst hc
  exact .cF (VR.dropped (Ux hW g))
 | func f =>
  simp only[ak,aoQ] at hc
  subst hc
  exact .cF (.plain _ _ (.func _))
theorem Lc{T:aw}(h:aO (y.eval G T)=none):y.addr G T=y.eval G T:=by
 cases y with
 | tmp t =>
  simp only[an.addr,an.eval] at h ⊢
  cases hX:T t<;>rw[hX] at h<;>first|rfl|(simp[aO] at h)
 | cg v=>rfl
 | aN g=>rfl
 | fn f=>rfl
theorem lZ.vr{n:Nat}{T:aw}{gen:Nat}{tm:Nat->Value}{v:Value}{z:AV}(h:lZ gh n nt w T gen tm v z)(hz:al z=true):VR gh n w v z:=by
 cases z<;>first|exact h|(simp[al] at hz)
theorem gy{z:AV} : al z.drop=al z:=by cases z<;>rfl
theorem bY(hW:aK G base s.H gh w)(hF:FR L nt gh w a s)(hc:ak nt x=some y){z:AV}(hz:y.eval G s.T=z)(hf:al z=true) :
  VR gh s.H.length w (a.eval x) z.drop:=by
 have hg:aO (y.eval G s.T)=none:=by rw[hz];cases z<;>first|rfl|(simp[al] at hf)
 have h:=arg_val hW hF hc
 rw[Lc hg,hz] at h
 exact h.vr (by rw[gy];exact hf)
theorem mD(hW:aK G base s.H gh w)(hF:FR L nt gh w a s)(hc:ak nt x=some y){z:AV}(hz:y.addr G s.T=z)(hf:al z=true) :
  VR gh s.H.length w (a.eval x) z.drop:=by
 have h:=arg_val hW hF hc
 rw[hz] at h
 exact h.vr (by rw[gy];exact hf)
theorem Bw(hF:FR L nt gh w a s){t:Nat}(aU:t<nt){e:List (List AV)}{own:Bool}(hz:s.T t=.slice e own):CR gh s.H.length w (.sl t) (a.eval (.tmp t)) (.slice e own):=by
 have h:=hF.slot t aU
 rw[hz] at h
 exact h
end
end
section
section
variable {P:Program}{G:Nat->List AV}{base nt:Nat}{L:List Nat}{gh:Gh}{w:World}{a:Act}{s:AS}
theorem ab{α:Type}{b:Bool}{x:Option α}{y:α}(h:cond b x none=some y):b=true/\x=some y:=by cases b<;>simp_all
theorem ZV(hW:aK G base s.H gh w)(hF:FR L nt gh w a s){x:Operand}{y:an}{take obj:Bool}{z:AV}(hc:ak nt x=some y)
  (he:kV G s take obj y=some (z,none)):lZ gh s.H.length nt w s.T s.gen (fj a) (a.eval x) z:=by
 have h:=arg_val hW hF hc
 cases y with
 | tmp t =>
  simp only[kV] at he
  simp only[an.addr] at h
  generalize hX:s.T t=X at h he
  cases X<;>simp only[aoQ,aoS,aqe] at he<;>(try subst he)<;>(try exact h)
  case slice e own =>
   cases take<;>cases own<;>simp at he<;>subst he<;>exact h
  case lsl g e =>
   cases take
   ·simp at he;subst he;exact h
   ·cases obj
    ·cases hn:iY e<;>rw[hn] at he<;>simp at he
    ·simp at he
  case iter=>cases he
 | cg v =>
  simp only[kV,an.eval,aoQ,aoS,aqe] at he
  subst he
  cases x<;>simp only[ak,aoO,aoQ,reduceCtorEq,art,aq7] at hc
  case tmp t=>exact absurd (ab hc).2 (by simp)
  case const v' =>
   obtain⟨z,hz,hy⟩:=hc
   injection hy with hy
   subst hy
   exact .cF (iD hz)
 | aN g =>
  simp only[kV,an.eval,aoQ,aoS,aqe] at he
  subst he
  exact h
 | fn f =>
  simp only[kV,an.eval,aoQ,aoS,aqe] at he
  subst he
  exact h
theorem ke(hW:aK G base s.H gh w)(hF:FR L nt gh w a s){x:Operand}{y:an}(hc:ak nt x=some y){k:Nat}(h:asNat (y.eval G s.T)=some k) :
  ∃ kd,a.eval x=.int kd (k:Int):=by
 unfold asNat at h
 split at h
 ·rename_i kd m hy
  obtain⟨h0,h1⟩:=ab h
  have hm:(0:Int)<=m:=by simpa using h0
  have h1' : m.toNat=k:=by simpa using h1
  have hv:=(bY hW hF hc hy rfl).jE
  exact⟨kd,by rw[hv,<- h1',Int.toNat_of_nonneg hm]⟩
 ·cases h
theorem mH{t:TypeId}{k:Nat}(h:de P t=some k):∃ i,P.info? t=some i/\i.size=k:=by
 simpa [de,aoO] using h
theorem dx{t:TypeId}{k:Nat}(h:de P t=some k)(w:World):(sizeOf t).run P w=.ok k w:=by
 obtain⟨i,hi,hk⟩:=mH h
 simp[sizeOf,typeInfo,hi,hk]
theorem gY{t:TypeId}{g:Bool}(h:kQ P t=some g)(w:World):(isAgg t).run P w=.ok g w:=by
 unfold kQ at h
 simp only[aoO] at h
 obtain⟨d,hd,hg⟩:=h
 unfold isAgg
 rw[Sem.run_bind,run_underlying hd w]
 subst hg
 cases d<;>rfl
theorem gv(b o k:Nat):(⟨b,o,none⟩:Addr).add k=⟨b,o+k,none⟩:=by unfold Addr.add;split<;>simp_all
theorem j8{n:Nat}{agg:Bool}{sz off:Nat}{cs:List AV}{z:AV}(hl:ag false agg sz off cs=some z){t:TypeId}(hg:kQ P t=some agg)(hs:de P t=some sz)
  {b o:Nat} {f:Nat->Value} (hf:∀ (j:Nat) (x:AV),cs[j]?=some x->w.cell? ⟨b,o+j,none⟩=some (f j)/\(f j).oneCell'=true/\VR gh n w (f j) x.drop) :
  ∃ v,(loadVar t ⟨b,o+off,none⟩).run P w=.ok v w/\VR gh n w v z:=by
 unfold ag at hl
 cases agg
 ·simp only[aoZ,aoO] at hl
  obtain⟨x,hx,rfl⟩:=hl
  obtain⟨h1,h2,h3⟩:=hf off x hx
  refine⟨f off,?_,h3⟩
  simp[loadVar,gY hg,h1]
 ·simp only[cond_true] at hl
  obtain⟨h0,h1⟩:=ab hl
  have h0' : off+sz<=cs.length:=by simpa [Nat.ble_eq] using h0
  injection h1 with h1
  subst h1
  have s8:(loadCells ⟨b,o+off,none⟩ sz).run P w=.ok ((List.range sz).map fun j=>f (off+j)).toArray w :=
   run_loadCells w _ sz (fun j=>f (off+j)) fun j hj=>by
    have aU:off+j<cs.length:=by omega
    have:=(hf (off+j) _ (aoT aU)).1
    rw[gv,aqu];exact this
  refine⟨.agg ((List.range sz).map fun j=>f (off+j)).toArray,by simp[loadVar,gY hg,dx hs,s8],?_⟩
  have hlen:(((cs.drop off).take sz).map AV.drop).length=sz:=by simp;omega
  refine .agg _ _ (by simp[hlen];omega) ?_ ?_
  ·intro j v hj
   simp only[ape,ao1,aoO] at hj
   obtain⟨k,hk,rfl⟩:=hj
   have iV:=aoR.1 hk
   obtain⟨aU,Hl⟩:=iV
   simp at aU Hl
   subst Hl
   exact (hf (off+j) _ (aoT (by omega))).2.1
  ·intro j v x hj hx
   simp only[ape,ao1,aoO] at hj hx
   obtain⟨k,hk,rfl⟩:=hj
   obtain⟨aU,Hl⟩:=aoR.1 hk
   simp at aU Hl
   subst Hl
   obtain⟨y,hy,rfl⟩:=hx
   rw[apa,apq] at hy
   rw[if_pos aU] at hy
   exact (hf (off+j) y hy).2.2
theorem uM(hF:FR L nt gh w a s){b g:Nat}{cs:List AV}(hb:b<nt)(hT:s.T b=.lbox g cs) :
  ∃ k,fj a b=.pointer (some ⟨k,0,none⟩)/\gF gh s.H.length w k (.bx b) (fun j=>.sc b j) cs:=by
 have h:=hF.slot b hb
 rw[hT] at h
 exact h.2
theorem nI(hF:FR L nt gh w a s){b g:Nat}{e:List (List AV)}(hb:b<nt)(hT:s.T b=.lsl g e):qA gh w (.bx b) (fj a b) e:=by
 have h:=hF.slot b hb
 rw[hT] at h
 exact h.2
theorem oG{n b:Nat}{p:ba}{q:Nat->ba}{cs:List AV}(h:gF gh n w b p q cs) :
  ∃ f:Nat->Value,∀ (j:Nat) (x:AV),cs[j]?=some x->w.cell? ⟨b,0+j,none⟩=some (f j)/\(f j).oneCell'=true/\VR gh n w (f j) x.drop:=by
 obtain⟨_,_,C,ty,hb,hC,fi⟩:=h
 refine⟨fun j=>C.getD j undef,fun j x hx=>?_⟩
 have hj:j<cs.length:=(aoR.1 hx).1
 have iL:j<C.size:=by omega
 have hv:C[j]?=some C[j]:=ao2 iL
 obtain⟨h1,h2⟩:=fi j _ x hv hx
 refine⟨by rw[Nat.zero_add,cell_of_row w b j C ty _ hb];simp[iL],by simpa [iL] using h1,by simpa [iL] using h2.dropped⟩
theorem Ub(hW:aK G base s.H gh w)(hF:FR L nt gh w a s){t:TypeId}{x:Operand}{y:an}{take agg:Bool}{sz:Nat}{z:AV}(hc:ak nt x=some y)(hg:kQ P t=some agg)(hs:de P t=some sz)
  (he:cM s take agg sz (y.addr G s.T)=some (z,none)) :
  ∃ v,(Instr.loadAt t (a.eval x)).run P w=.ok v w/\lZ gh s.H.length nt w s.T s.gen (fj a) v z:=by
 have hv:=arg_val hW hF hc
 have KJ:∀ {n:Nat} {off:Nat} {cs:List AV} {v:AV},ag take agg sz off cs=some v->(take&&!agg)=false->ag false agg sz off cs=some v:=by
  intro n off cs v h1 h2
  cases take
  ·exact h1
  ·cases agg
   ·cases h2
   ·exact h1
 generalize hY:y.addr G s.T=Y at hv he
 cases Y<;>simp only[cM] at he<;>try (cases he;done)
 case eptr cs =>
  simp only[aoO,aoS,aqe] at he
  obtain⟨u,hu,rfl⟩:=he
  have hp:=VR.ur (hv:VR gh s.H.length w (a.eval x) (.eptr cs))
  generalize hA:a.eval x=V at hp
  cases hp with
  | eptr b o _ f cL cr =>
   obtain⟨v,h1,h2⟩:=j8 (gh:=gh) (n:=s.H.length) hu hg hs (b:=b) (o:=o) (f:=f)
    (fun j x hx=>⟨(cL j x hx).2.1,(cL j x hx).2.2,VR.dropped (.plain _ _ (cr j x hx))⟩)
   refine⟨v,?_,.cF h2⟩
   simpa [Instr.loadAt,Instr.sureAddr] using h1
 case ref loc off =>
  obtain⟨aU,l5⟩:=VR.lC (hv:VR gh s.H.length w (a.eval x) (.ref loc off))
  split at he
  ·rename_i NS cs hH
   simp only[aoO,aoS] at he
   obtain⟨u,hu,rfl,hn⟩:=he
   have hq:(take&&!agg)=false:=by cases h:(take&&!agg)<;>simp_all
   obtain⟨f,hf⟩:=oG (hW.boxes loc _ cs hH)
   obtain⟨v,h1,h2⟩:=j8 (gh:=gh) (n:=s.H.length) (KJ (n:=0) hu hq) hg hs (b:=gh.ρ loc) (o:=0) (f:=f) hf
   refine⟨v,?_,.cF h2⟩
   rw[l5]
   simpa [Instr.loadAt,Instr.sureAddr] using h1
  ·rename_i cs hH
   simp only[aoO,aoS,aqe] at he
   obtain⟨u,hu,rfl⟩:=he
   have hp:PR gh.S w (.pointer (some ⟨gh.ρ loc,0,none⟩)) (.eptr cs):=hW.more loc _ hH
   generalize hB:gh.ρ loc=b0 at hp l5
   cases hp with
   | eptr b o _ f cL cr =>
    obtain⟨v,h1,h2⟩:=j8 (gh:=gh) (n:=s.H.length) hu hg hs (b:=b0) (o:=0) (f:=f)
     (fun j x hx=>⟨(cL j x hx).2.1,(cL j x hx).2.2,VR.dropped (.plain _ _ (cr j x hx))⟩)
    refine⟨v,?_,.cF h2⟩
    rw[l5]
    simpa [Instr.loadAt,Instr.sureAddr] using h1
  ·rename_i cs hH
   simp only[aoO,aoS,aqe] at he
   obtain⟨u,hu,rfl⟩:=he
   obtain⟨f,hf⟩:=oG (hW.more loc _ hH:gF gh s.H.length w (gh.ρ loc) (.hb loc) (fun j=>.hs loc j) cs)
   obtain⟨v,h1,h2⟩:=j8 (gh:=gh) (n:=s.H.length) hu hg hs (b:=gh.ρ loc) (o:=0) (f:=f) hf
   refine⟨v,?_,.cF h2⟩
   rw[l5]
   simpa [Instr.loadAt,Instr.sureAddr] using h1
  ·cases he
 case lref b g off =>
  obtain⟨hb,IL,hr⟩:=(hv:_/\_/\_)
  split at he
  ·rename_i g' cs hT
   obtain⟨h0,s9⟩:=ab he
   clear he
   have Dp:g=g':=by simpa [dR] using h0
   subst Dp
   rename _=some (z,none)=>he
   simp only[aoO,aoS] at he
   obtain⟨u,hu,rfl,hn⟩:=he
   have hq:(take&&!agg)=false:=by cases h:(take&&!agg)<;>simp_all
   obtain⟨k,hk,Mg⟩:=uM hF hb hT
   have l5:=hr (by rw[hT];rfl) k hk
   obtain⟨f,hf⟩:=oG Mg
   obtain⟨v,h1,h2⟩:=j8 (gh:=gh) (n:=s.H.length) (KJ (n:=0) hu hq) hg hs (b:=k) (o:=0) (f:=f) hf
   refine⟨v,?_,.cF h2⟩
   rw[l5]
   simpa [Instr.loadAt,Instr.sureAddr] using h1
  ·cases he
 case eref b g i zz off =>
  obtain⟨hb,IL,hr⟩:=(hv:_/\_/\_)
  split at he
  ·rename_i g' e hT
   obtain⟨h0,s9⟩:=ab he
   clear he
   have Dp:g=g':=by simpa [dR] using h0
   subst Dp
   rename _=some (z,none)=>he
   simp only[aoP] at he
   obtain⟨r,Kr,he⟩:=he
   obtain⟨h1,he⟩:=ab he
   have hz:r.length=zz:=by simpa [dR] using h1
   simp only[aoO,aoS,aqe] at he
   obtain⟨u,hu,rfl⟩:=he
   obtain⟨ad,cap,tE,bE⟩:=nI hF hb hT
   rcases bE with ⟨rfl,_⟩|⟨k,C,ty,ja,_,rfl,hκ,hS,Kl,hC,hl,PI,fi⟩
   ·simp at Kr
   ·have l5:=hr (by rw[hT];rfl) k _ _ tE
    have gA:ja=zz:=by rw[<- hz,PI i r Kr]
    subst gA
    obtain⟨v,h1,h2⟩:=j8 (P:=P) (gh:=gh) (w:=w) (n:=s.H.length) hu hg hs (b:=k) (o:=i*ja) (f:=fun j=>C.getD (i*ja+j) undef) (fun j x hx=>by
     obtain⟨u,Tz,hu2⟩:=fi i j r x Kr hx
     have hj:i*ja+j<C.size:=(aoY.1 Tz).1
     have s9:C.getD (i*ja+j) undef=u:=by
      rw[ao2 hj] at Tz
      injection Tz with Tz
      simp[hj,Tz]
     rw[s9,cell_of_row w k _ C ty _ Kl,Tz]
     exact⟨rfl,hu2.dX,VR.dropped (.plain _ _ hu2)⟩)
    refine⟨v,?_,.cF h2⟩
    rw[l5]
    simpa [Instr.loadAt,Instr.sureAddr] using h1
  ·cases he
end
end
end Go.Abs
