/-
  A part of the proof of ScopeFinds: AbsDefs, AbsRel, AbsFrame, AbsArg, AbsOps1.
-/
import Derived.Orders
import Derived.Laws.AppendOwn
import Derived.Below
import Derived.WalkKit
set_option linter.unusedSimpArgs false
set_option linter.unusedVariables false
set_option linter.defProp false
namespace Go
theorem tk {α:Type} {a:Option α} {f g:α} (h:a=some f) (e:f=g):a=some g:=e ▸ h
def apt:=@Option.map_eq_some_iff
def apu:=@Option.bind_eq_some_iff
def apv:=@Option.some.injEq
def apw:=@List.getElem?_eq_some_iff
def apx:=@Prod.mk.injEq
def apy:=@List.getElem?_eq_getElem
def apz:=@Nat.le_refl
def apA:=@List.all_eq_true
def apB:=@Option.bind_some
def apC:=@List.mem_append
def apD:=@Array.getElem?_eq_some_iff
def apE:=@cond_false
def apF:=@List.mem_of_getElem?
def apG:=@List.getElem?_map
def apH:=@List.getElem?_cons_zero
def apI:=@List.mem_singleton
def apJ:=@Array.getElem?_eq_getElem
def apK:=@Int.natCast_zero
def apL:=@List.length_append
def apM:=@List.getElem?_append_right
def apN:=@List.getElem?_append_left
def apO:=@List.mem_cons
def apP:=@List.mem_cons_self
def apQ:=@List.length_map
def apR:=@List.getElem?_take
def apS:=@decide_eq_true_eq
def apT:=@List.getElem?_cons_succ
def apU:=@List.mem_cons_of_mem
def apV:=@List.drop_eq_getElem_cons
def apW:=@List.getElem?_toArray
def apX:=@List.getD_eq_getElem?_getD
def apY:=@List.map_congr_left
def apZ:=@List.map_cons
def ap0:=@Nat.blt_eq
def ap1:=@List.getElem?_set_ne
def ap2:=@List.cons_append
def ap3:=@List.length_singleton
def ap4:=@Nat.mul_le_mul_right
def ap5:=@List.getElem?_set_self
def ap6:=@List.getElem?_set
def ap7:=@Array.getElem?_toList
def ap8:=@List.mem_iff_getElem?
def ap9:=@List.mem_map
def ap':=@List.getElem?_drop
def aqa:=@List.nil_append
def aqb:=@List.getElem?_of_mem
def aqc:=@List.set_append_right
def aqd:=@Nat.add_mul
def aqe:=@List.map_nil
def aqf:=@Bool.false_eq_true
def aqg:=@Bool.not_eq_true'
def aqh:=@List.drop_zero
def aqi:=@Option.some.inj
def aqj:=@List.length_pos_iff
def aqk:=@Nat.ble_eq_true_of_le
def aql:=@Bool.eq_false_or_eq_true
def aqm:=@List.drop_length
def aqn:=@List.take_of_length_le
def aqo:=@Nat.le_succ
def aqp:=@Option.isSome_iff_exists
def aqq:=@List.flatten_cons
def aqr:=@List.foldl_cons
def aqs:=@decide_eq_false_iff_not
def aqt:=@List.append_nil
def aqu:=@List.modify_succ_cons
def aqv:=@List.modify_zero_cons
def aqw:=@Nat.eq_of_beq_eq_true
def aqx:=@List.mem_filter
def aqy:=@decide_eq_false
def aqz:=@List.mem_flatMap
def aqA:=@List.not_mem_nil
def aqB:=@List.getElem?_append
def aqC:=@Nat.le_trans
def aqD:=@Nat.sub_self
def aqE:=@List.length_set
def aqF:=@Nat.zero_le
def aqG:=@if_false
def aqH:=@if_true
def aqI:=@beq_iff_eq
def aqJ:=@Nat.le_of_eq
def aqK:=@List.getElem?_eq_none
def aqL:=@List.append_assoc
def aqM:=@Ne.symm
def aqN:=@List.nodup_cons
def aqO:=@Nat.add_zero
def aqP:=@Nat.lt_or_ge
def aqQ:=@List.length_eq_one_iff
def aqR:=@List.take_succ_cons
def aqS:=@List.ext_getElem?
def aqT:=@List.cons.injEq
def aqU:=@and_true
def aqV:=@Array.getElem?_eq_none
def aqW:=@Bool.false_and
def aqX:=@List.size_toArray
def aqY:=@List.filterMap_cons
def aqZ:=@Bool.or_eq_true
def aq0:=@Option.isNone_iff_eq_none
def aq1:=@Nat.lt_of_lt_of_le
def aq2:=@Bool.not_false
def aq3:=@List.contains_eq_mem
def aq4:=@List.mem_append_left
def aq5:=@Nat.lt_trichotomy
def aq6:=@Bool.true_and
def aq7:=@List.getElem_mem
def aq8:=@List.drop_drop
def aq9:=@List.getElem?_zip_eq_some
def aq':=@Nat.add_assoc
def ara:=@Array.getElem?_push
def arb:=@List.drop_succ_cons
def arc:=@List.filter_cons
def ard:=@List.length_take
def are:=@List.take_zero
def arf:=@Nat.le_max_right
def arh:=@Classical.choose_spec
def ari:=@List.getElem?_zipIdx
def arj:=@List.isEmpty_eq_false_iff
def ark:=@Nat.one_mul
def arl:=@Option.map_map
def arn:=@Array.all_eq_true_iff_forall_mem
def aro:=@List.length_drop
def arp:=@List.take_length
def arq:=@Nat.lt_succ_self
def ars:=@Nat.zero_mul
def art:=@or_false
def aru:=@List.length_eq_zero_iff
def arv:=@Bool.not_true
def arw:=@Array.eq_empty_of_size_eq_zero
def arx:=@Nat.le_max_left
def ary:=@Array.mem_of_getElem?
def arz:=@Bool.or_true
def arA:=@Bool.true_or
def arB:=@List.map_map
def arC:=@List.mem_append_right
def arD:=@Nat.le_of_lt
def arE:=@Array.getD_eq_getD_getElem?
def arF:=@Array.ext'
def arG:=@List.map_toArray
def arH:=@List.mem_flatten
def arI:=@List.mem_of_mem_take
def arJ:=@beq_eq_false_iff_ne
def arK:=@List.map_append
def arL:=@List.eq_of_mem_replicate
def arM:=@Nat.add_comm
def arN:=@Nat.mul_comm
def arO:=@exists_false
def arP:=@true_and
def arQ:=@Array.getElem?_extract
def arR:=@Bool.false_or
def arS:=@Array.toList_map
def arT:=@Bool.not_eq_true
def arU:=@beq_self_eq_true
def arV:=@Array.getElem?_setIfInBounds_ne
def arW:=@Bool.and_eq_true_iff
def arX:=@List.all_append
def arY:=@Nat.not_lt_zero
def arZ:=@List.take_append_of_le_length
def ar0:=@congrArg
def ar1:=@Array.getElem?_map
def ar2:=@List.contains_cons
def ar3:=@List.mem_filterMap
def ar4:=@Array.getElem?_append_left
def ar5:=@List.mem_or_eq_of_mem_set
def ar6:=@List.flatten_nil
def ar7:=@List.getElem?_replicate
def ar8:=@and_false
def ar9:=@List.drop_eq_nil_of_le
def ar':=@Nat.mul_one
def asa:=@Bool.or_false
def asb:=@Array.length_toList
def asc:=@decide_true
end Go
namespace Go.Abs
section
inductive AV where
 | bool (b:Bool)
 | int (k:IntKind) (n:Int)
 | str (l:List UInt8)
 | any
 | dh|cN|cz|bV
 | slice (elems:List (List AV)) (own:Bool)
 | eptr (cells:List AV)
 | ref (loc off:Nat)
 | sref (loc off n z:Nat)
 | mref (loc:Nat)
 | dR (kz:Nat) (ka va:Bool) (es:List (List AV))
 | mX (kz:Nat) (ka va:Bool) (es:List (List AV))
 | iter (g kz:Nat) (ka va:Bool) (cur:List AV) (todo:List (List AV))
 | lbox (g:Nat) (cells:List AV)
 | lref (s g off:Nat)
 | lsl (g:Nat) (elems:List (List AV))
 | lsr (s g:Nat)
 | eref (s g i z off:Nat)
 | func (f:Fn) (first captured:List AV)
 | iface (t:TypeId) (v:AV)
 | agg (cells:List AV)
 | tuple (vs:List AV)
 | ae
 deriving Inhabited,Repr
abbrev AV.undef:AV:=.tuple []
inductive ct where
 | box (ty:TypeId) (cells:List AV)
 | map (kz:Nat) (ka va:Bool) (es:List (List AV))
 | dR (kz:Nat) (ka va:Bool) (es:List (List AV))
 | I6 (cells:List AV)
 | cj (cells:List AV)
 | dead
 deriving Inhabited,Repr
abbrev ag:=List ct
abbrev ax:=Nat->AV
def ax.put(T:ax)(d:Nat)(v:AV):ax:=fun i=>cond (Nat.beq i d) v (T i)
structure gk where
 heap:ag
 lo:Nat
 deriving Inhabited
abbrev cA:=FuncId->List AV->ag->Option (AV × Option gk)
inductive ar where
 | tmp (t:Nat)
 | cr (v:AV)
 | aO (g:Nat)
 | fn (f:FuncId)
 deriving Inhabited,Repr
inductive xA where
 | toInt (k:IntKind)
 | DO
 | xK
 deriving Inhabited,Repr
inductive vl where
 | str
 | sl (sz:Nat)
 | arr (n sz:Nat)
 deriving Inhabited,Repr
inductive CK where
 | b|i|s
 deriving Inhabited,Repr,DecidableEq
inductive vi where
 | other|bool|iface|func
 | flat (ks:List CK)
 deriving Inhabited,Repr
inductive lO where
 | str|sl
 | arr (n:Nat)
 deriving Inhabited,Repr
inductive Oh where
 | frame (b:Nat)
 | Uw|heap
 deriving Inhabited,Repr
inductive fq where
 | j6 (c:Oh) (x:ar)
 | mov (take obj:Bool) (x:ar)
 | pick (c a b:ar)
 | allocL (zero:List AV)
 | tp (ty:TypeId) (zero:List AV)
 | boxL (x:ar)
 | box (ty:TypeId) (x:ar)
 | build (zero:List AV) (parts:List (Nat × Nat × ar))
 | mkslice (isB:Bool) (sz:Nat) (HQ:List (List AV)) (parts:List (Nat × ar))
 | mf (sz:Nat) (HQ:List (List AV)) (parts:List (Nat × ar))
 | load (take agg:Bool) (sz:Nat) (x:ar)
 | store (sz:Nat) (a v:ar)
 | nilCheck (x:ar)
 | bin (op:BinOp) (k:vi) (x y:ar)
 | un (op:UnOp) (x:ar)
 | mm (mx:Bool) (x y:ar)
 | conv (c:xA) (x:ar)
 | uW (t:TypeId) (x:ar)
 | slice (k:vl) (x:ar) (lo hi mx:Option ar)
 | fieldAddr (off:Nat) (x:ar)
 | field (agg:Bool) (off sz:Nat) (x:ar)
 | ixSl (sz:Nat) (x i:ar)
 | ixArr (n sz:Nat) (x i:ar)
 | index (agg:Bool) (n sz:Nat) (x i:ar)
 | indexStr (x i:ar)
 | extract (x:ar) (i:Nat)
 | len (k:lO) (x:ar)
 | append (isB wr:Bool) (sz bytes:Nat) (x y:ar)
 | appendO (sz bytes:Nat) (x y:ar)
 | copyO (x y:ar)
 | B5 (x:ar)
 | nilS (neg:Bool) (x:ar)
 | y9 (sz bytes:Nat) (zero:List AV) (n:ar)
 | call (f:ar) (args:List ar)
 | uf (f:ar) (args:List ar)
 | ug (f:FuncId) (pre:List ar) (x:ar) (post:List ar)
 | mkfunc (f:Fn) (first captured:List ar)
 | uX (kz:Nat) (ka va:Bool)
 | look (ok:Bool) (kz:Nat) (ka va:Bool) (ks:List CK) (zero:List AV) (m k:ar)
 | GW (kz:Nat) (ka:Bool) (ks:List CK) (zero:List AV) (m k:ar)
 | xe (kz:Nat) (ka va:Bool) (vz:Nat) (ks:List CK) (m k v:ar)
 | NB (m:ar)
 | rng (kz:Nat) (ka va:Bool) (m:ar)
 | next (it:ar)
 | UW (it:ar)
 | same (agg:Bool) (sz d:Nat) (x:ar)
 | oY (sz:Nat) (a v:ar)
 deriving Inhabited,Repr
structure aj where
 dst:Option Nat
 guard:Option (Nat × Bool)
 op:fq
 deriving Inhabited,Repr
inductive bO where
 | skip
 | region (draw:Bool) (ops:List aj)
 | ub (nt:Nat) (ops:List aj) (pre:List (List Nat))
 | seq (a b:bO)
 | cond (c:ar) (a b:bO)
 | block (id:Nat) (a:bO)
 | loop (a:bO)
 | exit (id:Nat)
 | ret
 deriving Inhabited,Repr
inductive gu where
 | tmp (t:Nat)
 | cell (a:Nat) (agg:Bool) (sz:Nat)
 deriving Inhabited,Repr
structure ay where
 bJ:List Nat
 locals:List Nat
 muts:List Nat
 nt:Nat
 np:Nat
 results:List gu
 body:bO
 deriving Inhabited,Repr
inductive bq where
 | normal
 | exit (id:Nat)
 | ret
 deriving Inhabited,Repr,DecidableEq
structure AS where
 T:ax
 H:ag
 lo:Nat
 gen:Nat
def AV.cells:AV->Option (List AV)
 | .agg cs=>some cs
 | .any=>none
 | .tuple _=>none
 | .lbox ..=>none
 | .lref ..=>none
 | .lsl ..=>none
 | .lsr ..=>none
 | .eref ..=>none
 | .iter ..=>none
 | v=>some [v]
def AV.drop:AV->AV
 | .slice e _=>.slice e false
 | v=>v
def AV.aX:AV->AV
 | .agg cs=>.agg (cs.map AV.drop)
 | v=>v.drop
def AV.plain:AV->Bool
 | .bool _|.int ..|.str _|.any|.dh|.cN|.cz|.bV|.eptr _|.dR ..|.mX ..|.ae=>true
 | .slice _ own=>!own
 | .func _ [] []=>true
 | .iface _ (.bool _)|.iface _ (.int ..)|.iface _ (.str _)|.iface _ .any|.iface _ .dh=>true
 | _=>false
def AV.elem(sz:Nat)(v:AV):Option (List AV) :=
 match v.cells with
 | none=>none
 | some cs =>
  let ds:=cs.map AV.drop
  cond (Nat.beq ds.length sz&&ds.all AV.plain) (some ds) none
def AV.aJ(base:Nat):AV->Bool
 | .ref loc _=>Nat.blt loc base
 | .sref loc _ _ _=>Nat.blt loc base
 | .mref loc=>Nat.blt loc base
 | v=>v.plain
def AV.bp(base:Nat):AV->Bool
 | .agg cs=>cs.all (AV.aJ base)
 | v=>v.aJ base
def AV.leaves(base:Nat):AV->Bool
 | .func _ fs cs=>fs.all (AV.aJ base)&&cs.all (AV.aJ base)
 | .iface _ v=>v.aJ base
 | .tuple vs=>vs.all (AV.bp base)
 | .slice ..=>true
 | v=>v.bp base
def aP:AV->Option Nat
 | .lbox g _=>some g
 | .lsl g _=>some g
 | .iter g ..=>some g
 | _=>none
def ar.eval(G:Nat->List AV)(T:ax):ar->AV
 | .tmp t=>T t
 | .cr v=>v
 | .aO g=>.eptr (G g)
 | .fn f=>.func (.func f) [] []
def asNat:AV->Option Nat
 | .int _ n=>cond (decide (0<=n)) (some n.toNat) none
 | _=>none
def bN:List CK->List AV->List AV->Option Bool
 | [],_,_=>some true
 | .b :: ks,.bool a :: xs,.bool b :: ys=>(bN ks xs ys).map (a==b&&·)
 | .i :: ks,.int j a :: xs,.int k b :: ys=>cond (decide (j=k)) ((bN ks xs ys).map (a==b&&·)) none
 | .s :: ks,.str a :: xs,.str b :: ys=>(bN ks xs ys).map (a==b&&·)
 | _,_,_=>none
def aa(op:BinOp)(k:IntKind)(a b:Int):Option AV :=
 match op with
 | .add=>some (.int k (k.wrap (a+b)))
 | .sub=>some (.int k (k.wrap (a-b)))
 | .mul=>some (.int k (k.wrap (a*b)))
 | .quo=>cond (decide (b=0)) none (some (.int k (k.wrap (a.tdiv b))))
 | .rem=>cond (decide (b=0)) none (some (.int k (a.tmod b)))
 | .eql=>some (.bool (a==b))
 | .neq=>some (.bool (a != b))
 | .lss=>some (.bool (decide (a<b)))
 | .leq=>some (.bool (decide (a<=b)))
 | .gtr=>some (.bool (decide (a>b)))
 | .geq=>some (.bool (decide (a>=b)))
 | _=>none
def ki(op:BinOp)(a b:List UInt8):Option AV :=
 match op with
 | .add=>cond (decide (a.length+b.length<=4611686018427387904)) (some (.str (a++b))) none
 | .eql=>some (.bool (a==b))
 | .neq=>some (.bool !(a==b))
 | .lss=>some (.bool (Op.bytesLess a b))
 | .leq=>some (.bool (Op.bytesLess a b || a==b))
 | .gtr=>some (.bool !(Op.bytesLess a b || a==b))
 | .geq=>some (.bool !(Op.bytesLess a b))
 | _=>none
def kx(op:BinOp)(b:Bool):Option AV :=
 match op with
 | .eql=>some (.bool b)
 | .neq=>some (.bool !b)
 | _=>none
def px:ar->Bool
 | .cr _=>true
 | _=>false
def wj(op:BinOp)(q:vi)(cr:Bool)(x y:AV):Option AV :=
 match x,y with
 | .int j a,.int k b=>cond (decide (j=k)) (aa op j a b) none
 | .str a,.str b=>ki op a b
 | .bool a,.bool b=>(match q with|.bool=>kx op (a==b)|_=>none)
 | .agg xs,.agg ys=>(match q with|.flat ks=>(bN ks xs ys).bind fun b=>kx op b|_=>none)
 | x,.bV=>cond (cr&&(match q with|.iface=>true|_=>false)) ((match x with|.bV=>some true|.iface ..=>some false|_=>none).bind fun b=>kx op b) none
 | x,.cz=>cond (match q with|.func=>true|_=>false) ((match x with|.cz=>some true|.func ..=>some false|_=>none).bind fun b=>kx op b) none
 | _,_=>none
def zJ(op:UnOp)(x:AV):Option AV :=
 match op,x with
 | .neg,.int k n=>some (.int k (k.wrap (0-n)))
 | .not,.bool b=>some (.bool !b)
 | _,_=>none
def Ta(mx:Bool)(x y:AV):Option AV :=
 match x,y with
 | .int k a,.int j b=>cond (decide (k=j)) (some (.int k (cond mx (if b>a then b else a) (if b<a then b else a)))) none
 | _,_=>none
def bytesOf:List (List AV)->Option (List UInt8)
 | []=>some []
 | [.int .u8 n] :: r=>(bytesOf r).map (UInt8.ofNat n.toNat :: ·)
 | _=>none
def ko(c:xA)(x:AV):Option AV :=
 match c,x with
 | .toInt k,.int _ n=>some (.int k (k.wrap n))
 | .DO,.str l=>some (.str l)
 | .xK,.slice e _=>(bytesOf e).map .str
 | _,_=>none
def chunks(sz:Nat):Nat->List AV->List (List AV)
 | 0,_=>[]
 | n+1,l=>l.take sz :: chunks sz n (l.drop sz)
def bound(ai7:Nat)(x:Option AV)(ND:Nat):Option Nat :=
 match x with
 | none=>some ai7
 | some v=>(asNat v).bind fun n=>cond (Nat.ble n ND) (some n) none
def fM(sz:Nat)(e:List (List AV)):Bool:=(e.head?.map fun r=>Nat.beq r.length sz).getD true
def iC(k:vl)(x:AV)(lo hi mx:Option AV):Option AV :=
 match k,x with
 | .str,.str l=>(bound l.length hi l.length).bind fun h=>(bound 0 lo h).bind fun a=>cond mx.isNone (some (.str ((l.take h).drop a))) none
 | .sl sz,.slice e _=>(bound e.length mx e.length).bind fun m=>(bound e.length hi m).bind fun h=>(bound 0 lo h).bind fun a =>
   cond ((mx.isNone || hi.isSome)&&(lo.isNone || fM sz e)) (some (.slice ((e.take h).drop a) (mx.isSome&&Nat.beq m h))) none
 | .sl sz,.sref l o n z=>(bound n hi n).bind fun h=>(bound 0 lo h).bind fun a=>cond (mx.isNone&&Nat.beq z sz) (some (cond (Nat.blt a n) (.sref l (o+a*z) (h-a) z) (.slice [] false))) none
 | .arr n sz,.eptr cs=>cond (Nat.beq cs.length (n*sz)) ((bound n hi n).bind fun h=>(bound 0 lo h).bind fun a=>cond mx.isNone (some (.slice (((chunks sz n cs).take h).drop a) false)) none) none
 | _,_=>none
def kJ(k:lO)(x:AV):Option AV :=
 match k,x with
 | .str,.str l=>some (.int .i64 l.length)
 | .sl,.slice e _=>some (.int .i64 e.length)
 | .sl,.sref _ _ n _=>some (.int .i64 n)
 | .sl,.ae=>some (.int .i64 0)
 | .arr n,_=>some (.int .i64 n)
 | _,_=>none
def putAt(l:List AV)(off:Nat)(cs:List AV):List AV:=l.take off++cs++l.drop (off+cs.length)
def fK:List AV->List (Nat × Nat × AV)->Option (List AV)
 | cells,[]=>some cells
 | cells,(off,sz,v) :: r =>
  match v.cells with
  | none=>none
  | some cs=>cond (Nat.beq cs.length sz&&Nat.ble (off+cs.length) cells.length) (fK (putAt cells off (cs.map AV.drop)) r) none
def cF(sz:Nat):List (List AV)->List (Nat × AV)->Option (List (List AV))
 | es,[]=>some es
 | es,(i,v) :: r =>
  match v.elem sz with
  | none=>none
  | some cs=>cond (Nat.blt i es.length) (cF sz (es.set i cs) r) none
def ah(take agg:Bool)(sz off:Nat)(cs:List AV):Option AV :=
 cond agg (cond (Nat.ble (off+sz) cs.length) (some (.agg (((cs.drop off).take sz).map AV.drop))) none)
  ((cs[off]?).map fun v=>cond take v v.drop)
def bU(off:Nat)(cs:List AV):List AV:=cs.modify off AV.drop
def AS.bu(s:AS)(t:Nat)(v:AV):AS:={ s with T:=s.T.put t v }
def AS.fC(s:AS)(c:gk):AS:={ s with H:=c.heap,lo:=cond (Nat.blt c.lo s.lo) c.lo s.lo }
def ar.addr(G:Nat->List AV)(T:ax):ar->AV
 | .tmp t=>match T t with
  | .lbox g _=>.lref t g 0
  | .lsl g _=>.lsr t g
  | .iter ..=>.any
  | v=>v
 | .cr v=>v
 | .aO g=>.eptr (G g)
 | .fn f=>.func (.func f) [] []
def cQ(s:AS)(take agg:Bool)(sz:Nat)(x:AV):Option (AV × Option AS) :=
 match x with
 | .eptr cs=>(ah false agg sz 0 cs).map (·,none)
 | .ref loc off=>match s.H[loc]? with
  | some (.box ty cs)=>(ah take agg sz off cs).map fun v=>(v,cond (take&&!agg) (some (s.fC ⟨s.H.set loc (.box ty (bU off cs)),loc⟩)) none)
  | some (.I6 cs)=>(ah false agg sz off cs).map (·,none)
  | some (.cj cs)=>(ah false agg sz off cs).map (·,none)
  | _=>none
 | .lref b g off=>match s.T b with
  | .lbox g' cs=>cond (Nat.beq g g') ((ah take agg sz off cs).map fun v=>(v,cond (take&&!agg) (some (s.bu b (.lbox g (bU off cs)))) none)) none
  | _=>none
 | .eref b g i z off=>match s.T b with
  | .lsl g' e=>cond (Nat.beq g g') ((e[i]?).bind fun r=>cond (Nat.beq r.length z) ((ah false agg sz off r).map (·,none)) none) none
  | _=>none
 | _=>none
def gT(loc:Nat):AV->Bool
 | .ref l _=>Nat.ble l loc
 | .sref l _ _ _=>Nat.ble l loc
 | .mref l=>Nat.ble l loc
 | v=>v.drop.plain
def kZ(loc:Nat):AV->Bool
 | .agg cs=>cs.all (gT loc)
 | v=>gT loc v
def aV(loc:Nat):AV->Bool
 | .ref l _=>Nat.ble l loc
 | .sref l _ _ _=>Nat.ble l loc
 | .mref l=>Nat.ble l loc
 | .func _ fs cs=>fs.all (kZ loc)&&cs.all (kZ loc)
 | v=>v.drop.plain
def aq:AV->Bool
 | .lref ..=>false
 | .lbox ..=>false
 | .lsl ..=>false
 | .lsr ..=>false
 | .eref ..=>false
 | .iter ..=>false
 | _=>true
def gA(s:AS)(sz:Nat)(a v:AV):Option AS :=
 match v.cells with
 | none=>none
 | some vs=>cond (Nat.beq vs.length sz)
  (match a with
   | .ref loc off=>match s.H[loc]? with
    | some (.box ty cs)=>cond (Nat.ble (off+sz) cs.length&&vs.all (aV loc)) (some (s.fC ⟨s.H.set loc (.box ty (putAt cs off vs)),loc⟩)) none
    | some (.cj cs)=>cond (Nat.ble (off+sz) cs.length&&vs.all aq) (some (s.fC ⟨s.H.set loc (.cj (putAt cs off vs)),loc⟩)) none
    | _=>none
   | .lref b g off=>match s.T b with
    | .lbox g' cs=>cond (Nat.beq g g'&&Nat.ble (off+sz) cs.length&&vs.all aq) (some (s.bu b (.lbox g (putAt cs off vs)))) none
    | _=>none
   | .eref b g i z off=>match s.T b with
    | .lsl g' e=>cond (Nat.beq g g') ((e[i]?).bind fun r=>cond (Nat.beq r.length z&&Nat.ble (off+sz) r.length&&(vs.map AV.drop).all AV.plain) (some (s.bu b (.lsl g (e.set i (putAt r off (vs.map AV.drop)))))) none) none
    | _=>none
   | _=>none)
  none
abbrev aL:TypeId:=4294967295
def lf(s:AS)(a:AV):AS :=
 match a with
 | .ref loc _=>match s.H[loc]? with
  | some (.box ty cs)=>cond (Nat.beq ty aL) (s.fC ⟨s.H.set loc (.cj cs),loc⟩) s
  | _=>s
 | _=>s
def AS.bH(s:AS):ar->AS
 | .tmp t=>match s.T t with
  | .slice e true=>s.bu t (.slice e false)
  | _=>s
 | _=>s
def dW(sz:Nat):AV->Option (List (List AV))
 | .slice f _=>some f
 | .str l=>cond (Nat.beq sz 1) (some (l.map fun (b:UInt8)=>[AV.int .u8 b.toNat])) none
 | .ae=>some []
 | _=>none
abbrev iS:TypeId:=5
def jh(e:List (List AV)):Bool:=e.all fun r=>r.all fun|.int .u8 _=>false|.any=>false|_=>true
def xJ(e:List (List AV)):Bool:=e.all fun|[.int .u8 _]=>true|_=>false
def nY(isB:Bool)(e:List (List AV)):Bool:=cond isB (xJ e) (jh e)
def cC(sz bytes:Nat)(e f:List (List AV)):Bool :=
 Nat.ble ((e.length+f.length)*bytes) 70368744177664&&Nat.ble (e.length+f.length) 70368744177664&&fM sz e&&fM sz f
def bt(isB:Bool)(sz bytes:Nat)(x y:AV):Option AV :=
 match x with
 | .slice e own=>(dW sz y).bind fun f =>
  match f with
  | []=>some (.slice e own)
  | f=>cond (own&&cC sz bytes e f&&nY isB (e++f)) (some (.slice (e++f) true)) none
 | _=>none
def cH(f:List (List AV)):Bool:=f.all fun r=>r.all AV.plain
def G6(x y:AV):Option AV :=
 match x with
 | .slice [] true=>(match y with|.slice [] _|.ae=>some (.slice [] false)|_=>none)
 | .ae=>(match y with|.slice [] _|.ae=>some .ae|_=>none)
 | _=>none
def ik(s:AS)(sz bytes:Nat)(x y:AV):Option (AV × Option AS) :=
 (dW sz y).bind fun f =>
  match x with
  | .slice [] true|.ae=>cond (!f.isEmpty&&cC sz bytes [] f&&cH f) (some (.sref s.H.length 0 f.length sz,some (s.fC ⟨s.H++[.box aL f.flatten],s.H.length⟩))) none
  | .sref l o n z=>match s.H[l]? with
   | some (.box ty cs)=>cond (Nat.beq o 0&&Nat.beq z sz&&Nat.beq cs.length (n*sz)&&Nat.ble ((n+f.length)*bytes) 70368744177664&&Nat.ble (n+f.length) 70368744177664&&fM sz f&&cH f)
     (some (.sref s.H.length 0 (n+f.length) sz,some (s.fC ⟨s.H.set l .dead++[.box aL (cs++f.flatten)],l⟩))) none
   | _=>none
  | _=>none
def iF(s:AS)(sz bytes:Nat)(x y:AV):Option (AV × Option AS) :=
 match G6 x y with
 | some v=>some (v,none)
 | none=>ik s sz bytes x y
def qe(s:AS)(x y:AV):Option (AV × Option AS) :=
 match x,y with
 | .sref l o n z,.slice f _=>match s.H[l]? with
  | some (.cj cs)=>cond (Nat.beq z 1&&fM 1 f&&cH f&&Nat.ble (o+n) cs.length)
    (some (.int .i64 (Nat.min f.length n),some (s.fC ⟨s.H.set l (.cj (putAt cs o (f.take (Nat.min f.length n)).flatten)),l⟩))) none
  | _=>none
 | .slice [] _,.slice _ _=>some (.int .i64 0,none)
 | _,_=>none
def zd:AV->Option Bool
 | .ae=>some true
 | .slice (_ :: _) _=>some false
 | _=>none
def qf(s:AS)(sz bytes:Nat)(zero:List AV)(n:AV):Option (AV × Option AS) :=
 (asNat n).bind fun k=>cond (Nat.ble (k*bytes) 70368744177664&&Nat.ble k 70368744177664)
  (some (.sref s.H.length 0 k sz,some (s.fC ⟨s.H++[.box aL (List.replicate k zero).flatten],s.H.length⟩))) none
def gQ(off:Nat):AV->Option AV
 | .ref l o=>some (.ref l (o+off))
 | .lref b g o=>some (.lref b g (o+off))
 | .eref b g i z o=>some (.eref b g i z (o+off))
 | .eptr cs=>some (.eptr (cs.drop off))
 | _=>none
def cg(s:AS):AV->Bool
 | .ref ..=>true
 | .eptr _=>true
 | .lref b g _=>(match s.T b with|.lbox g' _=>Nat.beq g g'|_=>false)
 | .eref b g i _ _=>(match s.T b with|.lsl g' e=>Nat.beq g g'&&Nat.blt i e.length|_=>false)
 | _=>false
def vQ(t:TypeId)(v:AV):Option AV :=
 cond (AV.plain v.drop || (match v with|.ref ..=>true|_=>false)) (some (.iface t v.drop)) none
def fS(c:Oh)(v:AV):Bool :=
 match c with
 | .frame b=>(match v with|.lref b' _ _=>Nat.beq b b'|_=>false)
 | .Uw=>(match v with|.lref ..=>false|.eref ..=>false|.lsr ..=>false|.ref ..=>false|_=>true)
 | .heap=>(match v with|.lref ..=>false|.eref ..=>false|.lsr ..=>false|_=>true)
def AV.isAgg:AV->Bool
 | .agg _=>true
 | _=>false
def uV(s:AS)(kz:Nat)(ka va:Bool)(m:AV):Option (List (List AV)) :=
 match m with
 | .dR me mb mU es=>cond (Nat.beq kz me&&ka==mb&&va==mU) (some es) none
 | .mref l=>match s.H[l]? with
  | some (.map me mb mU es)=>cond (Nat.beq kz me&&ka==mb&&va==mU) (some es) none
  | some (.dR me mb mU es)=>cond (Nat.beq kz me&&ka==mb&&va==mU) (some es) none
  | _=>none
 | _=>none
def fH(ks:List CK)(kc:List AV):List (List AV)->Option (Option Nat)
 | []=>some none
 | r :: es=>(bN ks kc r).bind fun b=>cond b (some (some 0)) ((fH ks kc es).map fun o=>o.map (· + 1))
def oM(agg:Bool)(cs:List AV):AV:=cond agg (.agg (cs.map AV.drop)) ((cs.headD .undef).drop)
def y4(ok va:Bool)(cs:List AV)(found:Bool):AV :=
 let v:=cond va (.agg (cs.map AV.drop)) ((cs.headD .undef).drop)
 cond ok (.tuple [v,.bool found]) v
def py(ok va:Bool)(zero:List AV)(kz:Nat)(es:List (List AV)):Option Nat->AV
 | none=>y4 ok va zero false
 | some i=>y4 ok va ((es.getD i []).drop kz) true
def mO:List AV->Option (List UInt8)
 | .str a :: _=>some a
 | _=>none
def tq:List (List AV)->Bool
 | []=>true
 | r :: es=>(match mO r with|some a=>es.all fun q=>(match mO q with|some b=>!(a==b)|none=>false)|none=>false)&&tq es
def Xn:List CK->List AV->Bool
 | [.s],[.str _]=>true
 | _,_=>false
def tA(s:AS)(ok:Bool)(kz:Nat)(ka va:Bool)(ks:List CK)(zero:List AV)(m k:AV):Option (AV × Option AS) :=
 k.drop.cells.bind fun kc=>cond (Nat.beq kc.length kz&&ka==k.drop.isAgg)
  (match m with
   | .cN=>some (y4 ok va zero false,none)
   | .mX me mb mU es=>cond (Nat.beq kz me&&ka==mb&&va==mU&&tq es&&Xn ks kc) ((fH ks kc es).map fun o=>(py ok va zero kz es o,none)) none
   | m=>(uV s kz ka va m).bind fun es=>(fH ks kc es).map fun o=>(py ok va zero kz es o,none)) none
def sm(s:AS)(kz:Nat)(ka:Bool)(ks:List CK)(zero:List AV)(m k:AV):Option (AV × Option AS) :=
 match m with
 | .mref l=>match s.H[l]? with
  | some (.map me mb false es)=>k.drop.cells.bind fun kc=>cond (Nat.beq kc.length kz&&Nat.beq kz me&&ka==mb&&ka==k.drop.isAgg)
    ((fH ks kc es).bind fun o=>match o with
     | none=>some ((zero.headD .undef),none)
     | some i=>((es.getD i [])[kz]?).map fun v=>(v,some (s.fC ⟨s.H.set l (.map kz ka false (es.set i (bU kz (es.getD i [])))),l⟩))) none
  | _=>none
 | _=>none
def tU(es:List (List AV))(o:Option Nat)(r:List AV):List (List AV) :=
 match o with
 | none=>es++[r]
 | some i=>es.set i r
def nK(s:AS)(kz:Nat)(ka va:Bool)(vz:Nat)(ks:List CK)(m k v:AV):Option AS :=
 match m with
 | .mref l=>match s.H[l]? with
  | some (.map me mb mU es)=>k.drop.cells.bind fun kc=>v.cells.bind fun vc =>
    cond (Nat.beq kc.length kz&&Nat.beq vc.length vz&&Nat.beq kz me&&ka==mb&&va==mU&&ka==k.drop.isAgg&&va==v.isAgg&&vc.all (aV l)&&kc.all AV.plain)
     ((fH ks kc es).map fun o=>s.fC ⟨s.H.set l (.map kz ka va (tU es o (kc++cond va (vc.map AV.drop) vc))),l⟩) none
  | _=>none
 | _=>none
mutual
def n6:AV->AV->Bool
 | .bool a,y=>match y with|.bool b=>a==b|_=>false
 | .int k a,y=>match y with|.int k' b=>k==k'&&a==b|_=>false
 | .str a,y=>match y with|.str b=>a==b|_=>false
 | .any,y=>match y with|.any=>true|_=>false
 | .dh,y=>match y with|.dh=>true|_=>false
 | .cN,y=>match y with|.cN=>true|_=>false
 | .cz,y=>match y with|.cz=>true|_=>false
 | .bV,y=>match y with|.bV=>true|_=>false
 | .ae,y=>match y with|.ae=>true|_=>false
 | .slice e o,y=>match y with|.slice f q=>uy e f&&o==q|_=>false
 | .ref l o,y=>match y with|.ref l' o'=>l==l'&&o==o'|_=>false
 | .sref l o n z,y=>match y with|.sref l' o' n' z'=>l==l'&&o==o'&&n==n'&&z==z'|_=>false
 | .mref l,y=>match y with|.mref l'=>l==l'|_=>false
 | .agg a,y=>match y with|.agg b=>CE a b|_=>false
 | .tuple a,y=>match y with|.tuple b=>CE a b|_=>false
 | .iface t a,y=>match y with|.iface t' b=>t==t'&&n6 a b|_=>false
 | .eptr a,y=>match y with|.eptr b=>CE a b|_=>false
 | .lbox g a,y=>match y with|.lbox g' b=>g==g'&&CE a b|_=>false
 | .lref s g o,y=>match y with|.lref s' g' o'=>s==s'&&g==g'&&o==o'|_=>false
 | .lsl g e,y=>match y with|.lsl g' f=>g==g'&&uy e f|_=>false
 | .lsr s g,y=>match y with|.lsr s' g'=>s==s'&&g==g'|_=>false
 | .eref s g i z o,y=>match y with|.eref s' g' i' z' o'=>s==s'&&g==g'&&i==i'&&z==z'&&o==o'|_=>false
 | .dR kz ka va e,y=>match y with|.dR me mb mU f=>kz==me&&ka==mb&&va==mU&&uy e f|_=>false
 | .mX kz ka va e,y=>match y with|.mX me mb mU f=>kz==me&&ka==mb&&va==mU&&uy e f|_=>false
 | .iter g kz ka va c e,y=>match y with|.iter g' me mb mU c' f=>g==g'&&kz==me&&ka==mb&&va==mU&&CE c c'&&uy e f|_=>false
 | .func f a c,y=>match y with|.func g b d=>decide (f=g)&&CE a b&&CE c d|_=>false
def CE:List AV->List AV->Bool
 | [],y=>match y with|[]=>true|_=>false
 | a :: l,y=>match y with|b :: m=>n6 a b&&CE l m|_=>false
def uy:List (List AV)->List (List AV)->Bool
 | [],y=>match y with|[]=>true|_=>false
 | a :: l,y=>match y with|b :: m=>CE a b&&uy l m|_=>false
end
section
variable (G:Nat->List AV)(cf:cA)
def lu(s:AS)(take obj:Bool)(x:ar):Option (AV × Option AS) :=
 match x with
 | .tmp t=>match s.T t with
  | .lbox g _=>some (.lref t g 0,none)
  | .lsl g e=>cond take (cond obj (some (.lsl s.gen e,some { s.bu t .any with gen:=s.gen+1 })) (cond (jh e) (some (.slice e true,some (s.bu t (.slice e false)))) none)) (some (.lsr t g,none))
  | .slice e own=>some (.slice e (take&&own),cond (take&&own) (some (s.bu t (.slice e false))) none)
  | .iter ..=>none
  | v=>some (v,none)
 | x=>some (x.eval G s.T,none)
def ft(s:AS)(isB wr:Bool)(sz bytes:Nat)(x y:ar):Option (AV × Option AS) :=
 match x with
 | .tmp t=>match s.T t with
  | .lsl _ e=>(dW sz (y.eval G s.T)).bind fun f=>cond (wr&&cC sz bytes e f) (some (.lsl s.gen (e++f),some { s.bu t .any with gen:=s.gen+1 })) none
  | .slice e own=>cond wr
    ((dW sz (y.eval G s.T)).bind fun f=>cond (e.isEmpty&&own&&cC sz bytes [] f) (some (.lsl s.gen f,some { s.bu t .any with gen:=s.gen+1 })) none)
    ((bt isB sz bytes (.slice e own) (y.eval G s.T)).map (·,some (s.bu t (.slice e false))))
  | .ae=>cond wr
    ((dW sz (y.eval G s.T)).bind fun f=>cond (cC sz bytes [] f) (some (.lsl s.gen f,some { s.bu t .any with gen:=s.gen+1 })) none)
    ((bt isB sz bytes (.slice [] true) (y.eval G s.T)).map (·,some s))
  | _=>none
 | x=>cond wr none ((bt isB sz bytes (x.eval G s.T) (y.eval G s.T)).map (·,none))
def A6(s:AS)(x:ar):Option (AV × AS) :=
 match x with
 | .tmp t=>match s.T t with
  | .slice e own=>some (.slice e own,s.bu t (.slice e false))
  | _=>none
 | .cr v=>match v with
  | .slice [] true=>some (.slice [] true,s)
  | _=>none
 | _=>none
def au(s:AS)(o:fq):Option (AV × Option AS) :=
 match o with
 | .j6 c x=>cond (fS c (x.addr G s.T)) (some (.undef,none)) none
 | .mov take obj x=>lu G s take obj x
 | .pick c a b=>match c.eval G s.T with
  | .bool t=>some (cond t (a.addr G s.T).drop (b.addr G s.T).drop,none)
  | _=>none
 | .allocL zero=>some (.lbox s.gen zero,some { s with gen:=s.gen+1 })
 | .boxL x=>(x.eval G s.T).drop.cells.map fun cs=>(.lbox s.gen (cs.map AV.drop),some { s with gen:=s.gen+1 })
 | .tp ty zero=>some (.ref s.H.length 0,some (s.fC ⟨s.H++[.box ty zero],s.H.length⟩))
 | .box ty x=>(x.eval G s.T).drop.cells.bind fun cs=>cond (cs.all (aV s.H.length)) (some (.ref s.H.length 0,some (s.fC ⟨s.H++[.box ty (cs.map AV.drop)],s.H.length⟩))) none
 | .build zero parts=>(fK zero (parts.map fun p=>(p.1,p.2.1,(p.2.2.eval G s.T).drop))).map (.agg ·,none)
 | .mkslice isB sz HQ parts=>(cF sz HQ (parts.map fun p=>(p.1,(p.2.eval G s.T).drop))).bind fun E=>cond (nY isB E) (some (.slice E true,none)) none
 | .mf sz HQ parts=>(cF sz HQ (parts.map fun p=>(p.1,(p.2.eval G s.T).drop))).bind fun E=>cond (cH E) (some (.sref s.H.length 0 E.length sz,some (s.fC ⟨s.H++[.box aL E.flatten],s.H.length⟩))) none
 | .load take agg sz x=>cQ s take agg sz (x.addr G s.T)
 | .store sz a v=>(gA s sz (a.addr G s.T) (v.eval G s.T)).map fun s'=>(.undef,some (s'.bH v))
 | .oY sz a v=>(gA (lf s (a.addr G s.T)) sz (a.addr G s.T) (v.eval G s.T)).map fun s'=>(.undef,some (s'.bH v))
 | .nilCheck x=>cond (cg s (x.addr G s.T)) (some (x.addr G s.T,none)) none
 | .bin op q x y=>(wj op q (px x || px y) (x.eval G s.T) (y.eval G s.T)).map (·,none)
 | .un op x=>(zJ op (x.eval G s.T)).map (·,none)
 | .mm mx x y=>(Ta mx (x.eval G s.T) (y.eval G s.T)).map (·,none)
 | .conv c x=>(ko c (x.eval G s.T)).map (·,none)
 | .uW t x=>(vQ t (x.eval G s.T)).map (·,none)
 | .slice k x lo hi mx=>(iC k (x.eval G s.T) (lo.map (·.eval G s.T)) (hi.map (·.eval G s.T)) (mx.map (·.eval G s.T))).map (·,none)
 | .fieldAddr off x=>cond (cg s (x.addr G s.T)) ((gQ off (x.addr G s.T)).map (·,none)) none
 | .field agg off sz x=>match x.eval G s.T with
  | .agg cs=>(ah false agg sz off cs).map (·,none)
  | _=>none
 | .ixSl sz x i=>match x.addr G s.T with
  | .slice e _=>(asNat (i.eval G s.T)).bind fun n=>(e[n]?).bind fun r=>cond (Nat.beq r.length sz) (some (.eptr r,none)) none
  | .sref l o m _=>(asNat (i.eval G s.T)).bind fun n=>cond (Nat.blt n m) (some (.ref l (o+n*sz),none)) none
  | .lsr t g=>match s.T t with
   | .lsl g' e=>cond (Nat.beq g g') ((asNat (i.eval G s.T)).bind fun n=>(e[n]?).bind fun r=>cond (Nat.beq r.length sz) (some (.eref t g n sz 0,none)) none) none
   | _=>none
  | _=>none
 | .ixArr n sz x i=>(asNat (i.eval G s.T)).bind fun k=>cond (Nat.blt k n&&cg s (x.addr G s.T)) ((gQ (k*sz) (x.addr G s.T)).map (·,none)) none
 | .index agg n sz x i=>(asNat (i.eval G s.T)).bind fun k=>cond (Nat.blt k n)
   (match x.eval G s.T with
    | .agg cs=>(ah false agg sz (k*sz) cs).map (·,none)
    | _=>none) none
 | .indexStr x i=>match x.eval G s.T with
  | .str l=>(asNat (i.eval G s.T)).bind fun n=>(l[n]?).map fun (b:UInt8)=>(AV.int .u8 b.toNat,none)
  | _=>none
 | .extract x i=>match x.eval G s.T with
  | .tuple vs=>(vs[i]?).map fun v=>(v.aX,none)
  | _=>none
 | .len k x=>match x.addr G s.T with
  | .lsr t g=>match s.T t with
   | .lsl g' e=>cond (Nat.beq g g') ((kJ k (.slice e false)).map (·,none)) none
   | _=>none
  | v=>(kJ k v).map (·,none)
 | .append isB wr sz bytes x y=>ft G s isB wr sz bytes x y
 | .appendO sz bytes x y=>iF s sz bytes (x.addr G s.T) (y.eval G s.T)
 | .y9 sz bytes zero n=>qf s sz bytes zero (n.eval G s.T)
 | .copyO x y=>qe s (x.addr G s.T) (y.eval G s.T)
 | .B5 x=>(x.eval G s.T).drop.cells.bind fun cs=>cond (cs.all aq) (some (.ref s.H.length 0,some (s.fC ⟨s.H++[.cj (cs.map AV.drop)],s.H.length⟩))) none
 | .nilS neg x=>(zd (x.eval G s.T)).map fun b=>(.bool (neg != b),none)
 | .call f args=>match f.eval G s.T with
  | .func (.func n) fs cs=>cond ((args.map fun a=>a.addr G s.T).all aq)
    ((cf n (fs++args.map (fun a=>(a.addr G s.T).aX)++cs) s.H).map fun r=>(r.1,r.2.map s.fC)) none
  | _=>none
 | .uf f args=>match f.eval G s.T with
  | .func (.func n) fs cs=>cond ((args.map fun a=>a.addr G s.T).all aq)
    ((cf n (fs++args.map (fun a=>(a.addr G s.T).aX)++cs) s.H).bind fun r=>match r.2 with|none=>some (r.1,none)|some _=>none) none
  | _=>none
 | .ug f pre x post=>cond ((pre.map fun a=>a.addr G s.T).all aq&&(post.map fun a=>a.addr G s.T).all aq)
   ((A6 s x).bind fun p=>(cf f (pre.map (fun a=>(a.addr G s.T).aX)++p.1 :: post.map (fun a=>(a.addr G s.T).aX)) s.H).map fun r=>(r.1,some ((r.2.map p.2.fC).getD p.2))) none
 | .mkfunc f first captured=>cond ((first.map fun a=>a.addr G s.T).all aq&&(captured.map fun a=>a.addr G s.T).all aq)
   (some (.func f (first.map fun a=>(a.addr G s.T).drop) (captured.map fun a=>(a.addr G s.T).drop),none)) none
 | .uX kz ka va=>some (.mref s.H.length,some (s.fC ⟨s.H++[.map kz ka va []],s.H.length⟩))
 | .look ok kz ka va ks zero m k=>tA s ok kz ka va ks zero (m.addr G s.T) (k.eval G s.T)
 | .GW kz ka ks zero m k=>sm s kz ka ks zero (m.addr G s.T) (k.eval G s.T)
 | .xe kz ka va vz ks m k v=>(nK s kz ka va vz ks (m.addr G s.T) (k.eval G s.T) (v.eval G s.T)).map fun s'=>(.undef,some (s'.bH v))
 | .NB m=>match m.addr G s.T with
  | .cN=>some (.int .i64 0,none)
  | .dR _ _ _ es=>some (.int .i64 es.length,none)
  | .mref l=>match s.H[l]? with
   | some (.map _ _ _ es)=>some (.int .i64 es.length,none)
   | some (.dR _ _ _ es)=>some (.int .i64 es.length,none)
   | _=>none
  | _=>none
 | .rng kz ka va m=>match m.addr G s.T with
  | .cN=>some (.iter s.gen kz ka va [] [],some { s with gen:=s.gen+1 })
  | .dR me mb mU es=>cond (Nat.beq kz me&&ka==mb&&va==mU) (some (.iter s.gen kz ka va [] es,some { s with gen:=s.gen+1 })) none
  | .mX me mb mU es=>cond (Nat.beq kz me&&ka==mb&&va==mU) (some (.iter s.gen kz ka va [] es,some { s with gen:=s.gen+1 })) none
  | .mref l=>match s.H[l]? with
   | some (.map me mb mU es)=>cond (Nat.beq kz me&&ka==mb&&va==mU&&cH es)
     (some (.iter s.gen kz ka va [] es,some { s.fC ⟨s.H.set l (.dR kz ka va es),l⟩ with gen:=s.gen+1 })) none
   | _=>none
  | _=>none
 | .same agg sz d x=>match cQ s false agg sz (x.addr G s.T) with
  | some (v,none)=>cond (n6 v (s.T d)) (some (.undef,none)) none
  | _=>none
 | .next _=>none
 | .UW it=>match it with
  | .tmp t=>match s.T t with
   | .iter _ kz ka va cur _=>cond (Nat.ble kz cur.length&&!cur.isEmpty) (some (.tuple [oM ka (cur.take kz),oM va (cur.drop kz)],none)) none
   | _=>none
  | _=>none
def AS.bR(s:AS)(d:Option Nat)(v:AV):AS:=match d with|none=>s|some d=>s.bu d v
def bA(draw:Bool)(s:AS)(o:aj):Option AS :=
 let run:Option AS:=(au G cf s o.op).bind fun r=>match r.2 with
  | none=>cond (draw&&(aP r.1).isSome) none (some (s.bR o.dst r.1))
  | some s'=>cond draw none (some (s'.bR o.dst r.1))
 match o.guard with
 | none=>run
 | some (g,want)=>match s.T g with
  | .bool b=>cond (b==want) run (some (s.bR o.dst .undef))
  | .tuple []=>some (s.bR o.dst .undef)
  | _=>none
def bP(draw:Bool):List aj->AS->Option AS
 | [],s=>some s
 | o :: r,s=>(bA G cf draw s o).bind (bP draw r)
def iter(f:AS->Option (bq × AS)):Nat->AS->Option (bq × AS)
 | 0,_=>none
 | n+1,s=>(f s).bind fun r=>match r.1 with
  | .normal=>iter f n r.2
  | _=>some r
def iG(n:Nat):bO->AS->Option (bq × AS)
 | .skip,s=>some (.normal,s)
 | .region d ops,s=>(bP G cf d ops s).map (.normal,·)
 | .seq a b,s=>(iG n a s).bind fun r=>match r.1 with
  | .normal=>iG n b r.2
  | _=>some r
 | .cond c a b,s=>match c.eval G s.T with
  | .bool t=>cond t (iG n a s) (iG n b s)
  | _=>none
 | .block id a,s=>(iG n a s).map fun r=>match r.1 with
  | .exit i=>(cond (Nat.beq i id) .normal (.exit i),r.2)
  | e=>(e,r.2)
 | .loop a,s=>iter (iG n a) n s
 | .exit id,s=>some (.exit id,s)
 | .ret,s=>some (.ret,s)
 | .ub _ _ _,_=>none
end
def iZ(s:AS):gu->Option AV
 | .tmp t=>cond (aq (s.T t)) (some (s.T t)) none
 | .cell a agg sz=>match s.T a with
  | .lbox _ cs=>ah false agg sz 0 cs
  | .ref loc 0=>match s.H[loc]? with
   | some (.box _ cs)=>ah false agg sz 0 cs
   | _=>none
  | _=>none
def mN(s:AS):gu->Option Nat
 | .tmp t=>match s.T t with
  | .lsl _ _=>some t
  | .lsr b g=>match s.T b with
   | .lsl g' _=>cond (Nat.beq g g') (some b) none
   | _=>none
  | _=>none
 | .cell ..=>none
def mM(s:AS):List gu->Option (List AV)
 | []=>some []
 | r :: rs=>(iZ s r).bind fun v=>(mM s rs).map (v.aX :: ·)
def lg(s:AS)(rs:List gu):Option AV :=
 match rs with
 | [r]=>match mN s r with
  | some b=>(match s.T b with|.lsl _ e=>cond (jh e) (some (.slice e true)) none|_=>none)
  | none=>iZ s r
 | rs=>(mM s rs).map .tuple
def gZ(base:Nat)(rs:List gu)(s:AS):Option (AV × Option gk) :=
 (lg s rs).bind fun r =>
  cond (r.leaves base) (some (r,cond (Nat.beq s.lo base) none (some ⟨s.H.take base,s.lo⟩))) none
def TJ(e:List (List AV)):Nat:=(e.head?.map List.length).getD 0
def vU(s:AS)(base:Nat):List gu->Option (List AV × Option (List (List AV)))
 | []=>some ([],none)
 | r :: rs=>(vU s base rs).bind fun q=>match mN s r with
  | some b=>match s.T b with
   | .lsl _ e=>cond (q.2.isNone&&!e.isEmpty&&e.all (fun r=>r.all AV.plain)) (some (.sref base 0 e.length (TJ e) :: q.1,some e)) none
   | _=>none
  | none=>(iZ s r).bind fun v=>cond (v.aX.bp base) (some (v.aX :: q.1,q.2)) none
def qj(base:Nat)(rs:List gu)(s:AS):Option (AV × Option gk) :=
 cond (Nat.beq rs.length 1) none ((vU s base rs).bind fun q=>q.2.map fun e=>(.tuple q.1,some ⟨s.H.take base++[.box aL e.flatten],s.lo⟩))
def jU:AV->Bool
 | .int .u8 _=>false
 | .any=>false
 | _=>true
def mS:AV->AV
 | .slice [] true=>.ae
 | v=>v
def j8:ct->Option (List AV)
 | .box _ cs=>some cs
 | .cj cs=>some cs
 | _=>none
def fh(H:ag)(base:Nat):Nat->AV->AV
 | 0,v=>v
 | k+1,v=>match v with
  | .sref l off n z=>cond (Nat.ble base l) (match (H[l]?).bind j8 with
   | some cs=>cond (Nat.blt 0 z&&Nat.ble (off+n*z) cs.length&&(cs.all fun x=>(fh H base k x.drop).plain&&jU x)) (.slice (chunks z n ((cs.map fun x=>fh H base k x.drop).drop off)) false) v
   | none=>v) v
  | v=>v
abbrev Vk:Nat:=3
def MN(H:ag)(base:Nat):AV->AV
 | .agg cs=>.agg (cs.map (fh H base Vk))
 | v=>fh H base Vk v
def u3(base:Nat)(s:AS)(rs:List gu):Option AV :=
 match rs with
 | [r]=>(iZ s r).map fun v=>MN s.H base v.aX
 | rs=>(mM s rs).map fun vs=>.tuple (vs.map (MN s.H base))
def qi(base:Nat)(rs:List gu)(s:AS):Option (AV × Option gk) :=
 (u3 base s rs).bind fun r=>cond (r.leaves base) (some (r,cond (Nat.beq s.lo base) none (some ⟨s.H.take base,s.lo⟩))) none
def tC(base:Nat)(rs:List gu)(s:AS):Option (AV × Option gk) :=
 match rs with
 | [r]=>(iZ s r).bind fun v=>match v with
  | .sref l off n z=>match s.H[l]? with
   | some (.box _ cs)=>cond (Nat.ble base l&&cs.all AV.plain) (some (.sref base off n z,some ⟨s.H.take base++[.cj cs],s.lo⟩)) none
   | _=>none
  | _=>none
 | _=>none
def ou(base:Nat)(fn:ay)(s:AS):Option (AV × Option gk):=cond (fn.muts.elem 888888) (tC base fn.results s) none
def nV(base:Nat)(s:AS):Bool:=cond (Nat.beq s.lo base) true (((s.H.take base).drop s.lo).all fun o=>match o with|.cj cs=>cs.all (AV.aJ base)|_=>true)
def sn(base:Nat)(fn:ay)(s:AS):Option (AV × Option gk) :=
 match ou base fn s with
 | some r=>some r
 | none=>match gZ base fn.results s with
 | some r=>some r
 | none=>match qj base fn.results s with
  | some r=>some r
  | none=>qi base fn.results s
def kX(base:Nat)(fn:ay)(s:AS):Option (AV × Option gk):=cond (nV base s) (sn base fn s) none
def n1:AV->AV
 | .ae=>.slice [] false
 | v=>v
def n2:AV->AV
 | .ae=>.slice [] false
 | .slice e false=>.slice (e.map fun r=>r.map n1) false
 | v=>v
def n3:AV->AV
 | .agg cs=>.agg (cs.map n2)
 | v=>n2 v
def pB:AV->AV
 | .tuple vs=>.tuple (vs.map n3)
 | v=>n3 v
def ta(fn:ay)(r:AV × Option gk):AV × Option gk:=cond (fn.muts.elem 777777) (pB r.1,r.2) r
def yl(rs:List gu)(s:AS):Option (AV × Option gk) :=
 cond (Nat.beq rs.length 1) none ((mM s rs).map fun vs=>(.tuple vs,some ⟨s.H,s.lo⟩))
def KQ(fn:ay)(s:AS):Option (AV × Option gk):=cond (fn.muts.elem 888887) (yl fn.results s) none
def finish(base:Nat)(fn:ay)(s:AS):Option (AV × Option gk) :=
 match (kX base fn s).map (ta fn) with
 | some r=>some r
 | none=>KQ fn s
def gD(args:List AV):ax:=fun i=>args.getD i .undef
def tS(G:Nat->List AV)(cf:cA)(n:Nat)(fn:ay)(args:List AV)(H:ag):Option (AV × Option gk) :=
 cond (Nat.beq args.length fn.np)
  ((iG G cf n fn.body { T:=gD args,H,lo:=H.length,gen:=0 }).bind fun r=>match r.1 with
   | .exit _=>none
   | _=>finish H.length fn r.2)
  none
structure AP where
 fns:FuncId->Option ay
 ov:FuncId->Option (List AV->ag->Option (AV × Option gk))
 aO:Nat->List AV
def qw:AV->Bool
 | .slice _ true=>false
 | _=>true
def zN(A:AP):Nat->cA
 | 0=>fun _ _ _=>none
 | n+1=>fun f args H=>match A.ov f with
  | some g=>cond (args.all qw) (g args H) none
  | none=>match A.fns f with
   | none=>none
   | some fn=>tS A.aO (zN A n) n fn args H
def jO:Value->Option AV
 | .bool b=>some (.bool b)
 | .int k n=>some (.int k n)
 | .string s=>some (.str s.data.toList)
 | .slice none 0 0=>some (.slice [] true)
 | .pointer none=>some .dh
 | .map none=>some .cN
 | .nilFunc=>some .cz
 | .nilIface=>some .bV
 | _=>none
def dv:List Value->Option (List AV)
 | []=>some []
 | v :: r=>(jO v).bind fun x=>(dv r).map (x :: ·)
def rl:Value->Option AV
 | .agg vs=>(dv vs.toList).map fun l=>.agg (l.map mS)
 | v=>jO v
section
variable (P:Program)(bJ locals muts:List Nat)(nt:Nat)
def ak:Operand->Option ar
 | .tmp t=>cond (Nat.blt t nt) (some (.tmp t)) none
 | .const v=>(rl v).map .cr
 | .global g=>some (.aO g)
 | .func f=>some (.fn f)
def iX:List Operand->Option (List ar)
 | []=>some []
 | x :: r=>(ak nt x).bind fun a=>(iX r).map (a :: ·)
def dg(t:TypeId):Option Nat:=(P.info? t).map (·.size)
def lB(t:TypeId):Option (List AV):=((P.info? t).bind (·.zero)).bind fun z=>dv z.cells.toList
def lj(t:TypeId):Option Bool:=(P.underlying t).map fun|.struct _=>true|.array _ _=>true|_=>false
def gO:Option Operand->Option (Option ar)
 | none=>some none
 | some x=>(ak nt x).map some
def ot(flat:TypeId->Option (List CK)):List Go.Field->Nat->Option (List CK)
 | [],_=>some []
 | f :: fs,o=>cond (Nat.beq f.offset o&&f.name != "_") ((flat f.type).bind fun k=>(ot flat fs (o+k.length)).map (k++·)) none
def mQ:Nat->TypeId->Option (List CK)
 | 0,_=>none
 | d+1,t=>match P.underlying t with
  | some .bool=>some [.b]
  | some (.int _)=>some [.i]
  | some .string=>some [.s]
  | some (.struct fs)=>cond (!P.stoodInHeld t) ((ot (mQ d) fs.toList 0).bind fun ks=>cond (match dg P t with|some n=>Nat.beq n ks.length|none=>false) (some ks) none) none
  | _=>none
def nJ(t:TypeId):vi :=
 match P.underlying t with
 | some .bool=>.bool
 | some (.interface _)=>.iface
 | some (.func _ _ _)=>.func
 | some (.struct _)=>cond (!P.eqGuardType P.depth t) (match mQ P 8 t with|some ks=>.flat ks|none=>.other) .other
 | _=>.other
def nq(fs:List Go.Field):List (Nat × Operand)->Option (List (Nat × Nat × ar))
 | []=>some []
 | (i,x) :: r=>(fs[i]?).bind fun f=>(dg P f.type).bind fun z=>(ak nt x).bind fun a=>(nq fs r).map ((f.offset,z,a) :: ·)
def jM(sz:Nat):List (Nat × Operand)->Option (List (Nat × Nat × ar))
 | []=>some []
 | (i,x) :: r=>(ak nt x).bind fun a=>(jM sz r).map ((i*sz,sz,a) :: ·)
def kC:List (Nat × Operand)->Option (List (Nat × ar))
 | []=>some []
 | (i,x) :: r=>(ak nt x).bind fun a=>(kC r).map ((i,a) :: ·)
def LX:Value->Bool
 | .agg _=>true
 | _=>false
def Ny(t:TypeId):Option (List CK × Bool × Bool × List AV) :=
 match P.underlying t with
 | some (.map k e)=>(mQ P 8 k).bind fun ks=>(lj P k).bind fun ka=>(P.info? e).bind fun i=>i.zero.bind fun z=>(dv z.cells.toList).bind fun zero =>
   cond (LX z || Nat.beq zero.length 1) (some (ks,ka,LX z,zero)) none
 | _=>none
def DJ:Operand->Operand->Bool
 | .tmp a,.tmp b=>Nat.beq a b
 | _,_=>false
def iV(d:Option Nat):Bool:=match d with|some d=>bJ.contains d|none=>false
def isLocal(d:Option Nat):Bool:=match d with|some d=>locals.contains d|none=>false
def Vm(d:Option Nat):ar->Bool
 | .tmp t=>bJ.contains t
 | .cr (.slice [] true)=>iV bJ d
 | _=>false
def rj(d:Option Nat)(g:ar)(ys:List ar):fq :=
 match g with
 | .fn n=>match ys.findIdx? (Vm bJ d) with
  | some k=>match ys.drop k with
   | x :: post=>.ug n (ys.take k) x post
   | []=>.call g ys
  | none=>.call g ys
 | g=>.call g ys
def uo(d:Option Nat)(c:Call):Option fq :=
 match c.callee with
 | .value f=>(ak nt f).bind fun g=>(iX nt c.args.toList).map (rj bJ d g ·)
 | .builtin .len=>match c.args.toList,c.argTypes.toList with
  | [x],[t]=>(ak nt x).bind fun a=>match P.underlying t with
   | some .string=>some (.len .str a)
   | some (.slice _)=>some (.len .sl a)
   | some (.array n _)=>some (.len (.arr n) a)
   | some (.map _ _)=>some (.NB a)
   | _=>none
  | _,_=>none
 | .builtin .append=>match c.args.toList,c.argTypes.toList with
  | [x,y],[t,u]=>(ak nt x).bind fun a=>(ak nt y).bind fun b=>match P.underlying t,P.underlying u with
   | some (.slice e),some (.slice _)|some (.slice e),some .string=>(P.info? e).bind fun i=>cond (Nat.blt 0 i.size&&(i.zero.map fun z=>Nat.beq z.cells.size i.size).getD false) (some (cond (isLocal locals d) (.appendO i.size i.bytes a b) (.append (Nat.beq e iS) (iV muts d) i.size i.bytes a b))) none
   | _,_=>none
  | _,_=>none
 | .builtin .copy=>match c.args.toList,c.argTypes.toList with
  | [x,y],[t,u]=>(ak nt x).bind fun a=>(ak nt y).bind fun b=>match P.underlying t,P.underlying u with
   | some (.slice e),some (.slice _)=>(dg P e).bind fun sz=>cond (Nat.beq sz 1) (some (.copyO a b)) none
   | _,_=>none
  | _,_=>none
 | .builtin .max=>match c.args.toList with
  | [x,y]=>(ak nt x).bind fun a=>(ak nt y).map (.mm true a ·)
  | _=>none
 | .builtin .min=>match c.args.toList with
  | [x,y]=>(ak nt x).bind fun a=>(ak nt y).map (.mm false a ·)
  | _=>none
 | .builtin .clear=>some (.un .neg (.cr .undef))
 | _=>none
def Gb(k:Nat)(l:List Nat)(d:Option Nat):Bool:=match d with|some d=>l.elem (k+d)|none=>false
def J3(op:BinOp)(t:TypeId)(y:Operand):Option Bool :=
 match y,P.underlying t with
 | .const (.slice none 0 0),some (.slice _)=>(match op with|.eql=>some false|.neq=>some true|_=>none)
 | _,_=>none
def Dl:ar->ar
 | .cr v=>.cr (mS v)
 | x=>x
def Lv(l:List Nat):Operand->Bool
 | .tmp t=>l.elem (900000+t)
 | _=>false
def cL(d:Option Nat)(o:Op):Option fq :=
 match o with
 | .move x|.assign x=>(ak nt x).map fun a=>.mov (iV bJ d) (iV muts d) (cond (iV muts d) (Dl a) a)
 | .pick c a b=>(ak nt c).bind fun c=>(ak nt a).bind fun a=>(ak nt b).map (.pick c a ·)
 | .alloc t=>((lB P t).map fun z=>cond (Gb 700000 bJ d) (z.map mS) z).bind fun z=>cond (isLocal locals d) (some (.allocL z)) (some (cond (Gb 500000 muts d) (.B5 (.cr (.agg z))) (.tp t z)))
 | .box t x=>(ak nt x).map fun a=>cond (isLocal locals d) (.boxL a) (cond (Gb 500000 muts d) (.B5 a) (.box t a))
 | .build t parts=>((lB P t).map fun z=>cond (iV bJ d) (z.map mS) z).bind fun z=>match P.underlying t with
  | some (.struct fs)=>cond ((fs.toList.mapM fun f=>(P.info? f.type).map fun i=>(f.offset,i.size)).isSome) ((nq P nt fs.toList parts.toList).map (.build z ·)) none
  | some (.array _ e)=>(dg P e).bind fun sz=>(jM nt sz parts.toList).map (.build z ·)
  | _=>none
 | .buildSlice t len parts=>match P.underlying t with
  | some (.slice e)=>(dg P e).bind fun sz=>(lB P e).bind fun z=>(kC nt parts.toList).bind fun ps =>
    cond (Nat.ble (len*sz) 16777216&&Nat.beq z.length sz&&Nat.blt 0 sz) (some (cond (isLocal locals d) (.mf sz (List.replicate len (z.map AV.drop)) ps) (.mkslice (Nat.beq e iS) sz (List.replicate len (z.map AV.drop)) ps))) none
  | _=>none
 | .load t x=>(ak nt x).bind fun a=>(lj P t).bind fun g=>(dg P t).map fun sz=>.load (iV bJ d) g sz a
 | .store t x y=>(ak nt x).bind fun a=>(ak nt y).bind fun b=>(dg P t).map fun sz=>cond (Lv locals x) (.oY sz a b) (.store sz a b)
 | .nilCheck x=>(ak nt x).map .nilCheck
 | .binOp op t x y _=>(ak nt x).bind fun a=>(ak nt y).bind fun b=>match J3 P op t y with
  | some neg=>some (.nilS neg a)
  | none=>some (.bin op (nJ P t) a b)
 | .unOp op _ x=>(ak nt x).map (.un op ·)
 | .convert s t x=>(ak nt x).bind fun a=>match P.underlying s,P.underlying t with
  | some (.int _),some (.int k)=>some (.conv (.toInt k) a)
  | some .string,some .string=>some (.conv .DO a)
  | some (.slice e),some .string=>match P.underlying e with
   | some (.int .u8)=>some (.conv .xK a)
   | _=>none
  | _,_=>none
 | .makeInterface t x=>(ak nt x).bind fun a=>match P.underlying t with
  | some (.interface _)=>none
  | some _=>some (.uW t a)
  | none=>none
 | .makeFunc f first captured=>(iX nt first.toList).bind fun a=>(iX nt captured.toList).map (.mkfunc f a ·)
 | .slice t x lo hi mx=>(ak nt x).bind fun a=>(gO nt lo).bind fun lo=>(gO nt hi).bind fun hi=>(gO nt mx).bind fun mx=>match P.underlying t with
  | some .string=>some (.slice .str a lo hi mx)
  | some (.slice e)=>(dg P e).map fun sz=>.slice (.sl sz) a lo hi mx
  | some (.array n e)=>(dg P e).bind fun sz=>cond (Nat.blt 0 sz) (some (.slice (.arr n sz) a lo hi mx)) none
  | _=>none
 | .fieldAddr t x f=>(ak nt x).bind fun a=>match P.underlying t with
  | some (.struct fs)=>(fs[f]?).bind fun q=>(dg P q.type).bind fun sz=>cond (Nat.blt 0 sz) (some (.fieldAddr q.offset a)) none
  | _=>none
 | .field t x f=>(ak nt x).bind fun a=>match P.underlying t with
  | some (.struct fs)=>(fs[f]?).bind fun q=>(dg P q.type).bind fun sz=>(lj P q.type).map fun g=>.field g q.offset sz a
  | _=>none
 | .indexAddr t x i=>(ak nt x).bind fun a=>(ak nt i).bind fun b=>match P.underlying t with
  | some (.slice e)=>(dg P e).map fun sz=>.ixSl sz a b
  | some (.array n e)=>(dg P e).map fun sz=>.ixArr n sz a b
  | _=>none
 | .index t x i=>(ak nt x).bind fun a=>(ak nt i).bind fun b=>match P.underlying t with
  | some .string=>some (.indexStr a b)
  | some (.array n e)=>(dg P e).bind fun sz=>(lj P e).map fun g=>.index g n sz a b
  | _=>none
 | .extract x i=>(ak nt x).map (.extract · i)
 | .call c=>uo P bJ locals muts nt d c
 | .makeSlice t x y=>(ak nt x).bind fun a=>cond (DJ x y) (match P.underlying t with
  | some (.slice e)=>(P.info? e).bind fun i=>i.zero.bind fun z=>(dv z.cells.toList).bind fun zero=>cond (Nat.blt 0 i.size&&Nat.beq z.cells.size i.size) (some (.y9 i.size i.bytes (zero.map AV.drop) a)) none
  | _=>none) none
 | .makeMap t none=>(Ny P t).map fun m=>.uX m.1.length m.2.1 m.2.2.1
 | .lookup t x i ok=>(ak nt x).bind fun a=>(ak nt i).bind fun b=>(Ny P t).map fun m =>
   cond (!ok&&!m.2.2.1&&iV bJ d) (.GW m.1.length m.2.1 m.1 m.2.2.2 a b) (.look ok m.1.length m.2.1 m.2.2.1 m.1 m.2.2.2 a b)
 | .mapUpdate t x i v|.insert t x i v=>(ak nt x).bind fun a=>(ak nt i).bind fun b=>(ak nt v).bind fun c=>(Ny P t).map fun m=>.xe m.1.length m.2.1 m.2.2.1 m.2.2.2.length m.1 a b c
 | .range t x=>cond (iV muts d) ((ak nt x).bind fun a=>(Ny P t).map fun m=>.rng m.1.length m.2.1 m.2.2.1 a) none
 | .next x false=>(ak nt x).map .next
 | .entry x=>(ak nt x).map .UW
 | _=>none
def pk(ops:Array Oper):Option (Nat × Bool)->Option (Option (Nat × Bool))
 | none=>some none
 | some (j,want)=>((ops[j]?).bind (·.dst)).bind fun s=>cond (Nat.blt s nt) (some (some (s,want))) none
def rk(ops:Array Oper)(o:Oper):Option aj :=
 (cL P bJ locals muts nt o.dst o.op).bind fun p=>(pk nt ops o.guard).bind fun g =>
  match o.dst with
  | none=>some ⟨none,g,p⟩
  | some d=>cond (Nat.blt d nt) (some ⟨some d,g,p⟩) none
def fL(ops:Array Oper):List Oper->Option (List aj)
 | []=>some []
 | o :: r=>(rk P bJ locals muts nt ops o).bind fun p=>(fL ops r).map (p :: ·)
def ar.tmps:ar->List Nat
 | .tmp t=>[t]
 | _=>[]
def fq.tmps:fq->List Nat
 | .j6 _ x|.boxL x|.B5 x|.mov _ _ x|.box _ x|.load _ _ _ x|.nilCheck x|.un _ x|.nilS _ x|.conv _ x|.uW _ x|.fieldAddr _ x|.field _ _ _ x|.extract x _|.len _ x=>x.tmps
 | .pick c a b=>c.tmps++a.tmps++b.tmps
 | .allocL _|.tp _ _=>[]
 | .build _ ps=>ps.flatMap fun p=>p.2.2.tmps
 | .mkslice _ _ _ ps|.mf _ _ ps=>ps.flatMap fun p=>p.2.tmps
 | .store _ a v|.oY _ a v=>a.tmps++v.tmps
 | .bin _ _ x y|.mm _ x y|.ixSl _ x y|.ixArr _ _ x y|.index _ _ _ x y|.indexStr x y|.append _ _ _ _ x y|.appendO _ _ x y|.copyO x y=>x.tmps++y.tmps
 | .slice _ x lo hi mx=>x.tmps++(lo.toList.flatMap ar.tmps)++(hi.toList.flatMap ar.tmps)++(mx.toList.flatMap ar.tmps)
 | .call f xs|.uf f xs=>f.tmps++xs.flatMap ar.tmps
 | .ug _ pre x post=>pre.flatMap ar.tmps++x.tmps++post.flatMap ar.tmps
 | .mkfunc _ a b=>a.flatMap ar.tmps++b.flatMap ar.tmps
 | .uX _ _ _=>[]
 | .y9 _ _ _ n=>n.tmps
 | .look _ _ _ _ _ _ m k|.GW _ _ _ _ m k=>m.tmps++k.tmps
 | .xe _ _ _ _ _ m k v=>m.tmps++k.tmps++v.tmps
 | .NB m|.rng _ _ _ m|.next m|.UW m=>m.tmps
 | .same _ _ d x=>d :: x.tmps
def aj.looks(o:aj):List Nat:=o.op.tmps++(match o.guard with|some (g,_)=>[g]|none=>[])
def oK(o:Oper)(j:Nat):Bool:=o.after.any fun e=>Region.binds .any e&&Nat.beq e.on j
def uZ(L:List Nat)(ops:List (Oper × aj)):Bool :=
 let l:=ops.zipIdx
 l.all fun p=>(p.1.1.after.all fun e=>!Region.binds .any e || Nat.blt e.on p.2)&&(match p.1.2.dst with|some d=>!(L.contains d)|none=>true) &&
  l.all fun q=>Nat.beq p.2 q.2 || (match q.1.2.dst with
   | none=>true
   | some d=>(match p.1.2.dst with|some d'=>!(Nat.beq d d')|none=>true) &&
    (!(p.1.2.looks.contains d) || cond (Nat.blt q.2 p.2) (oK p.1.1 q.2) (oK q.1.1 p.2)))
def fJ:aj->Option Nat
 | ⟨some d,none,.allocL _⟩=>some d
 | _=>none
def sa(o:aj):List AV:=match o.op with|.allocL z=>z|_=>[]
def dU(M:List Nat):aj->Option (Nat × ar)
 | ⟨none,none,.store _ (.tmp d) y⟩=>cond (M.contains d) (some (d,y)) none
 | _=>none
def aB(is:List aj):List Nat:=is.filterMap fJ
def Bo(M:List Nat)(o:aj):Bool:=(fJ o).isNone&&(dU M o).isNone
def ahd:aj:=⟨none,none,.mov false false (.cr .undef)⟩
def pD(M:List Nat)(is:List aj):List aj:=is.map fun o=>cond (Bo M o) o ahd
def lU(M:List Nat):List aj:=M.flatMap fun d=>[⟨some d,none,.allocL []⟩,⟨some d,none,.mov false false (.cr .undef)⟩]
def rQ(is:List aj):List aj:=is.filter fun o=>(fJ o).isSome
def wQ(M:List Nat)(is:List aj):List aj:=is.filter fun o=>(dU M o).isSome
def drawn(is:List aj):bO :=
 .seq (.region false (lU (aB is))) (.seq (.region true (pD (aB is) is)) (.seq (.region false (rQ is)) (.region false (wQ (aB is) is))))
def J5:List Nat->Bool
 | []=>true
 | x :: l=>!(l.contains x)&&J5 l
def AQ(l:List ((Oper × aj) × Nat))(p:(Oper × aj) × Nat):Bool:=p.1.1.after.all fun e=>!Region.binds .any e || Nat.blt e.on p.2
def kindOk(L M:List Nat)(l:List ((Oper × aj) × Nat))(p:(Oper × aj) × Nat):Bool :=
 match dU M p.1.2 with
 | some (d,y)=>y.tmps.all (fun t=>!(M.contains t))&&l.all fun q=>Nat.beq p.2 q.2 ||
   ((match dU M q.1.2 with|some (e,_)=>!(Nat.beq d e)|none=>true)&&y.tmps.all (fun t=>!(q.1.2.looks.contains t)) &&
    (match q.1.2.dst with|some t=>!(Nat.beq t d || y.tmps.contains t) || Nat.blt q.2 p.2|none=>true))
 | none=>cond (Bo M p.1.2) ((match p.1.2.dst with|some d=>!(L.contains d)|none=>true)&&p.1.2.looks.all (fun t=>!(M.contains t))) true
def rR(L:List Nat)(ops:List (Oper × aj)):Bool :=
 let M:=aB (ops.map (·.2))
 let l:=ops.zipIdx
 !M.isEmpty&&M.all (fun d=>L.contains d)&&l.all fun p=>AQ l p&&kindOk L M l p &&
  l.all fun q=>Nat.beq p.2 q.2 || (match q.1.2.dst with
   | none=>true
   | some d=>(match p.1.2.dst with|some d'=>!(Nat.beq d d')|none=>true) &&
    (!(p.1.2.looks.contains d) || cond (Nat.blt q.2 p.2) (oK p.1.1 q.2) (oK q.1.1 p.2)))
structure qK where
 rs:List Nat
 ws:List Nat
 rh:Bool
 wh:Bool
 wg:Bool
 deriving Inhabited
def B3(is:List aj)(L:List Nat):Nat->ar->Option Nat
 | 0,_=>none
 | f+1,.tmp t=>cond (L.contains t) (some t) (match is.find? (fun o=>match o.dst with|some d=>Nat.beq d t|none=>false) with
  | some ⟨_,_,.fieldAddr _ y⟩=>B3 is L f y
  | some ⟨_,_,.ixArr _ _ y _⟩=>B3 is L f y
  | some ⟨_,_,.nilCheck y⟩=>B3 is L f y
  | _=>none)
 | _,_=>none
def Ue(is:List aj):Nat->ar->Bool
 | 0,_=>false
 | f+1,.tmp t=>(match is.find? (fun o=>match o.dst with|some d=>Nat.beq d t|none=>false) with
  | some ⟨_,_,.ixSl _ x _⟩=>(match x with
   | .tmp u=>(match is.find? (fun o=>match o.dst with|some d=>Nat.beq d u|none=>false) with
    | some ⟨_,_,.load ..⟩=>false
    | _=>true)
   | _=>true)
  | some ⟨_,_,.fieldAddr _ y⟩=>Ue is f y
  | some ⟨_,_,.ixArr _ _ y _⟩=>Ue is f y
  | _=>false)
 | _,.aO _=>true
 | _,_=>false
def Fw(mode:Bool)(is:List aj)(L:List Nat)(x:ar):Oh :=
 match B3 is L 8 x with
 | some b=>.frame b
 | none=>cond (mode&&Ue is 8 x) .Uw .heap
def qL(mode:Bool)(is:List aj)(L:List Nat):fq->Option (Oh × ar)
 | .load _ _ _ x=>some (Fw mode is L x,x)
 | .store _ x _=>some (Fw false is L x,x)
 | .nilCheck x=>some (Fw mode is L x,x)
 | .fieldAddr _ x=>some (Fw mode is L x,x)
 | .ixArr _ _ x _=>some (Fw mode is L x,x)
 | .ixSl _ x _=>some (.heap,x)
 | .len _ x=>some (.heap,x)
 | _=>none
def gv:Oh->List Nat
 | .frame b=>[b]
 | _=>[]
def vM:Oh->Bool
 | .heap=>true
 | _=>false
def x7(pc:Bool)(c:Oh):fq->Option qK
 | .mov take obj x=>cond obj none (some ⟨x.tmps,cond take x.tmps [],false,false,false⟩)
 | .pick a b d=>some ⟨a.tmps++b.tmps++d.tmps,[],false,false,false⟩
 | .allocL _=>some ⟨[],[],false,false,true⟩
 | .boxL x=>some ⟨x.tmps,[],false,false,true⟩
 | .build z ps=>some ⟨(fq.build z ps).tmps,[],false,false,false⟩
 | .mkslice b sz zs ps=>some ⟨(fq.mkslice b sz zs ps).tmps,[],false,false,false⟩
 | .bin _ _ x y=>some ⟨x.tmps++y.tmps,[],false,false,false⟩
 | .mm _ x y=>some ⟨x.tmps++y.tmps,[],false,false,false⟩
 | .un _ x=>some ⟨x.tmps,[],false,false,false⟩
 | .nilS _ x=>some ⟨x.tmps,[],false,false,false⟩
 | .conv _ x=>some ⟨x.tmps,[],false,false,false⟩
 | .field _ _ _ x=>some ⟨x.tmps,[],false,false,false⟩
 | .index _ _ _ x i=>some ⟨x.tmps++i.tmps,[],false,false,false⟩
 | .indexStr x i=>some ⟨x.tmps++i.tmps,[],false,false,false⟩
 | .extract x _=>some ⟨x.tmps,[],false,false,false⟩
 | .mkfunc f a b=>some ⟨(fq.mkfunc f a b).tmps,[],false,false,false⟩
 | .load take agg _ x=>some ⟨x.tmps++gv c,cond (take&&!agg) (gv c) [],vM c,vM c&&take&&!agg,false⟩
 | .store _ x y=>some ⟨x.tmps++y.tmps++gv c,y.tmps++gv c,vM c,vM c,false⟩
 | .nilCheck x=>some ⟨x.tmps++gv c,[],false,false,false⟩
 | .fieldAddr _ x=>some ⟨x.tmps++gv c,[],false,false,false⟩
 | .ixArr _ _ x i=>some ⟨x.tmps++i.tmps++gv c,[],false,false,false⟩
 | .ixSl _ x i=>some ⟨x.tmps++i.tmps,[],false,false,false⟩
 | .len _ x=>some ⟨x.tmps,[],false,false,false⟩
 | .append _ wr _ _ x y=>cond wr none (some ⟨x.tmps++y.tmps,x.tmps,false,false,false⟩)
 | .appendO _ _ x y=>some ⟨x.tmps++y.tmps,[],true,true,false⟩
 | .copyO x y=>some ⟨x.tmps++y.tmps,[],true,true,false⟩
 | .slice k x lo hi mx=>some ⟨(fq.slice k x lo hi mx).tmps,[],false,false,false⟩
 | .call f xs=>some ⟨(fq.call f xs).tmps,[],true,!pc,false⟩
 | _=>none
def wu(mode pc:Bool)(is:List aj)(L:List Nat)(o:aj):Option qK :=
 (x7 pc (match qL mode is L o.op with|some p=>p.1|none=>.heap) o.op).map fun e =>
  ⟨(match o.guard with|some (g,_)=>[g]|none=>[])++e.rs,o.dst.toList++e.ws,e.rh,e.wh,e.wg⟩
def meets(x y:List Nat):Bool:=x.any y.contains
def conflict(e f:qK):Bool :=
 meets e.ws f.rs || meets e.ws f.ws || meets f.ws e.rs || (e.wh&&(f.rh || f.wh)) || (f.wh&&e.rh) || (e.wg&&f.wg)
def qA(ops:List Oper):List (List Nat) :=
 ops.foldl (fun t o=>t++[(o.after.toList.flatMap fun e=>cond (Region.binds .any e) (e.on :: t.getD e.on []) []).eraseDups]) []
def rS(ops:List Oper)(es:List qK):Bool :=
 let ps:=qA ops
 (ops.zipIdx.all fun p=>p.1.after.all fun e=>!Region.binds .any e || Nat.blt e.on p.2) &&
 es.zipIdx.all fun p=>es.zipIdx.all fun q=>!(Nat.blt q.2 p.2) || !(conflict p.1 q.1) || (ps.getD p.2 []).contains q.2
def iN(pc:Bool)(o:aj):aj :=
 match o with
 | ⟨d,g,.call f xs⟩=>cond pc ⟨d,g,.uf f xs⟩ ⟨d,g,.call f xs⟩
 | o=>o
def inter(mode pc:Bool)(is:List aj)(L:List Nat):List aj->List aj
 | []=>[]
 | o :: r=>match qL mode is L o.op with
  | some (c,x)=>⟨none,o.guard,.j6 c x⟩ :: iN pc o :: inter mode pc is L r
  | none=>iN pc o :: inter mode pc is L r
def oL(mode pc:Bool)(is:List aj)(L:List Nat):List aj->Option (List qK)
 | []=>some []
 | o :: r=>(wu mode pc is L o).bind fun e=>(oL mode pc is L r).map (e :: ·)
def aft:fq->Bool
 | .mov take _ _=>take
 | .allocL _|.boxL _|.store ..|.oY ..|.append ..|.appendO ..|.copyO ..|.B5 ..|.y9 ..|.tp ..|.box ..=>true
 | .load take agg _ _=>take&&!agg
 | _=>false
def TS(mode pc:Bool)(L:List Nat)(ops:List Oper)(is:List aj):Option bO :=
 (oL mode pc is L is).bind fun es=>cond (rS ops es) (some (.region false (inter mode pc is L is))) none
def xW(L:List Nat)(ops:List Oper)(is:List aj):Option bO :=
 cond (L.elem 999996 || is.any fun o=>aft o.op) (match TS false false L ops is with
  | some c=>some c
  | none=>match cond (L.elem 999997) none (TS true false L ops is) with
   | some c=>some c
   | none=>cond (L.elem 999999) none (TS false true L ops is)) none
def nH(o:Oper):List Nat:=(o.after.toList.filter fun e=>Region.binds .any e).map (·.on)
def fO:Code->Option bO
 | .skip=>some .skip
 | .region _ ops draw=>(fL P bJ locals muts nt ops ops.toList).bind fun is=>match cond draw (xW locals ops.toList is) none with
  | some c=>some c
  | none=>cond (!draw || (!(locals.elem 999998)&&uZ (locals++muts) (ops.toList.zip is))) (some (.region draw is)) (cond (!(locals.elem 999998)&&rR (locals++muts) (ops.toList.zip is)) (some (drawn is)) (cond draw (some (.ub nt is (ops.toList.map nH))) none))
 | .seq a b=>(fO a).bind fun x=>(fO b).map (.seq x ·)
 | .cond c a b=>(ak nt c).bind fun c=>(fO a).bind fun x=>(fO b).map (.cond c x ·)
 | .block id a=>(fO a).map (.block id ·)
 | .loop a=>(fO a).map .loop
 | .exit id=>some (.exit id)
 | .ret=>some .ret
 | .label _=>some .skip
 | .scope a=>fO a
 | _=>none
def jN:List ResultVar->Option (List gu)
 | []=>some []
 | .tmp t :: r=>cond (Nat.blt t nt) ((jN r).map (.tmp t :: ·)) none
 | .cell a t :: r=>cond (Nat.blt a nt) ((lj P t).bind fun g=>(dg P t).bind fun sz=>(jN r).map (.cell a g sz :: ·)) none
end
def lq(P:Program)(bJ locals muts:List Nat)(f:Func):Option ay :=
 f.body.bind fun c=>(fO P bJ locals muts f.ntmps c).bind fun b=>(jN P f.ntmps f.results.toList).bind fun rs =>
  cond (Nat.ble (f.params.size+f.nfree) f.ntmps&&f.name != "runtime.NumGoroutine") (some { bJ,locals,muts,nt:=f.ntmps,np:=f.params.size+f.nfree,results:=rs,body:=b }) none
end
inductive bc where
 | none|outer|ret
 | hb (loc:Nat)
 | hs (loc j:Nat)
 | bx (i:Nat)
 | sl (i:Nat)
 | sc (i j:Nat)
 | par (j:Nat)
 deriving DecidableEq,Inhabited
structure Gh where
 S:Nat->Nat->Prop
 κ:Nat->bc
 ρ:Nat->Nat
def qR(agg:Bool)(n:Nat)(f:Nat->Value):Value:=cond agg (.agg ((List.range n).map f).toArray) (f 0)
structure Au (E:Array MapEntry) (ck kz:Nat) (ka va:Bool) (es:List (List AV)) (f:Nat->Nat->Value):Prop where
 size:E.size=es.length
 clk:ck=E.size
 at' : ∀ (i:Nat) (e:MapEntry),E[i]?=some e->e.born=i
 born:∀ (i:Nat) (e:MapEntry),E[i]?=some e->e.born<ck
 apart:∀ (i j:Nat) (e e' : MapEntry),E[i]?=some e->E[j]?=some e'->e.born=e'.born->i=j
 row:∀ (i:Nat) (e:MapEntry) (r:List AV),E[i]?=some e->es[i]?=some r->kz<=r.length/\(ka=false->kz=1)/\(va=false->r.length=kz+1)/\e.key=qR ka kz (f i)/\e.val=qR va (r.length-kz) (fun j=>f i (kz+j))
structure vk (E:Array MapEntry) (ck kz:Nat) (ka va:Bool) (es:List (List AV)) (f:Nat->Nat->Value):Prop where
 size:E.size=es.length
 born:∀ (i:Nat) (e:MapEntry),E[i]?=some e->e.born<ck
 apart:∀ (i j:Nat) (e e' : MapEntry),E[i]?=some e->E[j]?=some e'->e.born=e'.born->i=j
 row:∀ (i:Nat) (e:MapEntry) (r:List AV),E[i]?=some e->es[i]?=some r->kz<=r.length/\(ka=false->kz=1)/\(va=false->r.length=kz+1)/\e.key=qR ka kz (f i)/\e.val=qR va (r.length-kz) (fun j=>f i (kz+j))
theorem Au.iter{E:Array MapEntry}{ck kz:Nat}{ka va:Bool}{es:List (List AV)}{f:Nat->Nat->Value}(h:Au E ck kz ka va es f):vk E ck kz ka va es f:=⟨h.size,h.born,h.apart,h.row⟩
inductive PR (S:Nat->Nat->Prop) (w:World):Value->AV->Prop where
 | bool (b:Bool):PR S w (.bool b) (.bool b)
 | int (k:IntKind) (n:Int):PR S w (.int k n) (.int k n)
 | str (s:ByteArray) (l:List UInt8) (h:s.data.toList=l):PR S w (.string s) (.str l)
 | any (v:Value) (h:v.oneCell'=true):PR S w v .any
 | dh:PR S w (.pointer none) .dh
 | cN:PR S w (.map none) .cN
 | cz:PR S w .nilFunc .cz
 | bV:PR S w .nilIface .bV
 | func (f:Fn):PR S w (.func f #[] #[]) (.func f [] [])
 | iface (t:TypeId) (v:Value) (x:AV) (h:PR S w v x):PR S w (.iface t v) (.iface t x)
 | cW:PR S w (.slice none 0 0) (.slice [] false)
 | ae:PR S w (.slice none 0 0) .ae
 | slice (b o n cap sz:Nat) (e:List (List AV)) (f:Nat->Nat->Value) (hn:e.length=n) (jP:n<=cap)
   (bI:∀ (i:Nat) (r:List AV),e[i]?=some r->r.length=sz)
   (cP:∀ (i j:Nat) (r:List AV) (x:AV),e[i]?=some r->r[j]?=some x->S b (o+i*sz+j)/\w.cell? ⟨b,o+i*sz+j,none⟩=some (f i j)/\(f i j).oneCell'=true)
   (cy:∀ (i j:Nat) (r:List AV) (x:AV),e[i]?=some r->r[j]?=some x->PR S w (f i j) x) :
   PR S w (.slice (some ⟨b,o,none⟩) n cap) (.slice e false)
 | eptr (b o:Nat) (cs:List AV) (f:Nat->Value)
   (cP:∀ (j:Nat) (x:AV),cs[j]?=some x->S b (o+j)/\w.cell? ⟨b,o+j,none⟩=some (f j)/\(f j).oneCell'=true)
   (cy:∀ (j:Nat) (x:AV),cs[j]?=some x->PR S w (f j) x) :
   PR S w (.pointer (some ⟨b,o,none⟩)) (.eptr cs)
 | dR (b kz:Nat) (ka va:Bool) (es:List (List AV)) (E:Array MapEntry) (ck:Nat) (f:Nat->Nat->Value) (hS:S b 0) (hb:w.heap[b]?=some (.map E ck)) (hE:Au E ck kz ka va es f)
   (cy:∀ (i j:Nat) (r:List AV) (x:AV),es[i]?=some r->r[j]?=some x->PR S w (f i j) x):PR S w (.map (some b)) (.dR kz ka va es)
 | mX (b kz:Nat) (ka va:Bool) (es uz:List (List AV)) (E:Array MapEntry) (ck:Nat) (f:Nat->Nat->Value) (hS:S b 0) (hb:w.heap[b]?=some (.map E ck)) (hE:vk E ck kz ka va uz f) (hp:uz.Perm es)
   (cy:∀ (i j:Nat) (r:List AV) (x:AV),uz[i]?=some r->r[j]?=some x->PR S w (f i j) x):PR S w (.map (some b)) (.mX kz ka va es)
theorem PR.fg{S:Nat->Nat->Prop}{w:World}{v:Value}{x:AV}(h:PR S w v x):v.oneCell'=true:=by
 cases h<;>first|rfl|assumption
theorem PR.mono{S S' : Nat->Nat->Prop}{w w' : World}(hS:∀ b o,S b o->S' b o)(hc:∀ b o,S b o->w'.cell? ⟨b,o,none⟩=w.cell? ⟨b,o,none⟩)
  (hm:∀ b E ck,S b 0->w.heap[b]?=some (.map E ck)->w'.heap[b]?=some (.map E ck))
  {v:Value} {x:AV} (h:PR S w v x):PR S' w' v x:=by
 induction h with
 | bool b=>exact .bool b
 | int k n=>exact .int k n
 | str s l h=>exact .str s l h
 | any v h=>exact .any v h
 | dh=>exact .dh
 | cN=>exact .cN
 | cz=>exact .cz
 | bV=>exact .bV
 | func f=>exact .func f
 | iface t v x _ ih=>exact .iface t v x ih
 | cW=>exact .cW
 | ae=>exact .ae
 | slice b o n cap sz e f hn jP bI cP _ ih =>
  exact .slice b o n cap sz e f hn jP bI (fun i j r x h1 h2=>by
   obtain⟨a,c,d⟩:=cP i j r x h1 h2
   exact⟨hS _ _ a,(hc _ _ a).trans c,d⟩) ih
 | eptr b o cs f cP _ ih =>
  exact .eptr b o cs f (fun j x h=>by
   obtain⟨a,c,d⟩:=cP j x h
   exact⟨hS _ _ a,(hc _ _ a).trans c,d⟩) ih
 | dR b kz ka va es E ck f h1 h2 h3 _ ih=>exact .dR b kz ka va es E ck f (hS _ _ h1) (hm _ _ _ h1 h2) h3 ih
 | mX b kz ka va es uz E ck f h1 h2 h3 h4 _ ih=>exact .mX b kz ka va es uz E ck f (hS _ _ h1) (hm _ _ _ h1 h2) h3 h4 ih
def pR(w:World)(b:Nat)(ty:TypeId)(n:Nat):Prop:=∃ C fr,w.heap[b]?=some (.cells C ty fr)/\C.size=n
inductive VR (gh:Gh) (n:Nat) (w:World):Value->AV->Prop where
 | plain (v:Value) (x:AV) (h:PR gh.S w v x):VR gh n w v x
 | full (a:Option Addr) (k:Nat) (e:List (List AV)) (h:PR gh.S w (.slice a k k) (.slice e false)) (hz:True):VR gh n w (.slice a k k) (.slice e true)
 | ref (loc off:Nat) (h:loc<n):VR gh n w (.pointer (some ⟨gh.ρ loc,off,none⟩)) (.ref loc off)
 | sref (loc off k cap z:Nat) (h:loc<n) (hk:k<=cap) (hz:z≠0->∃ ty,pR w (gh.ρ loc) ty (off+cap*z)):VR gh n w (.slice (some ⟨gh.ρ loc,off,none⟩) k cap) (.sref loc off k z)
 | mref (loc:Nat) (h:loc<n):VR gh n w (.map (some (gh.ρ loc))) (.mref loc)
 | func (f:Fn) (fs cs:Array Value) (xs ys:List AV) (hf:fs.size=xs.length) (hc:cs.size=ys.length)
   (h1:∀ (j:Nat) (v:Value) (x:AV),fs[j]?=some v->xs[j]?=some x->VR gh n w v x)
   (h2:∀ (j:Nat) (v:Value) (x:AV),cs[j]?=some v->ys[j]?=some x->VR gh n w v x):VR gh n w (.func f fs cs) (.func f xs ys)
 | iface (t:TypeId) (v:Value) (x:AV) (h:VR gh n w v x):VR gh n w (.iface t v) (.iface t x)
 | agg (cs:Array Value) (xs:List AV) (hs:cs.size=xs.length)
   (fX:∀ (j:Nat) (v:Value),cs[j]?=some v->v.oneCell'=true)
   (h:∀ (j:Nat) (v:Value) (x:AV),cs[j]?=some v->xs[j]?=some x->VR gh n w v x):VR gh n w (.agg cs) (.agg xs)
 | tuple (vs:Array Value) (xs:List AV) (hs:vs.size=xs.length)
   (h:∀ (j:Nat) (v:Value) (x:AV),vs[j]?=some v->xs[j]?=some x->VR gh n w v x):VR gh n w (.tuple vs) (.tuple xs)
def Kept(S:Nat->Prop)(x y:Option Obj):Prop :=
 y=x\/∃ C ty lo hi lo' jr,x=some (.cells C ty (lo,hi))/\y=some (.cells C ty (lo',jr))/\(∃ o n,S o/\C[o]?=some (Value.int .u8 n))/\∀ m,hi<=m->(∀ o,m<=o->¬ S o)->jr<=m
theorem Kept.none{S:Nat->Prop}{x y:Option Obj}(h:Kept S x y)(hS:∀ o,¬ S o):y=x:=by
 rcases h with h|⟨_,_,_,_,_,_,_,_,⟨o,_,ho,_⟩,_⟩
 ·exact h
 ·exact absurd ho (hS o)
theorem Kept.trans{S T:Nat->Prop}{x y z:Option Obj}(h:Kept S x y)(h' : Kept T y z)(hT:∀ o,T o->S o):Kept S x z:=by
 rcases h with rfl|⟨C,ty,lo,hi,lo',jr,h1,h2,h3,h4⟩
 ·rcases h' with rfl|⟨C,ty,lo,hi,lo',jr,h1,h2,⟨o,n,ho,hn⟩,h4⟩
  ·exact .inl rfl
  ·exact .inr ⟨C,ty,lo,hi,lo',jr,h1,h2,⟨o,n,hT o ho,hn⟩,fun m hm hS=>h4 m hm (fun o ho ht=>hS o ho (hT o ht))⟩
 ·rcases h' with rfl|⟨C2,ty2,lo2,hi2,lo3,hi3,k1,k2,_,k4⟩
  ·exact .inr ⟨C,ty,lo,hi,lo',jr,h1,h2,h3,h4⟩
  ·rw[h2] at k1
   injection k1 with k1
   injection k1 with e1 e2 e3
   injection e3 with e3 e4
   subst e1 e2 e3 e4
   exact .inr ⟨C,ty,lo,hi,lo3,hi3,h1,k2,h3,fun m hm hS=>k4 m (h4 m hm hS) (fun o ho ht=>hS o ho (hT o ht))⟩
structure Step (touch:bc->Prop) (n:Nat) (gh:Gh) (w:World) (aK:Gh) (w' : World):Prop where
 S:∀ b o,gh.S b o->aK.S b o
 cell:∀ b o,gh.S b o->w'.cell? ⟨b,o,none⟩=w.cell? ⟨b,o,none⟩
 size:w.heap.size<=w'.heap.size
 os:w'.os=w.os
 tape:w'.tape=w.tape
 output:w'.output=w.output
 zS:∀ b,b<w.heap.size->¬ touch (gh.κ b)->Kept (gh.S b) (w.heap[b]?) (w'.heap[b]?)/\aK.κ b=gh.κ b/\∀ o,aK.S b o->gh.S b o
 fresh:∀ b,w.heap.size<=b->aK.κ b≠.outer
 ρ:∀ loc,loc<n->aK.ρ loc=gh.ρ loc
 len:∀ b ty m,pR w b ty m->pR w' b ty m
 mp:∀ b E ck,gh.S b 0->w.heap[b]?=some (.map E ck)->w'.heap[b]?=some (.map E ck)
theorem Step.refl(touch:bc->Prop)(n:Nat)(gh:Gh)(w:World)(hf:∀ b,w.heap.size<=b->gh.κ b≠.outer):Step touch n gh w gh w :=
 ⟨fun _ _ h=>h,fun _ _ _=>rfl,apz _,rfl,rfl,rfl,fun _ _ _=>⟨.inl rfl,rfl,fun _ h=>h⟩,hf,fun _ _=>rfl,fun _ _ _ h=>h,fun _ _ _ _ h=>h⟩
theorem Step.mono{touch Ud:bc->Prop}{n:Nat}{gh aK:Gh}{w w' : World}(h:Step touch n gh w aK w')(ht:∀ p,touch p->Ud p):Step Ud n gh w aK w' :=
 { h with zS:=fun b hb hn=>h.zS b hb (fun x=>hn (ht _ x)) }
theorem VR.mono{touch:bc->Prop}{n n' : Nat}{gh aK:Gh}{w w' : World}(st:Step touch n gh w aK w')(hn:n<=n')
  {v:Value} {x:AV} (h:VR gh n w v x):VR aK n' w' v x:=by
 induction h with
 | plain v x h=>exact .plain v x (h.mono st.S st.cell st.mp)
 | full a k e h hz=>exact .full a k e (h.mono st.S st.cell st.mp) trivial
 | ref loc off h=>rw[<- st.ρ loc h];exact .ref loc off (aq1 h hn)
 | sref loc off k cap z h hk hz=>rw[<- st.ρ loc h];exact .sref loc off k cap z (aq1 h hn) hk (fun h0=>(hz h0).imp fun ty hb=>by rw[st.ρ loc h];exact st.len _ _ _ hb)
 | mref loc h=>rw[<- st.ρ loc h];exact .mref loc (aq1 h hn)
 | func f fs cs xs ys hf hc _ _ ih1 ih2=>exact .func f fs cs xs ys hf hc ih1 ih2
 | iface t v x _ ih=>exact .iface t v x ih
 | agg cs xs hs fX _ ih=>exact .agg cs xs hs fX ih
 | tuple vs xs hs _ ih=>exact .tuple vs xs hs ih
def Ky(gh:Gh)(w:World)(p:bc)(v:Value)(e:List (List AV)):Prop :=
 ∃ b cap C ty lo hi sz,v=.slice (some ⟨b,0,none⟩) e.length cap/\gh.κ b=p/\e≠[]/\w.heap[b]?=some (.cells C ty (lo,hi))/\C.size=cap*sz /\
  (∀ (i:Nat) (r:List AV),e[i]?=some r->r.length=sz)/\e.length<=cap/\hi<=e.length*sz/\(∀ o,e.length*sz<=o->¬ gh.S b o)
theorem Ky.mono{touch:bc->Prop}{n:Nat}{gh aK:Gh}{w w' : World}(st:Step touch n gh w aK w'){p:bc}(hp:¬ touch p)
  {v:Value} {e:List (List AV)} (h:Ky gh w p v e):Ky aK w' p v e:=by
 obtain⟨b,cap,C,ty,lo,hi,sz,hv,hk,he,hb,hC,hr,hl,hh,hS⟩:=h
 have aU:b<w.heap.size:=(apD.1 hb).1
 obtain⟨h1,h2,h3⟩:=st.zS b aU (by rw[hk];exact hp)
 rcases h1 with h1|⟨C',kP,lo1,hi1,lo',jr,k1,k2,_,k4⟩
 ·exact⟨b,cap,C,ty,lo,hi,sz,hv,by rw[h2,hk],he,by rw[h1,hb],hC,hr,hl,hh,fun o ho hs=>hS o ho (h3 o hs)⟩
 ·rw[hb] at k1
  injection k1 with k1
  injection k1 with e1 e2 e3
  injection e3 with e3 e4
  subst e1 e2 e3 e4
  exact⟨b,cap,C,ty,lo',jr,sz,hv,by rw[h2,hk],he,k2,hC,hr,hl,k4 _ hh hS,fun o ho hs=>hS o ho (h3 o hs)⟩
def CR(gh:Gh)(n:Nat)(w:World)(p:bc)(v:Value)(x:AV):Prop :=
 VR gh n w v x\/∃ e,x=.slice e true/\PR gh.S w v (.slice e false)/\Ky gh w p v e
theorem CR.mono{touch:bc->Prop}{n n' : Nat}{gh aK:Gh}{w w' : World}(st:Step touch n gh w aK w')(hn:n<=n'){p:bc}(hp:¬ touch p)
  {v:Value} {x:AV} (h:CR gh n w p v x):CR aK n' w' p v x:=by
 rcases h with h|⟨e,rfl,h1,h2⟩
 ·exact .inl (h.mono st hn)
 ·exact .inr ⟨e,rfl,h1.mono st.S st.cell st.mp,h2.mono st hp⟩
theorem CR.dropped{gh:Gh}{n:Nat}{w:World}{p:bc}{v:Value}{x:AV}(h:CR gh n w p v x):VR gh n w v x.drop:=by
 rcases h with h|⟨e,rfl,h1,_⟩
 ·cases h with
  | plain v x h =>
   cases x<;>try exact .plain _ _ h
   cases h<;>first|exact .plain _ _ .cW|exact .plain _ _ (.slice _ _ _ _ _ _ _ ‹_› ‹_› ‹_› ‹_› ‹_›)
  | full a k e h=>exact .plain _ _ h
  | ref loc off h=>exact .ref loc off h
  | sref loc off k cap z h hk hz=>exact .sref loc off k cap z h hk hz
  | mref loc h=>exact .mref loc h
  | func f fs cs xs ys hf hc h1 h2=>exact .func f fs cs xs ys hf hc h1 h2
  | iface t v x h=>exact .iface t v x h
  | agg cs xs hs fX h=>exact .agg cs xs hs fX h
  | tuple vs xs hs h=>exact .tuple vs xs hs h
 ·exact .plain _ _ h1
theorem VR.dropped{gh:Gh}{n:Nat}{w:World}{v:Value}{x:AV}(h:VR gh n w v x):VR gh n w v x.drop:=CR.dropped (p:=.none) (.inl h)
def gR(gh:Gh)(n:Nat)(w:World)(b:Nat)(p:bc)(q:Nat->bc)(cs:List AV):Prop :=
 gh.κ b=p/\(∀ o,¬ gh.S b o)/\∃ C ty,w.heap[b]?=some (.cells C ty (0,0))/\cs.length<=C.size /\
  ∀ (j:Nat) (v:Value) (x:AV),C[j]?=some v->cs[j]?=some x->v.oneCell'=true/\CR gh n w (q j) v x
theorem gR.mono{touch:bc->Prop}{n n' : Nat}{gh aK:Gh}{w w' : World}(st:Step touch n gh w aK w')(hn:n<=n'){b:Nat}{p:bc}{q:Nat->bc}
  (hp:¬ touch p) (hq:∀ j,¬ touch (q j)) {cs:List AV} (h:gR gh n w b p q cs):gR aK n' w' b p q cs:=by
 obtain⟨hk,hS,C,ty,hb,hC,fF⟩:=h
 have aU:b<w.heap.size:=(apD.1 hb).1
 obtain⟨h1,h2,h3⟩:=st.zS b aU (by rw[hk];exact hp)
 have h1:=h1.none hS
 exact⟨by rw[h2,hk],fun o ho=>hS o (h3 o ho),C,ty,by rw[h1,hb],hC,fun j v x hv hx=>⟨(fF j v x hv hx).1,(fF j v x hv hx).2.mono st hn (hq j)⟩⟩
def qY(gh:Gh)(w:World)(p:bc)(v:Value)(e:List (List AV)):Prop :=
 ∃ a cap,v=.slice a e.length cap/\((e=[]/\cap=0/\∀ ad,a=some ad->ad.spot=none/\True)\/∃ b C ty sz,e≠[]/\a=some ⟨b,0,none⟩/\gh.κ b=p/\(∀ o,¬ gh.S b o)/\w.heap[b]?=some (.cells C ty (0,0))/\C.size=cap*sz /\
  e.length<=cap/\(∀ (i:Nat) (r:List AV),e[i]?=some r->r.length=sz) /\
  ∀ (i j:Nat) (r:List AV) (x:AV),e[i]?=some r->r[j]?=some x->∃ u,C[i*sz+j]?=some u/\PR gh.S w u x)
theorem qY.mono{touch:bc->Prop}{n:Nat}{gh aK:Gh}{w w' : World}(st:Step touch n gh w aK w'){p:bc}(hp:¬ touch p)
  {v:Value} {e:List (List AV)} (h:qY gh w p v e):qY aK w' p v e:=by
 obtain⟨a,cap,hv,h⟩:=h
 refine⟨a,cap,hv,?_⟩
 rcases h with h|⟨b,C,ty,sz,bC,ha,hk,hS,hb,hC,hl,hr,fF⟩
 ·exact .inl ⟨h.1,h.2.1,fun ad ha=>⟨(h.2.2 ad ha).1,trivial⟩⟩
 ·have aU:b<w.heap.size:=(apD.1 hb).1
  obtain⟨h1,h2,h3⟩:=st.zS b aU (by rw[hk];exact hp)
  have h1:=h1.none hS
  exact .inr ⟨b,C,ty,sz,bC,ha,by rw[h2,hk],fun o ho=>hS o (h3 o ho),by rw[h1,hb],hC,hl,hr,fun i j r x hi hj=>by
   obtain⟨u,hu,hp⟩:=fF i j r x hi hj
   exact⟨u,hu,hp.mono st.S st.cell st.mp⟩⟩
def we(gh:Gh)(n:Nat)(w:World)(b:Nat)(p:bc)(q:Nat->bc)(kz:Nat)(ka va:Bool)(es:List (List AV)):Prop :=
 gh.κ b=p/\(∀ o,¬ gh.S b o)/\∃ E ck f,w.heap[b]?=some (.map E ck)/\Au E ck kz ka va es f /\
  (∀ (i j:Nat) (r:List AV) (x:AV),es[i]?=some r->r[j]?=some x->j<kz->PR gh.S w (f i j) x) /\
  ∀ (i j:Nat) (r:List AV) (x:AV),es[i]?=some r->r[j]?=some x->kz<=j->(f i j).oneCell'=true/\(va=true->VR gh n w (f i j) x)/\CR gh n w (q i) (f i j) x
theorem we.mono{touch:bc->Prop}{n n' : Nat}{gh aK:Gh}{w w' : World}(st:Step touch n gh w aK w')(hn:n<=n'){b:Nat}{p:bc}{q:Nat->bc}(hp:¬ touch p)(hq:∀ i,¬ touch (q i))
  {kz:Nat} {ka va:Bool} {es:List (List AV)} (h:we gh n w b p q kz ka va es):we aK n' w' b p q kz ka va es:=by
 obtain⟨hk,hS,E,ck,f,hb,hE,h1,h2⟩:=h
 have aU:b<w.heap.size:=(apD.1 hb).1
 obtain⟨k1,k2,k3⟩:=st.zS b aU (by rw[hk];exact hp)
 have k1:=k1.none hS
 exact⟨by rw[k2,hk],fun o ho=>hS o (k3 o ho),E,ck,f,by rw[k1,hb],hE,fun i j r x hi hj hl=>(h1 i j r x hi hj hl).mono st.S st.cell st.mp,
  fun i j r x hi hj hl=>⟨(h2 i j r x hi hj hl).1,fun hv=>((h2 i j r x hi hj hl).2.1 hv).mono st hn,(h2 i j r x hi hj hl).2.2.mono st hn (hq i)⟩⟩
def tn(gh:Gh)(n:Nat)(w:World)(b loc:Nat):ct->Prop
 | .map kz ka va es=>we gh n w b (.hb loc) (fun i=>.hs loc i) kz ka va es/\(es.all fun r=>r.all (aV loc))=true
 | .dR kz ka va es=>PR gh.S w (.map (some b)) (.dR kz ka va es)
 | .I6 cs=>PR gh.S w (.pointer (some ⟨b,0,none⟩)) (.eptr cs)
 | .cj cs=>gR gh n w b (.hb loc) (fun j=>.hs loc j) cs
 | _=>True
theorem tn.mono{touch:bc->Prop}{n n' : Nat}{gh aK:Gh}{w w' : World}(st:Step touch n gh w aK w')(hn:n<=n'){b loc:Nat}(hp:¬ touch (.hb loc))(hq:∀ i,¬ touch (.hs loc i))
  {o:ct} (h:tn gh n w b loc o):tn aK n' w' b loc o:=by
 cases o with
 | map kz ka va es=>exact⟨h.1.mono st hn hp hq,h.2⟩
 | dR kz ka va es=>exact PR.mono st.S st.cell st.mp h
 | I6 cs=>exact PR.mono st.S st.cell st.mp h
 | cj cs=>exact gR.mono st hn hp hq h
 | _=>trivial
def vj(gh:Gh)(w:World)(b:Nat)(p:bc)(kz:Nat)(ka va:Bool)(cur:List AV)(todo:List (List AV)):Prop :=
 gh.κ b=p/\(∀ o,¬ gh.S b o)/\∃ (m:Option Nat) (since:Nat) (seen:Array Nat) (last:Nat),w.heap[b]?=some (.mapIter m since seen last) /\
  ((m=none/\todo=[]/\seen=#[]/\cur=[])\/∃ m0 E es ck f,m=some m0/\gh.S m0 0/\w.heap[m0]?=some (.map E ck)/\vk E ck kz ka va es f/\since=ck/\last=ck /\
   (∀ (i j:Nat) (r:List AV) (x:AV),es[i]?=some r->r[j]?=some x->PR gh.S w (f i j) x) /\
   ((seen.back?=none/\cur=[])\/∃ (s i:Nat) (e:MapEntry),seen.back?=some s/\E[i]?=some e/\e.born=s/\es[i]?=some cur) /\
   todo.Perm (((E.toList.zip es).filter fun p=>!seen.contains p.1.born).map (·.2)))
theorem vj.mono{touch:bc->Prop}{n:Nat}{gh aK:Gh}{w w' : World}(st:Step touch n gh w aK w'){b:Nat}{p:bc}(hp:¬ touch p)
  {kz:Nat} {ka va:Bool} {cur:List AV} {todo:List (List AV)} (h:vj gh w b p kz ka va cur todo):vj aK w' b p kz ka va cur todo:=by
 obtain⟨hk,hS,m,since,seen,last,hb,h⟩:=h
 have aU:b<w.heap.size:=(apD.1 hb).1
 obtain⟨k1,k2,k3⟩:=st.zS b aU (by rw[hk];exact hp)
 have k1:=k1.none hS
 refine⟨by rw[k2,hk],fun o ho=>hS o (k3 o ho),m,since,seen,last,by rw[k1,hb],?_⟩
 rcases h with h|⟨m0,E,es,ck,f,h1,h2,h3,h4,h5,h6,h7,h8,h9⟩
 ·exact .inl h
 ·exact .inr ⟨m0,E,es,ck,f,h1,st.S _ _ h2,st.mp _ _ _ h2 h3,h4,h5,h6,fun i j r x hi hj=>(h7 i j r x hi hj).mono st.S st.cell st.mp,h8,h9⟩
def SR(gh:Gh)(n nt:Nat)(w:World)(T:ax)(gen:Nat)(tm:Nat->Value)(i:Nat)(v:Value)(x:AV):Prop :=
 match x with
 | .lbox g cs=>g<gen/\∃ b,v=.pointer (some ⟨b,0,none⟩)/\gR gh n w b (.bx i) (fun j=>.sc i j) cs
 | .lsl g e=>g<gen/\qY gh w (.bx i) v e
 | .lref s g off=>s<nt/\g<gen/\(aP (T s)=some g->∀ b,tm s=.pointer (some ⟨b,0,none⟩)->v=.pointer (some ⟨b,off,none⟩))
 | .lsr s g=>s<nt/\g<gen/\(aP (T s)=some g->v=tm s)
 | .eref s g r z off=>s<nt/\g<gen/\(aP (T s)=some g->∀ b k cap,tm s=.slice (some ⟨b,0,none⟩) k cap->v=.pointer (some ⟨b,r*z+off,none⟩))
 | .iter g kz ka va cur todo=>g<gen/\∃ b,v=.pointer (some ⟨b,0,none⟩)/\vj gh w b (.bx i) kz ka va cur todo
 | x=>CR gh n w (.sl i) v x
structure aM (G:Nat->List AV) (base:Nat) (H:ag) (gh:Gh) (w:World):Prop where
 size:base<=w.heap.size
 nB:∀ b o,gh.S b o->b<w.heap.size
 oT:∀ b,gh.κ b≠.none->base<=b/\b<w.heap.size
 aO:∀ (g j:Nat) (x:AV),(G g)[j]?=some x->∃ v,w.cell? ⟨g,j,none⟩=some v/\PR gh.S w v x/\gh.S g j
 boxes:∀ (loc:Nat) (ty:TypeId) (cs:List AV),H[loc]?=some (ct.box ty cs)->gR gh H.length w (gh.ρ loc) (.hb loc) (fun j=>.hs loc j) cs
 refs:∀ (loc:Nat) (ty:TypeId) (cs:List AV),H[loc]?=some (ct.box ty cs)->cs.all (aV loc)=true
 xg:∀ g,G g≠[]->∃ ty,pR w g ty (G g).length
 bytes:∀ b o n,gh.S b o->w.cell? ⟨b,o,none⟩=some (.int .u8 n)->∃ C fr,w.heap[b]?=some (.cells C iS fr)
 more:∀ (loc:Nat) (o:ct),H[loc]?=some o->tn gh H.length w (gh.ρ loc) loc o
 types:∀ (loc:Nat) (ty:TypeId) (cs:List AV),H[loc]?=some (ct.box ty cs)->ty≠aL->pR w (gh.ρ loc) ty cs.length
structure aiW (nt:Nat) (gh:Gh) (w:World) (a:Act) (s:AS):Prop where
 defers:a.defers=[]
 size:a.tmps.size=nt
 slot:∀ i,i<nt->SR gh s.H.length nt w s.T s.gen (fun k=>a.tmps.getD k undef) i (a.tmps.getD i undef) (s.T i)
theorem aM.kj{G:Nat->List AV}{base:Nat}{H:ag}{gh aK:Gh}{w w' : World}{touch:bc->Prop}{n:Nat}(h:aM G base H gh w)(st:Step touch n gh w aK w')
  (qT:∀ b o m,aK.S b o->gh.S b o\/(w'.cell? ⟨b,o,none⟩=some (.int .u8 m)->∃ C fr,w'.heap[b]?=some (.cells C iS fr))) :
  ∀ b o m,aK.S b o->w'.cell? ⟨b,o,none⟩=some (.int .u8 m)->∃ C fr,w'.heap[b]?=some (.cells C iS fr):=by
 intro b o m hs hc
 rcases qT b o m hs with ho|hn
 ·obtain⟨C,fr,h1⟩:=h.bytes b o m ho (by rw[<- st.cell b o ho];exact hc)
  obtain⟨C',fr',h2,_⟩:=st.len b iS C.size ⟨C,fr,h1,rfl⟩
  exact⟨C',fr',h2⟩
 ·exact hn hc
theorem aM.fresh{G:Nat->List AV}{base:Nat}{H:ag}{gh:Gh}{w:World}(h:aM G base H gh w)(b:Nat)(hb:w.heap.size<=b):gh.κ b=.none:=by
 by_cases hk:gh.κ b=.none
 ·exact hk
 ·have:=(h.oT b hk).2;omega
theorem SR.mono{touch:bc->Prop}{n n' nt:Nat}{gh aK:Gh}{w w' : World}(st:Step touch n gh w aK w')(hn:n<=n'){T T' : ax}{gen gen' : Nat}(hg:gen<=gen')
  {tm tm' : Nat->Value} {i:Nat} (h1:¬ touch (.bx i)) (h2:¬ touch (.sl i)) (h3:∀ j,¬ touch (.sc i j))
  (hT:∀ s,s<nt->(aP (T' s)=aP (T s)/\tm' s=tm s)\/aP (T' s)=none\/∃ g,gen<=g/\aP (T' s)=some g)
  {v:Value} {x:AV} (h:SR gh n nt w T gen tm i v x):SR aK n' nt w' T' gen' tm' i v x:=by
 have key:∀ s g,s<nt->g<gen->aP (T' s)=some g->aP (T s)=some g/\tm' s=tm s:=by
  intro s g hs DX yF
  rcases hT s hs with ⟨h,h'⟩|h|⟨g',Jp,h⟩
  ·exact⟨h ▸ yF,h'⟩
  ·rw[h] at yF;cases yF
  ·rw[h] at yF;injection yF with e;omega
 cases x
 case lbox g cs =>
  obtain⟨Jq,b,hv,hb⟩:=h
  exact⟨by omega,b,hv,hb.mono st hn h1 h3⟩
 case lsl g e=>exact⟨by have:=h.1;omega,h.2.mono st h1⟩
 case iter g kz ka va cur todo =>
  obtain⟨Jq,b,hv,hb⟩:=h
  exact⟨by omega,b,hv,hb.mono st h1⟩
 case lref s g off =>
  obtain⟨hs,Jq,hr⟩:=h
  refine⟨hs,by omega,fun yF b hb=>?_⟩
  obtain⟨k1,k2⟩:=key s g hs Jq yF
  exact hr k1 b (k2 ▸ hb)
 case lsr s g =>
  obtain⟨hs,Jq,hr⟩:=h
  refine⟨hs,by omega,fun yF=>?_⟩
  obtain⟨k1,k2⟩:=key s g hs Jq yF
  rw[k2];exact hr k1
 case eref s g r z off =>
  obtain⟨hs,Jq,hr⟩:=h
  refine⟨hs,by omega,fun yF b k cap hb=>?_⟩
  obtain⟨k1,k2⟩:=key s g hs Jq yF
  exact hr k1 b k cap (k2 ▸ hb)
 all_goals exact CR.mono st hn h2 h
def pM(p:bc):Prop:=p≠.none/\p≠.outer
structure Ext (n:Nat) (gh:Gh) (w:World) (aK:Gh) (w' : World):Prop where
 step:Step pM n gh w aK w'
 out:∀ b,aK.κ b=.outer->gh.κ b=.outer
theorem Ext.refl(n:Nat)(gh:Gh)(w:World)(hf:∀ b,w.heap.size<=b->gh.κ b≠.outer):Ext n gh w gh w:=⟨Step.refl _ n gh w hf,fun _ h=>h⟩
theorem Ext.trans{n n' : Nat}{g1 g2 g3:Gh}{w1 w2 w3:World}(h:Ext n g1 w1 g2 w2)(h' : Ext n' g2 w2 g3 w3)(hn:n<=n'):Ext n g1 w1 g3 w3:=by
 refine⟨⟨fun b o hs=>h'.step.S b o (h.step.S b o hs),fun b o hs=>(h'.step.cell b o (h.step.S b o hs)).trans (h.step.cell b o hs),aqC h.step.size h'.step.size,
  h'.step.os.trans h.step.os,h'.step.tape.trans h.step.tape,h'.step.output.trans h.step.output,?_,?_,fun loc hl=>(h'.step.ρ loc (aq1 hl hn)).trans (h.step.ρ loc hl),fun b ty m hb=>h'.step.len b ty m (h.step.len b ty m hb),fun b E ck hs hb=>h'.step.mp b E ck (h.step.S b 0 hs) (h.step.mp b E ck hs hb)⟩,fun b hb=>h.out b (h'.out b hb)⟩
 ·intro b hb Ql
  obtain⟨a1,a2,a3⟩:=h.step.zS b hb Ql
  obtain⟨c1,c2,c3⟩:=h'.step.zS b (aq1 hb h.step.size) (by rw[a2];exact Ql)
  exact⟨a1.trans c1 a3,c2.trans a2,fun o ho=>a3 o (c3 o ho)⟩
 ·intro b hb ho
  have:=h'.out b ho
  by_cases jd:w2.heap.size<=b
  ·exact h'.step.fresh b jd ho
  ·exact h.step.fresh b hb this
structure FR (L:List Nat) (nt:Nat) (gh:Gh) (w:World) (a:Act) (s:AS):Prop extends aiW nt gh w a s where
 obj:∀ i,(aP (s.T i)).isSome=true->i∈L
def fB(a:Act)(k:Nat):Value:=a.tmps.getD k undef
theorem oG(a:Act)(d:Nat)(v:Value)(k:Nat)(hd:d<a.tmps.size):fB (a.put (some d) v) k=if k=d then v else fB a k:=by
 unfold fB Act.put
 by_cases h:k=d
 ·subst h;simp[hd]
 ·simp[h,arV (aqM h)]
theorem dX(a b:Nat):Nat.beq a b=decide (a=b):=by
 by_cases h:a=b
 ·subst h;simp
 ·have h1:Nat.beq a b≠true:=fun h'=>h (aqw h')
  rw[aqy h]
  exact Bool.eq_false_iff.2 h1
theorem df(T:ax)(d:Nat)(v:AV)(k:Nat):T.put d v k=if k=d then v else T k:=by
 unfold ax.put
 rw[dX]
 by_cases h:k=d
 ·subst h;simp
 ·simp[h]
theorem FR.update{L:List Nat}{nt:Nat}{gh aK:Gh}{w w' : World}{a a' : Act}{s s' : AS}{touch:bc->Prop}(h:FR L nt gh w a s)
  (st:Step touch s.H.length gh w aK w') (P7:a'.defers=[]) (gM:a'.tmps.size=nt) (hn:s.H.length<=s'.H.length) (hg:s.gen<=s'.gen)
  (D:Nat->Prop)
  (Bd:∀ i,¬ D i->s'.T i=s.T i/\(i<nt->fB a' i=fB a i/\¬ touch (.bx i)/\¬ touch (.sl i)/\∀ j,¬ touch (.sc i j)))
  (Gr:∀ i,D i->(i<nt/\aP (s'.T i)=aP (s.T i)/\fB a' i=fB a i)\/aP (s'.T i)=none\/(i∈L/\∃ g,s.gen<=g/\aP (s'.T i)=some g))
  (qT:∀ i,D i->i<nt->SR aK s'.H.length nt w' s'.T s'.gen (fB a') i (fB a' i) (s'.T i)):FR L nt aK w' a' s':=by
 have hT:∀ i,i<nt->(aP (s'.T i)=aP (s.T i)/\fB a' i=fB a i)\/aP (s'.T i)=none\/∃ g,s.gen<=g/\aP (s'.T i)=some g:=by
  intro i hi
  by_cases hD:D i
  ·rcases Gr i hD with ⟨_,h⟩|h|⟨_,h⟩
   ·exact .inl h
   ·exact .inr (.inl h)
   ·exact .inr (.inr h)
  ·obtain⟨k1,k2⟩:=Bd i hD
   exact .inl ⟨by rw[k1],(k2 hi).1⟩
 refine⟨⟨P7,gM,fun i hi=>?_⟩,fun i hi=>?_⟩
 ·by_cases hD:D i
  ·exact qT i hD hi
  ·obtain⟨k1,k2⟩:=Bd i hD
   obtain⟨k3,t1,t2,t3⟩:=k2 hi
   show SR aK s'.H.length nt w' s'.T s'.gen (fB a') i (fB a' i) (s'.T i)
   rw[k1,k3]
   exact SR.mono st hn hg t1 t2 t3 hT (h.slot i hi)
 ·by_cases hD:D i
  ·rcases Gr i hD with ⟨_,h',_⟩|h'|⟨h',_⟩
   ·exact h.obj i (by rw[<- h'];exact hi)
   ·rw[h'] at hi;cases hi
   ·exact h'
  ·rw[(Bd i hD).1] at hi
   exact h.obj i hi
def mA(gh:Gh)(n nt:Nat)(w:World)(T:ax)(gen:Nat)(tm:Nat->Value)(v:Value)(x:AV):Prop :=
 match x with
 | .lbox ..|.lsl ..|.iter ..=>False
 | .lref s g off=>s<nt/\g<gen/\(aP (T s)=some g->∀ b,tm s=.pointer (some ⟨b,0,none⟩)->v=.pointer (some ⟨b,off,none⟩))
 | .lsr s g=>s<nt/\g<gen/\(aP (T s)=some g->v=tm s)
 | .eref s g r z off=>s<nt/\g<gen/\(aP (T s)=some g->∀ b k cap,tm s=.slice (some ⟨b,0,none⟩) k cap->v=.pointer (some ⟨b,r*z+off,none⟩))
 | x=>VR gh n w v x
theorem mA.aP{gh:Gh}{n nt:Nat}{w:World}{T:ax}{gen:Nat}{tm:Nat->Value}{v:Value}{x:AV}(h:mA gh n nt w T gen tm v x):aP x=none:=by
 cases x<;>first|rfl|exact h.elim
theorem mA.sr{gh:Gh}{n nt:Nat}{w:World}{T:ax}{gen:Nat}{tm:Nat->Value}{v:Value}{x:AV}(h:mA gh n nt w T gen tm v x)(i:Nat):SR gh n nt w T gen tm i v x:=by
 cases x<;>first|exact h.elim|exact h|exact .inl h
theorem mA.cK{gh:Gh}{n nt:Nat}{w:World}{T:ax}{gen:Nat}{tm:Nat->Value}{v:Value}{x:AV}(h:VR gh n w v x):mA gh n nt w T gen tm v x:=by
 cases h with
 | plain v x h=>have h0:=h;cases h<;>exact .plain _ _ h0
 | full a k e h hz=>exact .full a k e h hz
 | ref loc off h=>exact .ref loc off h
 | sref loc off k cap z h hk hz=>exact .sref loc off k cap z h hk hz
 | mref loc h=>exact .mref loc h
 | func f fs cs xs ys hf hc h1 h2=>exact .func f fs cs xs ys hf hc h1 h2
 | iface t v x h=>exact .iface t v x h
 | agg cs xs hs fX h=>exact .agg cs xs hs fX h
 | tuple vs xs hs h=>exact .tuple vs xs hs h
theorem gS(s:AS)(d:Option Nat)(x:AV):(s.bR d x).H=s.H/\(s.bR d x).gen=s.gen/\(s.bR d x).lo=s.lo:=by cases d<;>exact⟨rfl,rfl,rfl⟩
theorem Hx(a:Act)(d:Option Nat)(v:Value):(a.put d v).tmps.size=a.tmps.size:=by cases d<;>simp[Act.put]
theorem wS(a:Act)(d:Option Nat)(v:Value):(a.put d v).defers=a.defers:=by cases d<;>rfl
theorem FR.put{L:List Nat}{nt:Nat}{gh aK:Gh}{w w' : World}{a:Act}{s:AS}{H' : ag}{lo' : Nat}{touch:bc->Prop}(h:FR L nt gh w a s)(st:Step touch s.H.length gh w aK w')
  (ht:∀ i,¬ touch (.bx i)/\¬ touch (.sl i)/\∀ j,¬ touch (.sc i j)) (hH:s.H.length<=H'.length)
  (d:Option Nat) (hd:∀ k,d=some k->k<nt) {v:Value} {x:AV} (hv:mA aK H'.length nt w' s.T s.gen (fB a) v x) :
  FR L nt aK w' (a.put d v) (({ s with H:=H',lo:=lo' } : AS).bR d x):=by
 cases d with
 | none =>
  exact h.update st h.defers h.size hH (apz _) (fun _=>False) (fun i _=>⟨rfl,fun _=>⟨rfl,ht i⟩⟩) (fun _ h=>h.elim) (fun _ h=>h.elim)
 | some d =>
  have aU:=hd d rfl
  have gM:d<a.tmps.size:=by rw[h.size];exact aU
  refine h.update (s':=({ s with H:=H',lo:=lo' } : AS).bR (some d) x) st ((wS a (some d) v).trans h.defers) ((Hx a (some d) v).trans h.size) hH (apz _) (fun i=>i=d) ?_ ?_ ?_
  ·intro i hi
   refine⟨by simp[AS.bR,AS.bu,df,hi],fun _=>⟨by rw[oG a d v i gM,if_neg hi],ht i⟩⟩
  ·rintro i rfl
   exact .inr (.inl (by simp[AS.bR,AS.bu,df];exact hv.aP))
  ·rintro i rfl hi
   simp only[AS.bR,AS.bu,df,aqH]
   rw[oG a i v i gM,if_pos rfl]
   refine SR.mono (touch:=fun _=>False) (n:=H'.length) (gh:=aK) (w:=w') (Step.refl _ _ _ _ (fun b hb=>st.fresh b (aqC st.size hb))) (apz _) (apz _) id id (fun _=>id) ?_ (hv.sr i)
   intro k hk
   by_cases On:k=i
   ·subst On;exact .inr (.inl (by simp[ax.put];exact hv.aP))
   ·exact .inl ⟨by simp[df,On],by rw[oG a i v k gM,if_neg On]⟩
section
section
variable {gh:Gh}{n:Nat}{w:World}{v:Value}
theorem VR.jz{b:Bool}(h:VR gh n w v (.bool b)):v=.bool b:=by cases h with|plain _ _ h=>cases h;rfl
theorem VR.jR{k:IntKind}{m:Int}(h:VR gh n w v (.int k m)):v=.int k m:=by cases h with|plain _ _ h=>cases h;rfl
theorem VR.jS{l:List UInt8}(h:VR gh n w v (.str l)):∃ s:ByteArray,v=.string s/\s.data.toList=l:=by cases h with|plain _ _ h=>cases h;exact⟨_,rfl,‹_›⟩
theorem VR.uS(h:VR gh n w v .bV):v=.nilIface:=by cases h with|plain _ _ h=>cases h;rfl
theorem VR.wL(h:VR gh n w v .cz):v=.nilFunc:=by cases h with|plain _ _ h=>cases h;rfl
theorem VR.Nk{t:TypeId}{x:AV}(h:VR gh n w v (.iface t x)):∃ u,v=.iface t u:=by
 cases h with
 | plain _ _ h=>cases h;exact⟨_,rfl⟩
 | iface _ _ _ _=>exact⟨_,rfl⟩
theorem VR.kH(h:VR gh n w v .ae):v=.slice none 0 0:=by cases h with|plain _ _ h=>cases h;rfl
theorem VR.iK{e:List (List AV)}(h:VR gh n w v (.slice e false)):PR gh.S w v (.slice e false):=by cases h with|plain _ _ h=>exact h
theorem VR.uR{cs:List AV}(h:VR gh n w v (.eptr cs)):PR gh.S w v (.eptr cs):=by cases h with|plain _ _ h=>exact h
theorem VR.lS{loc off:Nat}(h:VR gh n w v (.ref loc off)):loc<n/\v=.pointer (some ⟨gh.ρ loc,off,none⟩):=by
 cases h with
 | plain _ _ h=>cases h
 | ref _ _ h=>exact⟨h,rfl⟩
theorem VR.jA{loc off k z:Nat}(h:VR gh n w v (.sref loc off k z)):loc<n/\∃ cap,k<=cap/\(z≠0->∃ ty,pR w (gh.ρ loc) ty (off+cap*z))/\v=.slice (some ⟨gh.ρ loc,off,none⟩) k cap:=by
 cases h with
 | plain _ _ h=>cases h
 | sref _ _ _ cap _ h hk hz=>exact⟨h,cap,hk,hz,rfl⟩
theorem VR.nR{loc:Nat}(h:VR gh n w v (.mref loc)):loc<n/\v=.map (some (gh.ρ loc)):=by
 cases h with
 | plain _ _ h=>cases h
 | mref _ h=>exact⟨h,rfl⟩
theorem VR.rK{f:Fn}{xs ys:List AV}(h:VR gh n w v (.func f xs ys)):∃ fs cs,v=.func f fs cs/\fs.size=xs.length/\cs.size=ys.length /\
  (∀ (j:Nat) (v:Value) (x:AV),fs[j]?=some v->xs[j]?=some x->VR gh n w v x)/\(∀ (j:Nat) (v:Value) (x:AV),cs[j]?=some v->ys[j]?=some x->VR gh n w v x):=by
 cases h with
 | plain _ _ h=>cases h;exact⟨#[],#[],rfl,rfl,rfl,fun j v x h=>by simp at h,fun j v x h=>by simp at h⟩
 | func _ fs cs _ _ hf hc h1 h2=>exact⟨fs,cs,rfl,hf,hc,h1,h2⟩
theorem VR.jQ{xs:List AV}(h:VR gh n w v (.agg xs)):∃ cs:Array Value,v=.agg cs/\cs.size=xs.length/\(∀ (j:Nat) (v:Value),cs[j]?=some v->v.oneCell'=true) /\
  (∀ (j:Nat) (v:Value) (x:AV),cs[j]?=some v->xs[j]?=some x->VR gh n w v x):=by
 cases h with
 | plain _ _ h=>cases h
 | agg cs _ hs fX h=>exact⟨cs,rfl,hs,fX,h⟩
theorem VR.sv{xs:List AV}(h:VR gh n w v (.tuple xs)):∃ vs:Array Value,v=.tuple vs/\vs.size=xs.length /\
  (∀ (j:Nat) (v:Value) (x:AV),vs[j]?=some v->xs[j]?=some x->VR gh n w v x):=by
 cases h with
 | plain _ _ h=>cases h
 | tuple vs _ hs h=>exact⟨vs,rfl,hs,h⟩
theorem VR.Nl(h:VR gh n w v .undef):v=undef:=by
 obtain⟨vs,rfl,hs,_⟩:=h.sv
 have:vs=#[]:=arw (by simpa using hs)
 subst this;rfl
end
theorem VR.undef{gh:Gh}{n:Nat}{w:World} : VR gh n w undef .undef:=.tuple #[] [] rfl (fun j v x h=>by simp at h)
theorem ur{gh:Gh}{n:Nat}{w:World}{v:Value}{x:AV}(h:jO v=some x):VR gh n w v x:=by
 unfold jO at h
 split at h<;>first|(injection h with h;subst h)|cases h
 ·exact .plain _ _ (.bool _)
 ·exact .plain _ _ (.int _ _)
 ·exact .plain _ _ (.str _ _ rfl)
 ·exact .full none 0 [] .cW trivial
 ·exact .plain _ _ .dh
 ·exact .plain _ _ .cN
 ·exact .plain _ _ .cz
 ·exact .plain _ _ .bV
theorem jb{gh:Gh}{n:Nat}{w:World} : ∀ {vs:List Value} {xs:List AV},dv vs=some xs->vs.length=xs.length /\
  ∀ (j:Nat) (v:Value) (x:AV),vs[j]?=some v->xs[j]?=some x->VR gh n w v x/\v.oneCell'=true
 | [],xs,h=>by simp[dv] at h;subst h;exact⟨rfl,fun j v x h=>by simp at h⟩
 | v :: r,xs,h=>by
  simp only[dv,apu,apt] at h
  obtain⟨x,hx,ys,hy,rfl⟩:=h
  obtain⟨h1,h2⟩:=jb (gh:=gh) (n:=n) (w:=w) hy
  refine⟨by simp[h1],fun j u y hu hy=>?_⟩
  cases j with
  | zero =>
   simp at hu hy
   subst hu hy
   refine⟨ur hx,?_⟩
   unfold jO at hx
   split at hx<;>first|rfl|cases hx
  | succ j=>exact h2 j u y (by simpa using hu) (by simpa using hy)
theorem IF{gh:Gh}{n:Nat}{w:World}{v:Value}{x:AV}(h:jO v=some x):VR gh n w v (mS x):=by
 have h0:=ur (gh:=gh) (n:=n) (w:=w) h
 unfold jO at h
 split at h<;>first|(injection h with h;subst h)|cases h
 all_goals first|exact h0|exact .plain _ _ .ae
theorem sV:∀ {vs:List Value} {xs:List AV},dv vs=some xs->∀ (j:Nat) (v:Value) (x:AV),vs[j]?=some v->xs[j]?=some x->jO v=some x
 | [],_,_,j,v,x,hv,_=>by simp at hv
 | u :: r,xs,h,j,v,x,hv,hx=>by
  simp only[dv,apu,apt] at h
  obtain⟨y,hy,ys,Nf,rfl⟩:=h
  cases j with
  | zero=>simp at hv hx;subst hv hx;exact hy
  | succ j=>exact sV Nf j v x (by simpa using hv) (by simpa using hx)
theorem iQ{gh:Gh}{n:Nat}{w:World}{v:Value}{x:AV}(h:rl v=some x):VR gh n w v x:=by
 unfold rl at h
 split at h
 ·rename_i vs
  simp only[apt] at h
  obtain⟨l,hl,rfl⟩:=h
  obtain⟨h1,h2⟩:=jb (gh:=gh) (n:=n) (w:=w) hl
  refine .agg vs _ (by simpa using h1) (fun j v hv=>?_) (fun j v x hv hx=>?_)
  ·have hj:vs.toList[j]?=some v:=by simpa using hv
   obtain⟨y,hy⟩:∃ y,l[j]?=some y:=by
    have:j<vs.toList.length:=(apw.1 hj).1
    exact⟨_,apy (by omega)⟩
   exact (h2 j v y hj hy).2
  ·rw[apG,apt] at hx
   obtain⟨y,hy,rfl⟩:=hx
   exact IF (sV hl j v y (by simpa using hv) hy)
 ·exact ur h
section
variable {G:Nat->List AV}{base nt:Nat}{L:List Nat}{gh:Gh}{w:World}{a:Act}{s:AS}{x:Operand}{y:ar}
theorem Vn(hW:aM G base s.H gh w)(g:Nat):VR gh s.H.length w (.pointer (some ⟨g,0,none⟩)) (.eptr (G g)):=by
 refine .plain _ _ ?_
 let f:Nat->Value:=fun j=>(w.cell? ⟨g,j,none⟩).getD undef
 refine .eptr g 0 (G g) f ?_ ?_
 ·intro j x h
  obtain⟨v,hv,hp,hs⟩:=hW.aO g j x h
  refine⟨by simpa using hs,by simp[f,hv],?_⟩
  simp only[f,hv,Option.getD_some];exact hp.fg
 ·intro j x h
  obtain⟨v,hv,hp,hs⟩:=hW.aO g j x h
  simp only[f,hv,Option.getD_some];exact hp
theorem arg_val(hW:aM G base s.H gh w)(hF:FR L nt gh w a s)(hc:ak nt x=some y) :
  mA gh s.H.length nt w s.T s.gen (fB a) (a.eval x) (y.addr G s.T).drop:=by
 cases x with
 | tmp t =>
  simp only[ak] at hc
  rcases aql (Nat.blt t nt) with hb|hb<;>rw[hb] at hc<;>simp at hc
  subst hc
  have aU:t<nt:=by simpa [ap0] using hb
  have h:=hF.slot t aU
  show mA gh s.H.length nt w s.T s.gen (fB a) (fB a t) _
  change SR gh s.H.length nt w s.T s.gen (fB a) t (fB a t) (s.T t) at h
  simp only[ar.addr]
  generalize hX:s.T t=X at h
  cases X
  case lbox g cs =>
   obtain⟨hg,b,hv,_⟩:=h
   refine⟨aU,hg,fun _ b' gb=>gb⟩
  case lsl g e=>exact⟨aU,h.1,fun _=>rfl⟩
  case lref=>exact h
  case lsr=>exact h
  case eref=>exact h
  case iter g kz ka va cur todo =>
   obtain⟨_,b,hv,_⟩:=h
   rw[hv]
   exact .cK (.plain _ _ (.any _ rfl))
  all_goals exact .cK (CR.dropped h)
 | const v =>
  simp only[ak,apt] at hc
  obtain⟨z,hz,rfl⟩:=hc
  exact .cK (VR.dropped (iQ hz))
 | global g =>
  simp only[ak,apv] at hc
  subst hc
  exact .cK (VR.dropped (Vn hW g))
 | func f =>
  simp only[ak,apv] at hc
  subst hc
  exact .cK (.plain _ _ (.func _))
theorem LW{T:ax}(h:aP (y.eval G T)=none):y.addr G T=y.eval G T:=by
 cases y with
 | tmp t =>
  simp only[ar.addr,ar.eval] at h ⊢
  cases hX:T t<;>rw[hX] at h<;>first|rfl|(simp[aP] at h)
 | cr v=>rfl
 | aO g=>rfl
 | fn f=>rfl
theorem mA.vr{n:Nat}{T:ax}{gen:Nat}{tm:Nat->Value}{v:Value}{z:AV}(h:mA gh n nt w T gen tm v z)(hz:aq z=true):VR gh n w v z:=by
 cases z<;>first|exact h|(simp[aq] at hz)
theorem gK{z:AV} : aq z.drop=aq z:=by cases z<;>rfl
theorem cc(hW:aM G base s.H gh w)(hF:FR L nt gh w a s)(hc:ak nt x=some y){z:AV}(hz:y.eval G s.T=z)(hf:aq z=true) :
  VR gh s.H.length w (a.eval x) z.drop:=by
 have hg:aP (y.eval G s.T)=none:=by rw[hz];cases z<;>first|rfl|(simp[aq] at hf)
 have h:=arg_val hW hF hc
 rw[LW hg,hz] at h
 exact h.vr (by rw[gK];exact hf)
theorem mV(hW:aM G base s.H gh w)(hF:FR L nt gh w a s)(hc:ak nt x=some y){z:AV}(hz:y.addr G s.T=z)(hf:aq z=true) :
  VR gh s.H.length w (a.eval x) z.drop:=by
 have h:=arg_val hW hF hc
 rw[hz] at h
 exact h.vr (by rw[gK];exact hf)
theorem B0(hF:FR L nt gh w a s){t:Nat}(aU:t<nt){e:List (List AV)}{own:Bool}(hz:s.T t=.slice e own):CR gh s.H.length w (.sl t) (a.eval (.tmp t)) (.slice e own):=by
 have h:=hF.slot t aU
 rw[hz] at h
 exact h
end
end
section
section
variable {P:Program}{G:Nat->List AV}{base nt:Nat}{L:List Nat}{gh:Gh}{w:World}{a:Act}{s:AS}
theorem ab{α:Type}{b:Bool}{x:Option α}{y:α}(h:cond b x none=some y):b=true/\x=some y:=by cases b<;>simp_all
theorem aaN(hW:aM G base s.H gh w)(hF:FR L nt gh w a s){x:Operand}{y:ar}{take obj:Bool}{z:AV}(hc:ak nt x=some y)
  (he:lu G s take obj y=some (z,none)):mA gh s.H.length nt w s.T s.gen (fB a) (a.eval x) z:=by
 have h:=arg_val hW hF hc
 cases y with
 | tmp t =>
  simp only[lu] at he
  simp only[ar.addr] at h
  generalize hX:s.T t=X at h he
  cases X<;>simp only[apv,apx,aqU] at he<;>(try subst he)<;>(try exact h)
  case slice e own =>
   cases take<;>cases own<;>simp at he<;>subst he<;>exact h
  case lsl g e =>
   cases take
   ·simp at he;subst he;exact h
   ·cases obj
    ·cases hn:jh e<;>rw[hn] at he<;>simp at he
    ·simp at he
  case iter=>cases he
 | cr v =>
  simp only[lu,ar.eval,apv,apx,aqU] at he
  subst he
  cases x<;>simp only[ak,apt,apv,reduceCtorEq,ar8,arO] at hc
  case tmp t=>exact absurd (ab hc).2 (by simp)
  case const v' =>
   obtain⟨z,hz,hy⟩:=hc
   injection hy with hy
   subst hy
   exact .cK (iQ hz)
 | aO g =>
  simp only[lu,ar.eval,apv,apx,aqU] at he
  subst he
  exact h
 | fn f =>
  simp only[lu,ar.eval,apv,apx,aqU] at he
  subst he
  exact h
theorem kA(hW:aM G base s.H gh w)(hF:FR L nt gh w a s){x:Operand}{y:ar}(hc:ak nt x=some y){k:Nat}(h:asNat (y.eval G s.T)=some k) :
  ∃ kd,a.eval x=.int kd (k:Int):=by
 unfold asNat at h
 split at h
 ·rename_i kd m hy
  obtain⟨h0,h1⟩:=ab h
  have hm:(0:Int)<=m:=by simpa using h0
  have h1' : m.toNat=k:=by simpa using h1
  have hv:=(cc hW hF hc hy rfl).jR
  exact⟨kd,by rw[hv,<- h1',Int.toNat_of_nonneg hm]⟩
 ·cases h
theorem mZ{t:TypeId}{k:Nat}(h:dg P t=some k):∃ i,P.info? t=some i/\i.size=k:=by
 simpa [dg,apt] using h
theorem dE{t:TypeId}{k:Nat}(h:dg P t=some k)(w:World):(sizeOf t).run P w=.ok k w:=by
 obtain⟨i,hi,hk⟩:=mZ h
 simp[sizeOf,typeInfo,hi,hk]
theorem iu{t:TypeId}{g:Bool}(h:lj P t=some g)(w:World):(isAgg t).run P w=.ok g w:=by
 unfold lj at h
 simp only[apt] at h
 obtain⟨d,hd,hg⟩:=h
 unfold isAgg
 rw[Sem.run_bind,run_underlying hd w]
 subst hg
 cases d<;>rfl
theorem gI(b o k:Nat):(⟨b,o,none⟩:Addr).add k=⟨b,o+k,none⟩:=by unfold Addr.add;split<;>simp_all
theorem ku{n:Nat}{agg:Bool}{sz off:Nat}{cs:List AV}{z:AV}(hl:ah false agg sz off cs=some z){t:TypeId}(hg:lj P t=some agg)(hs:dg P t=some sz)
  {b o:Nat} {f:Nat->Value} (hf:∀ (j:Nat) (x:AV),cs[j]?=some x->w.cell? ⟨b,o+j,none⟩=some (f j)/\(f j).oneCell'=true/\VR gh n w (f j) x.drop) :
  ∃ v,(loadVar t ⟨b,o+off,none⟩).run P w=.ok v w/\VR gh n w v z:=by
 unfold ah at hl
 cases agg
 ·simp only[apE,apt] at hl
  obtain⟨x,hx,rfl⟩:=hl
  obtain⟨h1,h2,h3⟩:=hf off x hx
  refine⟨f off,?_,h3⟩
  simp[loadVar,iu hg,h1]
 ·simp only[cond_true] at hl
  obtain⟨h0,h1⟩:=ab hl
  have h0' : off+sz<=cs.length:=by simpa [Nat.ble_eq] using h0
  injection h1 with h1
  subst h1
  have tF:(loadCells ⟨b,o+off,none⟩ sz).run P w=.ok ((List.range sz).map fun j=>f (off+j)).toArray w :=
   run_loadCells w _ sz (fun j=>f (off+j)) fun j hj=>by
    have aU:off+j<cs.length:=by omega
    have:=(hf (off+j) _ (apy aU)).1
    rw[gI,aq'];exact this
  refine⟨.agg ((List.range sz).map fun j=>f (off+j)).toArray,by simp[loadVar,iu hg,dE hs,tF],?_⟩
  have hlen:(((cs.drop off).take sz).map AV.drop).length=sz:=by simp;omega
  refine .agg _ _ (by simp[hlen];omega) ?_ ?_
  ·intro j v hj
   simp only[apW,apG,apt] at hj
   obtain⟨k,hk,rfl⟩:=hj
   have gm:=apw.1 hk
   obtain⟨aU,HX⟩:=gm
   simp at aU HX
   subst HX
   exact (hf (off+j) _ (apy (by omega))).2.1
  ·intro j v x hj hx
   simp only[apW,apG,apt] at hj hx
   obtain⟨k,hk,rfl⟩:=hj
   obtain⟨aU,HX⟩:=apw.1 hk
   simp at aU HX
   subst HX
   obtain⟨y,hy,rfl⟩:=hx
   rw[apR,ap'] at hy
   rw[if_pos aU] at hy
   exact (hf (off+j) y hy).2.2
theorem vb(hF:FR L nt gh w a s){b g:Nat}{cs:List AV}(hb:b<nt)(hT:s.T b=.lbox g cs) :
  ∃ k,fB a b=.pointer (some ⟨k,0,none⟩)/\gR gh s.H.length w k (.bx b) (fun j=>.sc b j) cs:=by
 have h:=hF.slot b hb
 rw[hT] at h
 exact h.2
theorem n4(hF:FR L nt gh w a s){b g:Nat}{e:List (List AV)}(hb:b<nt)(hT:s.T b=.lsl g e):qY gh w (.bx b) (fB a b) e:=by
 have h:=hF.slot b hb
 rw[hT] at h
 exact h.2
theorem pj{n b:Nat}{p:bc}{q:Nat->bc}{cs:List AV}(h:gR gh n w b p q cs) :
  ∃ f:Nat->Value,∀ (j:Nat) (x:AV),cs[j]?=some x->w.cell? ⟨b,0+j,none⟩=some (f j)/\(f j).oneCell'=true/\VR gh n w (f j) x.drop:=by
 obtain⟨_,_,C,ty,hb,hC,fF⟩:=h
 refine⟨fun j=>C.getD j undef,fun j x hx=>?_⟩
 have hj:j<cs.length:=(apw.1 hx).1
 have hJ:j<C.size:=by omega
 have hv:C[j]?=some C[j]:=apJ hJ
 obtain⟨h1,h2⟩:=fF j _ x hv hx
 refine⟨by rw[Nat.zero_add,cell_of_row w b j C ty _ hb];simp[hJ],by simpa [hJ] using h1,by simpa [hJ] using h2.dropped⟩
theorem U2(hW:aM G base s.H gh w)(hF:FR L nt gh w a s){t:TypeId}{x:Operand}{y:ar}{take agg:Bool}{sz:Nat}{z:AV}(hc:ak nt x=some y)(hg:lj P t=some agg)(hs:dg P t=some sz)
  (he:cQ s take agg sz (y.addr G s.T)=some (z,none)) :
  ∃ v,(Instr.loadAt t (a.eval x)).run P w=.ok v w/\mA gh s.H.length nt w s.T s.gen (fB a) v z:=by
 have hv:=arg_val hW hF hc
 have Lp:∀ {n:Nat} {off:Nat} {cs:List AV} {v:AV},ah take agg sz off cs=some v->(take&&!agg)=false->ah false agg sz off cs=some v:=by
  intro n off cs v h1 h2
  cases take
  ·exact h1
  ·cases agg
   ·cases h2
   ·exact h1
 generalize hY:y.addr G s.T=Y at hv he
 cases Y<;>simp only[cQ] at he<;>try (cases he;done)
 case eptr cs =>
  simp only[apt,apx,aqU] at he
  obtain⟨u,hu,rfl⟩:=he
  have hp:=VR.uR (hv:VR gh s.H.length w (a.eval x) (.eptr cs))
  generalize hA:a.eval x=V at hp
  cases hp with
  | eptr b o _ f cP cy =>
   obtain⟨v,h1,h2⟩:=ku (gh:=gh) (n:=s.H.length) hu hg hs (b:=b) (o:=o) (f:=f)
    (fun j x hx=>⟨(cP j x hx).2.1,(cP j x hx).2.2,VR.dropped (.plain _ _ (cy j x hx))⟩)
   refine⟨v,?_,.cK h2⟩
   simpa [Instr.loadAt,Instr.sureAddr] using h1
 case ref loc off =>
  obtain⟨aU,mC⟩:=VR.lS (hv:VR gh s.H.length w (a.eval x) (.ref loc off))
  split at he
  ·rename_i Ox cs hH
   simp only[apt,apx] at he
   obtain⟨u,hu,rfl,hn⟩:=he
   have hq:(take&&!agg)=false:=by cases h:(take&&!agg)<;>simp_all
   obtain⟨f,hf⟩:=pj (hW.boxes loc _ cs hH)
   obtain⟨v,h1,h2⟩:=ku (gh:=gh) (n:=s.H.length) (Lp (n:=0) hu hq) hg hs (b:=gh.ρ loc) (o:=0) (f:=f) hf
   refine⟨v,?_,.cK h2⟩
   rw[mC]
   simpa [Instr.loadAt,Instr.sureAddr] using h1
  ·rename_i cs hH
   simp only[apt,apx,aqU] at he
   obtain⟨u,hu,rfl⟩:=he
   have hp:PR gh.S w (.pointer (some ⟨gh.ρ loc,0,none⟩)) (.eptr cs):=hW.more loc _ hH
   generalize hB:gh.ρ loc=b0 at hp mC
   cases hp with
   | eptr b o _ f cP cy =>
    obtain⟨v,h1,h2⟩:=ku (gh:=gh) (n:=s.H.length) hu hg hs (b:=b0) (o:=0) (f:=f)
     (fun j x hx=>⟨(cP j x hx).2.1,(cP j x hx).2.2,VR.dropped (.plain _ _ (cy j x hx))⟩)
    refine⟨v,?_,.cK h2⟩
    rw[mC]
    simpa [Instr.loadAt,Instr.sureAddr] using h1
  ·rename_i cs hH
   simp only[apt,apx,aqU] at he
   obtain⟨u,hu,rfl⟩:=he
   obtain⟨f,hf⟩:=pj (hW.more loc _ hH:gR gh s.H.length w (gh.ρ loc) (.hb loc) (fun j=>.hs loc j) cs)
   obtain⟨v,h1,h2⟩:=ku (gh:=gh) (n:=s.H.length) hu hg hs (b:=gh.ρ loc) (o:=0) (f:=f) hf
   refine⟨v,?_,.cK h2⟩
   rw[mC]
   simpa [Instr.loadAt,Instr.sureAddr] using h1
  ·cases he
 case lref b g off =>
  obtain⟨hb,Jq,hr⟩:=(hv:_/\_/\_)
  split at he
  ·rename_i g' cs hT
   obtain⟨h0,tH⟩:=ab he
   clear he
   have DX:g=g':=by simpa [dX] using h0
   subst DX
   rename _=some (z,none)=>he
   simp only[apt,apx] at he
   obtain⟨u,hu,rfl,hn⟩:=he
   have hq:(take&&!agg)=false:=by cases h:(take&&!agg)<;>simp_all
   obtain⟨k,hk,M0⟩:=vb hF hb hT
   have mC:=hr (by rw[hT];rfl) k hk
   obtain⟨f,hf⟩:=pj M0
   obtain⟨v,h1,h2⟩:=ku (gh:=gh) (n:=s.H.length) (Lp (n:=0) hu hq) hg hs (b:=k) (o:=0) (f:=f) hf
   refine⟨v,?_,.cK h2⟩
   rw[mC]
   simpa [Instr.loadAt,Instr.sureAddr] using h1
  ·cases he
 case eref b g i zz off =>
  obtain⟨hb,Jq,hr⟩:=(hv:_/\_/\_)
  split at he
  ·rename_i g' e hT
   obtain⟨h0,tH⟩:=ab he
   clear he
   have DX:g=g':=by simpa [dX] using h0
   subst DX
   rename _=some (z,none)=>he
   simp only[apu] at he
   obtain⟨r,K7,he⟩:=he
   obtain⟨h1,he⟩:=ab he
   have hz:r.length=zz:=by simpa [dX] using h1
   simp only[apt,apx,aqU] at he
   obtain⟨u,hu,rfl⟩:=he
   obtain⟨ad,cap,tZ,bI⟩:=n4 hF hb hT
   rcases bI with ⟨rfl,_⟩|⟨k,C,ty,jj,_,rfl,hκ,hS,K2,hC,hl,Qs,fF⟩
   ·simp at K7
   ·have mC:=hr (by rw[hT];rfl) k _ _ tZ
    have gM:jj=zz:=by rw[<- hz,Qs i r K7]
    subst gM
    obtain⟨v,h1,h2⟩:=ku (P:=P) (gh:=gh) (w:=w) (n:=s.H.length) hu hg hs (b:=k) (o:=i*jj) (f:=fun j=>C.getD (i*jj+j) undef) (fun j x hx=>by
     obtain⟨u,Uv,hu2⟩:=fF i j r x K7 hx
     have hj:i*jj+j<C.size:=(apD.1 Uv).1
     have tH:C.getD (i*jj+j) undef=u:=by
      rw[apJ hj] at Uv
      injection Uv with Uv
      simp[hj,Uv]
     rw[tH,cell_of_row w k _ C ty _ K2,Uv]
     exact⟨rfl,hu2.fg,VR.dropped (.plain _ _ hu2)⟩)
    refine⟨v,?_,.cK h2⟩
    rw[mC]
    simpa [Instr.loadAt,Instr.sureAddr] using h1
  ·cases he
end
end
end Go.Abs
