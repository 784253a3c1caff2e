/-
  A part of the proof of PrintLossless: AbsOm, AbsDefs, AbsMono, AbsWp.
-/
import Derived.KernelRfl
import Derived.Orders
set_option linter.unusedSimpArgs false
set_option linter.unusedVariables false
set_option linter.defProp false
noncomputable section
namespace Go
def tk {α:Type} {a:Option α} {f g:α} (h:a=some f) (e:f=g):a=some g:=e ▸ h
def auP:=@Option.map_eq_some_iff
def auQ:=@Option.bind_eq_some_iff
def auR:=@Option.some.injEq
def auS:=@List.getElem?_eq_getElem
def auT:=@Bool.and_eq_true
def auU:=@List.getElem?_eq_some_iff
def auV:=@Prod.mk.injEq
def auW:=@Option.bind_some
def auX:=@List.all_eq_true
def auY:=@List.mem_append
def auZ:=@Array.getElem?_eq_some_iff
def au0:=@List.mem_of_getElem?
def au1:=@decide_eq_true_eq
def au2:=@Option.map_some
def au3:=@List.getElem?_append_left
def au4:=@Nat.lt_irrefl
def au5:=@Int.toNat_natCast
def au6:=@Nat.mul_le_mul_right
def au7:=@Nat.add_zero
def au8:=@List.append_assoc
def au9:=@List.map_cons
def au':=@Array.getElem?_eq_getElem
def ava:=@List.mem_singleton
def avb:=@List.getElem?_cons_zero
def avc:=@List.length_eq_zero_iff
def avd:=@List.modify_zero_cons
def ave:=@decide_eq_false_iff_not
def avf:=@List.drop_eq_getElem_cons
def avg:=@Bool.not_eq_true'
def avh:=@Nat.blt_eq
def avi:=@List.mem_cons
def avj:=@List.getElem_mem
def avk:=@Bool.false_and
def avl:=@List.getElem?_of_mem
def avm:=@Nat.ble_eq
def avn:=@List.getElem?_take
def avo:=@List.flatten_cons
def avp:=@List.modify_succ_cons
def avq:=@List.take_of_length_le
def avr:=@List.take_length
def avs:=@eq_self
def avt:=@Nat.zero_add
def avu:=@List.getElem?_toArray
def avv:=@Bool.true_and
def avw:=@List.length_drop
def avx:=@Nat.le_trans
def avy:=@List.getElem?_cons_succ
def avz:=@Bool.or_eq_false_iff
def avA:=@Nat.ble_eq_true_of_le
def avB:=@beq_iff_eq
def avC:=@List.map_nil
def avD:=@Array.getElem?_toList
def avE:=@List.not_mem_nil
def avF:=@Option.some.inj
def avG:=@Nat.add_mul
def avH:=@Int.tmod_eq_emod_of_nonneg
def avI:=@Bool.and_true
def avJ:=@List.getElem?_append
def avK:=@List.length_take
def avL:=@List.mem_of_mem_take
def avM:=@List.nil_append
def avN:=@Option.getD_some
def avO:=@List.getElem?_set
def avP:=@Bool.false_or
def avQ:=@Bool.not_eq_false'
def avR:=@Nat.eq_of_beq_eq_true
def avS:=@Nat.le_of_ble_eq_true
def avT:=@List.map_map
def avU:=@List.cons_append
def avV:=@List.take_zero
def avW:=@Bool.not_true
def avX:=@Bool.or_self
def avY:=@List.getElem?_drop
def avZ:=@and_true
def av0:=@List.length_singleton
def av1:=@decide_eq_false
def av2:=@List.take_succ_cons
def av3:=@List.mem_cons_of_mem
def av4:=@Bool.false_eq_true
def av5:=@Bool.not_false
def av6:=@Option.map_none
def av7:=@Bool.eq_false_or_eq_true
def av8:=@List.flatten_nil
def av9:=@bne_eq_false_iff_eq
def av':=@List.drop_drop
def awa:=@List.cons.injEq
def awb:=@Nat.lt_of_lt_of_le
def awc:=@Nat.le_of_eq
def awd:=@List.length_eq_one_iff
def awe:=@List.size_toArray
def awf:=@Ne.symm
def awg:=@List.take_append_of_le_length
def awh:=@Nat.le_zero
def awi:=@List.ext_getElem?
def awj:=@List.take_add_one
def awk:=@or_false
def awl:=@Bool.or_eq_true
def awm:=@List.drop_left'
def awn:=@List.take_left'
def awo:=@List.length_pos_iff
def awp:=@Bool.or_false
def awq:=@Nat.not_lt
def awr:=@List.drop_length
def aws:=@List.mem_flatMap
def awt:=@Nat.le_max_right
def awu:=@congrArg
def awv:=@List.mem_range
def aww:=@List.mem_append_left
def awx:=@Nat.le_of_lt
def awy:=@Array.getElem?_push
def awz:=@List.drop_succ_cons
def awA:=@List.contains_cons
def awB:=@List.take_append_drop
def awC:=@List.mem_or_eq_of_mem_set
def awD:=@Option.isNone_iff_eq_none
def awE:=@if_true
def awF:=@Nat.beq_refl
def awG:=@Nat.sub_self
def awH:=@Array.eq_empty_of_size_eq_zero
def awI:=@List.all_append
def awJ:=@Nat.le_max_left
def awK:=@Nat.mul_one
def awL:=@true_and
def awM:=@List.drop_append_of_le_length
def awN:=@Array.mem_of_getElem?
def awO:=@List.mem_append_right
def awP:=@Option.map_map
def awQ:=@Array.ext'
def awR:=@List.map_toArray
def awS:=@List.mem_flatten
def awT:=@Nat.add_le_add_right
def awU:=@Nat.lt_succ_self
def awV:=@Int.tdiv_eq_ediv_of_nonneg
def awW:=@List.mem_map_of_mem
def awX:=@beq_eq_false_iff_ne
def awY:=@List.getElem?_zip_eq_some
def awZ:=@List.isEmpty_eq_false_iff
def aw0:=@UInt8.toNat_inj
def aw1:=@List.set_cons_succ
def aw2:=@Nat.zero_mul
def aw3:=@Nat.beq_eq
def aw4:=@Nat.lt_trichotomy
def aw5:=@List.zipWith_cons_cons
def aw6:=@Nat.one_mul
def aw7:=@List.sum_cons
def aw8:=@List.take_nil
def aw9:=@Bool.not_eq_true
def aw':=@List.isEmpty_iff
def axa:=@List.zipIdx_cons
def axb:=@Classical.choose_spec
def axc:=@dif_neg
def axd:=@Array.getElem?_setIfInBounds_ne
def axe:=@List.mem_filter
def axf:=@Nat.lt_or_ge
def axg:=@Int.toNat_of_nonneg
def axh:=@List.set_cons_zero
def axi:=@Nat.add_sub_cancel
def axj:=@List.exists_cons_of_ne_nil
def axk:=@Nat.add_assoc
def axl:=@List.isEmpty_cons
def axm:=@Array.toList_map
def axn:=@List.eq_of_mem_replicate
def axo:=@List.filter_cons
def axp:=@Nat.add_comm
def axq:=@Nat.le_of_not_lt
def axr:=@List.foldl_cons
def axs:=@List.head?_cons
def axt:=@List.nodup_cons
def axu:=@Nat.min_eq_left
def axv:=@Array.getElem?_extract
def axw:=@Option.map_eq_none_iff
def axx:=@List.Perm.refl
def axy:=@List.getElem?_zipWith
def axz:=@UInt8.toNat_lt
def axA:=@dif_pos
def axB:=@Eq.trans
def axC:=@List.contains_eq_mem
def axD:=@List.getElem?_mapIdx
def axE:=@and_self
def axF:=@if_false
def axG:=@List.map_take
def axH:=@false_implies
def axI:=@Array.length_toList
def axJ:=@Array.toList_zipIdx
def axK:=@Function.comp_apply
def axL:=@List.filter_eq_self
def axM:=@List.getD_cons_zero
def axN:=@List.length_zipWith
def axO:=@List.replicate_zero
def axP:=@Bool.true_or
def axQ:=@Nat.mul_comm
def axR:=@forall_const
def axS:=@Int.le_refl
def axT:=@List.map_id
def axU:=@decide_true
end Go
namespace Go.Abs
variable {b:Bool}{d i m:Nat}{α:Type}
section
section
variable {P A:Prop}
def ah(z:P:=by omega):P:=z
def ag(z:P:=by simp):P:=z
def a8(z:P:=by decide):P:=z
def Bl(z:P:=by kernel_rfl):P:=z
def dw(z:P:=by simp;omega):P:=z
def ko(z:P:=by simp only[List.length_append,List.length_cons,List.length_nil];omega):P:=z
def cT(a:A)(z:A->P:=by intro a;simpa using a):P:=z a
def xD(a:A)(z:A->P:=by intro a;simp[a]):P:=z a
end
end
section
inductive AV where
 | bool (b:Bool)
 | int (k:IntKind) (n:Int)
 | str (l:List UInt8)
 | any
 | kX|kq|kH|de
 | slice (elems:List (List AV)) (own:Bool)
 | eptr (cells:List AV)
 | ref (loc off:Nat)
 | sref (loc off n z:Nat)
 | mref (loc:Nat)
 | iW (kz:Nat) (ka va:Bool) (es:List (List AV))
 | mn (kz:Nat) (ka va:Bool) (es:List (List AV))
 | iter (g kz:Nat) (ka va:Bool) (cur:List AV) (todo:List (List AV))
 | lbox (g:Nat) (cells:List AV)
 | lref (s g off:Nat)
 | lsl (g:Nat) (elems:List (List AV))
 | lsr (s g:Nat)
 | eref (s g i z off:Nat)
 | func (f:Fn) (first captured:List AV)
 | iface (t:TypeId) (v:AV)
 | agg (cells:List AV)
 | tuple (vs:List AV)
 | aq
 deriving Inhabited,Repr
abbrev AV.undef:AV:=.tuple []
inductive bM where
 | box (ty:TypeId) (cells:List AV)
 | map (kz:Nat) (ka va:Bool) (es:List (List AV))
 | iW (kz:Nat) (ka va:Bool) (es:List (List AV))
 | Tc (cells:List AV)
 | bV (cells:List AV)
 | dead
 deriving Inhabited,Repr
abbrev ae:=List bM
abbrev aD:=Nat->AV
def aD.put(T:aD)(d:Nat)(v:AV):aD:=fun i=>cond (Nat.beq i d) v (T i)
structure fR where
 heap:ae
 lo:Nat
 deriving Inhabited
abbrev gD:=FuncId->List AV->ae->Option (AV × Option fR)
inductive aE where
 | tmp (t:Nat)
 | xI (v:AV)
 | aW (g:Nat)
 | fn (f:FuncId)
 deriving Inhabited,Repr
inductive BY where
 | toInt (k:IntKind)
 | IE
 | Cf
 deriving Inhabited,Repr
inductive zy where
 | str
 | sl (sz:Nat)
 | arr (n sz:Nat)
 deriving Inhabited,Repr
inductive CK where
 | b|i|s
 deriving Inhabited,Repr,DecidableEq
inductive zq where
 | other|bool|iface|func
 | flat (ks:List CK)
 deriving Inhabited,Repr
inductive rT where
 | str|sl
 | arr (n:Nat)
 deriving Inhabited,Repr
inductive RA where
 | frame (b:Nat)
 | heap
 deriving Inhabited,Repr
inductive oc where
 | chk (c:RA) (x:aE)
 | mov (take obj:Bool) (x:aE)
 | pick (c a b:aE)
 | allocL (zero:List AV)
 | Hk (ty:TypeId) (zero:List AV)
 | boxL (x:aE)
 | box (ty:TypeId) (x:aE)
 | build (zero:List AV) (parts:List (Nat × Nat × aE))
 | mkslice (isB:Bool) (sz:Nat) (Lo:List (List AV)) (parts:List (Nat × aE))
 | yV (sz:Nat) (Lo:List (List AV)) (parts:List (Nat × aE))
 | load (take agg:Bool) (sz:Nat) (x:aE)
 | store (sz:Nat) (a v:aE)
 | nilCheck (x:aE)
 | bin (op:BinOp) (k:zq) (x y:aE)
 | un (op:UnOp) (x:aE)
 | mm (mx:Bool) (x y:aE)
 | conv (c:BY) (x:aE)
 | slice (k:zy) (x:aE) (lo hi mx:Option aE)
 | fieldAddr (off:Nat) (x:aE)
 | ixSl (sz:Nat) (x i:aE)
 | ixArr (n sz:Nat) (x i:aE)
 | index (agg:Bool) (n sz:Nat) (x i:aE)
 | rj (x i:aE)
 | extract (x:aE) (i:Nat)
 | len (k:rT) (x:aE)
 | append (isB wr:Bool) (sz bytes:Nat) (x y:aE)
 | appendO (sz bytes:Nat) (x y:aE)
 | copyO (x y:aE)
 | L1 (x:aE)
 | U3 (neg:Bool) (x:aE)
 | UX (sz bytes:Nat) (zero:List AV) (n:aE)
 | call (f:aE) (args:List aE)
 | Ch (f:aE) (args:List aE)
 | mkfunc (f:Fn) (first captured:List aE)
 | Kz (kz:Nat) (ka va:Bool)
 | look (ok:Bool) (kz:Nat) (ka va:Bool) (ks:List CK) (zero:List AV) (m k:aE)
 | Na (kz:Nat) (ka va:Bool) (vz:Nat) (ks:List CK) (m k v:aE)
 | rng (kz:Nat) (ka va:Bool) (m:aE)
 | next (it:aE)
 | ent (it:aE)
 | same (agg:Bool) (sz d:Nat) (x:aE)
 deriving Inhabited,Repr
structure aS where
 dst:Option Nat
 guard:Option (Nat × Bool)
 op:oc
 deriving Inhabited,Repr
inductive aH where
 | skip
 | region (ops:List aS)
 | qQ (ops:List aS) (pre:List (List Nat))
 | seq (a b:aH)
 | cond (c:aE) (a b:aH)
 | block (id:Nat) (a:aH)
 | loop (a:aH)
 | exit (id:Nat)
 | ret
 deriving Inhabited,Repr
inductive gY where
 | tmp (t:Nat)
 | cell (a:Nat) (agg:Bool) (sz:Nat)
 deriving Inhabited,Repr
structure ax where
 dW:List Nat
 locals:List Nat
 muts:List Nat
 nt:Nat
 np:Nat
 results:List gY
 body:aH
 deriving Inhabited,Repr
inductive bJ where
 | normal
 | exit (id:Nat)
 | ret
 deriving Inhabited,Repr,DecidableEq
structure AS where
 T:aD
 H:ae
 lo:Nat
 gen:Nat
def AV.cells:AV->Option (List AV)
 | .agg cs=>some cs
 | .any=>none
 | .tuple _=>none
 | .lbox ..=>none
 | .lref ..=>none
 | .lsl ..=>none
 | .lsr ..=>none
 | .eref ..=>none
 | .iter ..=>none
 | v=>some [v]
def AV.drop:AV->AV
 | .slice e _=>.slice e false
 | v=>v
def AV.dk:AV->AV
 | .agg cs=>.agg (cs.map AV.drop)
 | v=>v.drop
def AV.plain:AV->Bool
 | .bool _|.int ..|.str _|.any|.kX|.kq|.kH|.de|.eptr _|.iW ..|.mn ..|.aq=>true
 | .slice _ own=>!own
 | .func _ [] []=>true
 | .iface _ (.bool _)|.iface _ (.int ..)|.iface _ (.str _)|.iface _ .any|.iface _ .kX=>true
 | _=>false
def AV.elem(sz:Nat)(v:AV):Option (List AV) :=
 match v.cells with
 | none=>none
 | some cs =>
  let ds:=cs.map AV.drop
  cond (Nat.beq ds.length sz&&ds.all AV.plain) (some ds) none
def AV.bz(base:Nat):AV->Bool
 | .ref loc _=>Nat.blt loc base
 | .sref loc _ _ _=>Nat.blt loc base
 | .mref loc=>Nat.blt loc base
 | v=>v.plain
def AV.ft(base:Nat):AV->Bool
 | .agg cs=>cs.all (AV.bz base)
 | v=>v.bz base
def AV.leaves(base:Nat):AV->Bool
 | .func _ fs cs=>fs.all (AV.bz base)&&cs.all (AV.bz base)
 | .iface _ v=>v.bz base
 | .tuple vs=>vs.all (AV.ft base)
 | .slice ..=>true
 | v=>v.ft base
def fz:AV->Option Nat
 | .lbox g _=>some g
 | .lsl g _=>some g
 | .iter g ..=>some g
 | _=>none
def aE.eval(G:Nat->List AV)(T:aD):aE->AV
 | .tmp t=>T t
 | .xI v=>v
 | .aW g=>.eptr (G g)
 | .fn f=>.func (.func f) [] []
def asNat:AV->Option Nat
 | .int _ n=>cond (decide (0<=n)) (some n.toNat) none
 | _=>none
def cD:List CK->List AV->List AV->Option Bool
 | [],_,_=>some true
 | .b :: ks,.bool a :: xs,.bool b :: ys=>(cD ks xs ys).map (a==b&&·)
 | .i :: ks,.int j a :: xs,.int k b :: ys=>cond (decide (j=k)) ((cD ks xs ys).map (a==b&&·)) none
 | .s :: ks,.str a :: xs,.str b :: ys=>(cD ks xs ys).map (a==b&&·)
 | _,_,_=>none
def aa(op:BinOp)(k:IntKind)(a b:Int):Option AV :=
 match op with
 | .add=>some (.int k (k.wrap (a+b)))
 | .sub=>some (.int k (k.wrap (a-b)))
 | .mul=>some (.int k (k.wrap (a*b)))
 | .quo=>cond (decide (b=0)) none (some (.int k (k.wrap (a.tdiv b))))
 | .rem=>cond (decide (b=0)) none (some (.int k (a.tmod b)))
 | .eql=>some (.bool (a==b))
 | .neq=>some (.bool (a != b))
 | .lss=>some (.bool (decide (a<b)))
 | .leq=>some (.bool (decide (a<=b)))
 | .gtr=>some (.bool (decide (a>b)))
 | .geq=>some (.bool (decide (a>=b)))
 | _=>none
def cn(op:BinOp)(a b:List UInt8):Option AV :=
 match op with
 | .add=>cond (decide (a.length+b.length<=4611686018427387904)) (some (.str (a++b))) none
 | .eql=>some (.bool (a==b))
 | .neq=>some (.bool !(a==b))
 | .lss=>some (.bool (Op.bytesLess a b))
 | .leq=>some (.bool (Op.bytesLess a b || a==b))
 | .gtr=>some (.bool !(Op.bytesLess a b || a==b))
 | .geq=>some (.bool !(Op.bytesLess a b))
 | _=>none
def cq(op:BinOp)(b:Bool):Option AV :=
 match op with
 | .eql=>some (.bool b)
 | .neq=>some (.bool !b)
 | _=>none
def dc:aE->Bool
 | .xI _=>true
 | _=>false
def Av(op:BinOp)(q:zq)(xI:Bool)(x y:AV):Option AV :=
 match x,y with
 | .int j a,.int k b=>cond (decide (j=k)) (aa op j a b) none
 | .str a,.str b=>cn op a b
 | .bool a,.bool b=>(match q with|.bool=>cq op (a==b)|_=>none)
 | .agg xs,.agg ys=>(match q with|.flat ks=>(cD ks xs ys).bind fun b=>cq op b|_=>none)
 | x,.de=>cond (xI&&(match q with|.iface=>true|_=>false)) ((match x with|.de=>some true|.iface ..=>some false|_=>none).bind fun b=>cq op b) none
 | x,.kH=>cond (match q with|.func=>true|_=>false) ((match x with|.kH=>some true|.func ..=>some false|_=>none).bind fun b=>cq op b) none
 | _,_=>none
def gr(op:UnOp)(x:AV):Option AV :=
 match op,x with
 | .neg,.int k n=>some (.int k (k.wrap (0-n)))
 | .not,.bool b=>some (.bool !b)
 | _,_=>none
def aeW(mx:Bool)(x y:AV):Option AV :=
 match x,y with
 | .int k a,.int j b=>cond (decide (k=j)) (some (.int k (cond mx (if b>a then b else a) (if b<a then b else a)))) none
 | _,_=>none
def bytesOf:List (List AV)->Option (List UInt8)
 | []=>some []
 | [.int .u8 n] :: r=>(bytesOf r).map (UInt8.ofNat n.toNat :: ·)
 | _=>none
def cd(c:BY)(x:AV):Option AV :=
 match c,x with
 | .toInt k,.int _ n=>some (.int k (k.wrap n))
 | .IE,.str l=>some (.str l)
 | .Cf,.slice e _=>(bytesOf e).map .str
 | _,_=>none
def chunks(sz:Nat):Nat->List AV->List (List AV)
 | 0,_=>[]
 | n+1,l=>l.take sz :: chunks sz n (l.drop sz)
def bound(amk:Nat)(x:Option AV)(jy:Nat):Option Nat :=
 match x with
 | none=>some amk
 | some v=>(asNat v).bind fun n=>cond (Nat.ble n jy) (some n) none
def gF(sz:Nat)(e:List (List AV)):Bool:=(e.head?.map fun r=>Nat.beq r.length sz).getD true
def bD(k:zy)(x:AV)(lo hi mx:Option AV):Option AV :=
 match k,x with
 | .str,.str l=>(bound l.length hi l.length).bind fun h=>(bound 0 lo h).bind fun a=>cond mx.isNone (some (.str ((l.take h).drop a))) none
 | .sl sz,.slice e _=>(bound e.length mx e.length).bind fun m=>(bound e.length hi m).bind fun h=>(bound 0 lo h).bind fun a =>
   cond ((mx.isNone || hi.isSome)&&(lo.isNone || gF sz e)) (some (.slice ((e.take h).drop a) (mx.isSome&&Nat.beq m h))) none
 | .sl sz,.sref l o n z=>(bound n hi n).bind fun h=>(bound 0 lo h).bind fun a=>cond (mx.isNone&&Nat.beq z sz) (some (cond (Nat.blt a n) (.sref l (o+a*z) (h-a) z) (.slice [] false))) none
 | .arr n sz,.eptr cs=>cond (Nat.beq cs.length (n*sz)) ((bound n hi n).bind fun h=>(bound 0 lo h).bind fun a=>cond mx.isNone (some (.slice (((chunks sz n cs).take h).drop a) false)) none) none
 | _,_=>none
def cZ(k:rT)(x:AV):Option AV :=
 match k,x with
 | .str,.str l=>some (.int .i64 l.length)
 | .sl,.slice e _=>some (.int .i64 e.length)
 | .sl,.sref _ _ n _=>some (.int .i64 n)
 | .sl,.aq=>some (.int .i64 0)
 | .arr n,_=>some (.int .i64 n)
 | _,_=>none
def putAt(l:List AV)(off:Nat)(cs:List AV):List AV:=l.take off++cs++l.drop (off+cs.length)
def fw:List AV->List (Nat × Nat × AV)->Option (List AV)
 | cells,[]=>some cells
 | cells,(off,sz,v) :: r =>
  match v.cells with
  | none=>none
  | some cs=>cond (Nat.beq cs.length sz&&Nat.ble (off+cs.length) cells.length) (fw (putAt cells off (cs.map AV.drop)) r) none
def cQ(sz:Nat):List (List AV)->List (Nat × AV)->Option (List (List AV))
 | es,[]=>some es
 | es,(i,v) :: r =>
  match v.elem sz with
  | none=>none
  | some cs=>cond (Nat.blt i es.length) (cQ sz (es.set i cs) r) none
def ab(take agg:Bool)(sz off:Nat)(cs:List AV):Option AV :=
 cond agg (cond (Nat.ble (off+sz) cs.length) (some (.agg (((cs.drop off).take sz).map AV.drop))) none)
  ((cs[off]?).map fun v=>cond take v v.drop)
def cJ(off:Nat)(cs:List AV):List AV:=cs.modify off AV.drop
def AS.cy(s:AS)(t:Nat)(v:AV):AS:={ s with T:=s.T.put t v }
def AS.iF(s:AS)(c:fR):AS:={ s with H:=c.heap,lo:=cond (Nat.blt c.lo s.lo) c.lo s.lo }
def aE.addr(G:Nat->List AV)(T:aD):aE->AV
 | .tmp t=>match T t with
  | .lbox g _=>.lref t g 0
  | .lsl g _=>.lsr t g
  | .iter ..=>.any
  | v=>v
 | .xI v=>v
 | .aW g=>.eptr (G g)
 | .fn f=>.func (.func f) [] []
def cO(s:AS)(take agg:Bool)(sz:Nat)(x:AV):Option (AV × Option AS) :=
 match x with
 | .eptr cs=>(ab false agg sz 0 cs).map (·,none)
 | .ref loc off=>match s.H[loc]? with
  | some (.box ty cs)=>(ab take agg sz off cs).map fun v=>(v,cond (take&&!agg) (some (s.iF ⟨s.H.set loc (.box ty (cJ off cs)),loc⟩)) none)
  | some (.Tc cs)=>(ab false agg sz off cs).map (·,none)
  | some (.bV cs)=>(ab false agg sz off cs).map (·,none)
  | _=>none
 | .lref b g off=>match s.T b with
  | .lbox g' cs=>cond (Nat.beq g g') ((ab take agg sz off cs).map fun v=>(v,cond (take&&!agg) (some (s.cy b (.lbox g (cJ off cs)))) none)) none
  | _=>none
 | .eref b g i z off=>match s.T b with
  | .lsl g' e=>cond (Nat.beq g g') ((e[i]?).bind fun r=>cond (Nat.beq r.length z) ((ab false agg sz off r).map (·,none)) none) none
  | _=>none
 | _=>none
def iD(loc:Nat):AV->Bool
 | .ref l _=>Nat.ble l loc
 | .sref l _ _ _=>Nat.ble l loc
 | .mref l=>Nat.ble l loc
 | v=>v.drop.plain
def lU(loc:Nat):AV->Bool
 | .agg cs=>cs.all (iD loc)
 | v=>iD loc v
def aX(loc:Nat):AV->Bool
 | .ref l _=>Nat.ble l loc
 | .sref l _ _ _=>Nat.ble l loc
 | .mref l=>Nat.ble l loc
 | .func _ fs cs=>fs.all (lU loc)&&cs.all (lU loc)
 | v=>v.drop.plain
def aM:AV->Bool
 | .lref ..=>false
 | .lbox ..=>false
 | .lsl ..=>false
 | .lsr ..=>false
 | .eref ..=>false
 | .iter ..=>false
 | _=>true
def au(s:AS)(sz:Nat)(a v:AV):Option AS :=
 match v.cells with
 | none=>none
 | some vs=>cond (Nat.beq vs.length sz)
  (match a with
   | .ref loc off=>match s.H[loc]? with
    | some (.box ty cs)=>cond (Nat.ble (off+sz) cs.length&&vs.all (aX loc)) (some (s.iF ⟨s.H.set loc (.box ty (putAt cs off vs)),loc⟩)) none
    | some (.bV cs)=>cond (Nat.ble (off+sz) cs.length&&vs.all aM) (some (s.iF ⟨s.H.set loc (.bV (putAt cs off vs)),loc⟩)) none
    | _=>none
   | .lref b g off=>match s.T b with
    | .lbox g' cs=>cond (Nat.beq g g'&&Nat.ble (off+sz) cs.length&&vs.all aM) (some (s.cy b (.lbox g (putAt cs off vs)))) none
    | _=>none
   | .eref b g i z off=>match s.T b with
    | .lsl g' e=>cond (Nat.beq g g') ((e[i]?).bind fun r=>cond (Nat.beq r.length z&&Nat.ble (off+sz) r.length&&(vs.map AV.drop).all AV.plain) (some (s.cy b (.lsl g (e.set i (putAt r off (vs.map AV.drop)))))) none) none
    | _=>none
   | _=>none)
  none
abbrev bE:TypeId:=4294967295
def AS.bC(s:AS):aE->AS
 | .tmp t=>match s.T t with
  | .slice e true=>s.cy t (.slice e false)
  | _=>s
 | _=>s
def bu(sz:Nat):AV->Option (List (List AV))
 | .slice f _=>some f
 | .str l=>cond (Nat.beq sz 1) (some (l.map fun (b:UInt8)=>[AV.int .u8 b.toNat])) none
 | .aq=>some []
 | _=>none
abbrev jg:TypeId:=5
def nf(e:List (List AV)):Bool:=e.all fun r=>r.all fun|.int .u8 _=>false|.any=>false|_=>true
def nS(e:List (List AV)):Bool:=e.all fun|[.int .u8 _]=>true|_=>false
def mz(isB:Bool)(e:List (List AV)):Bool:=cond isB (nS e) (nf e)
def cE(sz bytes:Nat)(e f:List (List AV)):Bool :=
 Nat.ble ((e.length+f.length)*bytes) 70368744177664&&Nat.ble (e.length+f.length) 70368744177664&&gF sz e&&gF sz f
def aF(isB:Bool)(sz bytes:Nat)(x y:AV):Option AV :=
 match x with
 | .slice e own=>(bu sz y).bind fun f =>
  match f with
  | []=>some (.slice e own)
  | f=>cond (own&&cE sz bytes e f&&mz isB (e++f)) (some (.slice (e++f) true)) none
 | _=>none
def dZ(f:List (List AV)):Bool:=f.all fun r=>r.all AV.plain
def GH(x y:AV):Option AV :=
 match x with
 | .slice [] true=>(match y with|.slice [] _|.aq=>some (.slice [] false)|_=>none)
 | .aq=>(match y with|.slice [] _|.aq=>some .aq|_=>none)
 | _=>none
def jN(s:AS)(sz bytes:Nat)(x y:AV):Option (AV × Option AS) :=
 (bu sz y).bind fun f =>
  match x with
  | .slice [] true|.aq=>cond (!f.isEmpty&&cE sz bytes [] f&&dZ f) (some (.sref s.H.length 0 f.length sz,some (s.iF ⟨s.H++[.box bE f.flatten],s.H.length⟩))) none
  | .sref l o n z=>match s.H[l]? with
   | some (.box ty cs)=>cond (Nat.beq o 0&&Nat.beq z sz&&Nat.beq cs.length (n*sz)&&Nat.ble ((n+f.length)*bytes) 70368744177664&&Nat.ble (n+f.length) 70368744177664&&gF sz f&&dZ f)
     (some (.sref s.H.length 0 (n+f.length) sz,some (s.iF ⟨s.H.set l .dead++[.box bE (cs++f.flatten)],l⟩))) none
   | _=>none
  | _=>none
def ju(s:AS)(sz bytes:Nat)(x y:AV):Option (AV × Option AS) :=
 match GH x y with
 | some v=>some (v,none)
 | none=>jN s sz bytes x y
def yj(s:AS)(x y:AV):Option (AV × Option AS) :=
 match x,y with
 | .sref l o n z,.slice f _=>match s.H[l]? with
  | some (.bV cs)=>cond (Nat.beq z 1&&gF 1 f&&dZ f&&Nat.ble (o+n) cs.length)
    (some (.int .i64 (Nat.min f.length n),some (s.iF ⟨s.H.set l (.bV (putAt cs o (f.take (Nat.min f.length n)).flatten)),l⟩))) none
  | _=>none
 | .slice [] _,.slice _ _=>some (.int .i64 0,none)
 | _,_=>none
def U4:AV->Option Bool
 | .aq=>some true
 | .slice (_ :: _) _=>some false
 | _=>none
def BA(s:AS)(sz bytes:Nat)(zero:List AV)(n:AV):Option (AV × Option AS) :=
 (asNat n).bind fun k=>cond (Nat.ble (k*bytes) 70368744177664&&Nat.ble k 70368744177664)
  (some (.sref s.H.length 0 k sz,some (s.iF ⟨s.H++[.box bE (List.replicate k zero).flatten],s.H.length⟩))) none
def bI(off:Nat):AV->Option AV
 | .ref l o=>some (.ref l (o+off))
 | .lref b g o=>some (.lref b g (o+off))
 | .eref b g i z o=>some (.eref b g i z (o+off))
 | .eptr cs=>some (.eptr (cs.drop off))
 | _=>none
def aN(s:AS):AV->Bool
 | .ref ..=>true
 | .eptr _=>true
 | .lref b g _=>(match s.T b with|.lbox g' _=>Nat.beq g g'|_=>false)
 | .eref b g i _ _=>(match s.T b with|.lsl g' e=>Nat.beq g g'&&Nat.blt i e.length|_=>false)
 | _=>false
def gv(c:RA)(v:AV):Bool :=
 match c with
 | .frame b=>(match v with|.lref b' _ _=>Nat.beq b b'|_=>false)
 | .heap=>(match v with|.lref ..=>false|.eref ..=>false|.lsr ..=>false|_=>true)
def AV.isAgg:AV->Bool
 | .agg _=>true
 | _=>false
def yU(s:AS)(kz:Nat)(ka va:Bool)(m:AV):Option (List (List AV)) :=
 match m with
 | .iW p8 p7 p9 es=>cond (Nat.beq kz p8&&ka==p7&&va==p9) (some es) none
 | .mref l=>match s.H[l]? with
  | some (.map p8 p7 p9 es)=>cond (Nat.beq kz p8&&ka==p7&&va==p9) (some es) none
  | some (.iW p8 p7 p9 es)=>cond (Nat.beq kz p8&&ka==p7&&va==p9) (some es) none
  | _=>none
 | _=>none
def dX(ks:List CK)(kc:List AV):List (List AV)->Option (Option Nat)
 | []=>some none
 | r :: es=>(cD ks kc r).bind fun b=>cond b (some (some 0)) ((dX ks kc es).map fun o=>o.map (· + 1))
def qz(agg:Bool)(cs:List AV):AV:=cond agg (.agg (cs.map AV.drop)) ((cs.headD .undef).drop)
def AU(ok va:Bool)(cs:List AV)(found:Bool):AV :=
 let v:=cond va (.agg (cs.map AV.drop)) ((cs.headD .undef).drop)
 cond ok (.tuple [v,.bool found]) v
def pI(ok va:Bool)(zero:List AV)(kz:Nat)(es:List (List AV)):Option Nat->AV
 | none=>AU ok va zero false
 | some i=>AU ok va ((es.getD i []).drop kz) true
def tf:List AV->Option (List UInt8)
 | .str a :: _=>some a
 | _=>none
def ue:List (List AV)->Bool
 | []=>true
 | r :: es=>(match tf r with|some a=>es.all fun q=>(match tf q with|some b=>!(a==b)|none=>false)|none=>false)&&ue es
def Ux:List CK->List AV->Bool
 | [.s],[.str _]=>true
 | _,_=>false
def wU(s:AS)(ok:Bool)(kz:Nat)(ka va:Bool)(ks:List CK)(zero:List AV)(m k:AV):Option (AV × Option AS) :=
 k.drop.cells.bind fun kc=>cond (Nat.beq kc.length kz&&ka==k.drop.isAgg)
  (match m with
   | .kq=>some (AU ok va zero false,none)
   | .mn p8 p7 p9 es=>cond (Nat.beq kz p8&&ka==p7&&va==p9&&ue es&&Ux ks kc) ((dX ks kc es).map fun o=>(pI ok va zero kz es o,none)) none
   | m=>(yU s kz ka va m).bind fun es=>(dX ks kc es).map fun o=>(pI ok va zero kz es o,none)) none
def vR(es:List (List AV))(o:Option Nat)(r:List AV):List (List AV) :=
 match o with
 | none=>es++[r]
 | some i=>es.set i r
def sx(s:AS)(kz:Nat)(ka va:Bool)(vz:Nat)(ks:List CK)(m k v:AV):Option AS :=
 match m with
 | .mref l=>match s.H[l]? with
  | some (.map p8 p7 p9 es)=>k.drop.cells.bind fun kc=>v.cells.bind fun vc =>
    cond (Nat.beq kc.length kz&&Nat.beq vc.length vz&&Nat.beq kz p8&&ka==p7&&va==p9&&ka==k.drop.isAgg&&va==v.isAgg&&vc.all (aX l)&&kc.all AV.plain)
     ((dX ks kc es).map fun o=>s.iF ⟨s.H.set l (.map kz ka va (vR es o (kc++cond va (vc.map AV.drop) vc))),l⟩) none
  | _=>none
 | _=>none
mutual
def qm:AV->AV->Bool
 | .bool a,y=>match y with|.bool b=>a==b|_=>false
 | .int k a,y=>match y with|.int k' b=>k==k'&&a==b|_=>false
 | .str a,y=>match y with|.str b=>a==b|_=>false
 | .any,y=>match y with|.any=>true|_=>false
 | .kX,y=>match y with|.kX=>true|_=>false
 | .kq,y=>match y with|.kq=>true|_=>false
 | .kH,y=>match y with|.kH=>true|_=>false
 | .de,y=>match y with|.de=>true|_=>false
 | .aq,y=>match y with|.aq=>true|_=>false
 | .slice e o,y=>match y with|.slice f q=>Ba e f&&o==q|_=>false
 | .ref l o,y=>match y with|.ref l' o'=>l==l'&&o==o'|_=>false
 | .sref l o n z,y=>match y with|.sref l' o' n' z'=>l==l'&&o==o'&&n==n'&&z==z'|_=>false
 | .mref l,y=>match y with|.mref l'=>l==l'|_=>false
 | .agg a,y=>match y with|.agg b=>Mj a b|_=>false
 | .tuple a,y=>match y with|.tuple b=>Mj a b|_=>false
 | .iface t a,y=>match y with|.iface t' b=>t==t'&&qm a b|_=>false
 | .eptr a,y=>match y with|.eptr b=>Mj a b|_=>false
 | .lbox g a,y=>match y with|.lbox g' b=>g==g'&&Mj a b|_=>false
 | .lref s g o,y=>match y with|.lref s' g' o'=>s==s'&&g==g'&&o==o'|_=>false
 | .lsl g e,y=>match y with|.lsl g' f=>g==g'&&Ba e f|_=>false
 | .lsr s g,y=>match y with|.lsr s' g'=>s==s'&&g==g'|_=>false
 | .eref s g i z o,y=>match y with|.eref s' g' i' z' o'=>s==s'&&g==g'&&i==i'&&z==z'&&o==o'|_=>false
 | .iW kz ka va e,y=>match y with|.iW p8 p7 p9 f=>kz==p8&&ka==p7&&va==p9&&Ba e f|_=>false
 | .mn kz ka va e,y=>match y with|.mn p8 p7 p9 f=>kz==p8&&ka==p7&&va==p9&&Ba e f|_=>false
 | .iter g kz ka va c e,y=>match y with|.iter g' p8 p7 p9 c' f=>g==g'&&kz==p8&&ka==p7&&va==p9&&Mj c c'&&Ba e f|_=>false
 | .func f a c,y=>match y with|.func g b d=>decide (f=g)&&Mj a b&&Mj c d|_=>false
def Mj:List AV->List AV->Bool
 | [],y=>match y with|[]=>true|_=>false
 | a :: l,y=>match y with|b :: m=>qm a b&&Mj l m|_=>false
def Ba:List (List AV)->List (List AV)->Bool
 | [],y=>match y with|[]=>true|_=>false
 | a :: l,y=>match y with|b :: m=>Mj a b&&Ba l m|_=>false
end
section
variable (G:Nat->List AV)(cf:gD)
def qZ(s:AS)(take obj:Bool)(x:aE):Option (AV × Option AS) :=
 match x with
 | .tmp t=>match s.T t with
  | .lbox g _=>some (.lref t g 0,none)
  | .lsl g e=>cond take (cond obj (some (.lsl s.gen e,some { s.cy t .any with gen:=s.gen+1 })) (cond (nf e) (some (.slice e true,some (s.cy t (.slice e false)))) none)) (some (.lsr t g,none))
  | .slice e own=>some (.slice e (take&&own),cond (take&&own) (some (s.cy t (.slice e false))) none)
  | .iter ..=>none
  | v=>some (v,none)
 | x=>some (x.eval G s.T,none)
def br(s:AS)(isB wr:Bool)(sz bytes:Nat)(x y:aE):Option (AV × Option AS) :=
 match x with
 | .tmp t=>match s.T t with
  | .lsl _ e=>(bu sz (y.eval G s.T)).bind fun f=>cond (wr&&cE sz bytes e f) (some (.lsl s.gen (e++f),some { s.cy t .any with gen:=s.gen+1 })) none
  | .slice e own=>cond wr
    ((bu sz (y.eval G s.T)).bind fun f=>cond (e.isEmpty&&own&&cE sz bytes [] f) (some (.lsl s.gen f,some { s.cy t .any with gen:=s.gen+1 })) none)
    ((aF isB sz bytes (.slice e own) (y.eval G s.T)).map (·,some (s.cy t (.slice e false))))
  | .aq=>cond wr
    ((bu sz (y.eval G s.T)).bind fun f=>cond (cE sz bytes [] f) (some (.lsl s.gen f,some { s.cy t .any with gen:=s.gen+1 })) none)
    ((aF isB sz bytes (.slice [] true) (y.eval G s.T)).map (·,some s))
  | _=>none
 | x=>cond wr none ((aF isB sz bytes (x.eval G s.T) (y.eval G s.T)).map (·,none))
def aQ(s:AS)(o:oc):Option (AV × Option AS) :=
 match o with
 | .chk c x=>cond (gv c (x.addr G s.T)) (some (.undef,none)) none
 | .mov take obj x=>qZ G s take obj x
 | .pick c a b=>match c.eval G s.T with
  | .bool t=>some (cond t (a.addr G s.T).drop (b.addr G s.T).drop,none)
  | _=>none
 | .allocL zero=>some (.lbox s.gen zero,some { s with gen:=s.gen+1 })
 | .boxL x=>(x.eval G s.T).drop.cells.map fun cs=>(.lbox s.gen (cs.map AV.drop),some { s with gen:=s.gen+1 })
 | .Hk ty zero=>some (.ref s.H.length 0,some (s.iF ⟨s.H++[.box ty zero],s.H.length⟩))
 | .box ty x=>(x.eval G s.T).drop.cells.bind fun cs=>cond (cs.all (aX s.H.length)) (some (.ref s.H.length 0,some (s.iF ⟨s.H++[.box ty (cs.map AV.drop)],s.H.length⟩))) none
 | .build zero parts=>(fw zero (parts.map fun p=>(p.1,p.2.1,(p.2.2.eval G s.T).drop))).map (.agg ·,none)
 | .mkslice isB sz Lo parts=>(cQ sz Lo (parts.map fun p=>(p.1,(p.2.eval G s.T).drop))).bind fun E=>cond (mz isB E) (some (.slice E true,none)) none
 | .yV sz Lo parts=>(cQ sz Lo (parts.map fun p=>(p.1,(p.2.eval G s.T).drop))).bind fun E=>cond (dZ E) (some (.sref s.H.length 0 E.length sz,some (s.iF ⟨s.H++[.box bE E.flatten],s.H.length⟩))) none
 | .load take agg sz x=>cO s take agg sz (x.addr G s.T)
 | .store sz a v=>(au s sz (a.addr G s.T) (v.eval G s.T)).map fun s'=>(.undef,some (s'.bC v))
 | .nilCheck x=>cond (aN s (x.addr G s.T)) (some (x.addr G s.T,none)) none
 | .bin op q x y=>(Av op q (dc x || dc y) (x.eval G s.T) (y.eval G s.T)).map (·,none)
 | .un op x=>(gr op (x.eval G s.T)).map (·,none)
 | .mm mx x y=>(aeW mx (x.eval G s.T) (y.eval G s.T)).map (·,none)
 | .conv c x=>(cd c (x.eval G s.T)).map (·,none)
 | .slice k x lo hi mx=>(bD k (x.eval G s.T) (lo.map (·.eval G s.T)) (hi.map (·.eval G s.T)) (mx.map (·.eval G s.T))).map (·,none)
 | .fieldAddr off x=>cond (aN s (x.addr G s.T)) ((bI off (x.addr G s.T)).map (·,none)) none
 | .ixSl sz x i=>match x.addr G s.T with
  | .slice e _=>(asNat (i.eval G s.T)).bind fun n=>(e[n]?).bind fun r=>cond (Nat.beq r.length sz) (some (.eptr r,none)) none
  | .sref l o m _=>(asNat (i.eval G s.T)).bind fun n=>cond (Nat.blt n m) (some (.ref l (o+n*sz),none)) none
  | .lsr t g=>match s.T t with
   | .lsl g' e=>cond (Nat.beq g g') ((asNat (i.eval G s.T)).bind fun n=>(e[n]?).bind fun r=>cond (Nat.beq r.length sz) (some (.eref t g n sz 0,none)) none) none
   | _=>none
  | _=>none
 | .ixArr n sz x i=>(asNat (i.eval G s.T)).bind fun k=>cond (Nat.blt k n&&aN s (x.addr G s.T)) ((bI (k*sz) (x.addr G s.T)).map (·,none)) none
 | .index agg n sz x i=>(asNat (i.eval G s.T)).bind fun k=>cond (Nat.blt k n)
   (match x.eval G s.T with
    | .agg cs=>(ab false agg sz (k*sz) cs).map (·,none)
    | _=>none) none
 | .rj x i=>match x.eval G s.T with
  | .str l=>(asNat (i.eval G s.T)).bind fun n=>(l[n]?).map fun (b:UInt8)=>(AV.int .u8 b.toNat,none)
  | _=>none
 | .extract x i=>match x.eval G s.T with
  | .tuple vs=>(vs[i]?).map fun v=>(v.dk,none)
  | _=>none
 | .len k x=>match x.addr G s.T with
  | .lsr t g=>match s.T t with
   | .lsl g' e=>cond (Nat.beq g g') ((cZ k (.slice e false)).map (·,none)) none
   | _=>none
  | v=>(cZ k v).map (·,none)
 | .append isB wr sz bytes x y=>br G s isB wr sz bytes x y
 | .appendO sz bytes x y=>ju s sz bytes (x.addr G s.T) (y.eval G s.T)
 | .UX sz bytes zero n=>BA s sz bytes zero (n.eval G s.T)
 | .copyO x y=>yj s (x.addr G s.T) (y.eval G s.T)
 | .L1 x=>(x.eval G s.T).drop.cells.bind fun cs=>cond (cs.all aM) (some (.ref s.H.length 0,some (s.iF ⟨s.H++[.bV (cs.map AV.drop)],s.H.length⟩))) none
 | .U3 neg x=>(U4 (x.eval G s.T)).map fun b=>(.bool (neg != b),none)
 | .call f args=>match f.eval G s.T with
  | .func (.func n) fs cs=>cond ((args.map fun a=>a.addr G s.T).all aM)
    ((cf n (fs++args.map (fun a=>(a.addr G s.T).dk)++cs) s.H).map fun r=>(r.1,r.2.map s.iF)) none
  | _=>none
 | .Ch f args=>match f.eval G s.T with
  | .func (.func n) fs cs=>cond ((args.map fun a=>a.addr G s.T).all aM)
    ((cf n (fs++args.map (fun a=>(a.addr G s.T).dk)++cs) s.H).bind fun r=>match r.2 with|none=>some (r.1,none)|some _=>none) none
  | _=>none
 | .mkfunc f first captured=>cond ((first.map fun a=>a.addr G s.T).all aM&&(captured.map fun a=>a.addr G s.T).all aM)
   (some (.func f (first.map fun a=>(a.addr G s.T).drop) (captured.map fun a=>(a.addr G s.T).drop),none)) none
 | .Kz kz ka va=>some (.mref s.H.length,some (s.iF ⟨s.H++[.map kz ka va []],s.H.length⟩))
 | .look ok kz ka va ks zero m k=>wU s ok kz ka va ks zero (m.addr G s.T) (k.eval G s.T)
 | .Na kz ka va vz ks m k v=>(sx s kz ka va vz ks (m.addr G s.T) (k.eval G s.T) (v.eval G s.T)).map fun s'=>(.undef,some (s'.bC v))
 | .rng kz ka va m=>match m.addr G s.T with
  | .kq=>some (.iter s.gen kz ka va [] [],some { s with gen:=s.gen+1 })
  | .iW p8 p7 p9 es=>cond (Nat.beq kz p8&&ka==p7&&va==p9) (some (.iter s.gen kz ka va [] es,some { s with gen:=s.gen+1 })) none
  | .mn p8 p7 p9 es=>cond (Nat.beq kz p8&&ka==p7&&va==p9) (some (.iter s.gen kz ka va [] es,some { s with gen:=s.gen+1 })) none
  | .mref l=>match s.H[l]? with
   | some (.map p8 p7 p9 es)=>cond (Nat.beq kz p8&&ka==p7&&va==p9&&dZ es)
     (some (.iter s.gen kz ka va [] es,some { s.iF ⟨s.H.set l (.iW kz ka va es),l⟩ with gen:=s.gen+1 })) none
   | _=>none
  | _=>none
 | .same agg sz d x=>match cO s false agg sz (x.addr G s.T) with
  | some (v,none)=>cond (qm v (s.T d)) (some (.undef,none)) none
  | _=>none
 | .next _=>none
 | .ent it=>match it with
  | .tmp t=>match s.T t with
   | .iter _ kz ka va cur _=>cond (Nat.ble kz cur.length&&!cur.isEmpty) (some (.tuple [qz ka (cur.take kz),qz va (cur.drop kz)],none)) none
   | _=>none
  | _=>none
def AS.bW(s:AS)(d:Option Nat)(v:AV):AS:=match d with|none=>s|some d=>s.cy d v
def aP(s:AS)(o:aS):Option AS :=
 let run:Option AS:=(aQ G cf s o.op).bind fun r=>match r.2 with
  | none=>some (s.bW o.dst r.1)
  | some s'=>some (s'.bW o.dst r.1)
 match o.guard with
 | none=>run
 | some (g,want)=>match s.T g with
  | .bool b=>cond (b==want) run (some (s.bW o.dst .undef))
  | .tuple []=>some (s.bW o.dst .undef)
  | _=>none
def gM:List aS->AS->Option AS
 | [],s=>some s
 | o :: r,s=>(aP G cf s o).bind (gM r)
def iter(f:AS->Option (bJ × AS)):Nat->AS->Option (bJ × AS)
 | 0,_=>none
 | n+1,s=>(f s).bind fun r=>match r.1 with
  | .normal=>iter f n r.2
  | _=>some r
def kK(n:Nat):aH->AS->Option (bJ × AS)
 | .skip,s=>some (.normal,s)
 | .region ops,s=>(gM G cf ops s).map (.normal,·)
 | .seq a b,s=>(kK n a s).bind fun r=>match r.1 with
  | .normal=>kK n b r.2
  | _=>some r
 | .cond c a b,s=>match c.eval G s.T with
  | .bool t=>cond t (kK n a s) (kK n b s)
  | _=>none
 | .block id a,s=>(kK n a s).map fun r=>match r.1 with
  | .exit i=>(cond (Nat.beq i id) .normal (.exit i),r.2)
  | e=>(e,r.2)
 | .loop a,s=>iter (kK n a) n s
 | .exit id,s=>some (.exit id,s)
 | .ret,s=>some (.ret,s)
 | .qQ _ _,_=>none
end
def iO(s:AS):gY->Option AV
 | .tmp t=>cond (aM (s.T t)) (some (s.T t)) none
 | .cell a agg sz=>match s.T a with
  | .lbox _ cs=>ab false agg sz 0 cs
  | .ref loc 0=>match s.H[loc]? with
   | some (.box _ cs)=>ab false agg sz 0 cs
   | _=>none
  | _=>none
def ow(s:AS):gY->Option Nat
 | .tmp t=>match s.T t with
  | .lsl _ _=>some t
  | .lsr b g=>match s.T b with
   | .lsl g' _=>cond (Nat.beq g g') (some b) none
   | _=>none
  | _=>none
 | .cell ..=>none
def lN(s:AS):List gY->Option (List AV)
 | []=>some []
 | r :: rs=>(iO s r).bind fun v=>(lN s rs).map (v.dk :: ·)
def my(s:AS)(rs:List gY):Option AV :=
 match rs with
 | [r]=>match ow s r with
  | some b=>(match s.T b with|.lsl _ e=>cond (nf e) (some (.slice e true)) none|_=>none)
  | none=>iO s r
 | rs=>(lN s rs).map .tuple
def iI(base:Nat)(rs:List gY)(s:AS):Option (AV × Option fR) :=
 (my s rs).bind fun r =>
  cond (r.leaves base) (some (r,cond (Nat.beq s.lo base) none (some ⟨s.H.take base,s.lo⟩))) none
def VH(e:List (List AV)):Nat:=(e.head?.map List.length).getD 0
def qL(s:AS)(base:Nat):List gY->Option (List AV × Option (List (List AV)))
 | []=>some ([],none)
 | r :: rs=>(qL s base rs).bind fun q=>match ow s r with
  | some b=>match s.T b with
   | .lsl _ e=>cond (q.2.isNone&&!e.isEmpty&&e.all (fun r=>r.all AV.plain)) (some (.sref base 0 e.length (VH e) :: q.1,some e)) none
   | _=>none
  | none=>(iO s r).bind fun v=>cond (v.dk.ft base) (some (v.dk :: q.1,q.2)) none
def qA(base:Nat)(rs:List gY)(s:AS):Option (AV × Option fR) :=
 cond (Nat.beq rs.length 1) none ((qL s base rs).bind fun q=>q.2.map fun e=>(.tuple q.1,some ⟨s.H.take base++[.box bE e.flatten],s.lo⟩))
def kI:AV->Bool
 | .int .u8 _=>false
 | .any=>false
 | _=>true
def oB:AV->AV
 | .slice [] true=>.aq
 | v=>v
def pJ:bM->Option (List AV)
 | .box _ cs=>some cs
 | .bV cs=>some cs
 | _=>none
def gx(H:ae)(base:Nat):Nat->AV->AV
 | 0,v=>v
 | k+1,v=>match v with
  | .sref l off n z=>cond (Nat.ble base l) (match (H[l]?).bind pJ with
   | some cs=>cond (Nat.blt 0 z&&Nat.ble (off+n*z) cs.length&&(cs.all fun x=>(gx H base k x.drop).plain&&kI x)) (.slice (chunks z n ((cs.map fun x=>gx H base k x.drop).drop off)) false) v
   | none=>v) v
  | v=>v
abbrev Fp:Nat:=3
def Ms(H:ae)(base:Nat):AV->AV
 | .agg cs=>.agg (cs.map (gx H base Fp))
 | v=>gx H base Fp v
def vG(base:Nat)(s:AS)(rs:List gY):Option AV :=
 match rs with
 | [r]=>(iO s r).map fun v=>Ms s.H base v.dk
 | rs=>(lN s rs).map fun vs=>.tuple (vs.map (Ms s.H base))
def sG(base:Nat)(rs:List gY)(s:AS):Option (AV × Option fR) :=
 (vG base s rs).bind fun r=>cond (r.leaves base) (some (r,cond (Nat.beq s.lo base) none (some ⟨s.H.take base,s.lo⟩))) none
def sD(base:Nat)(rs:List gY)(s:AS):Option (AV × Option fR) :=
 match rs with
 | [r]=>(iO s r).bind fun v=>match v with
  | .sref l off n z=>match s.H[l]? with
   | some (.box _ cs)=>cond (Nat.ble base l&&cs.all AV.plain) (some (.sref base off n z,some ⟨s.H.take base++[.bV cs],s.lo⟩)) none
   | _=>none
  | _=>none
 | _=>none
def oE(base:Nat)(fn:ax)(s:AS):Option (AV × Option fR):=cond (fn.muts.elem 888888) (sD base fn.results s) none
def ku(base:Nat)(s:AS):Bool:=cond (Nat.beq s.lo base) true (((s.H.take base).drop s.lo).all fun o=>match o with|.bV cs=>cs.all (AV.bz base)|_=>true)
def qp(base:Nat)(fn:ax)(s:AS):Option (AV × Option fR) :=
 match oE base fn s with
 | some r=>some r
 | none=>match iI base fn.results s with
 | some r=>some r
 | none=>match qA base fn.results s with
  | some r=>some r
  | none=>sG base fn.results s
def mc(base:Nat)(fn:ax)(s:AS):Option (AV × Option fR):=cond (ku base s) (qp base fn s) none
def n1:AV->AV
 | .aq=>.slice [] false
 | v=>v
def n2:AV->AV
 | .aq=>.slice [] false
 | .slice e false=>.slice (e.map fun r=>r.map n1) false
 | v=>v
def n3:AV->AV
 | .agg cs=>.agg (cs.map n2)
 | v=>n2 v
def ng:AV->AV
 | .tuple vs=>.tuple (vs.map n3)
 | v=>n3 v
def rC(fn:ax)(r:AV × Option fR):AV × Option fR:=cond (fn.muts.elem 777777) (ng r.1,r.2) r
def wY(rs:List gY)(s:AS):Option (AV × Option fR) :=
 cond (Nat.beq rs.length 1) none ((lN s rs).map fun vs=>(.tuple vs,some ⟨s.H,s.lo⟩))
def BB(fn:ax)(s:AS):Option (AV × Option fR):=cond (fn.muts.elem 888887) (wY fn.results s) none
def finish(base:Nat)(fn:ax)(s:AS):Option (AV × Option fR) :=
 match (mc base fn s).map (rC fn) with
 | some r=>some r
 | none=>BB fn s
def fm(args:List AV):aD:=fun i=>args.getD i .undef
def y5(G:Nat->List AV)(cf:gD)(n:Nat)(fn:ax)(args:List AV)(H:ae):Option (AV × Option fR) :=
 cond (Nat.beq args.length fn.np)
  ((kK G cf n fn.body { T:=fm args,H,lo:=H.length,gen:=0 }).bind fun r=>match r.1 with
   | .exit _=>none
   | _=>finish H.length fn r.2)
  none
structure AP where
 fns:FuncId->Option ax
 ov:FuncId->Option (List AV->ae->Option (AV × Option fR))
 aW:Nat->List AV
def vw:AV->Bool
 | .slice _ true=>false
 | _=>true
def D3(A:AP):Nat->gD
 | 0=>fun _ _ _=>none
 | n+1=>fun f args H=>match A.ov f with
  | some g=>cond (args.all vw) (g args H) none
  | none=>match A.fns f with
   | none=>none
   | some fn=>y5 A.aW (D3 A n) n fn args H
def lG:Value->Option AV
 | .bool b=>some (.bool b)
 | .int k n=>some (.int k n)
 | .string s=>some (.str s.data.toList)
 | .slice none 0 0=>some (.slice [] true)
 | .pointer none=>some .kX
 | .map none=>some .kq
 | .nilFunc=>some .kH
 | .nilIface=>some .de
 | _=>none
def fy:List Value->Option (List AV)
 | []=>some []
 | v :: r=>(lG v).bind fun x=>(fy r).map (x :: ·)
def uk:Value->Option AV
 | .agg vs=>(fy vs.toList).map fun l=>.agg (l.map oB)
 | v=>lG v
section
variable (P:Program)(dW locals muts:List Nat)(nt:Nat)
def ar:Operand->Option aE
 | .tmp t=>cond (Nat.blt t nt) (some (.tmp t)) none
 | .const v=>(uk v).map .xI
 | .global g=>some (.aW g)
 | .func f=>some (.fn f)
def kN:List Operand->Option (List aE)
 | []=>some []
 | x :: r=>(ar nt x).bind fun a=>(kN r).map (a :: ·)
def fD(t:TypeId):Option Nat:=(P.info? t).map (·.size)
def gX(t:TypeId):Option (List AV):=((P.info? t).bind (·.zero)).bind fun z=>fy z.cells.toList
def nP(t:TypeId):Option Bool:=(P.underlying t).map fun|.struct _=>true|.array _ _=>true|_=>false
def iR:Option Operand->Option (Option aE)
 | none=>some none
 | some x=>(ar nt x).map some
def qo(flat:TypeId->Option (List CK)):List Go.Field->Nat->Option (List CK)
 | [],_=>some []
 | f :: fs,o=>cond (Nat.beq f.offset o&&f.name != "_") ((flat f.type).bind fun k=>(qo flat fs (o+k.length)).map (k++·)) none
def ox:Nat->TypeId->Option (List CK)
 | 0,_=>none
 | d+1,t=>match P.underlying t with
  | some .bool=>some [.b]
  | some (.int _)=>some [.i]
  | some .string=>some [.s]
  | some (.struct fs)=>cond (!P.stoodInHeld t) ((qo (ox d) fs.toList 0).bind fun ks=>cond (match fD P t with|some n=>Nat.beq n ks.length|none=>false) (some ks) none) none
  | _=>none
def pa(t:TypeId):zq :=
 match P.underlying t with
 | some .bool=>.bool
 | some (.interface _)=>.iface
 | some (.func _ _ _)=>.func
 | some (.struct _)=>cond (!P.eqGuardType P.depth t) (match ox P 8 t with|some ks=>.flat ks|none=>.other) .other
 | _=>.other
def oP(fs:List Go.Field):List (Nat × Operand)->Option (List (Nat × Nat × aE))
 | []=>some []
 | (i,x) :: r=>(fs[i]?).bind fun f=>(fD P f.type).bind fun z=>(ar nt x).bind fun a=>(oP fs r).map ((f.offset,z,a) :: ·)
def lE(sz:Nat):List (Nat × Operand)->Option (List (Nat × Nat × aE))
 | []=>some []
 | (i,x) :: r=>(ar nt x).bind fun a=>(lE sz r).map ((i*sz,sz,a) :: ·)
def mE:List (Nat × Operand)->Option (List (Nat × aE))
 | []=>some []
 | (i,x) :: r=>(ar nt x).bind fun a=>(mE r).map ((i,a) :: ·)
def R3:Value->Bool
 | .agg _=>true
 | _=>false
def QW(t:TypeId):Option (List CK × Bool × Bool × List AV) :=
 match P.underlying t with
 | some (.map k e)=>(ox P 8 k).bind fun ks=>(nP P k).bind fun ka=>(P.info? e).bind fun i=>i.zero.bind fun z=>(fy z.cells.toList).bind fun zero =>
   cond (R3 z || Nat.beq zero.length 1) (some (ks,ka,R3 z,zero)) none
 | _=>none
def Iz:Operand->Operand->Bool
 | .tmp a,.tmp b=>Nat.beq a b
 | _,_=>false
def lM(d:Option Nat):Bool:=match d with|some d=>dW.contains d|none=>false
def isLocal(d:Option Nat):Bool:=match d with|some d=>locals.contains d|none=>false
def x7(d:Option Nat)(c:Call):Option oc :=
 match c.callee with
 | .value f=>(ar nt f).bind fun g=>(kN nt c.args.toList).map (.call g ·)
 | .builtin .len=>match c.args.toList,c.argTypes.toList with
  | [x],[t]=>(ar nt x).bind fun a=>match P.underlying t with
   | some .string=>some (.len .str a)
   | some (.slice _)=>some (.len .sl a)
   | some (.array n _)=>some (.len (.arr n) a)
   | _=>none
  | _,_=>none
 | .builtin .append=>match c.args.toList,c.argTypes.toList with
  | [x,y],[t,u]=>(ar nt x).bind fun a=>(ar nt y).bind fun b=>match P.underlying t,P.underlying u with
   | some (.slice e),some (.slice _)|some (.slice e),some .string=>(P.info? e).bind fun i=>cond (Nat.blt 0 i.size&&(i.zero.map fun z=>Nat.beq z.cells.size i.size).getD false) (some (cond (isLocal locals d) (.appendO i.size i.bytes a b) (.append (Nat.beq e jg) (lM muts d) i.size i.bytes a b))) none
   | _,_=>none
  | _,_=>none
 | .builtin .copy=>match c.args.toList,c.argTypes.toList with
  | [x,y],[t,u]=>(ar nt x).bind fun a=>(ar nt y).bind fun b=>match P.underlying t,P.underlying u with
   | some (.slice e),some (.slice _)=>(fD P e).bind fun sz=>cond (Nat.beq sz 1) (some (.copyO a b)) none
   | _,_=>none
  | _,_=>none
 | .builtin .max=>match c.args.toList with
  | [x,y]=>(ar nt x).bind fun a=>(ar nt y).map (.mm true a ·)
  | _=>none
 | .builtin .min=>match c.args.toList with
  | [x,y]=>(ar nt x).bind fun a=>(ar nt y).map (.mm false a ·)
  | _=>none
 | .builtin .clear=>some (.un .neg (.xI .undef))
 | _=>none
def JS(k:Nat)(l:List Nat)(d:Option Nat):Bool:=match d with|some d=>l.elem (k+d)|none=>false
def Nh(op:BinOp)(t:TypeId)(y:Operand):Option Bool :=
 match y,P.underlying t with
 | .const (.slice none 0 0),some (.slice _)=>(match op with|.eql=>some false|.neq=>some true|_=>none)
 | _,_=>none
def Ij:aE->aE
 | .xI v=>.xI (oB v)
 | x=>x
def dI(d:Option Nat)(o:Op):Option oc :=
 match o with
 | .move x|.assign x=>(ar nt x).map fun a=>.mov (lM dW d) (lM muts d) (cond (lM muts d) (Ij a) a)
 | .pick c a b=>(ar nt c).bind fun c=>(ar nt a).bind fun a=>(ar nt b).map (.pick c a ·)
 | .alloc t=>((gX P t).map fun z=>cond (JS 700000 dW d) (z.map oB) z).bind fun z=>cond (isLocal locals d) (some (.allocL z)) (some (cond (JS 500000 muts d) (.L1 (.xI (.agg z))) (.Hk t z)))
 | .box t x=>(ar nt x).map fun a=>cond (isLocal locals d) (.boxL a) (cond (JS 500000 muts d) (.L1 a) (.box t a))
 | .build t parts=>((gX P t).map fun z=>cond (lM dW d) (z.map oB) z).bind fun z=>match P.underlying t with
  | some (.struct fs)=>cond ((fs.toList.mapM fun f=>(P.info? f.type).map fun i=>(f.offset,i.size)).isSome) ((oP P nt fs.toList parts.toList).map (.build z ·)) none
  | some (.array _ e)=>(fD P e).bind fun sz=>(lE nt sz parts.toList).map (.build z ·)
  | _=>none
 | .buildSlice t len parts=>match P.underlying t with
  | some (.slice e)=>(fD P e).bind fun sz=>(gX P e).bind fun z=>(mE nt parts.toList).bind fun ps =>
    cond (Nat.ble (len*sz) 16777216&&Nat.beq z.length sz&&Nat.blt 0 sz) (some (cond (isLocal locals d) (.yV sz (List.replicate len (z.map AV.drop)) ps) (.mkslice (Nat.beq e jg) sz (List.replicate len (z.map AV.drop)) ps))) none
  | _=>none
 | .load t x=>(ar nt x).bind fun a=>(nP P t).bind fun g=>(fD P t).map fun sz=>.load (lM dW d) g sz a
 | .store t x y=>(ar nt x).bind fun a=>(ar nt y).bind fun b=>(fD P t).map fun sz=>.store sz a b
 | .nilCheck x=>(ar nt x).map .nilCheck
 | .binOp op t x y _=>(ar nt x).bind fun a=>(ar nt y).bind fun b=>match Nh P op t y with
  | some neg=>some (.U3 neg a)
  | none=>some (.bin op (pa P t) a b)
 | .unOp op _ x=>(ar nt x).map (.un op ·)
 | .convert s t x=>(ar nt x).bind fun a=>match P.underlying s,P.underlying t with
  | some (.int _),some (.int k)=>some (.conv (.toInt k) a)
  | some .string,some .string=>some (.conv .IE a)
  | some (.slice e),some .string=>match P.underlying e with
   | some (.int .u8)=>some (.conv .Cf a)
   | _=>none
  | _,_=>none
 | .makeFunc f first captured=>(kN nt first.toList).bind fun a=>(kN nt captured.toList).map (.mkfunc f a ·)
 | .slice t x lo hi mx=>(ar nt x).bind fun a=>(iR nt lo).bind fun lo=>(iR nt hi).bind fun hi=>(iR nt mx).bind fun mx=>match P.underlying t with
  | some .string=>some (.slice .str a lo hi mx)
  | some (.slice e)=>(fD P e).map fun sz=>.slice (.sl sz) a lo hi mx
  | some (.array n e)=>(fD P e).bind fun sz=>cond (Nat.blt 0 sz) (some (.slice (.arr n sz) a lo hi mx)) none
  | _=>none
 | .fieldAddr t x f=>(ar nt x).bind fun a=>match P.underlying t with
  | some (.struct fs)=>(fs[f]?).bind fun q=>(fD P q.type).bind fun sz=>cond (Nat.blt 0 sz) (some (.fieldAddr q.offset a)) none
  | _=>none
 | .indexAddr t x i=>(ar nt x).bind fun a=>(ar nt i).bind fun b=>match P.underlying t with
  | some (.slice e)=>(fD P e).map fun sz=>.ixSl sz a b
  | some (.array n e)=>(fD P e).map fun sz=>.ixArr n sz a b
  | _=>none
 | .index t x i=>(ar nt x).bind fun a=>(ar nt i).bind fun b=>match P.underlying t with
  | some .string=>some (.rj a b)
  | some (.array n e)=>(fD P e).bind fun sz=>(nP P e).map fun g=>.index g n sz a b
  | _=>none
 | .extract x i=>(ar nt x).map (.extract · i)
 | .call c=>x7 P locals muts nt d c
 | .makeSlice t x y=>(ar nt x).bind fun a=>cond (Iz x y) (match P.underlying t with
  | some (.slice e)=>(P.info? e).bind fun i=>i.zero.bind fun z=>(fy z.cells.toList).bind fun zero=>cond (Nat.blt 0 i.size&&Nat.beq z.cells.size i.size) (some (.UX i.size i.bytes (zero.map AV.drop) a)) none
  | _=>none) none
 | .makeMap t none=>(QW P t).map fun m=>.Kz m.1.length m.2.1 m.2.2.1
 | .lookup t x i ok=>(ar nt x).bind fun a=>(ar nt i).bind fun b=>(QW P t).map fun m=>(.look ok m.1.length m.2.1 m.2.2.1 m.1 m.2.2.2 a b)
 | .mapUpdate t x i v|.insert t x i v=>(ar nt x).bind fun a=>(ar nt i).bind fun b=>(ar nt v).bind fun c=>(QW P t).map fun m=>.Na m.1.length m.2.1 m.2.2.1 m.2.2.2.length m.1 a b c
 | .range t x=>cond (lM muts d) ((ar nt x).bind fun a=>(QW P t).map fun m=>.rng m.1.length m.2.1 m.2.2.1 a) none
 | .next x false=>(ar nt x).map .next
 | .entry x=>(ar nt x).map .ent
 | _=>none
def qY(ops:Array Oper):Option (Nat × Bool)->Option (Option (Nat × Bool))
 | none=>some none
 | some (j,want)=>((ops[j]?).bind (·.dst)).bind fun s=>cond (Nat.blt s nt) (some (some (s,want))) none
def uj(ops:Array Oper)(o:Oper):Option aS :=
 (dI P dW locals muts nt o.dst o.op).bind fun p=>(qY nt ops o.guard).bind fun g =>
  match o.dst with
  | none=>some ⟨none,g,p⟩
  | some d=>cond (Nat.blt d nt) (some ⟨some d,g,p⟩) none
def lF(ops:Array Oper):List Oper->Option (List aS)
 | []=>some []
 | o :: r=>(uj P dW locals muts nt ops o).bind fun p=>(lF ops r).map (p :: ·)
def aE.tmps:aE->List Nat
 | .tmp t=>[t]
 | _=>[]
def oc.tmps:oc->List Nat
 | .chk _ x|.boxL x|.L1 x|.mov _ _ x|.box _ x|.load _ _ _ x|.nilCheck x|.un _ x|.U3 _ x|.conv _ x|.fieldAddr _ x|.extract x _|.len _ x=>x.tmps
 | .pick c a b=>c.tmps++a.tmps++b.tmps
 | .allocL _|.Hk _ _=>[]
 | .build _ ps=>ps.flatMap fun p=>p.2.2.tmps
 | .mkslice _ _ _ ps|.yV _ _ ps=>ps.flatMap fun p=>p.2.tmps
 | .store _ a v=>a.tmps++v.tmps
 | .bin _ _ x y|.mm _ x y|.ixSl _ x y|.ixArr _ _ x y|.index _ _ _ x y|.rj x y|.append _ _ _ _ x y|.appendO _ _ x y|.copyO x y=>x.tmps++y.tmps
 | .slice _ x lo hi mx=>x.tmps++(lo.toList.flatMap aE.tmps)++(hi.toList.flatMap aE.tmps)++(mx.toList.flatMap aE.tmps)
 | .call f xs|.Ch f xs=>f.tmps++xs.flatMap aE.tmps
 | .mkfunc _ a b=>a.flatMap aE.tmps++b.flatMap aE.tmps
 | .Kz _ _ _=>[]
 | .UX _ _ _ n=>n.tmps
 | .look _ _ _ _ _ _ m k=>m.tmps++k.tmps
 | .Na _ _ _ _ _ m k v=>m.tmps++k.tmps++v.tmps
 | .rng _ _ _ m|.next m|.ent m=>m.tmps
 | .same _ _ d x=>d :: x.tmps
structure qP where
 rs:List Nat
 ws:List Nat
 rh:Bool
 wh:Bool
 wg:Bool
 deriving Inhabited
def Hp(is:List aS)(L:List Nat):Nat->aE->Option Nat
 | 0,_=>none
 | f+1,.tmp t=>cond (L.contains t) (some t) (match is.find? (fun o=>match o.dst with|some d=>Nat.beq d t|none=>false) with
  | some ⟨_,_,.fieldAddr _ y⟩=>Hp is L f y
  | some ⟨_,_,.ixArr _ _ y _⟩=>Hp is L f y
  | some ⟨_,_,.nilCheck y⟩=>Hp is L f y
  | _=>none)
 | _,_=>none
def Jp(is:List aS)(L:List Nat)(x:aE):RA :=
 match Hp is L 8 x with
 | some b=>.frame b
 | none=>.heap
def vW(is:List aS)(L:List Nat):oc->Option (RA × aE)
 | .load _ _ _ x=>some (Jp is L x,x)
 | .store _ x _=>some (Jp is L x,x)
 | .nilCheck x=>some (Jp is L x,x)
 | .fieldAddr _ x=>some (Jp is L x,x)
 | .ixArr _ _ x _=>some (Jp is L x,x)
 | .ixSl _ x _=>some (.heap,x)
 | .len _ x=>some (.heap,x)
 | _=>none
def iv:RA->List Nat
 | .frame b=>[b]
 | _=>[]
def zW:RA->Bool
 | .heap=>true
 | _=>false
def F7(pc:Bool)(c:RA):oc->Option qP
 | .mov take obj x=>cond obj none (some ⟨x.tmps,cond take x.tmps [],false,false,false⟩)
 | .pick a b d=>some ⟨a.tmps++b.tmps++d.tmps,[],false,false,false⟩
 | .allocL _=>some ⟨[],[],false,false,true⟩
 | .boxL x=>some ⟨x.tmps,[],false,false,true⟩
 | .build z ps=>some ⟨(oc.build z ps).tmps,[],false,false,false⟩
 | .mkslice b sz zs ps=>some ⟨(oc.mkslice b sz zs ps).tmps,[],false,false,false⟩
 | .bin _ _ x y=>some ⟨x.tmps++y.tmps,[],false,false,false⟩
 | .mm _ x y=>some ⟨x.tmps++y.tmps,[],false,false,false⟩
 | .un _ x=>some ⟨x.tmps,[],false,false,false⟩
 | .U3 _ x=>some ⟨x.tmps,[],false,false,false⟩
 | .conv _ x=>some ⟨x.tmps,[],false,false,false⟩
 | .index _ _ _ x i=>some ⟨x.tmps++i.tmps,[],false,false,false⟩
 | .rj x i=>some ⟨x.tmps++i.tmps,[],false,false,false⟩
 | .extract x _=>some ⟨x.tmps,[],false,false,false⟩
 | .mkfunc f a b=>some ⟨(oc.mkfunc f a b).tmps,[],false,false,false⟩
 | .load take agg _ x=>some ⟨x.tmps++iv c,cond (take&&!agg) (iv c) [],zW c,zW c&&take&&!agg,false⟩
 | .store _ x y=>some ⟨x.tmps++y.tmps++iv c,y.tmps++iv c,zW c,zW c,false⟩
 | .nilCheck x=>some ⟨x.tmps++iv c,[],false,false,false⟩
 | .fieldAddr _ x=>some ⟨x.tmps++iv c,[],false,false,false⟩
 | .ixArr _ _ x i=>some ⟨x.tmps++i.tmps++iv c,[],false,false,false⟩
 | .ixSl _ x i=>some ⟨x.tmps++i.tmps,[],false,false,false⟩
 | .len _ x=>some ⟨x.tmps,[],false,false,false⟩
 | .append _ wr _ _ x y=>cond wr none (some ⟨x.tmps++y.tmps,x.tmps,false,false,false⟩)
 | .appendO _ _ x y=>some ⟨x.tmps++y.tmps,[],true,true,false⟩
 | .copyO x y=>some ⟨x.tmps++y.tmps,[],true,true,false⟩
 | .slice k x lo hi mx=>some ⟨(oc.slice k x lo hi mx).tmps,[],false,false,false⟩
 | .call f xs=>some ⟨(oc.call f xs).tmps,[],true,!pc,false⟩
 | .look _ _ _ _ _ _ m k=>some ⟨m.tmps++k.tmps,[],true,false,false⟩
 | _=>none
def Jx(pc:Bool)(is:List aS)(L:List Nat)(o:aS):Option qP :=
 (F7 pc (match vW is L o.op with|some p=>p.1|none=>.heap) o.op).map fun e =>
  ⟨(match o.guard with|some (g,_)=>[g]|none=>[])++e.rs,o.dst.toList++e.ws,e.rh,e.wh,e.wg⟩
def meets(x y:List Nat):Bool:=x.any y.contains
def conflict(e f:qP):Bool :=
 meets e.ws f.rs || meets e.ws f.ws || meets f.ws e.rs || (e.wh&&(f.rh || f.wh)) || (f.wh&&e.rh) || (e.wg&&f.wg)
def nh(pc:Bool)(o:aS):aS :=
 match o with
 | ⟨d,g,.call f xs⟩=>cond pc ⟨d,g,.Ch f xs⟩ ⟨d,g,.call f xs⟩
 | o=>o
def inter(pc:Bool)(is:List aS)(L:List Nat)(o:aS):List aS :=
 match vW is L o.op with
 | some (c,x)=>[⟨none,o.guard,.chk c x⟩,nh pc o]
 | none=>[nh pc o]
def o9(o:Oper):List Nat:=(o.after.toList.filter fun e=>Region.binds .any e).map (·.on)
def Ni:List Nat->Bool
 | []=>true
 | x :: l=>!(l.contains x)&&Ni l
def Sz(pre:List (List Nat)):List (List Nat):=pre.foldl (fun t l=>t++[(l.flatMap fun e=>e :: t.getD e []).eraseDups]) []
def lj(L:List Nat)(ops:List aS)(o:aS):Option (Bool × Nat × Nat × aE) :=
 match o with
 | ⟨some d,none,.load false agg sz x⟩=>cond (zW (Jp ops L x)&&!(x.tmps.contains d)) (some (agg,sz,d,x)) none
 | _=>none
def Mg(pc:Bool)(L:List Nat)(ops:List aS)(o:aS):Option qP :=
 (Jx pc ops L o).map fun e=>match lj L ops o with|some _=>⟨e.rs,e.ws,false,e.wh,e.wg⟩|none=>e
def F8(pc:Bool)(L:List Nat)(ops:List aS):List aS->Option (List qP)
 | []=>some []
 | o :: r=>(Mg pc L ops o).bind fun e=>(F8 pc L ops r).map (e :: ·)
def Pc(pre:List (List Nat))(es:List qP):Nat->List Nat->List Nat->List Nat
 | 0,acc,_=>acc
 | n+1,acc,rest =>
  match rest.find? (fun i=>(pre.getD i []).all acc.contains&&!(es.getD i default).wh) with
  | some i=>Pc pre es n (acc++[i]) (rest.erase i)
  | none=>match rest.find? (fun i=>(pre.getD i []).all acc.contains) with
   | some i=>Pc pre es n (acc++[i]) (rest.erase i)
   | none=>acc
def abU(L:List Nat)(ops:List aS)(cl:List (List Nat))(es:List qP)(done:List Nat)(k:Nat):List aS :=
 cond (es.getD k default).wh (done.filterMap fun j=>cond ((cl.getD k []).contains j) none ((ops[j]?).bind fun o=>(lj L ops o).map fun q=>⟨none,none,.same q.1 q.2.1 q.2.2.1 q.2.2.2⟩)) []
def G6(pc:Bool)(L:List Nat)(ops:List aS)(cl:List (List Nat))(es:List qP):List Nat->List Nat->List aS
 | _,[]=>[]
 | done,k :: r=>(match ops[k]? with|some o=>inter pc ops L o|none=>[])++(abU L ops cl es done k++G6 pc L ops cl es (done++[k]) r)
def QL(L:List Nat)(ops:List aS)(k:Nat):Bool:=((ops[k]?).bind (lj L ops)).isSome
def stT(L:List Nat)(ops:List aS)(k:Nat):List Nat:=match (ops[k]?).bind (lj L ops) with|some q=>q.2.2.1 :: q.2.2.2.tmps|none=>[]
def Dm(L:List Nat)(ops:List aS)(cl:List (List Nat))(es:List qP)(ord:List Nat)(p q:Nat):Bool :=
 (!conflict (es.getD (ord.getD q 0) default) (es.getD (ord.getD p 0) default) || (cl.getD (ord.getD q 0) []).contains (ord.getD p 0)) &&
 (!(QL L ops (ord.getD q 0)&&(es.getD (ord.getD p 0) default).wh) || (cl.getD (ord.getD q 0) []).contains (ord.getD p 0)) &&
 (!(QL L ops (ord.getD p 0)&&(es.getD (ord.getD q 0) default).wh) || (cl.getD (ord.getD q 0) []).contains (ord.getD p 0) ||
  (List.range (q+1)).all fun r=>Nat.ble r p || !(meets (es.getD (ord.getD r 0) default).ws (stT L ops (ord.getD p 0))))
def okS(L:List Nat)(ops:List aS)(pre cl:List (List Nat))(es:List qP)(ord:List Nat):Bool :=
 Nat.beq pre.length ops.length&&Nat.beq ord.length ops.length&&Ni ord&&ord.all (fun k=>Nat.blt k ops.length) &&
 (List.range ops.length).all (fun k=>(pre.getD k []).all fun e=>Nat.blt e k) &&
 (List.range ops.length).all (fun k=>(cl.getD k []).all fun j=>(pre.getD k []).any fun e=>Nat.beq j e || (cl.getD e []).contains j) &&
 (List.range ops.length).all (fun q=>(List.range q).all fun p=>Dm L ops cl es ord p q)
def V8(pc:Bool)(L:List Nat)(ops:List aS)(pre:List (List Nat)):Option (List aS) :=
 (F8 pc L ops ops).bind fun es=>cond (okS L ops pre (Sz pre) es (Pc pre es ops.length [] (List.range ops.length)))
  (some (G6 pc L ops (Sz pre) es [] (Pc pre es ops.length [] (List.range ops.length)))) none
def xy(o:aS):Option Nat :=
 match o.op,o.guard with
 | .next (.tmp t),none=>some t
 | _,_=>none
def QY(os:List aS):Bool:=os.all fun o=>(xy o).isNone
def orR(L:List Nat)(ops:List aS)(pre:List (List Nat))(c:aH)(pc:Bool):aH :=
 match V8 pc L ops pre with
 | some l=>cond (QY l) (.region l) c
 | none=>c
def ze(L:List Nat):aH->aH
 | .qQ ops pre=>orR L ops pre (orR L ops pre (.qQ ops pre) (!L.elem 999999)) (L.elem 999995)
 | .seq a b=>.seq (ze L a) (ze L b)
 | .cond c a b=>.cond c (ze L a) (ze L b)
 | .block i a=>.block i (ze L a)
 | .loop a=>.loop (ze L a)
 | c=>c
def js:Code->Option aH
 | .skip=>some .skip
 | .region _ ops draw=>(lF P dW locals muts nt ops ops.toList).map fun is=>cond draw (.qQ is (ops.toList.map o9)) (.region is)
 | .seq a b=>(js a).bind fun x=>(js b).map (.seq x ·)
 | .cond c a b=>(ar nt c).bind fun c=>(js a).bind fun x=>(js b).map (.cond c x ·)
 | .block id a=>(js a).map (.block id ·)
 | .loop a=>(js a).map .loop
 | .exit id=>some (.exit id)
 | .ret=>some .ret
 | .label _=>some .skip
 | .scope a=>js a
 | _=>none
def kA:List ResultVar->Option (List gY)
 | []=>some []
 | .tmp t :: r=>cond (Nat.blt t nt) ((kA r).map (.tmp t :: ·)) none
 | .cell a t :: r=>cond (Nat.blt a nt) ((nP P t).bind fun g=>(fD P t).bind fun sz=>(kA r).map (.cell a g sz :: ·)) none
end
def SB(P:Program)(dW locals muts:List Nat)(f:Func):Option ax :=
 f.body.bind fun c=>(js P dW locals muts f.ntmps c).bind fun b=>(kA P f.ntmps f.results.toList).bind fun rs =>
  cond (Nat.ble (f.params.size+f.nfree) f.ntmps&&f.name != "runtime.NumGoroutine") (some { dW,locals,muts,nt:=f.ntmps,np:=f.params.size+f.nfree,results:=rs,body:=b }) none
def bo(P:Program)(dW locals muts:List Nat)(f:Func):Option ax :=
 (SB P dW locals muts f).map fun i=>{ i with body:=ze i.locals i.body }
end
variable {s:AS}{F:AS->Option (bJ × AS)}{p q:AS->Prop}{v:AV}{r:AV × Option fR}{args:List AV}{os:List aS}{a:aH}{o:aS}{fn:ax}
section
def gD.Le(f g:gD):Prop:=∀ a b c r,f a b c=some r->g a b c=some r
section
variable {G:Nat->List AV}{f g:gD}
theorem zG{x y:Option α}{r:α}(h:cond b x none=some r)(WC:x=some r->y=some r):cond b y none=some r:=by
 grind
theorem PY(h:gD.Le f g){o:oc}{r:AV × Option AS}(he:aQ G f s o=some r):aQ G g s o=some r:=by
 cases o with
 | call fn args =>
  simp only[aQ] at he ⊢;split at he
  ·refine zG he fun he=>?_
   simp only[auP] at he ⊢;obtain⟨r0,h0,rfl⟩:=he;exact⟨r0,h _ _ _ _ h0,rfl⟩
  ·cases he
 | Ch fn args =>
  simp only[aQ] at he ⊢;split at he
  ·refine zG he fun he=>?_
   simp only[auQ] at he ⊢;obtain⟨r0,h0,he⟩:=he;exact⟨r0,h _ _ _ _ h0,he⟩
  ·cases he
 | _=>exact he
theorem AF(h:gD.Le f g){r:AS}(he:aP G f s o=some r):aP G g s o=some r:=by
 have key:∀ r,((aQ G f s o.op).bind fun r=>match r.2 with
   | none=>some (s.bW o.dst r.1)
   | some s'=>some (s'.bW o.dst r.1))=some r->((aQ G g s o.op).bind fun r=>match r.2 with
   | none=>some (s.bW o.dst r.1)
   | some s'=>some (s'.bW o.dst r.1))=some r:=by
  intro r hr;simp only[auQ] at hr ⊢
  grind [PY]
 unfold aP at he ⊢;simp only at he ⊢;split at he
 ·exact key _ he
 ·grind
theorem wW(h:gD.Le f g):∀ {os:List aS} {s r:AS},gM G f os s=some r->gM G g os s=some r
 | [],_,_,he=>he
 | o :: os,s,r,he=>by
  simp only[gM,auQ] at he ⊢;obtain⟨x,h1,h2⟩:=he;exact⟨x,AF h h1,wW h h2⟩
def rm{F':AS->Option (bJ × AS)}(h:∀ s r,F s=some r->F' s=some r):∀ {n m:Nat} {s:AS} {r:bJ × AS},n<=m->iter F n s=some r->iter F' m s=some r
 | 0,_,_,_,_,he=>by cases he
 | n+1,0,_,_,hn,_=>by omega
 | n+1,m+1,s,r,hn,he=>by
  simp only[iter,auQ] at he ⊢;obtain⟨x,h1,h2⟩:=he;refine⟨x,h _ _ h1,?_⟩;split at h2
  ·exact rm h (by omega) h2
  ·exact h2
theorem kQ(h:gD.Le f g){n:Nat}(hn:n<=m):∀ {c:aH} {s:AS} {r:bJ × AS},kK G f n c s=some r->kK G g m c s=some r
 | .skip,_,_,he=>he
 | .exit _,_,_,he=>he
 | .ret,_,_,he=>he
 | .qQ _ _,_,_,he=>by simp[kK] at he
 | .region os,s,r,he=>by
  simp only[kK,auP] at he ⊢
  grind [wW]
 | .seq a b,s,r,he=>by
  simp only[kK,auQ] at he ⊢;obtain⟨x,h1,h2⟩:=he;refine⟨x,kQ h hn h1,?_⟩;split at h2
  ·exact kQ h hn h2
  ·exact h2
 | .cond c a b,s,r,he=>by
  simp only[kK] at he ⊢;split at he
  ·rename_i t ht
   cases t
   ·exact kQ h hn (c:=b) he
   ·exact kQ h hn (c:=a) he
  ·cases he
 | .block id a,s,r,he=>by
  simp only[kK,auP] at he ⊢;obtain⟨x,h1,h2⟩:=he;exact⟨x,kQ h hn h1,h2⟩
 | .loop a,s,r,he=>by
  simp only[kK] at he ⊢;exact rm (fun s r h'=>kQ h hn h') hn he
theorem GY(h:gD.Le f g){n:Nat}(hn:n<=m){H:ae}(he:y5 G f n fn args H=some r):y5 G g m fn args H=some r:=by
 unfold y5 at he ⊢;refine zG he fun he=>?_
 simp only[auQ] at he ⊢
 grind [kQ]
end
def JE{A:AP} : ∀ n,gD.Le (D3 A n) (D3 A (n+1))
 | 0=>fun a b c r h=>by cases h
 | n+1=>fun a b c r h=>by
  simp only[D3] at h ⊢;cases ho:A.ov a with
  | some g=>rw[ho] at h;exact h
  | none =>
   rw[ho] at h;cases hf:A.fns a with
   | none=>rw[hf] at h;cases h
   | some fn=>rw[hf] at h;exact GY (JE n) (by omega) h
def nU{A:AP}{n:Nat}(h:n<=m):gD.Le (D3 A n) (D3 A m):=by
 induction h with
 | refl=>exact fun _ _ _ _ h=>h
 | step _ ih=>exact fun a b c r hr=>JE _ a b c r (ih a b c r hr)
def aj(A:AP):gD:=fun f args H=>open Classical in if h:∃ n r,D3 A n f args H=some r then some (Classical.choose (axb h)) else none
theorem o5{A:AP}{f:FuncId}{H:ae} : aj A f args H=some r↔∃ n,D3 A n f args H=some r:=by
 unfold aj;constructor
 ·intro h
  split at h
  ·grind
  ·cases h
 ·rintro ⟨n,hn⟩
  have hx:∃ n r,D3 A n f args H=some r:=⟨n,r,hn⟩;rw[axA hx];have h1:=axb (axb hx);have h2:=nU (awJ n (Classical.choose hx)) _ _ _ _ hn;have h3:=nU (awt n (Classical.choose hx)) _ _ _ _ h1;rw[h2] at h3;injection h3 with h3
  rw[h3]
def PX{A:AP}(n:Nat):gD.Le (D3 A n) (aj A):=fun _ _ _ _ h=>o5.2 ⟨n,h⟩
section
variable {A:AP}
theorem SW{o:oc}{r:AV × Option AS}(he:aQ A.aW (aj A) s o=some r):∃ n,aQ A.aW (D3 A n) s o=some r:=by
 cases o with
 | call fn args =>
  simp only[aQ] at he ⊢;split at he
  ·rename_i n fs cs hf
   cases hb:((args.map fun a=>a.addr A.aW s.T).all aM) with
   | false=>rw[hb] at he;cases he
   | true =>
    rw[hb] at he;simp only[cond_true,auP] at he;obtain⟨r0,h0,rfl⟩:=he;obtain⟨k,hk⟩:=o5.1 h0
    grind
  ·cases he
 | Ch fn args =>
  simp only[aQ] at he ⊢;split at he
  ·rename_i n fs cs hf
   cases hb:((args.map fun a=>a.addr A.aW s.T).all aM) with
   | false=>rw[hb] at he;cases he
   | true =>
    rw[hb] at he;simp only[cond_true,auQ] at he;obtain⟨r0,h0,he⟩:=he;obtain⟨k,hk⟩:=o5.1 h0
    grind
  ·cases he
 | _=>exact⟨0,he⟩
theorem Mk{r:AS}(he:aP A.aW (aj A) s o=some r):∃ n,aP A.aW (D3 A n) s o=some r:=by
 have key:∀ r,((aQ A.aW (aj A) s o.op).bind fun r=>match r.2 with
   | none=>some (s.bW o.dst r.1)
   | some s'=>some (s'.bW o.dst r.1))=some r->∃ n,((aQ A.aW (D3 A n) s o.op).bind fun r=>match r.2 with
   | none=>some (s.bW o.dst r.1)
   | some s'=>some (s'.bW o.dst r.1))=some r:=by
  intro r hr;simp only[auQ] at hr ⊢
  grind [SW]
 unfold aP at he ⊢;simp only at he ⊢;split at he
 ·exact key _ he
 ·split at he
  ·rename_i b hb
   cases hbw:(b==_) with
   | true=>rw[hbw] at he;exact key _ he
   | false=>rw[hbw] at he;exact⟨0,he⟩
  ·exact⟨0,he⟩
  ·cases he
theorem Gb:∀ {os:List aS} {s r:AS},gM A.aW (aj A) os s=some r->∃ n,gM A.aW (D3 A n) os s=some r
 | [],_,_,he=>⟨0,he⟩
 | o :: os,s,r,he=>by
  simp only[gM,auQ] at he ⊢;obtain⟨x,h1,h2⟩:=he;obtain⟨n,hn⟩:=Mk h1;obtain⟨m,hm⟩:=Gb h2;exact⟨max n m,x,AF (nU (awJ n m)) hn,wW (nU (awt n m)) hm⟩
theorem Km{F':Nat->AS->Option (bJ × AS)}(hm:∀ n m s r,n<=m->F' n s=some r->F' m s=some r)(h:∀ s r,F s=some r->∃ n,F' n s=some r) :
  ∀ {n:Nat} {s:AS} {r:bJ × AS},iter F n s=some r->∃ m,iter (F' m) n s=some r
 | 0,_,_,he=>by cases he
 | n+1,s,r,he=>by
  simp only[iter,auQ] at he ⊢;obtain⟨x,h1,h2⟩:=he;obtain⟨m1,CP⟩:=h _ _ h1;split at h2
  ·obtain⟨m2,Lw⟩:=Km hm h h2
   refine⟨max m1 m2,x,hm _ _ _ _ (awJ _ _) CP,?_⟩;rename_i hx;simp only[hx];exact rm (fun s r=>hm _ _ _ _ (awt _ _)) (Nat.le_refl _) Lw
  ·grind
theorem sw{n:Nat} : ∀ {c:aH} {s:AS} {r:bJ × AS},kK A.aW (aj A) n c s=some r->∃ m,kK A.aW (D3 A m) n c s=some r
 | .skip,_,_,he=>⟨0,he⟩
 | .exit _,_,_,he=>⟨0,he⟩
 | .ret,_,_,he=>⟨0,he⟩
 | .qQ _ _,_,_,he=>by simp[kK] at he
 | .region os,s,r,he=>by
  simp only[kK,auP] at he ⊢
  grind [Gb]
 | .seq a b,s,r,he=>by
  simp only[kK,auQ] at he ⊢;obtain⟨x,h1,h2⟩:=he;obtain⟨m1,CP⟩:=sw h1;split at h2
  ·rename_i hx
   obtain⟨m2,Lw⟩:=sw h2;refine⟨max m1 m2,x,kQ (nU (awJ _ _)) (Nat.le_refl _) CP,?_⟩;simp only[hx];exact kQ (nU (awt _ _)) (Nat.le_refl _) Lw
  ·grind
 | .cond c a b,s,r,he=>by
  simp only[kK] at he ⊢;split at he
  ·rename_i t ht
   cases t
   ·exact sw (c:=b) he
   ·exact sw (c:=a) he
  ·cases he
 | .block id a,s,r,he=>by
  simp only[kK,auP] at he ⊢;obtain⟨x,h1,h2⟩:=he;obtain⟨m,hm⟩:=sw h1;exact⟨m,x,hm,h2⟩
 | .loop a,s,r,he=>by
  simp only[kK] at he ⊢;exact Km (F':=fun m=>kK A.aW (D3 A m) n a) (fun n' m s r hn h=>kQ (nU hn) (Nat.le_refl _) h) (fun s r h=>sw h) he
theorem VL{n:Nat}{H:ae}(he:y5 A.aW (aj A) n fn args H=some r):∃ m,y5 A.aW (D3 A m) n fn args H=some r:=by
 unfold y5 at he ⊢;cases hb:Nat.beq args.length fn.np with
 | false=>rw[hb] at he;cases he
 | true =>
  rw[hb] at he;simp only[cond_true,auQ] at he ⊢
  grind [sw]
def qX{f:FuncId}(ho:A.ov f=none)(hf:A.fns f=some fn){n:Nat}{H:ae}(h:y5 A.aW (aj A) n fn args H=some r):aj A f args H=some r:=by
 obtain⟨m,hm⟩:=VL h;refine o5.2 ⟨max m n+1,?_⟩;simp only[D3,ho,hf];exact GY (nU (awJ _ _)) (awt _ _) hm
def fZ{f:FuncId}{g:List AV->ae->Option (AV × Option fR)}(ho:A.ov f=some g){H:ae}(h:g args H=some r)(hn:args.all vw=true:=by rfl):aj A f args H=some r :=
 o5.2 ⟨1,by simp only[D3,ho,hn,cond_true];exact h⟩
end
end
section
def aH.sub:List Bool->aH->aH
 | [],c=>c
 | false :: p,.seq a _=>a.sub p
 | true :: p,.seq _ b=>b.sub p
 | false :: p,.cond _ a _=>a.sub p
 | true :: p,.cond _ _ b=>b.sub p
 | _ :: p,.block _ a=>a.sub p
 | _ :: p,.loop a=>a.sub p
 | _,c=>c
def W(A:AP)(c:aH)(s:AS)(Q:bJ->AS->Prop):Prop:=∃ n e s',kK A.aW (aj A) n c s=some (e,s')/\Q e s'
def WO(A:AP)(os:List aS)(s:AS)(Q:AS->Prop):Prop:=∃ s',gM A.aW (aj A) os s=some s'/\Q s'
def ca(x:Option α)(K:α->Prop):Prop:=∃ s,x=some s/\K s
def Cj(v:AV)(p q:AS->Prop)(s:AS):Prop:=∃ b,v=.bool b/\(b=true->p s)/\(b=false->q s)
def andThen(P:AS->Prop)(Q:bJ->AS->Prop):bJ->AS->Prop
 | .normal,s=>P s
 | e,s=>Q e s
def leave(id:Nat)(Q:bJ->AS->Prop):bJ->AS->Prop
 | .exit i,s=>Q (cond (Nat.beq i id) .normal (.exit i)) s
 | e,s=>Q e s
section
variable {A:AP}
theorem aU{α:Type}{s:α}{K:α->Prop} : ca (some s) K=K s:=by
 refine propext ⟨?_,fun h=>⟨s,rfl,h⟩⟩
 rintro ⟨s',h,hk⟩
 grind
theorem L9{p q:AS->Prop}{s:AS} : Cj (.bool true) p q s=p s:=by
 refine propext ⟨?_,fun h=>⟨true,rfl,fun _=>h,fun hb=>Bool.noConfusion hb⟩⟩
 rintro ⟨b,h,h1,h2⟩
 grind
theorem Jr{p q:AS->Prop}{s:AS} : Cj (.bool false) p q s=q s:=by
 refine propext ⟨?_,fun hq=>⟨false,rfl,(fun hb=>Bool.noConfusion hb),fun _=>hq⟩⟩
 rintro ⟨b,h,h1,h2⟩
 grind
def jG(h1:b=true->p s)(h2:b=false->q s):Cj (.bool b) p q s:=⟨b,rfl,h1,h2⟩
def jt{P:Prop}{_:Decidable P}(h1:P->p s)(h2:¬ P->q s):Cj (.bool (decide P)) p q s :=
 ⟨_,rfl,fun h=>h1 (of_decide_eq_true h),fun h=>h2 (of_decide_eq_false h)⟩
def kL{P:AS->Prop}{Q:bJ->AS->Prop} : andThen P Q .normal s=P s:=rfl
def up{n:Nat}(h:n<=m){c:aH}{r:bJ × AS}(he:kK A.aW (aj A) n c s=some r):kK A.aW (aj A) m c s=some r:=kQ (fun _ _ _ _ h=>h) h he
def acg{Q:bJ->AS->Prop} : W A .skip s Q=Q .normal s:=by
 refine propext ⟨?_,fun h=>⟨0,_,_,rfl,h⟩⟩
 rintro ⟨n,e,s',h,hq⟩
 simp only[kK,auR,auV] at h;rw[h.1,h.2];exact hq
def ahf{Q:bJ->AS->Prop} : W A .ret s Q=Q .ret s:=by
 refine propext ⟨?_,fun h=>⟨0,_,_,rfl,h⟩⟩
 rintro ⟨n,e,s',h,hq⟩
 simp only[kK,auR,auV] at h;rw[h.1,h.2];exact hq
def ace{Q:bJ->AS->Prop} : W A (.exit i) s Q=Q (.exit i) s:=by
 refine propext ⟨?_,fun h=>⟨0,_,_,rfl,h⟩⟩
 rintro ⟨n,e,s',h,hq⟩
 simp only[kK,auR,auV] at h;rw[h.1,h.2];exact hq
def FJ{b:aH}{Q:bJ->AS->Prop} : W A (.seq a b) s Q=W A a s (andThen (fun s'=>W A b s' Q) Q):=by
 refine propext ⟨?_,?_⟩
 ·rintro ⟨n,e,s',h,hq⟩
  simp only[kK,auQ] at h;obtain⟨⟨e1,s1⟩,h1,h2⟩:=h;refine⟨n,e1,s1,h1,?_⟩;cases e1 with
  | normal=>exact⟨n,e,s',h2,hq⟩
  | _ =>
   simp only[auR,auV] at h2;obtain⟨rfl,rfl⟩:=h2;exact hq
 ·rintro ⟨n,e,s',h,hq⟩
  cases e with
  | normal =>
   obtain⟨m,e2,s2,h2,hq⟩:=hq;refine⟨max n m,e2,s2,?_,hq⟩;simp only[kK,up (awJ n m) h,auW,up (awt n m) h2]
  | exit i =>
   refine⟨n,_,s',?_,hq⟩;simp only[kK,h,auW]
  | ret =>
   refine⟨n,_,s',?_,hq⟩;simp only[kK,h,auW]
def Hj{Q:bJ->AS->Prop} : W A (.block i a) s Q=W A a s (leave i Q):=by
 refine propext ⟨?_,?_⟩
 ·rintro ⟨n,e,s',h,hq⟩
  simp only[kK,auP] at h;obtain⟨⟨e1,s1⟩,h1,h2⟩:=h;refine⟨n,e1,s1,h1,?_⟩;cases e1<;>simp only[auV] at h2<;>obtain⟨rfl,rfl⟩:=h2<;>exact hq
 ·rintro ⟨n,e,s',h,hq⟩
  cases e<;>exact⟨n,_,s',by simp only[kK,h,au2],hq⟩
def acb{c:aE}{b:aH}{Q:bJ->AS->Prop} : W A (.cond c a b) s Q=Cj (c.eval A.aW s.T) (fun s=>W A a s Q) (fun s=>W A b s Q) s:=by
 refine propext ⟨?_,?_⟩
 ·rintro ⟨n,e,s',h,hq⟩
  simp only[kK] at h;split at h
  ·rename_i t ht
   refine⟨t,ht,fun hb=>?_,fun hb=>?_⟩
   ·subst hb;exact⟨n,e,s',h,hq⟩
   ·subst hb;exact⟨n,e,s',h,hq⟩
  ·cases h
 ·rintro ⟨t,ht,h1,h2⟩
  cases t with
  | true =>
   obtain⟨n,e,s',h,hq⟩:=h1 rfl;exact⟨n,e,s',by simp only[kK,ht];exact h,hq⟩
  | false =>
   obtain⟨n,e,s',h,hq⟩:=h2 rfl;exact⟨n,e,s',by simp only[kK,ht];exact h,hq⟩
def RX{Q:bJ->AS->Prop} : W A (.region os) s Q=WO A os s (Q .normal):=by
 refine propext ⟨?_,?_⟩
 ·rintro ⟨n,e,s',h,hq⟩
  simp only[kK,auP,auV] at h;obtain⟨s1,h1,rfl,rfl⟩:=h;exact⟨s1,h1,hq⟩
 ·rintro ⟨s1,h1,hq⟩
  exact⟨0,.normal,s1,by simp only[kK,h1,au2],hq⟩
def Hi{Q:AS->Prop} : WO A [] s Q=Q s:=by
 refine propext ⟨?_,fun h=>⟨s,rfl,h⟩⟩
 rintro ⟨s',h,hq⟩
 simp only[gM,auR] at h;rw[h];exact hq
def gl{Q:AS->Prop} : WO A (o :: os) s Q=ca (aP A.aW (aj A) s o) fun s'=>WO A os s' Q:=by
 refine propext ⟨?_,?_⟩
 ·rintro ⟨s',h,hq⟩
  simp only[gM,auQ] at h;obtain⟨s1,h1,h2⟩:=h;exact⟨s1,h1,s',h2,hq⟩
 ·rintro ⟨s1,h1,s',h2,hq⟩
  exact⟨s',by simp only[gM,h1,auW,h2],hq⟩
def xP{b:aH}{Q:bJ->AS->Prop}(R:AS->Prop)(h1:W A a s (andThen R Q))(h2:∀ s',R s'->W A b s' Q):W A (.seq a b) s Q:=by
 rw[FJ];obtain⟨n,e,s',h,hq⟩:=h1
 exact⟨n,e,s',h,by cases e with|normal=>exact h2 s' hq|_=>exact hq⟩
def uc{c:aH}{Q Q':bJ->AS->Prop}(h:W A c s Q)(hq:∀ e s',Q e s'->Q' e s'):W A c s Q':=by
 obtain⟨n,e,s',h1,h2⟩:=h;exact⟨n,e,s',h1,hq e s' h2⟩
def RW{Q:bJ->AS->Prop}(I:Nat->AS->Prop)(hI:∀ k s,I k s->W A a s (andThen (fun s'=>∃ k',k' < k/\I k' s') Q)):∀ k s,I k s->W A (.loop a) s Q:=by
 intro k
 induction k using Nat.strongRecOn with
 | _ k ih =>
  intro s hs;obtain⟨n,e,s1,h1,hq⟩:=hI k s hs;cases e with
  | normal =>
   obtain⟨k',hk,qa⟩:=hq;obtain⟨m,e2,s2,h2,hq⟩:=ih k' hk s1 qa;refine⟨max n m+1,e2,s2,?_,hq⟩;simp only[kK,iter] at h2 ⊢;have Wt:=up (A:=A) (show n<=max n m+1 by omega) h1
   rw[Wt,auW];have h2' : iter (kK A.aW (aj A) (max n m+1) a) (max n m) s1=some (e2,s2) :=
    rm (fun s r h=>up (show m<=max n m+1 by omega) h) (awt n m) h2
   exact h2'
  | exit i =>
   refine⟨n+1,_,s1,?_,hq⟩;simp only[kK,iter];rw[up (A:=A) (show n<=n+1 by omega) h1,auW]
  | ret =>
   refine⟨n+1,_,s1,?_,hq⟩;simp only[kK,iter];rw[up (A:=A) (show n<=n+1 by omega) h1,auW]
def xR{Q:bJ->AS->Prop}(h:W A a s (andThen (fun s'=>W A (.loop a) s' Q) Q)):W A (.loop a) s Q:=by
 obtain⟨n,e,s1,h1,hq⟩:=h;cases e with
 | normal =>
  obtain⟨m,e2,s2,h2,hq⟩:=hq;refine⟨max n m+1,e2,s2,?_,hq⟩;simp only[kK,iter] at h2 ⊢;rw[up (A:=A) (show n<=max n m+1 by omega) h1,auW]
  exact rm (fun s r h=>up (show m<=max n m+1 by omega) h) (awt n m) h2
 | exit i =>
  refine⟨n+1,_,s1,?_,hq⟩;simp only[kK,iter];rw[up (A:=A) (show n<=n+1 by omega) h1,auW]
 | ret =>
  refine⟨n+1,_,s1,?_,hq⟩;simp only[kK,iter];rw[up (A:=A) (show n<=n+1 by omega) h1,auW]
def uZ{Q:bJ->AS->Prop}(n:Nat)(I:Nat->AS->Prop)(hI:∀ k s,k<=n->I k s->W A a s (andThen (fun s'=>k<n/\I (k+1) s') Q))(k:Nat)(s:AS)(hk:k<=n)(hs:I k s):W A (.loop a) s Q:=by
 refine RW (fun j s=>∃ k,k<=n/\j=n-k/\I k s) (fun j s h=>?_) (n-k) s ⟨k,hk,rfl,hs⟩
 obtain⟨k,hk,rfl,hs⟩:=h;refine uc (hI k s hk hs) fun e s' hq=>?_
 cases e with
 | normal =>
  obtain⟨h1,h2⟩:=hq;exact⟨n-(k+1),by omega,k+1,by omega,rfl,h2⟩
 | _=>exact hq
def Ex(i:Nat)(P V:AS->Prop):bJ->AS->Prop
 | .exit j,s=>j=i/\P s
 | .ret,s=>V s
 | .normal,_=>False
def NZ{Q:bJ->AS->Prop}(id:Nat)(P V:AS->Prop)(h:W A (.loop a) s (Ex id P V))(hp:∀ s',P s'->Q (.exit id) s')(hv:∀ s',V s'->Q .ret s'):W A (.loop a) s Q:=by
 refine uc h fun e s' hq=>?_
 cases e with
 | normal=>exact hq.elim
 | exit j=>obtain⟨rfl,hq⟩:=hq;exact hp s' hq
 | ret=>exact hv s' hq
def cj{Q:bJ->AS->Prop}(n id:Nat)(I:Nat->AS->Prop)(P V:AS->Prop)(hI:∀ k s,k<=n->I k s->W A a s (andThen (fun s'=>k<n/\I (k+1) s') (Ex id P V)))
  (hp:∀ s',P s'->Q (.exit id) s') (hv:∀ s',V s'->Q .ret s') (k:Nat) (s:AS) (hk:k<=n) (hs:I k s):W A (.loop a) s Q :=
 NZ id P V (uZ n I hI k s hk hs) hp hv
def oD{Q:bJ->AS->Prop}(id:Nat)(I:Nat->AS->Prop)(P V:AS->Prop)(hI:∀ k s,I k s->W A a s (andThen (fun s'=>∃ k',k' < k/\I k' s') (Ex id P V)))
  (hp:∀ s',P s'->Q (.exit id) s') (hv:∀ s',V s'->Q .ret s') (k:Nat) (s:AS) (hs:I k s):W A (.loop a) s Q :=
 NZ id P V (RW I hI k s hs) hp hv
def Hd(P:aD->Prop)(H:ae)(lo gen:Nat)(s:AS):Prop:=P s.T/\s.H=H/\s.lo=lo/\s.gen=gen
theorem Hd.out{P:aD->Prop}{H:ae}{lo gen:Nat}(h:Hd P H lo gen s):∃ T,s=⟨T,H,lo,gen⟩/\P T:=by
 obtain⟨T,H',l',g'⟩:=s;obtain⟨h1,h2,h3,h4⟩:=h
 grind
def HdG(P:aD->Prop)(H:ae)(lo:Nat)(s:AS):Prop:=P s.T/\s.H=H/\s.lo=lo
def HdG.out{P:aD->Prop}{H:ae}{lo:Nat}(h:HdG P H lo s):∃ T g,s=⟨T,H,lo,g⟩/\P T:=by
 obtain⟨T,H',l',g'⟩:=s;obtain⟨h1,h2,h3⟩:=h
 simp_all
def fin(base:Nat)(rs:List gY)(s:AS):Option (AV × Option fR) :=
 cond (ku base s) ((my s rs).bind fun r=>cond (r.leaves base) (some (r,cond (Nat.beq s.lo base) none (some ⟨s.H.take base,s.lo⟩))) none) none
def done(base:Nat)(rs:List gY)(r:AV × Option fR):bJ->AS->Prop
 | .exit _,_=>False
 | _,s=>fin base rs s=some r
def AD(base:Nat)(rs:List gY)(P:AV × Option fR->Prop):bJ->AS->Prop
 | .exit _,_=>False
 | _,s=>ca (fin base rs s) P
def Rh{r:gY}{b:Nat}(h:ow s r=some b):iO s r=none:=by
 cases r with
 | tmp t =>
  simp only[ow] at h;simp only[iO];split at h
  ·rename_i hT;rw[hT];rfl
  ·rename_i hT;rw[hT];rfl
  ·cases h
 | cell=>cases h
def JP{rs:List gY}{q:AV × Option fR}(he:sD m rs s=some q):∃ i l off n z,rs=[i]/\iO s i=some (.sref l off n z)/\m<=l:=by
 unfold sD at he;split at he
 ·rename_i i
  simp only[auQ] at he;obtain⟨v,hv,he⟩:=he;split at he
  ·rename_i l off n z
   split at he
   ·rename_i ty cs hH
    cases hb:(Nat.ble m l&&cs.all AV.plain) with
    | false=>rw[hb] at he;cases he
    | true =>
     simp_all
   ·cases he
  ·cases he
 ·cases he
theorem Si{base:Nat}(h:iI base fn.results s=some r):oE base fn s=none:=by
 cases hf:oE base fn s with
 | none=>rfl
 | some q =>
  exfalso;unfold oE at hf;cases hb:fn.muts.elem 888888 with
  | false=>rw[hb] at hf;cases hf
  | true =>
   rw[hb,cond_true] at hf;obtain⟨i,l,off,n,z,OG,qF,hml⟩:=JP hf;unfold iI my at h;rw[OG] at h;simp only at h;cases hr:ow s i with
   | some b=>rw[Rh hr] at qF;cases qF
   | none =>
    rw[hr] at h;simp only[qF,auW] at h;have:(AV.sref l off n z).leaves base=false:=by
     simp only[AV.leaves,AV.ft,AV.bz];cases hb:Nat.blt l base with
     | false=>rfl
     | true=>rw[avh] at hb;omega
    grind
theorem pd{base:Nat}(h:fin base fn.results s=some r):finish base fn s=some (rC fn r):=by
 unfold fin at h;cases ho:ku base s with
 | false=>rw[ho] at h;cases h
 | true =>
  rw[ho,cond_true] at h;have h:iI base fn.results s=some r:=h;unfold finish mc qp
  grind [Si]
def W9(base:Nat)(fn:ax)(P:AV × Option fR->Prop):bJ->AS->Prop
 | .exit _,_=>False
 | _,s=>∃ r,finish base fn s=some r/\P r
def FX{f:FuncId}(ho:A.ov f=none)(hf:A.fns f=some fn){H:ae}{P:AV × Option fR->Prop}(hn:Nat.beq args.length fn.np=true)
  (h:W A fn.body { T:=fm args,H,lo:=H.length,gen:=0 } (W9 H.length fn P)):∃ r,aj A f args H=some r/\P r:=by
 obtain⟨n,e,s',h1,h2⟩:=h;have key:∀ r,finish H.length fn s'=some r->aj A f args H=some r:=by
  intro r hr;refine qX ho hf (n:=n) ?_;unfold y5;rw[hn,cond_true,h1,auW];cases e with
  | exit i=>exact h2.elim
  | _=>exact hr
 cases e with
 | exit i=>exact h2.elim
 | _=>obtain⟨r,hr,hP⟩:=h2;exact⟨r,key r hr,hP⟩
theorem uP(hm:fn.muts.elem 777777=false)(r:AV × Option fR):rC fn r=r:=by unfold rC;rw[hm];rfl
theorem Dj(hm:fn.muts.elem 777777=true)(r:AV × Option fR):rC fn r=(ng r.1,r.2):=by unfold rC;rw[hm];rfl
theorem FY{f:FuncId}(ho:A.ov f=none)(hf:A.fns f=some fn){H:ae}{P:AV × Option fR->Prop}(hn:Nat.beq args.length fn.np=true)
  (h:W A fn.body { T:=fm args,H,lo:=H.length,gen:=0 } (AD H.length fn.results P)):∃ r,aj A f args H=some (rC fn r)/\P r:=by
 obtain⟨n,e,s',h1,h2⟩:=h;have key:∀ r,fin H.length fn.results s'=some r->aj A f args H=some (rC fn r):=by
  intro r hr;refine qX ho hf (n:=n) ?_;unfold y5;rw[hn,cond_true,h1,auW];cases e with
  | exit i=>exact h2.elim
  | _=>exact pd hr
 cases e with
 | exit i=>exact h2.elim
 | _=>obtain⟨r,hr,hP⟩:=h2;exact⟨r,key r hr,hP⟩
theorem ug{f:FuncId}(ho:A.ov f=none)(hf:A.fns f=some fn){H:ae}{P:AV × Option fR->Prop}(hn:Nat.beq args.length fn.np=true)
  (h:W A fn.body { T:=fm args,H,lo:=H.length,gen:=0 } (AD H.length fn.results P)) (hm:fn.muts.elem 777777=false:=by rfl):∃ r,aj A f args H=some r/\P r:=by
 grind [FY,uP]
theorem nz{f:FuncId}(ho:A.ov f=none)(hf:A.fns f=some fn){H:ae}{P:AV × Option fR->Prop}(hn:Nat.beq args.length fn.np=true)
  (hm:fn.muts.elem 777777=true) (h:W A fn.body { T:=fm args,H,lo:=H.length,gen:=0 } (AD H.length fn.results fun r=>P (ng r.1,r.2))):∃ r,aj A f args H=some r/\P r:=by
 grind [FY,Dj]
def Sw{f:FuncId}(ho:A.ov f=none)(hf:A.fns f=some fn){H:ae}(hn:Nat.beq args.length fn.np=true)
  (h:W A fn.body { T:=fm args,H,lo:=H.length,gen:=0 } (done H.length fn.results r)):aj A f args H=some (rC fn r):=by
 obtain⟨n,e,s',h1,h2⟩:=h;refine qX ho hf (n:=n) ?_;unfold y5;rw[hn,cond_true,h1,auW];cases e with
 | exit i=>exact h2.elim
 | _=>exact pd h2
def cB{f:FuncId}(ho:A.ov f=none)(hf:A.fns f=some fn){H:ae}(hn:Nat.beq args.length fn.np=true)
  (h:W A fn.body { T:=fm args,H,lo:=H.length,gen:=0 } (done H.length fn.results r)) (hm:fn.muts.elem 777777=false:=by rfl):aj A f args H=some r:=by
 have:=Sw ho hf hn h
 rwa [uP hm] at this
end
section
variable {A:AP}{T:aD}{H:ae}{lo gen:Nat}{Q:bJ->AS->Prop}{K:AS->Prop}
def Wm{a b:aH} : W A (.seq a b) ⟨T,H,lo,gen⟩ Q=W A a ⟨T,H,lo,gen⟩ (andThen (fun s'=>W A b s' Q) Q):=FJ
def IN{i:Nat}{a:aH} : W A (.block i a) ⟨T,H,lo,gen⟩ Q=W A a ⟨T,H,lo,gen⟩ (leave i Q):=Hj
def agz{c:aE}{a b:aH} : W A (.cond c a b) ⟨T,H,lo,gen⟩ Q=Cj (c.eval A.aW T) (fun s=>W A a s Q) (fun s=>W A b s Q) ⟨T,H,lo,gen⟩:=acb
def Lm{os:List aS} : W A (.region os) ⟨T,H,lo,gen⟩ Q=WO A os ⟨T,H,lo,gen⟩ (Q .normal):=RX
def agF:W A .skip ⟨T,H,lo,gen⟩ Q=Q .normal ⟨T,H,lo,gen⟩:=acg
def alb:W A .ret ⟨T,H,lo,gen⟩ Q=Q .ret ⟨T,H,lo,gen⟩:=ahf
def agB{i:Nat} : W A (.exit i) ⟨T,H,lo,gen⟩ Q=Q (.exit i) ⟨T,H,lo,gen⟩:=ace
def ab' : WO A [] ⟨T,H,lo,gen⟩ K=K ⟨T,H,lo,gen⟩:=Hi
def agE{t:Nat}{v:AV} : AS.cy ⟨T,H,lo,gen⟩ t v=⟨T.put t v,H,lo,gen⟩:=rfl
def ak'{h:ae}{l:Nat} : AS.iF ⟨T,H,lo,gen⟩ ⟨h,l⟩=⟨T,h,cond (Nat.blt l lo) l lo,gen⟩:=rfl
def Ll{P:AS->Prop} : andThen P Q .normal ⟨T,H,lo,gen⟩=P ⟨T,H,lo,gen⟩:=rfl
def agy{P:AS->Prop} : andThen P Q .ret ⟨T,H,lo,gen⟩=Q .ret ⟨T,H,lo,gen⟩:=rfl
def aam{P:AS->Prop}{i:Nat} : andThen P Q (.exit i) ⟨T,H,lo,gen⟩=Q (.exit i) ⟨T,H,lo,gen⟩:=rfl
def agC{P:aD->Prop}{H' : ae}{lo' : Nat} : HdG P H' lo' ⟨T,H,lo,gen⟩=(P T/\H=H'/\lo=lo'):=rfl
def Wk{i:Nat}{P V:AS->Prop} : Ex i P V (.exit i) ⟨T,H,lo,gen⟩=P ⟨T,H,lo,gen⟩:=propext ⟨fun h=>h.2,fun h=>⟨rfl,h⟩⟩
def aao{i:Nat}{P V:AS->Prop} : Ex i P V .ret ⟨T,H,lo,gen⟩=V ⟨T,H,lo,gen⟩:=rfl
def ala{P:aD->Prop}{H' : ae}{lo' gen' : Nat} : Hd P H' lo' gen' ⟨T,H,lo,gen⟩=(P T/\H=H'/\lo=lo'/\gen=gen'):=rfl
def agA{base:Nat}{rs:List gY}{r:AV × Option fR} : done base rs r .ret ⟨T,H,lo,gen⟩=(fin base rs ⟨T,H,lo,gen⟩=some r):=rfl
def Rw{base:Nat}{rs:List gY}{r:AV × Option fR} : done base rs r .normal ⟨T,H,lo,gen⟩=(fin base rs ⟨T,H,lo,gen⟩=some r):=rfl
def aan{base:Nat}{rs:List gY}{P:AV × Option fR->Prop} : AD base rs P .ret ⟨T,H,lo,gen⟩=ca (fin base rs ⟨T,H,lo,gen⟩) P:=rfl
def NU{base:Nat}{rs:List gY}{P:AV × Option fR->Prop} : AD base rs P .normal ⟨T,H,lo,gen⟩=ca (fin base rs ⟨T,H,lo,gen⟩) P:=rfl
def Rx{i:Nat} : leave i Q .normal ⟨T,H,lo,gen⟩=Q .normal ⟨T,H,lo,gen⟩:=rfl
def agD{i:Nat} : leave i Q .ret ⟨T,H,lo,gen⟩=Q .ret ⟨T,H,lo,gen⟩:=rfl
theorem aap : leave i Q (.exit i) ⟨T,H,lo,gen⟩=Q .normal ⟨T,H,lo,gen⟩:=by simp[leave]
theorem Wl{i j:Nat} : leave i Q (.exit j) ⟨T,H,lo,gen⟩=if j=i then Q .normal ⟨T,H,lo,gen⟩ else Q (.exit j) ⟨T,H,lo,gen⟩:=by
 by_cases dp:j=i
 ·grind [aap]
 rw[if_neg dp];have hb:Nat.beq j i=false:=by
  cases hb:Nat.beq j i with
  | false=>rfl
  | true=>exact absurd (avR hb) dp
 simp[leave,hb]
end
def Jg{n:Nat} : Nat.beq n n=true:=awF n
theorem put_eq{T:aD} : (T.put d v) d=v:=by simp[aD.put]
theorem afk{T:aD}(h:(i==d)=false):(T.put d v) i=T i:=by
 have dp:i≠d:=by simpa using h
 have hb:Nat.beq i d=false:=by
  cases hb:Nat.beq i d with
  | false=>rfl
  | true=>exact absurd (avR hb) dp
 simp only[aD.put,hb];rfl
theorem Y7{T:aD}{d i:Nat}{v:AV} : (T.put d v) i=if i=d then v else T i:=by
 grind [put_eq,afk]
def MT{a:AV}{l:List AV} : fm (a :: l) 0=a:=rfl
def MS{a:AV}{l:List AV}{n:Nat} : fm (a :: l) (n+1)=fm l n:=by simp[fm]
end
end Go.Abs
end
