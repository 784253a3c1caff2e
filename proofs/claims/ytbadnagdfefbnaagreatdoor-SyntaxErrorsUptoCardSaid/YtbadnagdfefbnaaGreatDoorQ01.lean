/-
  A part of the proof of SyntaxErrors: AbsOm, AbsDefs, AbsMono, AbsWp.
-/
import Derived.KernelRfl
import Derived.Orders
set_option linter.unusedSimpArgs false
set_option linter.unusedVariables false
set_option linter.defProp false
noncomputable section
namespace Go
def tk {α:Type} {a:Option α} {f g:α} (h:a=some f) (e:f=g):a=some g:=e ▸ h
def au2:=@Option.map_eq_some_iff
def au3:=@Option.bind_eq_some_iff
def au4:=@Option.some.injEq
def au5:=@List.getElem?_eq_getElem
def au6:=@Bool.and_eq_true
def au7:=@List.getElem?_eq_some_iff
def au8:=@Prod.mk.injEq
def au9:=@Option.bind_some
def au':=@List.mem_append
def ava:=@List.all_eq_true
def avb:=@List.mem_of_getElem?
def avc:=@Array.getElem?_eq_some_iff
def avd:=@List.getElem?_append_left
def ave:=@Option.map_some
def avf:=@decide_eq_true_eq
def avg:=@Nat.mul_le_mul_right
def avh:=@Array.getElem?_eq_getElem
def avi:=@List.mem_singleton
def avj:=@List.append_assoc
def avk:=@List.getElem?_cons_zero
def avl:=@List.length_eq_zero_iff
def avm:=@List.map_cons
def avn:=@Nat.blt_eq
def avo:=@Bool.not_eq_true'
def avp:=@decide_eq_false_iff_not
def avq:=@List.modify_zero_cons
def avr:=@List.drop_eq_getElem_cons
def avs:=@List.mem_cons
def avt:=@Bool.false_and
def avu:=@List.getElem?_of_mem
def avv:=@Nat.ble_eq
def avw:=@List.getElem?_take
def avx:=@List.getElem_mem
def avy:=@List.flatten_cons
def avz:=@Nat.le_trans
def avA:=@Nat.zero_add
def avB:=@Nat.zero_le
def avC:=@List.getElem?_toArray
def avD:=@List.modify_succ_cons
def avE:=@Bool.true_and
def avF:=@List.length_drop
def avG:=@Nat.add_zero
def avH:=@Int.toNat_natCast
def avI:=@List.getElem?_cons_succ
def avJ:=@Bool.or_eq_false_iff
def avK:=@List.cons_append
def avL:=@List.take_length
def avM:=@beq_iff_eq
def avN:=@List.map_nil
def avO:=@List.nil_append
def avP:=@Array.getElem?_toList
def avQ:=@List.not_mem_nil
def avR:=@List.take_succ_cons
def avS:=@Option.some.inj
def avT:=@Nat.ble_eq_true_of_le
def avU:=@List.length_take
def avV:=@Nat.add_mul
def avW:=@Int.tmod_eq_emod_of_nonneg
def avX:=@List.length_singleton
def avY:=@List.take_zero
def avZ:=@List.getElem?_append
def av0:=@Option.getD_some
def av1:=@decide_eq_false
def av2:=@List.getElem?_set
def av3:=@Bool.false_or
def av4:=@Bool.not_eq_false'
def av5:=@Nat.eq_of_beq_eq_true
def av6:=@Nat.le_of_ble_eq_true
def av7:=@List.drop_drop
def av8:=@Bool.not_true
def av9:=@List.getElem?_drop
def av':=@and_true
def awa:=@List.take_append_drop
def awb:=@Bool.and_true
def awc:=@List.mem_cons_of_mem
def awd:=@Bool.not_false
def awe:=@List.cons.injEq
def awf:=@Option.map_none
def awg:=@Bool.eq_false_or_eq_true
def awh:=@List.map_map
def awi:=@bne_eq_false_iff_eq
def awj:=@Bool.false_eq_true
def awk:=@Nat.lt_of_lt_of_le
def awl:=@List.flatten_nil
def awm:=@List.mem_of_mem_take
def awn:=@Nat.le_of_eq
def awo:=@List.length_eq_one_iff
def awp:=@List.size_toArray
def awq:=@List.length_pos_iff
def awr:=@Ne.symm
def aws:=@List.drop_append_of_le_length
def awt:=@congrArg
def awu:=@Nat.le_zero
def awv:=@List.take_add_one
def aww:=@or_false
def awx:=@Bool.or_eq_true
def awy:=@List.take_left'
def awz:=@Bool.or_false
def awA:=@Nat.not_lt
def awB:=@List.drop_length
def awC:=@List.mem_flatMap
def awD:=@Nat.le_max_right
def awE:=@List.drop_left'
def awF:=@List.mem_append_left
def awG:=@Nat.le_of_lt
def awH:=@List.ext_getElem?
def awI:=@List.take_append_of_le_length
def awJ:=@Array.getElem?_push
def awK:=@List.drop_succ_cons
def awL:=@List.mem_range
def awM:=@Int.le_refl
def awN:=@List.contains_cons
def awO:=@List.mem_or_eq_of_mem_set
def awP:=@Option.isNone_iff_eq_none
def awQ:=@Nat.lt_or_ge
def awR:=@Nat.sub_self
def awS:=@List.cons.inj
def awT:=@if_true
def awU:=@Array.eq_empty_of_size_eq_zero
def awV:=@Nat.le_max_left
def awW:=@UInt8.toNat_ofNat'
def awX:=@true_and
def awY:=@Array.mem_of_getElem?
def awZ:=@Nat.beq_refl
def aw0:=@Option.map_map
def aw1:=@Array.ext'
def aw2:=@Bool.not_eq_true
def aw3:=@List.map_toArray
def aw4:=@List.mem_flatten
def aw5:=@Nat.lt_succ_self
def aw6:=@beq_self_eq_true
def aw7:=@Int.tdiv_eq_ediv_of_nonneg
def aw8:=@Nat.lt_irrefl
def aw9:=@List.mem_map_of_mem
def aw':=@List.all_append
def axa:=@List.getElem?_zip_eq_some
def axb:=@List.isEmpty_eq_false_iff
def axc:=@List.set_cons_succ
def axd:=@Nat.zero_mul
def axe:=@Nat.beq_eq
def axf:=@Nat.lt_trichotomy
def axg:=@Nat.one_mul
def axh:=@List.take_nil
def axi:=@List.isEmpty_iff
def axj:=@List.zipIdx_cons
def axk:=@Classical.choose_spec
def axl:=@List.mem_append_right
def axm:=@Array.getElem?_setIfInBounds_ne
def axn:=@List.mem_filter
def axo:=@Nat.min_eq_left
def axp:=@Int.toNat_of_nonneg
def axq:=@Nat.mul_one
def axr:=@List.set_cons_zero
def axs:=@List.exists_cons_of_ne_nil
def axt:=@Nat.add_assoc
def axu:=@List.isEmpty_cons
def axv:=@Array.toList_map
def axw:=@List.cons_ne_nil
def axx:=@List.eq_of_mem_replicate
def axy:=@List.filter_cons
def axz:=@List.getElem?_take_of_lt
def axA:=@Nat.add_comm
def axB:=@Int.eq_ofNat_of_zero_le
def axC:=@List.foldl_cons
def axD:=@List.head?_cons
def axE:=@List.nodup_cons
def axF:=@Nat.not_lt_zero
def axG:=@Array.getElem?_extract
def axH:=@List.zipWith_cons_cons
def axI:=@Option.map_eq_none_iff
def axJ:=@List.Perm.refl
def axK:=@List.getElem?_zipWith
def axL:=@List.take_take
def axM:=@List.contains_eq_mem
def axN:=@if_false
def axO:=@Array.length_toList
def axP:=@Array.toList_zipIdx
def axQ:=@Function.comp_apply
def axR:=@List.getD_cons_zero
def axS:=@List.length_zipWith
def axT:=@List.replicate_zero
def axU:=@beq_eq_false_iff_ne
def axV:=@Bool.true_or
def axW:=@Nat.mul_comm
def axX:=@List.map_id
def axY:=@decide_true
end Go
namespace Go.Abs
variable {b:Bool}{d i m:Nat}{α:Type}
section
section
variable {P A:Prop}
def ah(z:P:=by omega):P:=z
def ag(z:P:=by simp):P:=z
def aI(z:P:=by decide):P:=z
def Lk(z:P:=by kernel_rfl):P:=z
def dq(z:P:=by simp;omega):P:=z
def kq(z:P:=by simp only[List.length_append,List.length_cons,List.length_nil];omega):P:=z
def cY(a:A)(z:A->P:=by intro a;simpa using a):P:=z a
def zo(a:A)(z:A->P:=by intro a;simp[a]):P:=z a
end
end
section
inductive AV where
 | bool (b:Bool)
 | int (k:IntKind) (n:Int)
 | str (l:List UInt8)
 | any
 | nf|kA|kJ|df
 | slice (elems:List (List AV)) (own:Bool)
 | eptr (cells:List AV)
 | ref (loc off:Nat)
 | sref (loc off n z:Nat)
 | mref (loc:Nat)
 | je (kz:Nat) (ka va:Bool) (es:List (List AV))
 | mz (kz:Nat) (ka va:Bool) (es:List (List AV))
 | iter (g kz:Nat) (ka va:Bool) (cur:List AV) (todo:List (List AV))
 | lbox (g:Nat) (cells:List AV)
 | lref (s g off:Nat)
 | lsl (g:Nat) (elems:List (List AV))
 | lsr (s g:Nat)
 | eref (s g i z off:Nat)
 | func (f:Fn) (first captured:List AV)
 | iface (t:TypeId) (v:AV)
 | agg (cells:List AV)
 | tuple (vs:List AV)
 | ar
 deriving Inhabited,Repr
abbrev AV.undef:AV:=.tuple []
inductive bS where
 | box (ty:TypeId) (cells:List AV)
 | map (kz:Nat) (ka va:Bool) (es:List (List AV))
 | je (kz:Nat) (ka va:Bool) (es:List (List AV))
 | Ta (cells:List AV)
 | bZ (cells:List AV)
 | dead
 deriving Inhabited,Repr
abbrev ae:=List bS
abbrev aD:=Nat->AV
def aD.put(T:aD)(d:Nat)(v:AV):aD:=fun i=>cond (Nat.beq i d) v (T i)
structure fP where
 heap:ae
 lo:Nat
 deriving Inhabited
abbrev gz:=FuncId->List AV->ae->Option (AV × Option fP)
inductive aE where
 | tmp (t:Nat)
 | xQ (v:AV)
 | aY (g:Nat)
 | fn (f:FuncId)
 deriving Inhabited,Repr
inductive B9 where
 | toInt (k:IntKind)
 | Iy
 | Cq
 deriving Inhabited,Repr
inductive zM where
 | str
 | sl (sz:Nat)
 | arr (n sz:Nat)
 deriving Inhabited,Repr
inductive CK where
 | b|i|s
 deriving Inhabited,Repr,DecidableEq
inductive zG where
 | other|bool|iface|func
 | flat (ks:List CK)
 deriving Inhabited,Repr
inductive sD where
 | str|sl
 | arr (n:Nat)
 deriving Inhabited,Repr
inductive Rw where
 | frame (b:Nat)
 | heap
 deriving Inhabited,Repr
inductive ow where
 | chk (c:Rw) (x:aE)
 | mov (take obj:Bool) (x:aE)
 | pick (c a b:aE)
 | allocL (zero:List AV)
 | Hg (ty:TypeId) (zero:List AV)
 | boxL (x:aE)
 | box (ty:TypeId) (x:aE)
 | build (zero:List AV) (parts:List (Nat × Nat × aE))
 | mkslice (isB:Bool) (sz:Nat) (Ld:List (List AV)) (parts:List (Nat × aE))
 | zb (sz:Nat) (Ld:List (List AV)) (parts:List (Nat × aE))
 | load (take agg:Bool) (sz:Nat) (x:aE)
 | store (sz:Nat) (a v:aE)
 | nilCheck (x:aE)
 | bin (op:BinOp) (k:zG) (x y:aE)
 | un (op:UnOp) (x:aE)
 | mm (mx:Bool) (x y:aE)
 | conv (c:B9) (x:aE)
 | slice (k:zM) (x:aE) (lo hi mx:Option aE)
 | fieldAddr (off:Nat) (x:aE)
 | ixSl (sz:Nat) (x i:aE)
 | ixArr (n sz:Nat) (x i:aE)
 | index (agg:Bool) (n sz:Nat) (x i:aE)
 | rR (x i:aE)
 | extract (x:aE) (i:Nat)
 | len (k:sD) (x:aE)
 | append (isB wr:Bool) (sz bytes:Nat) (x y:aE)
 | appendO (sz bytes:Nat) (x y:aE)
 | copyO (x y:aE)
 | Pp (x:aE)
 | Ve (neg:Bool) (x:aE)
 | U8 (sz bytes:Nat) (zero:List AV) (n:aE)
 | call (f:aE) (args:List aE)
 | Cs (f:aE) (args:List aE)
 | mkfunc (f:Fn) (first captured:List aE)
 | Kn (kz:Nat) (ka va:Bool)
 | look (ok:Bool) (kz:Nat) (ka va:Bool) (ks:List CK) (zero:List AV) (m k:aE)
 | MN (kz:Nat) (ka va:Bool) (vz:Nat) (ks:List CK) (m k v:aE)
 | rng (kz:Nat) (ka va:Bool) (m:aE)
 | next (it:aE)
 | ent (it:aE)
 | same (agg:Bool) (sz d:Nat) (x:aE)
 deriving Inhabited,Repr
structure aV where
 dst:Option Nat
 guard:Option (Nat × Bool)
 op:ow
 deriving Inhabited,Repr
inductive aK where
 | skip
 | region (ops:List aV)
 | rD (ops:List aV) (pre:List (List Nat))
 | seq (a b:aK)
 | cond (c:aE) (a b:aK)
 | block (id:Nat) (a:aK)
 | loop (a:aK)
 | exit (id:Nat)
 | ret
 deriving Inhabited,Repr
inductive iu where
 | tmp (t:Nat)
 | cell (a:Nat) (agg:Bool) (sz:Nat)
 deriving Inhabited,Repr
structure aB where
 dI:List Nat
 locals:List Nat
 muts:List Nat
 nt:Nat
 np:Nat
 results:List iu
 body:aK
 deriving Inhabited,Repr
inductive bH where
 | normal
 | exit (id:Nat)
 | ret
 deriving Inhabited,Repr,DecidableEq
structure AS where
 T:aD
 H:ae
 lo:Nat
 gen:Nat
def AV.cells:AV->Option (List AV)
 | .agg cs=>some cs
 | .any=>none
 | .tuple _=>none
 | .lbox ..=>none
 | .lref ..=>none
 | .lsl ..=>none
 | .lsr ..=>none
 | .eref ..=>none
 | .iter ..=>none
 | v=>some [v]
def AV.drop:AV->AV
 | .slice e _=>.slice e false
 | v=>v
def AV.dh:AV->AV
 | .agg cs=>.agg (cs.map AV.drop)
 | v=>v.drop
def AV.plain:AV->Bool
 | .bool _|.int ..|.str _|.any|.nf|.kA|.kJ|.df|.eptr _|.je ..|.mz ..|.ar=>true
 | .slice _ own=>!own
 | .func _ [] []=>true
 | .iface _ (.bool _)|.iface _ (.int ..)|.iface _ (.str _)|.iface _ .any|.iface _ .nf=>true
 | _=>false
def AV.elem(sz:Nat)(v:AV):Option (List AV) :=
 match v.cells with
 | none=>none
 | some cs =>
  let ds:=cs.map AV.drop
  cond (Nat.beq ds.length sz&&ds.all AV.plain) (some ds) none
def AV.bw(base:Nat):AV->Bool
 | .ref loc _=>Nat.blt loc base
 | .sref loc _ _ _=>Nat.blt loc base
 | .mref loc=>Nat.blt loc base
 | v=>v.plain
def AV.fu(base:Nat):AV->Bool
 | .agg cs=>cs.all (AV.bw base)
 | v=>v.bw base
def AV.leaves(base:Nat):AV->Bool
 | .func _ fs cs=>fs.all (AV.bw base)&&cs.all (AV.bw base)
 | .iface _ v=>v.bw base
 | .tuple vs=>vs.all (AV.fu base)
 | .slice ..=>true
 | v=>v.fu base
def fz:AV->Option Nat
 | .lbox g _=>some g
 | .lsl g _=>some g
 | .iter g ..=>some g
 | _=>none
def aE.eval(G:Nat->List AV)(T:aD):aE->AV
 | .tmp t=>T t
 | .xQ v=>v
 | .aY g=>.eptr (G g)
 | .fn f=>.func (.func f) [] []
def asNat:AV->Option Nat
 | .int _ n=>cond (decide (0<=n)) (some n.toNat) none
 | _=>none
def cD:List CK->List AV->List AV->Option Bool
 | [],_,_=>some true
 | .b :: ks,.bool a :: xs,.bool b :: ys=>(cD ks xs ys).map (a==b&&·)
 | .i :: ks,.int j a :: xs,.int k b :: ys=>cond (decide (j=k)) ((cD ks xs ys).map (a==b&&·)) none
 | .s :: ks,.str a :: xs,.str b :: ys=>(cD ks xs ys).map (a==b&&·)
 | _,_,_=>none
def aa(op:BinOp)(k:IntKind)(a b:Int):Option AV :=
 match op with
 | .add=>some (.int k (k.wrap (a+b)))
 | .sub=>some (.int k (k.wrap (a-b)))
 | .mul=>some (.int k (k.wrap (a*b)))
 | .quo=>cond (decide (b=0)) none (some (.int k (k.wrap (a.tdiv b))))
 | .rem=>cond (decide (b=0)) none (some (.int k (a.tmod b)))
 | .eql=>some (.bool (a==b))
 | .neq=>some (.bool (a != b))
 | .lss=>some (.bool (decide (a<b)))
 | .leq=>some (.bool (decide (a<=b)))
 | .gtr=>some (.bool (decide (a>b)))
 | .geq=>some (.bool (decide (a>=b)))
 | _=>none
def cz(op:BinOp)(a b:List UInt8):Option AV :=
 match op with
 | .add=>cond (decide (a.length+b.length<=4611686018427387904)) (some (.str (a++b))) none
 | .eql=>some (.bool (a==b))
 | .neq=>some (.bool !(a==b))
 | .lss=>some (.bool (Op.bytesLess a b))
 | .leq=>some (.bool (Op.bytesLess a b || a==b))
 | .gtr=>some (.bool !(Op.bytesLess a b || a==b))
 | .geq=>some (.bool !(Op.bytesLess a b))
 | _=>none
def cA(op:BinOp)(b:Bool):Option AV :=
 match op with
 | .eql=>some (.bool b)
 | .neq=>some (.bool !b)
 | _=>none
def dj:aE->Bool
 | .xQ _=>true
 | _=>false
def AG(op:BinOp)(q:zG)(xQ:Bool)(x y:AV):Option AV :=
 match x,y with
 | .int j a,.int k b=>cond (decide (j=k)) (aa op j a b) none
 | .str a,.str b=>cz op a b
 | .bool a,.bool b=>(match q with|.bool=>cA op (a==b)|_=>none)
 | .agg xs,.agg ys=>(match q with|.flat ks=>(cD ks xs ys).bind fun b=>cA op b|_=>none)
 | x,.df=>cond (xQ&&(match q with|.iface=>true|_=>false)) ((match x with|.df=>some true|.iface ..=>some false|_=>none).bind fun b=>cA op b) none
 | x,.kJ=>cond (match q with|.func=>true|_=>false) ((match x with|.kJ=>some true|.func ..=>some false|_=>none).bind fun b=>cA op b) none
 | _,_=>none
def gF(op:UnOp)(x:AV):Option AV :=
 match op,x with
 | .neg,.int k n=>some (.int k (k.wrap (0-n)))
 | .not,.bool b=>some (.bool !b)
 | _,_=>none
def aeU(mx:Bool)(x y:AV):Option AV :=
 match x,y with
 | .int k a,.int j b=>cond (decide (k=j)) (some (.int k (cond mx (if b>a then b else a) (if b<a then b else a)))) none
 | _,_=>none
def bytesOf:List (List AV)->Option (List UInt8)
 | []=>some []
 | [.int .u8 n] :: r=>(bytesOf r).map (UInt8.ofNat n.toNat :: ·)
 | _=>none
def cn(c:B9)(x:AV):Option AV :=
 match c,x with
 | .toInt k,.int _ n=>some (.int k (k.wrap n))
 | .Iy,.str l=>some (.str l)
 | .Cq,.slice e _=>(bytesOf e).map .str
 | _,_=>none
def chunks(sz:Nat):Nat->List AV->List (List AV)
 | 0,_=>[]
 | n+1,l=>l.take sz :: chunks sz n (l.drop sz)
def bound(alZ:Nat)(x:Option AV)(jI:Nat):Option Nat :=
 match x with
 | none=>some alZ
 | some v=>(asNat v).bind fun n=>cond (Nat.ble n jI) (some n) none
def gC(sz:Nat)(e:List (List AV)):Bool:=(e.head?.map fun r=>Nat.beq r.length sz).getD true
def bL(k:zM)(x:AV)(lo hi mx:Option AV):Option AV :=
 match k,x with
 | .str,.str l=>(bound l.length hi l.length).bind fun h=>(bound 0 lo h).bind fun a=>cond mx.isNone (some (.str ((l.take h).drop a))) none
 | .sl sz,.slice e _=>(bound e.length mx e.length).bind fun m=>(bound e.length hi m).bind fun h=>(bound 0 lo h).bind fun a =>
   cond ((mx.isNone || hi.isSome)&&(lo.isNone || gC sz e)) (some (.slice ((e.take h).drop a) (mx.isSome&&Nat.beq m h))) none
 | .sl sz,.sref l o n z=>(bound n hi n).bind fun h=>(bound 0 lo h).bind fun a=>cond (mx.isNone&&Nat.beq z sz) (some (cond (Nat.blt a n) (.sref l (o+a*z) (h-a) z) (.slice [] false))) none
 | .arr n sz,.eptr cs=>cond (Nat.beq cs.length (n*sz)) ((bound n hi n).bind fun h=>(bound 0 lo h).bind fun a=>cond mx.isNone (some (.slice (((chunks sz n cs).take h).drop a) false)) none) none
 | _,_=>none
def de(k:sD)(x:AV):Option AV :=
 match k,x with
 | .str,.str l=>some (.int .i64 l.length)
 | .sl,.slice e _=>some (.int .i64 e.length)
 | .sl,.sref _ _ n _=>some (.int .i64 n)
 | .sl,.ar=>some (.int .i64 0)
 | .arr n,_=>some (.int .i64 n)
 | _,_=>none
def putAt(l:List AV)(off:Nat)(cs:List AV):List AV:=l.take off++cs++l.drop (off+cs.length)
def fw:List AV->List (Nat × Nat × AV)->Option (List AV)
 | cells,[]=>some cells
 | cells,(off,sz,v) :: r =>
  match v.cells with
  | none=>none
  | some cs=>cond (Nat.beq cs.length sz&&Nat.ble (off+cs.length) cells.length) (fw (putAt cells off (cs.map AV.drop)) r) none
def cN(sz:Nat):List (List AV)->List (Nat × AV)->Option (List (List AV))
 | es,[]=>some es
 | es,(i,v) :: r =>
  match v.elem sz with
  | none=>none
  | some cs=>cond (Nat.blt i es.length) (cN sz (es.set i cs) r) none
def ab(take agg:Bool)(sz off:Nat)(cs:List AV):Option AV :=
 cond agg (cond (Nat.ble (off+sz) cs.length) (some (.agg (((cs.drop off).take sz).map AV.drop))) none)
  ((cs[off]?).map fun v=>cond take v v.drop)
def cM(off:Nat)(cs:List AV):List AV:=cs.modify off AV.drop
def AS.cx(s:AS)(t:Nat)(v:AV):AS:={ s with T:=s.T.put t v }
def AS.iK(s:AS)(c:fP):AS:={ s with H:=c.heap,lo:=cond (Nat.blt c.lo s.lo) c.lo s.lo }
def aE.addr(G:Nat->List AV)(T:aD):aE->AV
 | .tmp t=>match T t with
  | .lbox g _=>.lref t g 0
  | .lsl g _=>.lsr t g
  | .iter ..=>.any
  | v=>v
 | .xQ v=>v
 | .aY g=>.eptr (G g)
 | .fn f=>.func (.func f) [] []
def cS(s:AS)(take agg:Bool)(sz:Nat)(x:AV):Option (AV × Option AS) :=
 match x with
 | .eptr cs=>(ab false agg sz 0 cs).map (·,none)
 | .ref loc off=>match s.H[loc]? with
  | some (.box ty cs)=>(ab take agg sz off cs).map fun v=>(v,cond (take&&!agg) (some (s.iK ⟨s.H.set loc (.box ty (cM off cs)),loc⟩)) none)
  | some (.Ta cs)=>(ab false agg sz off cs).map (·,none)
  | some (.bZ cs)=>(ab false agg sz off cs).map (·,none)
  | _=>none
 | .lref b g off=>match s.T b with
  | .lbox g' cs=>cond (Nat.beq g g') ((ab take agg sz off cs).map fun v=>(v,cond (take&&!agg) (some (s.cx b (.lbox g (cM off cs)))) none)) none
  | _=>none
 | .eref b g i z off=>match s.T b with
  | .lsl g' e=>cond (Nat.beq g g') ((e[i]?).bind fun r=>cond (Nat.beq r.length z) ((ab false agg sz off r).map (·,none)) none) none
  | _=>none
 | _=>none
def iH(loc:Nat):AV->Bool
 | .ref l _=>Nat.ble l loc
 | .sref l _ _ _=>Nat.ble l loc
 | .mref l=>Nat.ble l loc
 | v=>v.drop.plain
def l8(loc:Nat):AV->Bool
 | .agg cs=>cs.all (iH loc)
 | v=>iH loc v
def bf(loc:Nat):AV->Bool
 | .ref l _=>Nat.ble l loc
 | .sref l _ _ _=>Nat.ble l loc
 | .mref l=>Nat.ble l loc
 | .func _ fs cs=>fs.all (l8 loc)&&cs.all (l8 loc)
 | v=>v.drop.plain
def aN:AV->Bool
 | .lref ..=>false
 | .lbox ..=>false
 | .lsl ..=>false
 | .lsr ..=>false
 | .eref ..=>false
 | .iter ..=>false
 | _=>true
def ax(s:AS)(sz:Nat)(a v:AV):Option AS :=
 match v.cells with
 | none=>none
 | some vs=>cond (Nat.beq vs.length sz)
  (match a with
   | .ref loc off=>match s.H[loc]? with
    | some (.box ty cs)=>cond (Nat.ble (off+sz) cs.length&&vs.all (bf loc)) (some (s.iK ⟨s.H.set loc (.box ty (putAt cs off vs)),loc⟩)) none
    | some (.bZ cs)=>cond (Nat.ble (off+sz) cs.length&&vs.all aN) (some (s.iK ⟨s.H.set loc (.bZ (putAt cs off vs)),loc⟩)) none
    | _=>none
   | .lref b g off=>match s.T b with
    | .lbox g' cs=>cond (Nat.beq g g'&&Nat.ble (off+sz) cs.length&&vs.all aN) (some (s.cx b (.lbox g (putAt cs off vs)))) none
    | _=>none
   | .eref b g i z off=>match s.T b with
    | .lsl g' e=>cond (Nat.beq g g') ((e[i]?).bind fun r=>cond (Nat.beq r.length z&&Nat.ble (off+sz) r.length&&(vs.map AV.drop).all AV.plain) (some (s.cx b (.lsl g (e.set i (putAt r off (vs.map AV.drop)))))) none) none
    | _=>none
   | _=>none)
  none
abbrev bD:TypeId:=4294967295
def AS.bG(s:AS):aE->AS
 | .tmp t=>match s.T t with
  | .slice e true=>s.cx t (.slice e false)
  | _=>s
 | _=>s
def bz(sz:Nat):AV->Option (List (List AV))
 | .slice f _=>some f
 | .str l=>cond (Nat.beq sz 1) (some (l.map fun (b:UInt8)=>[AV.int .u8 b.toNat])) none
 | .ar=>some []
 | _=>none
abbrev jo:TypeId:=5
def ng(e:List (List AV)):Bool:=e.all fun r=>r.all fun|.int .u8 _=>false|.any=>false|_=>true
def uA(e:List (List AV)):Bool:=e.all fun|[.int .u8 _]=>true|_=>false
def nP(isB:Bool)(e:List (List AV)):Bool:=cond isB (uA e) (ng e)
def cK(sz bytes:Nat)(e f:List (List AV)):Bool :=
 Nat.ble ((e.length+f.length)*bytes) 70368744177664&&Nat.ble (e.length+f.length) 70368744177664&&gC sz e&&gC sz f
def aG(isB:Bool)(sz bytes:Nat)(x y:AV):Option AV :=
 match x with
 | .slice e own=>(bz sz y).bind fun f =>
  match f with
  | []=>some (.slice e own)
  | f=>cond (own&&cK sz bytes e f&&nP isB (e++f)) (some (.slice (e++f) true)) none
 | _=>none
def dM(f:List (List AV)):Bool:=f.all fun r=>r.all AV.plain
def GD(x y:AV):Option AV :=
 match x with
 | .slice [] true=>(match y with|.slice [] _|.ar=>some (.slice [] false)|_=>none)
 | .ar=>(match y with|.slice [] _|.ar=>some .ar|_=>none)
 | _=>none
def jU(s:AS)(sz bytes:Nat)(x y:AV):Option (AV × Option AS) :=
 (bz sz y).bind fun f =>
  match x with
  | .slice [] true|.ar=>cond (!f.isEmpty&&cK sz bytes [] f&&dM f) (some (.sref s.H.length 0 f.length sz,some (s.iK ⟨s.H++[.box bD f.flatten],s.H.length⟩))) none
  | .sref l o n z=>match s.H[l]? with
   | some (.box ty cs)=>cond (Nat.beq o 0&&Nat.beq z sz&&Nat.beq cs.length (n*sz)&&Nat.ble ((n+f.length)*bytes) 70368744177664&&Nat.ble (n+f.length) 70368744177664&&gC sz f&&dM f)
     (some (.sref s.H.length 0 (n+f.length) sz,some (s.iK ⟨s.H.set l .dead++[.box bD (cs++f.flatten)],l⟩))) none
   | _=>none
  | _=>none
def jE(s:AS)(sz bytes:Nat)(x y:AV):Option (AV × Option AS) :=
 match GD x y with
 | some v=>some (v,none)
 | none=>jU s sz bytes x y
def yw(s:AS)(x y:AV):Option (AV × Option AS) :=
 match x,y with
 | .sref l o n z,.slice f _=>match s.H[l]? with
  | some (.bZ cs)=>cond (Nat.beq z 1&&gC 1 f&&dM f&&Nat.ble (o+n) cs.length)
    (some (.int .i64 (Nat.min f.length n),some (s.iK ⟨s.H.set l (.bZ (putAt cs o (f.take (Nat.min f.length n)).flatten)),l⟩))) none
  | _=>none
 | .slice [] _,.slice _ _=>some (.int .i64 0,none)
 | _,_=>none
def Vf:AV->Option Bool
 | .ar=>some true
 | .slice (_ :: _) _=>some false
 | _=>none
def BL(s:AS)(sz bytes:Nat)(zero:List AV)(n:AV):Option (AV × Option AS) :=
 (asNat n).bind fun k=>cond (Nat.ble (k*bytes) 70368744177664&&Nat.ble k 70368744177664)
  (some (.sref s.H.length 0 k sz,some (s.iK ⟨s.H++[.box bD (List.replicate k zero).flatten],s.H.length⟩))) none
def bN(off:Nat):AV->Option AV
 | .ref l o=>some (.ref l (o+off))
 | .lref b g o=>some (.lref b g (o+off))
 | .eref b g i z o=>some (.eref b g i z (o+off))
 | .eptr cs=>some (.eptr (cs.drop off))
 | _=>none
def aP(s:AS):AV->Bool
 | .ref ..=>true
 | .eptr _=>true
 | .lref b g _=>(match s.T b with|.lbox g' _=>Nat.beq g g'|_=>false)
 | .eref b g i _ _=>(match s.T b with|.lsl g' e=>Nat.beq g g'&&Nat.blt i e.length|_=>false)
 | _=>false
def gr(c:Rw)(v:AV):Bool :=
 match c with
 | .frame b=>(match v with|.lref b' _ _=>Nat.beq b b'|_=>false)
 | .heap=>(match v with|.lref ..=>false|.eref ..=>false|.lsr ..=>false|_=>true)
def AV.isAgg:AV->Bool
 | .agg _=>true
 | _=>false
def za(s:AS)(kz:Nat)(ka va:Bool)(m:AV):Option (List (List AV)) :=
 match m with
 | .je qo qm qp es=>cond (Nat.beq kz qo&&ka==qm&&va==qp) (some es) none
 | .mref l=>match s.H[l]? with
  | some (.map qo qm qp es)=>cond (Nat.beq kz qo&&ka==qm&&va==qp) (some es) none
  | some (.je qo qm qp es)=>cond (Nat.beq kz qo&&ka==qm&&va==qp) (some es) none
  | _=>none
 | _=>none
def dK(ks:List CK)(kc:List AV):List (List AV)->Option (Option Nat)
 | []=>some none
 | r :: es=>(cD ks kc r).bind fun b=>cond b (some (some 0)) ((dK ks kc es).map fun o=>o.map (· + 1))
def qY(agg:Bool)(cs:List AV):AV:=cond agg (.agg (cs.map AV.drop)) ((cs.headD .undef).drop)
def A6(ok va:Bool)(cs:List AV)(found:Bool):AV :=
 let v:=cond va (.agg (cs.map AV.drop)) ((cs.headD .undef).drop)
 cond ok (.tuple [v,.bool found]) v
def pW(ok va:Bool)(zero:List AV)(kz:Nat)(es:List (List AV)):Option Nat->AV
 | none=>A6 ok va zero false
 | some i=>A6 ok va ((es.getD i []).drop kz) true
def tJ:List AV->Option (List UInt8)
 | .str a :: _=>some a
 | _=>none
def ux:List (List AV)->Bool
 | []=>true
 | r :: es=>(match tJ r with|some a=>es.all fun q=>(match tJ q with|some b=>!(a==b)|none=>false)|none=>false)&&ux es
def UK:List CK->List AV->Bool
 | [.s],[.str _]=>true
 | _,_=>false
def w7(s:AS)(ok:Bool)(kz:Nat)(ka va:Bool)(ks:List CK)(zero:List AV)(m k:AV):Option (AV × Option AS) :=
 k.drop.cells.bind fun kc=>cond (Nat.beq kc.length kz&&ka==k.drop.isAgg)
  (match m with
   | .kA=>some (A6 ok va zero false,none)
   | .mz qo qm qp es=>cond (Nat.beq kz qo&&ka==qm&&va==qp&&ux es&&UK ks kc) ((dK ks kc es).map fun o=>(pW ok va zero kz es o,none)) none
   | m=>(za s kz ka va m).bind fun es=>(dK ks kc es).map fun o=>(pW ok va zero kz es o,none)) none
def wj(es:List (List AV))(o:Option Nat)(r:List AV):List (List AV) :=
 match o with
 | none=>es++[r]
 | some i=>es.set i r
def tf(s:AS)(kz:Nat)(ka va:Bool)(vz:Nat)(ks:List CK)(m k v:AV):Option AS :=
 match m with
 | .mref l=>match s.H[l]? with
  | some (.map qo qm qp es)=>k.drop.cells.bind fun kc=>v.cells.bind fun vc =>
    cond (Nat.beq kc.length kz&&Nat.beq vc.length vz&&Nat.beq kz qo&&ka==qm&&va==qp&&ka==k.drop.isAgg&&va==v.isAgg&&vc.all (bf l)&&kc.all AV.plain)
     ((dK ks kc es).map fun o=>s.iK ⟨s.H.set l (.map kz ka va (wj es o (kc++cond va (vc.map AV.drop) vc))),l⟩) none
  | _=>none
 | _=>none
mutual
def qF:AV->AV->Bool
 | .bool a,y=>match y with|.bool b=>a==b|_=>false
 | .int k a,y=>match y with|.int k' b=>k==k'&&a==b|_=>false
 | .str a,y=>match y with|.str b=>a==b|_=>false
 | .any,y=>match y with|.any=>true|_=>false
 | .nf,y=>match y with|.nf=>true|_=>false
 | .kA,y=>match y with|.kA=>true|_=>false
 | .kJ,y=>match y with|.kJ=>true|_=>false
 | .df,y=>match y with|.df=>true|_=>false
 | .ar,y=>match y with|.ar=>true|_=>false
 | .slice e o,y=>match y with|.slice f q=>Bj e f&&o==q|_=>false
 | .ref l o,y=>match y with|.ref l' o'=>l==l'&&o==o'|_=>false
 | .sref l o n z,y=>match y with|.sref l' o' n' z'=>l==l'&&o==o'&&n==n'&&z==z'|_=>false
 | .mref l,y=>match y with|.mref l'=>l==l'|_=>false
 | .agg a,y=>match y with|.agg b=>L2 a b|_=>false
 | .tuple a,y=>match y with|.tuple b=>L2 a b|_=>false
 | .iface t a,y=>match y with|.iface t' b=>t==t'&&qF a b|_=>false
 | .eptr a,y=>match y with|.eptr b=>L2 a b|_=>false
 | .lbox g a,y=>match y with|.lbox g' b=>g==g'&&L2 a b|_=>false
 | .lref s g o,y=>match y with|.lref s' g' o'=>s==s'&&g==g'&&o==o'|_=>false
 | .lsl g e,y=>match y with|.lsl g' f=>g==g'&&Bj e f|_=>false
 | .lsr s g,y=>match y with|.lsr s' g'=>s==s'&&g==g'|_=>false
 | .eref s g i z o,y=>match y with|.eref s' g' i' z' o'=>s==s'&&g==g'&&i==i'&&z==z'&&o==o'|_=>false
 | .je kz ka va e,y=>match y with|.je qo qm qp f=>kz==qo&&ka==qm&&va==qp&&Bj e f|_=>false
 | .mz kz ka va e,y=>match y with|.mz qo qm qp f=>kz==qo&&ka==qm&&va==qp&&Bj e f|_=>false
 | .iter g kz ka va c e,y=>match y with|.iter g' qo qm qp c' f=>g==g'&&kz==qo&&ka==qm&&va==qp&&L2 c c'&&Bj e f|_=>false
 | .func f a c,y=>match y with|.func g b d=>decide (f=g)&&L2 a b&&L2 c d|_=>false
def L2:List AV->List AV->Bool
 | [],y=>match y with|[]=>true|_=>false
 | a :: l,y=>match y with|b :: m=>qF a b&&L2 l m|_=>false
def Bj:List (List AV)->List (List AV)->Bool
 | [],y=>match y with|[]=>true|_=>false
 | a :: l,y=>match y with|b :: m=>L2 a b&&Bj l m|_=>false
end
section
variable (G:Nat->List AV)(cf:gz)
def rN(s:AS)(take obj:Bool)(x:aE):Option (AV × Option AS) :=
 match x with
 | .tmp t=>match s.T t with
  | .lbox g _=>some (.lref t g 0,none)
  | .lsl g e=>cond take (cond obj (some (.lsl s.gen e,some { s.cx t .any with gen:=s.gen+1 })) (cond (ng e) (some (.slice e true,some (s.cx t (.slice e false)))) none)) (some (.lsr t g,none))
  | .slice e own=>some (.slice e (take&&own),cond (take&&own) (some (s.cx t (.slice e false))) none)
  | .iter ..=>none
  | v=>some (v,none)
 | x=>some (x.eval G s.T,none)
def bt(s:AS)(isB wr:Bool)(sz bytes:Nat)(x y:aE):Option (AV × Option AS) :=
 match x with
 | .tmp t=>match s.T t with
  | .lsl _ e=>(bz sz (y.eval G s.T)).bind fun f=>cond (wr&&cK sz bytes e f) (some (.lsl s.gen (e++f),some { s.cx t .any with gen:=s.gen+1 })) none
  | .slice e own=>cond wr
    ((bz sz (y.eval G s.T)).bind fun f=>cond (e.isEmpty&&own&&cK sz bytes [] f) (some (.lsl s.gen f,some { s.cx t .any with gen:=s.gen+1 })) none)
    ((aG isB sz bytes (.slice e own) (y.eval G s.T)).map (·,some (s.cx t (.slice e false))))
  | .ar=>cond wr
    ((bz sz (y.eval G s.T)).bind fun f=>cond (cK sz bytes [] f) (some (.lsl s.gen f,some { s.cx t .any with gen:=s.gen+1 })) none)
    ((aG isB sz bytes (.slice [] true) (y.eval G s.T)).map (·,some s))
  | _=>none
 | x=>cond wr none ((aG isB sz bytes (x.eval G s.T) (y.eval G s.T)).map (·,none))
def aR(s:AS)(o:ow):Option (AV × Option AS) :=
 match o with
 | .chk c x=>cond (gr c (x.addr G s.T)) (some (.undef,none)) none
 | .mov take obj x=>rN G s take obj x
 | .pick c a b=>match c.eval G s.T with
  | .bool t=>some (cond t (a.addr G s.T).drop (b.addr G s.T).drop,none)
  | _=>none
 | .allocL zero=>some (.lbox s.gen zero,some { s with gen:=s.gen+1 })
 | .boxL x=>(x.eval G s.T).drop.cells.map fun cs=>(.lbox s.gen (cs.map AV.drop),some { s with gen:=s.gen+1 })
 | .Hg ty zero=>some (.ref s.H.length 0,some (s.iK ⟨s.H++[.box ty zero],s.H.length⟩))
 | .box ty x=>(x.eval G s.T).drop.cells.bind fun cs=>cond (cs.all (bf s.H.length)) (some (.ref s.H.length 0,some (s.iK ⟨s.H++[.box ty (cs.map AV.drop)],s.H.length⟩))) none
 | .build zero parts=>(fw zero (parts.map fun p=>(p.1,p.2.1,(p.2.2.eval G s.T).drop))).map (.agg ·,none)
 | .mkslice isB sz Ld parts=>(cN sz Ld (parts.map fun p=>(p.1,(p.2.eval G s.T).drop))).bind fun E=>cond (nP isB E) (some (.slice E true,none)) none
 | .zb sz Ld parts=>(cN sz Ld (parts.map fun p=>(p.1,(p.2.eval G s.T).drop))).bind fun E=>cond (dM E) (some (.sref s.H.length 0 E.length sz,some (s.iK ⟨s.H++[.box bD E.flatten],s.H.length⟩))) none
 | .load take agg sz x=>cS s take agg sz (x.addr G s.T)
 | .store sz a v=>(ax s sz (a.addr G s.T) (v.eval G s.T)).map fun s'=>(.undef,some (s'.bG v))
 | .nilCheck x=>cond (aP s (x.addr G s.T)) (some (x.addr G s.T,none)) none
 | .bin op q x y=>(AG op q (dj x || dj y) (x.eval G s.T) (y.eval G s.T)).map (·,none)
 | .un op x=>(gF op (x.eval G s.T)).map (·,none)
 | .mm mx x y=>(aeU mx (x.eval G s.T) (y.eval G s.T)).map (·,none)
 | .conv c x=>(cn c (x.eval G s.T)).map (·,none)
 | .slice k x lo hi mx=>(bL k (x.eval G s.T) (lo.map (·.eval G s.T)) (hi.map (·.eval G s.T)) (mx.map (·.eval G s.T))).map (·,none)
 | .fieldAddr off x=>cond (aP s (x.addr G s.T)) ((bN off (x.addr G s.T)).map (·,none)) none
 | .ixSl sz x i=>match x.addr G s.T with
  | .slice e _=>(asNat (i.eval G s.T)).bind fun n=>(e[n]?).bind fun r=>cond (Nat.beq r.length sz) (some (.eptr r,none)) none
  | .sref l o m _=>(asNat (i.eval G s.T)).bind fun n=>cond (Nat.blt n m) (some (.ref l (o+n*sz),none)) none
  | .lsr t g=>match s.T t with
   | .lsl g' e=>cond (Nat.beq g g') ((asNat (i.eval G s.T)).bind fun n=>(e[n]?).bind fun r=>cond (Nat.beq r.length sz) (some (.eref t g n sz 0,none)) none) none
   | _=>none
  | _=>none
 | .ixArr n sz x i=>(asNat (i.eval G s.T)).bind fun k=>cond (Nat.blt k n&&aP s (x.addr G s.T)) ((bN (k*sz) (x.addr G s.T)).map (·,none)) none
 | .index agg n sz x i=>(asNat (i.eval G s.T)).bind fun k=>cond (Nat.blt k n)
   (match x.eval G s.T with
    | .agg cs=>(ab false agg sz (k*sz) cs).map (·,none)
    | _=>none) none
 | .rR x i=>match x.eval G s.T with
  | .str l=>(asNat (i.eval G s.T)).bind fun n=>(l[n]?).map fun (b:UInt8)=>(AV.int .u8 b.toNat,none)
  | _=>none
 | .extract x i=>match x.eval G s.T with
  | .tuple vs=>(vs[i]?).map fun v=>(v.dh,none)
  | _=>none
 | .len k x=>match x.addr G s.T with
  | .lsr t g=>match s.T t with
   | .lsl g' e=>cond (Nat.beq g g') ((de k (.slice e false)).map (·,none)) none
   | _=>none
  | v=>(de k v).map (·,none)
 | .append isB wr sz bytes x y=>bt G s isB wr sz bytes x y
 | .appendO sz bytes x y=>jE s sz bytes (x.addr G s.T) (y.eval G s.T)
 | .U8 sz bytes zero n=>BL s sz bytes zero (n.eval G s.T)
 | .copyO x y=>yw s (x.addr G s.T) (y.eval G s.T)
 | .Pp x=>(x.eval G s.T).drop.cells.bind fun cs=>cond (cs.all aN) (some (.ref s.H.length 0,some (s.iK ⟨s.H++[.bZ (cs.map AV.drop)],s.H.length⟩))) none
 | .Ve neg x=>(Vf (x.eval G s.T)).map fun b=>(.bool (neg != b),none)
 | .call f args=>match f.eval G s.T with
  | .func (.func n) fs cs=>cond ((args.map fun a=>a.addr G s.T).all aN)
    ((cf n (fs++args.map (fun a=>(a.addr G s.T).dh)++cs) s.H).map fun r=>(r.1,r.2.map s.iK)) none
  | _=>none
 | .Cs f args=>match f.eval G s.T with
  | .func (.func n) fs cs=>cond ((args.map fun a=>a.addr G s.T).all aN)
    ((cf n (fs++args.map (fun a=>(a.addr G s.T).dh)++cs) s.H).bind fun r=>match r.2 with|none=>some (r.1,none)|some _=>none) none
  | _=>none
 | .mkfunc f first captured=>cond ((first.map fun a=>a.addr G s.T).all aN&&(captured.map fun a=>a.addr G s.T).all aN)
   (some (.func f (first.map fun a=>(a.addr G s.T).drop) (captured.map fun a=>(a.addr G s.T).drop),none)) none
 | .Kn kz ka va=>some (.mref s.H.length,some (s.iK ⟨s.H++[.map kz ka va []],s.H.length⟩))
 | .look ok kz ka va ks zero m k=>w7 s ok kz ka va ks zero (m.addr G s.T) (k.eval G s.T)
 | .MN kz ka va vz ks m k v=>(tf s kz ka va vz ks (m.addr G s.T) (k.eval G s.T) (v.eval G s.T)).map fun s'=>(.undef,some (s'.bG v))
 | .rng kz ka va m=>match m.addr G s.T with
  | .kA=>some (.iter s.gen kz ka va [] [],some { s with gen:=s.gen+1 })
  | .je qo qm qp es=>cond (Nat.beq kz qo&&ka==qm&&va==qp) (some (.iter s.gen kz ka va [] es,some { s with gen:=s.gen+1 })) none
  | .mz qo qm qp es=>cond (Nat.beq kz qo&&ka==qm&&va==qp) (some (.iter s.gen kz ka va [] es,some { s with gen:=s.gen+1 })) none
  | .mref l=>match s.H[l]? with
   | some (.map qo qm qp es)=>cond (Nat.beq kz qo&&ka==qm&&va==qp&&dM es)
     (some (.iter s.gen kz ka va [] es,some { s.iK ⟨s.H.set l (.je kz ka va es),l⟩ with gen:=s.gen+1 })) none
   | _=>none
  | _=>none
 | .same agg sz d x=>match cS s false agg sz (x.addr G s.T) with
  | some (v,none)=>cond (qF v (s.T d)) (some (.undef,none)) none
  | _=>none
 | .next _=>none
 | .ent it=>match it with
  | .tmp t=>match s.T t with
   | .iter _ kz ka va cur _=>cond (Nat.ble kz cur.length&&!cur.isEmpty) (some (.tuple [qY ka (cur.take kz),qY va (cur.drop kz)],none)) none
   | _=>none
  | _=>none
def AS.ca(s:AS)(d:Option Nat)(v:AV):AS:=match d with|none=>s|some d=>s.cx d v
def aS(s:AS)(o:aV):Option AS :=
 let run:Option AS:=(aR G cf s o.op).bind fun r=>match r.2 with
  | none=>some (s.ca o.dst r.1)
  | some s'=>some (s'.ca o.dst r.1)
 match o.guard with
 | none=>run
 | some (g,want)=>match s.T g with
  | .bool b=>cond (b==want) run (some (s.ca o.dst .undef))
  | .tuple []=>some (s.ca o.dst .undef)
  | _=>none
def gO:List aV->AS->Option AS
 | [],s=>some s
 | o :: r,s=>(aS G cf s o).bind (gO r)
def iter(f:AS->Option (bH × AS)):Nat->AS->Option (bH × AS)
 | 0,_=>none
 | n+1,s=>(f s).bind fun r=>match r.1 with
  | .normal=>iter f n r.2
  | _=>some r
def kN(n:Nat):aK->AS->Option (bH × AS)
 | .skip,s=>some (.normal,s)
 | .region ops,s=>(gO G cf ops s).map (.normal,·)
 | .seq a b,s=>(kN n a s).bind fun r=>match r.1 with
  | .normal=>kN n b r.2
  | _=>some r
 | .cond c a b,s=>match c.eval G s.T with
  | .bool t=>cond t (kN n a s) (kN n b s)
  | _=>none
 | .block id a,s=>(kN n a s).map fun r=>match r.1 with
  | .exit i=>(cond (Nat.beq i id) .normal (.exit i),r.2)
  | e=>(e,r.2)
 | .loop a,s=>iter (kN n a) n s
 | .exit id,s=>some (.exit id,s)
 | .ret,s=>some (.ret,s)
 | .rD _ _,_=>none
end
def iW(s:AS):iu->Option AV
 | .tmp t=>cond (aN (s.T t)) (some (s.T t)) none
 | .cell a agg sz=>match s.T a with
  | .lbox _ cs=>ab false agg sz 0 cs
  | .ref loc 0=>match s.H[loc]? with
   | some (.box _ cs)=>ab false agg sz 0 cs
   | _=>none
  | _=>none
def oG(s:AS):iu->Option Nat
 | .tmp t=>match s.T t with
  | .lsl _ _=>some t
  | .lsr b g=>match s.T b with
   | .lsl g' _=>cond (Nat.beq g g') (some b) none
   | _=>none
  | _=>none
 | .cell ..=>none
def lY(s:AS):List iu->Option (List AV)
 | []=>some []
 | r :: rs=>(iW s r).bind fun v=>(lY s rs).map (v.dh :: ·)
def mC(s:AS)(rs:List iu):Option AV :=
 match rs with
 | [r]=>match oG s r with
  | some b=>(match s.T b with|.lsl _ e=>cond (ng e) (some (.slice e true)) none|_=>none)
  | none=>iW s r
 | rs=>(lY s rs).map .tuple
def iQ(base:Nat)(rs:List iu)(s:AS):Option (AV × Option fP) :=
 (mC s rs).bind fun r =>
  cond (r.leaves base) (some (r,cond (Nat.beq s.lo base) none (some ⟨s.H.take base,s.lo⟩))) none
def VX(e:List (List AV)):Nat:=(e.head?.map List.length).getD 0
def rr(s:AS)(base:Nat):List iu->Option (List AV × Option (List (List AV)))
 | []=>some ([],none)
 | r :: rs=>(rr s base rs).bind fun q=>match oG s r with
  | some b=>match s.T b with
   | .lsl _ e=>cond (q.2.isNone&&!e.isEmpty&&e.all (fun r=>r.all AV.plain)) (some (.sref base 0 e.length (VX e) :: q.1,some e)) none
   | _=>none
  | none=>(iW s r).bind fun v=>cond (v.dh.fu base) (some (v.dh :: q.1,q.2)) none
def qZ(base:Nat)(rs:List iu)(s:AS):Option (AV × Option fP) :=
 cond (Nat.beq rs.length 1) none ((rr s base rs).bind fun q=>q.2.map fun e=>(.tuple q.1,some ⟨s.H.take base++[.box bD e.flatten],s.lo⟩))
def kK:AV->Bool
 | .int .u8 _=>false
 | .any=>false
 | _=>true
def oM:AV->AV
 | .slice [] true=>.ar
 | v=>v
def pY:bS->Option (List AV)
 | .box _ cs=>some cs
 | .bZ cs=>some cs
 | _=>none
def gu(H:ae)(base:Nat):Nat->AV->AV
 | 0,v=>v
 | k+1,v=>match v with
  | .sref l off n z=>cond (Nat.ble base l) (match (H[l]?).bind pY with
   | some cs=>cond (Nat.blt 0 z&&Nat.ble (off+n*z) cs.length&&(cs.all fun x=>(gu H base k x.drop).plain&&kK x)) (.slice (chunks z n ((cs.map fun x=>gu H base k x.drop).drop off)) false) v
   | none=>v) v
  | v=>v
abbrev Fp:Nat:=3
def Ma(H:ae)(base:Nat):AV->AV
 | .agg cs=>.agg (cs.map (gu H base Fp))
 | v=>gu H base Fp v
def vQ(base:Nat)(s:AS)(rs:List iu):Option AV :=
 match rs with
 | [r]=>(iW s r).map fun v=>Ma s.H base v.dh
 | rs=>(lY s rs).map fun vs=>.tuple (vs.map (Ma s.H base))
def tq(base:Nat)(rs:List iu)(s:AS):Option (AV × Option fP) :=
 (vQ base s rs).bind fun r=>cond (r.leaves base) (some (r,cond (Nat.beq s.lo base) none (some ⟨s.H.take base,s.lo⟩))) none
def tj(base:Nat)(rs:List iu)(s:AS):Option (AV × Option fP) :=
 match rs with
 | [r]=>(iW s r).bind fun v=>match v with
  | .sref l off n z=>match s.H[l]? with
   | some (.box _ cs)=>cond (Nat.ble base l&&cs.all AV.plain) (some (.sref base off n z,some ⟨s.H.take base++[.bZ cs],s.lo⟩)) none
   | _=>none
  | _=>none
 | _=>none
def oR(base:Nat)(fn:aB)(s:AS):Option (AV × Option fP):=cond (fn.muts.elem 888888) (tj base fn.results s) none
def kB(base:Nat)(s:AS):Bool:=cond (Nat.beq s.lo base) true (((s.H.take base).drop s.lo).all fun o=>match o with|.bZ cs=>cs.all (AV.bw base)|_=>true)
def qI(base:Nat)(fn:aB)(s:AS):Option (AV × Option fP) :=
 match oR base fn s with
 | some r=>some r
 | none=>match iQ base fn.results s with
 | some r=>some r
 | none=>match qZ base fn.results s with
  | some r=>some r
  | none=>tq base fn.results s
def ml(base:Nat)(fn:aB)(s:AS):Option (AV × Option fP):=cond (kB base s) (qI base fn s) none
def n1:AV->AV
 | .ar=>.slice [] false
 | v=>v
def n2:AV->AV
 | .ar=>.slice [] false
 | .slice e false=>.slice (e.map fun r=>r.map n1) false
 | v=>v
def n3:AV->AV
 | .agg cs=>.agg (cs.map n2)
 | v=>n2 v
def nh:AV->AV
 | .tuple vs=>.tuple (vs.map n3)
 | v=>n3 v
def rZ(fn:aB)(r:AV × Option fP):AV × Option fP:=cond (fn.muts.elem 777777) (nh r.1,r.2) r
def xf(rs:List iu)(s:AS):Option (AV × Option fP) :=
 cond (Nat.beq rs.length 1) none ((lY s rs).map fun vs=>(.tuple vs,some ⟨s.H,s.lo⟩))
def BM(fn:aB)(s:AS):Option (AV × Option fP):=cond (fn.muts.elem 888887) (xf fn.results s) none
def finish(base:Nat)(fn:aB)(s:AS):Option (AV × Option fP) :=
 match (ml base fn s).map (rZ fn) with
 | some r=>some r
 | none=>BM fn s
def fi(args:List AV):aD:=fun i=>args.getD i .undef
def zj(G:Nat->List AV)(cf:gz)(n:Nat)(fn:aB)(args:List AV)(H:ae):Option (AV × Option fP) :=
 cond (Nat.beq args.length fn.np)
  ((kN G cf n fn.body { T:=fi args,H,lo:=H.length,gen:=0 }).bind fun r=>match r.1 with
   | .exit _=>none
   | _=>finish H.length fn r.2)
  none
structure AP where
 fns:FuncId->Option aB
 ov:FuncId->Option (List AV->ae->Option (AV × Option fP))
 aY:Nat->List AV
def vG:AV->Bool
 | .slice _ true=>false
 | _=>true
def D4(A:AP):Nat->gz
 | 0=>fun _ _ _=>none
 | n+1=>fun f args H=>match A.ov f with
  | some g=>cond (args.all vG) (g args H) none
  | none=>match A.fns f with
   | none=>none
   | some fn=>zj A.aY (D4 A n) n fn args H
def lO:Value->Option AV
 | .bool b=>some (.bool b)
 | .int k n=>some (.int k n)
 | .string s=>some (.str s.data.toList)
 | .slice none 0 0=>some (.slice [] true)
 | .pointer none=>some .nf
 | .map none=>some .kA
 | .nilFunc=>some .kJ
 | .nilIface=>some .df
 | _=>none
def fy:List Value->Option (List AV)
 | []=>some []
 | v :: r=>(lO v).bind fun x=>(fy r).map (x :: ·)
def uF:Value->Option AV
 | .agg vs=>(fy vs.toList).map fun l=>.agg (l.map oM)
 | v=>lO v
section
variable (P:Program)(dI locals muts:List Nat)(nt:Nat)
def av:Operand->Option aE
 | .tmp t=>cond (Nat.blt t nt) (some (.tmp t)) none
 | .const v=>(uF v).map .xQ
 | .global g=>some (.aY g)
 | .func f=>some (.fn f)
def kS:List Operand->Option (List aE)
 | []=>some []
 | x :: r=>(av nt x).bind fun a=>(kS r).map (a :: ·)
def fC(t:TypeId):Option Nat:=(P.info? t).map (·.size)
def im(t:TypeId):Option (List AV):=((P.info? t).bind (·.zero)).bind fun z=>fy z.cells.toList
def n7(t:TypeId):Option Bool:=(P.underlying t).map fun|.struct _=>true|.array _ _=>true|_=>false
def ja:Option Operand->Option (Option aE)
 | none=>some none
 | some x=>(av nt x).map some
def qH(flat:TypeId->Option (List CK)):List Go.Field->Nat->Option (List CK)
 | [],_=>some []
 | f :: fs,o=>cond (Nat.beq f.offset o&&f.name != "_") ((flat f.type).bind fun k=>(qH flat fs (o+k.length)).map (k++·)) none
def oI:Nat->TypeId->Option (List CK)
 | 0,_=>none
 | d+1,t=>match P.underlying t with
  | some .bool=>some [.b]
  | some (.int _)=>some [.i]
  | some .string=>some [.s]
  | some (.struct fs)=>cond (!P.stoodInHeld t) ((qH (oI d) fs.toList 0).bind fun ks=>cond (match fC P t with|some n=>Nat.beq n ks.length|none=>false) (some ks) none) none
  | _=>none
def pH(t:TypeId):zG :=
 match P.underlying t with
 | some .bool=>.bool
 | some (.interface _)=>.iface
 | some (.func _ _ _)=>.func
 | some (.struct _)=>cond (!P.eqGuardType P.depth t) (match oI P 8 t with|some ks=>.flat ks|none=>.other) .other
 | _=>.other
def o9(fs:List Go.Field):List (Nat × Operand)->Option (List (Nat × Nat × aE))
 | []=>some []
 | (i,x) :: r=>(fs[i]?).bind fun f=>(fC P f.type).bind fun z=>(av nt x).bind fun a=>(o9 fs r).map ((f.offset,z,a) :: ·)
def lM(sz:Nat):List (Nat × Operand)->Option (List (Nat × Nat × aE))
 | []=>some []
 | (i,x) :: r=>(av nt x).bind fun a=>(lM sz r).map ((i*sz,sz,a) :: ·)
def mH:List (Nat × Operand)->Option (List (Nat × aE))
 | []=>some []
 | (i,x) :: r=>(av nt x).bind fun a=>(mH r).map ((i,a) :: ·)
def RZ:Value->Bool
 | .agg _=>true
 | _=>false
def QP(t:TypeId):Option (List CK × Bool × Bool × List AV) :=
 match P.underlying t with
 | some (.map k e)=>(oI P 8 k).bind fun ks=>(n7 P k).bind fun ka=>(P.info? e).bind fun i=>i.zero.bind fun z=>(fy z.cells.toList).bind fun zero =>
   cond (RZ z || Nat.beq zero.length 1) (some (ks,ka,RZ z,zero)) none
 | _=>none
def Ir:Operand->Operand->Bool
 | .tmp a,.tmp b=>Nat.beq a b
 | _,_=>false
def lW(d:Option Nat):Bool:=match d with|some d=>dI.contains d|none=>false
def isLocal(d:Option Nat):Bool:=match d with|some d=>locals.contains d|none=>false
def yn(d:Option Nat)(c:Call):Option ow :=
 match c.callee with
 | .value f=>(av nt f).bind fun g=>(kS nt c.args.toList).map (.call g ·)
 | .builtin .len=>match c.args.toList,c.argTypes.toList with
  | [x],[t]=>(av nt x).bind fun a=>match P.underlying t with
   | some .string=>some (.len .str a)
   | some (.slice _)=>some (.len .sl a)
   | some (.array n _)=>some (.len (.arr n) a)
   | _=>none
  | _,_=>none
 | .builtin .append=>match c.args.toList,c.argTypes.toList with
  | [x,y],[t,u]=>(av nt x).bind fun a=>(av nt y).bind fun b=>match P.underlying t,P.underlying u with
   | some (.slice e),some (.slice _)|some (.slice e),some .string=>(P.info? e).bind fun i=>cond (Nat.blt 0 i.size&&(i.zero.map fun z=>Nat.beq z.cells.size i.size).getD false) (some (cond (isLocal locals d) (.appendO i.size i.bytes a b) (.append (Nat.beq e jo) (lW muts d) i.size i.bytes a b))) none
   | _,_=>none
  | _,_=>none
 | .builtin .copy=>match c.args.toList,c.argTypes.toList with
  | [x,y],[t,u]=>(av nt x).bind fun a=>(av nt y).bind fun b=>match P.underlying t,P.underlying u with
   | some (.slice e),some (.slice _)=>(fC P e).bind fun sz=>cond (Nat.beq sz 1) (some (.copyO a b)) none
   | _,_=>none
  | _,_=>none
 | .builtin .max=>match c.args.toList with
  | [x,y]=>(av nt x).bind fun a=>(av nt y).map (.mm true a ·)
  | _=>none
 | .builtin .min=>match c.args.toList with
  | [x,y]=>(av nt x).bind fun a=>(av nt y).map (.mm false a ·)
  | _=>none
 | .builtin .clear=>some (.un .neg (.xQ .undef))
 | _=>none
def JG(k:Nat)(l:List Nat)(d:Option Nat):Bool:=match d with|some d=>l.elem (k+d)|none=>false
def MT(op:BinOp)(t:TypeId)(y:Operand):Option Bool :=
 match y,P.underlying t with
 | .const (.slice none 0 0),some (.slice _)=>(match op with|.eql=>some false|.neq=>some true|_=>none)
 | _,_=>none
def H9:aE->aE
 | .xQ v=>.xQ (oM v)
 | x=>x
def dB(d:Option Nat)(o:Op):Option ow :=
 match o with
 | .move x|.assign x=>(av nt x).map fun a=>.mov (lW dI d) (lW muts d) (cond (lW muts d) (H9 a) a)
 | .pick c a b=>(av nt c).bind fun c=>(av nt a).bind fun a=>(av nt b).map (.pick c a ·)
 | .alloc t=>((im P t).map fun z=>cond (JG 700000 dI d) (z.map oM) z).bind fun z=>cond (isLocal locals d) (some (.allocL z)) (some (cond (JG 500000 muts d) (.Pp (.xQ (.agg z))) (.Hg t z)))
 | .box t x=>(av nt x).map fun a=>cond (isLocal locals d) (.boxL a) (cond (JG 500000 muts d) (.Pp a) (.box t a))
 | .build t parts=>((im P t).map fun z=>cond (lW dI d) (z.map oM) z).bind fun z=>match P.underlying t with
  | some (.struct fs)=>cond ((fs.toList.mapM fun f=>(P.info? f.type).map fun i=>(f.offset,i.size)).isSome) ((o9 P nt fs.toList parts.toList).map (.build z ·)) none
  | some (.array _ e)=>(fC P e).bind fun sz=>(lM nt sz parts.toList).map (.build z ·)
  | _=>none
 | .buildSlice t len parts=>match P.underlying t with
  | some (.slice e)=>(fC P e).bind fun sz=>(im P e).bind fun z=>(mH nt parts.toList).bind fun ps =>
    cond (Nat.ble (len*sz) 16777216&&Nat.beq z.length sz&&Nat.blt 0 sz) (some (cond (isLocal locals d) (.zb sz (List.replicate len (z.map AV.drop)) ps) (.mkslice (Nat.beq e jo) sz (List.replicate len (z.map AV.drop)) ps))) none
  | _=>none
 | .load t x=>(av nt x).bind fun a=>(n7 P t).bind fun g=>(fC P t).map fun sz=>.load (lW dI d) g sz a
 | .store t x y=>(av nt x).bind fun a=>(av nt y).bind fun b=>(fC P t).map fun sz=>.store sz a b
 | .nilCheck x=>(av nt x).map .nilCheck
 | .binOp op t x y _=>(av nt x).bind fun a=>(av nt y).bind fun b=>match MT P op t y with
  | some neg=>some (.Ve neg a)
  | none=>some (.bin op (pH P t) a b)
 | .unOp op _ x=>(av nt x).map (.un op ·)
 | .convert s t x=>(av nt x).bind fun a=>match P.underlying s,P.underlying t with
  | some (.int _),some (.int k)=>some (.conv (.toInt k) a)
  | some .string,some .string=>some (.conv .Iy a)
  | some (.slice e),some .string=>match P.underlying e with
   | some (.int .u8)=>some (.conv .Cq a)
   | _=>none
  | _,_=>none
 | .makeFunc f first captured=>(kS nt first.toList).bind fun a=>(kS nt captured.toList).map (.mkfunc f a ·)
 | .slice t x lo hi mx=>(av nt x).bind fun a=>(ja nt lo).bind fun lo=>(ja nt hi).bind fun hi=>(ja nt mx).bind fun mx=>match P.underlying t with
  | some .string=>some (.slice .str a lo hi mx)
  | some (.slice e)=>(fC P e).map fun sz=>.slice (.sl sz) a lo hi mx
  | some (.array n e)=>(fC P e).bind fun sz=>cond (Nat.blt 0 sz) (some (.slice (.arr n sz) a lo hi mx)) none
  | _=>none
 | .fieldAddr t x f=>(av nt x).bind fun a=>match P.underlying t with
  | some (.struct fs)=>(fs[f]?).bind fun q=>(fC P q.type).bind fun sz=>cond (Nat.blt 0 sz) (some (.fieldAddr q.offset a)) none
  | _=>none
 | .indexAddr t x i=>(av nt x).bind fun a=>(av nt i).bind fun b=>match P.underlying t with
  | some (.slice e)=>(fC P e).map fun sz=>.ixSl sz a b
  | some (.array n e)=>(fC P e).map fun sz=>.ixArr n sz a b
  | _=>none
 | .index t x i=>(av nt x).bind fun a=>(av nt i).bind fun b=>match P.underlying t with
  | some .string=>some (.rR a b)
  | some (.array n e)=>(fC P e).bind fun sz=>(n7 P e).map fun g=>.index g n sz a b
  | _=>none
 | .extract x i=>(av nt x).map (.extract · i)
 | .call c=>yn P locals muts nt d c
 | .makeSlice t x y=>(av nt x).bind fun a=>cond (Ir x y) (match P.underlying t with
  | some (.slice e)=>(P.info? e).bind fun i=>i.zero.bind fun z=>(fy z.cells.toList).bind fun zero=>cond (Nat.blt 0 i.size&&Nat.beq z.cells.size i.size) (some (.U8 i.size i.bytes (zero.map AV.drop) a)) none
  | _=>none) none
 | .makeMap t none=>(QP P t).map fun m=>.Kn m.1.length m.2.1 m.2.2.1
 | .lookup t x i ok=>(av nt x).bind fun a=>(av nt i).bind fun b=>(QP P t).map fun m=>(.look ok m.1.length m.2.1 m.2.2.1 m.1 m.2.2.2 a b)
 | .mapUpdate t x i v|.insert t x i v=>(av nt x).bind fun a=>(av nt i).bind fun b=>(av nt v).bind fun c=>(QP P t).map fun m=>.MN m.1.length m.2.1 m.2.2.1 m.2.2.2.length m.1 a b c
 | .range t x=>cond (lW muts d) ((av nt x).bind fun a=>(QP P t).map fun m=>.rng m.1.length m.2.1 m.2.2.1 a) none
 | .next x false=>(av nt x).map .next
 | .entry x=>(av nt x).map .ent
 | _=>none
def rM(ops:Array Oper):Option (Nat × Bool)->Option (Option (Nat × Bool))
 | none=>some none
 | some (j,want)=>((ops[j]?).bind (·.dst)).bind fun s=>cond (Nat.blt s nt) (some (some (s,want))) none
def uE(ops:Array Oper)(o:Oper):Option aV :=
 (dB P dI locals muts nt o.dst o.op).bind fun p=>(rM nt ops o.guard).bind fun g =>
  match o.dst with
  | none=>some ⟨none,g,p⟩
  | some d=>cond (Nat.blt d nt) (some ⟨some d,g,p⟩) none
def lN(ops:Array Oper):List Oper->Option (List aV)
 | []=>some []
 | o :: r=>(uE P dI locals muts nt ops o).bind fun p=>(lN ops r).map (p :: ·)
def aE.tmps:aE->List Nat
 | .tmp t=>[t]
 | _=>[]
def ow.tmps:ow->List Nat
 | .chk _ x|.boxL x|.Pp x|.mov _ _ x|.box _ x|.load _ _ _ x|.nilCheck x|.un _ x|.Ve _ x|.conv _ x|.fieldAddr _ x|.extract x _|.len _ x=>x.tmps
 | .pick c a b=>c.tmps++a.tmps++b.tmps
 | .allocL _|.Hg _ _=>[]
 | .build _ ps=>ps.flatMap fun p=>p.2.2.tmps
 | .mkslice _ _ _ ps|.zb _ _ ps=>ps.flatMap fun p=>p.2.tmps
 | .store _ a v=>a.tmps++v.tmps
 | .bin _ _ x y|.mm _ x y|.ixSl _ x y|.ixArr _ _ x y|.index _ _ _ x y|.rR x y|.append _ _ _ _ x y|.appendO _ _ x y|.copyO x y=>x.tmps++y.tmps
 | .slice _ x lo hi mx=>x.tmps++(lo.toList.flatMap aE.tmps)++(hi.toList.flatMap aE.tmps)++(mx.toList.flatMap aE.tmps)
 | .call f xs|.Cs f xs=>f.tmps++xs.flatMap aE.tmps
 | .mkfunc _ a b=>a.flatMap aE.tmps++b.flatMap aE.tmps
 | .Kn _ _ _=>[]
 | .U8 _ _ _ n=>n.tmps
 | .look _ _ _ _ _ _ m k=>m.tmps++k.tmps
 | .MN _ _ _ _ _ m k v=>m.tmps++k.tmps++v.tmps
 | .rng _ _ _ m|.next m|.ent m=>m.tmps
 | .same _ _ d x=>d :: x.tmps
structure rB where
 rs:List Nat
 ws:List Nat
 rh:Bool
 wh:Bool
 wg:Bool
 deriving Inhabited
def Hl(is:List aV)(L:List Nat):Nat->aE->Option Nat
 | 0,_=>none
 | f+1,.tmp t=>cond (L.contains t) (some t) (match is.find? (fun o=>match o.dst with|some d=>Nat.beq d t|none=>false) with
  | some ⟨_,_,.fieldAddr _ y⟩=>Hl is L f y
  | some ⟨_,_,.ixArr _ _ y _⟩=>Hl is L f y
  | some ⟨_,_,.nilCheck y⟩=>Hl is L f y
  | _=>none)
 | _,_=>none
def Je(is:List aV)(L:List Nat)(x:aE):Rw :=
 match Hl is L 8 x with
 | some b=>.frame b
 | none=>.heap
def wu(is:List aV)(L:List Nat):ow->Option (Rw × aE)
 | .load _ _ _ x=>some (Je is L x,x)
 | .store _ x _=>some (Je is L x,x)
 | .nilCheck x=>some (Je is L x,x)
 | .fieldAddr _ x=>some (Je is L x,x)
 | .ixArr _ _ x _=>some (Je is L x,x)
 | .ixSl _ x _=>some (.heap,x)
 | .len _ x=>some (.heap,x)
 | _=>none
def iB:Rw->List Nat
 | .frame b=>[b]
 | _=>[]
def Ae:Rw->Bool
 | .heap=>true
 | _=>false
def F4(pc:Bool)(c:Rw):ow->Option rB
 | .mov take obj x=>cond obj none (some ⟨x.tmps,cond take x.tmps [],false,false,false⟩)
 | .pick a b d=>some ⟨a.tmps++b.tmps++d.tmps,[],false,false,false⟩
 | .allocL _=>some ⟨[],[],false,false,true⟩
 | .boxL x=>some ⟨x.tmps,[],false,false,true⟩
 | .build z ps=>some ⟨(ow.build z ps).tmps,[],false,false,false⟩
 | .mkslice b sz zs ps=>some ⟨(ow.mkslice b sz zs ps).tmps,[],false,false,false⟩
 | .bin _ _ x y=>some ⟨x.tmps++y.tmps,[],false,false,false⟩
 | .mm _ x y=>some ⟨x.tmps++y.tmps,[],false,false,false⟩
 | .un _ x=>some ⟨x.tmps,[],false,false,false⟩
 | .Ve _ x=>some ⟨x.tmps,[],false,false,false⟩
 | .conv _ x=>some ⟨x.tmps,[],false,false,false⟩
 | .index _ _ _ x i=>some ⟨x.tmps++i.tmps,[],false,false,false⟩
 | .rR x i=>some ⟨x.tmps++i.tmps,[],false,false,false⟩
 | .extract x _=>some ⟨x.tmps,[],false,false,false⟩
 | .mkfunc f a b=>some ⟨(ow.mkfunc f a b).tmps,[],false,false,false⟩
 | .load take agg _ x=>some ⟨x.tmps++iB c,cond (take&&!agg) (iB c) [],Ae c,Ae c&&take&&!agg,false⟩
 | .store _ x y=>some ⟨x.tmps++y.tmps++iB c,y.tmps++iB c,Ae c,Ae c,false⟩
 | .nilCheck x=>some ⟨x.tmps++iB c,[],false,false,false⟩
 | .fieldAddr _ x=>some ⟨x.tmps++iB c,[],false,false,false⟩
 | .ixArr _ _ x i=>some ⟨x.tmps++i.tmps++iB c,[],false,false,false⟩
 | .ixSl _ x i=>some ⟨x.tmps++i.tmps,[],false,false,false⟩
 | .len _ x=>some ⟨x.tmps,[],false,false,false⟩
 | .append _ wr _ _ x y=>cond wr none (some ⟨x.tmps++y.tmps,x.tmps,false,false,false⟩)
 | .appendO _ _ x y=>some ⟨x.tmps++y.tmps,[],true,true,false⟩
 | .copyO x y=>some ⟨x.tmps++y.tmps,[],true,true,false⟩
 | .slice k x lo hi mx=>some ⟨(ow.slice k x lo hi mx).tmps,[],false,false,false⟩
 | .call f xs=>some ⟨(ow.call f xs).tmps,[],true,!pc,false⟩
 | .look _ _ _ _ _ _ m k=>some ⟨m.tmps++k.tmps,[],true,false,false⟩
 | _=>none
def Jm(pc:Bool)(is:List aV)(L:List Nat)(o:aV):Option rB :=
 (F4 pc (match wu is L o.op with|some p=>p.1|none=>.heap) o.op).map fun e =>
  ⟨(match o.guard with|some (g,_)=>[g]|none=>[])++e.rs,o.dst.toList++e.ws,e.rh,e.wh,e.wg⟩
def meets(x y:List Nat):Bool:=x.any y.contains
def conflict(e f:rB):Bool :=
 meets e.ws f.rs || meets e.ws f.ws || meets f.ws e.rs || (e.wh&&(f.rh || f.wh)) || (f.wh&&e.rh) || (e.wg&&f.wg)
def nq(pc:Bool)(o:aV):aV :=
 match o with
 | ⟨d,g,.call f xs⟩=>cond pc ⟨d,g,.Cs f xs⟩ ⟨d,g,.call f xs⟩
 | o=>o
def inter(pc:Bool)(is:List aV)(L:List Nat)(o:aV):List aV :=
 match wu is L o.op with
 | some (c,x)=>[⟨none,o.guard,.chk c x⟩,nq pc o]
 | none=>[nq pc o]
def pG(o:Oper):List Nat:=(o.after.toList.filter fun e=>Region.binds .any e).map (·.on)
def MU:List Nat->Bool
 | []=>true
 | x :: l=>!(l.contains x)&&MU l
def Sv(pre:List (List Nat)):List (List Nat):=pre.foldl (fun t l=>t++[(l.flatMap fun e=>e :: t.getD e []).eraseDups]) []
def lF(L:List Nat)(ops:List aV)(o:aV):Option (Bool × Nat × Nat × aE) :=
 match o with
 | ⟨some d,none,.load false agg sz x⟩=>cond (Ae (Je ops L x)&&!(x.tmps.contains d)) (some (agg,sz,d,x)) none
 | _=>none
def LY(pc:Bool)(L:List Nat)(ops:List aV)(o:aV):Option rB :=
 (Jm pc ops L o).map fun e=>match lF L ops o with|some _=>⟨e.rs,e.ws,false,e.wh,e.wg⟩|none=>e
def F5(pc:Bool)(L:List Nat)(ops:List aV):List aV->Option (List rB)
 | []=>some []
 | o :: r=>(LY pc L ops o).bind fun e=>(F5 pc L ops r).map (e :: ·)
def O5(pre:List (List Nat))(es:List rB):Nat->List Nat->List Nat->List Nat
 | 0,acc,_=>acc
 | n+1,acc,rest =>
  match rest.find? (fun i=>(pre.getD i []).all acc.contains&&!(es.getD i default).wh) with
  | some i=>O5 pre es n (acc++[i]) (rest.erase i)
  | none=>match rest.find? (fun i=>(pre.getD i []).all acc.contains) with
   | some i=>O5 pre es n (acc++[i]) (rest.erase i)
   | none=>acc
def ab4(L:List Nat)(ops:List aV)(cl:List (List Nat))(es:List rB)(done:List Nat)(k:Nat):List aV :=
 cond (es.getD k default).wh (done.filterMap fun j=>cond ((cl.getD k []).contains j) none ((ops[j]?).bind fun o=>(lF L ops o).map fun q=>⟨none,none,.same q.1 q.2.1 q.2.2.1 q.2.2.2⟩)) []
def G3(pc:Bool)(L:List Nat)(ops:List aV)(cl:List (List Nat))(es:List rB):List Nat->List Nat->List aV
 | _,[]=>[]
 | done,k :: r=>(match ops[k]? with|some o=>inter pc ops L o|none=>[])++(ab4 L ops cl es done k++G3 pc L ops cl es (done++[k]) r)
def QE(L:List Nat)(ops:List aV)(k:Nat):Bool:=((ops[k]?).bind (lF L ops)).isSome
def stT(L:List Nat)(ops:List aV)(k:Nat):List Nat:=match (ops[k]?).bind (lF L ops) with|some q=>q.2.2.1 :: q.2.2.2.tmps|none=>[]
def Dq(L:List Nat)(ops:List aV)(cl:List (List Nat))(es:List rB)(ord:List Nat)(p q:Nat):Bool :=
 (!conflict (es.getD (ord.getD q 0) default) (es.getD (ord.getD p 0) default) || (cl.getD (ord.getD q 0) []).contains (ord.getD p 0)) &&
 (!(QE L ops (ord.getD q 0)&&(es.getD (ord.getD p 0) default).wh) || (cl.getD (ord.getD q 0) []).contains (ord.getD p 0)) &&
 (!(QE L ops (ord.getD p 0)&&(es.getD (ord.getD q 0) default).wh) || (cl.getD (ord.getD q 0) []).contains (ord.getD p 0) ||
  (List.range (q+1)).all fun r=>Nat.ble r p || !(meets (es.getD (ord.getD r 0) default).ws (stT L ops (ord.getD p 0))))
def okS(L:List Nat)(ops:List aV)(pre cl:List (List Nat))(es:List rB)(ord:List Nat):Bool :=
 Nat.beq pre.length ops.length&&Nat.beq ord.length ops.length&&MU ord&&ord.all (fun k=>Nat.blt k ops.length) &&
 (List.range ops.length).all (fun k=>(pre.getD k []).all fun e=>Nat.blt e k) &&
 (List.range ops.length).all (fun k=>(cl.getD k []).all fun j=>(pre.getD k []).any fun e=>Nat.beq j e || (cl.getD e []).contains j) &&
 (List.range ops.length).all (fun q=>(List.range q).all fun p=>Dq L ops cl es ord p q)
def Wo(pc:Bool)(L:List Nat)(ops:List aV)(pre:List (List Nat)):Option (List aV) :=
 (F5 pc L ops ops).bind fun es=>cond (okS L ops pre (Sv pre) es (O5 pre es ops.length [] (List.range ops.length)))
  (some (G3 pc L ops (Sv pre) es [] (O5 pre es ops.length [] (List.range ops.length)))) none
def xF(o:aV):Option Nat :=
 match o.op,o.guard with
 | .next (.tmp t),none=>some t
 | _,_=>none
def QR(os:List aV):Bool:=os.all fun o=>(xF o).isNone
def orR(L:List Nat)(ops:List aV)(pre:List (List Nat))(c:aK)(pc:Bool):aK :=
 match Wo pc L ops pre with
 | some l=>cond (QR l) (.region l) c
 | none=>c
def zw(L:List Nat):aK->aK
 | .rD ops pre=>orR L ops pre (orR L ops pre (.rD ops pre) (!L.elem 999999)) (L.elem 999995)
 | .seq a b=>.seq (zw L a) (zw L b)
 | .cond c a b=>.cond c (zw L a) (zw L b)
 | .block i a=>.block i (zw L a)
 | .loop a=>.loop (zw L a)
 | c=>c
def jB:Code->Option aK
 | .skip=>some .skip
 | .region _ ops draw=>(lN P dI locals muts nt ops ops.toList).map fun is=>cond draw (.rD is (ops.toList.map pG)) (.region is)
 | .seq a b=>(jB a).bind fun x=>(jB b).map (.seq x ·)
 | .cond c a b=>(av nt c).bind fun c=>(jB a).bind fun x=>(jB b).map (.cond c x ·)
 | .block id a=>(jB a).map (.block id ·)
 | .loop a=>(jB a).map .loop
 | .exit id=>some (.exit id)
 | .ret=>some .ret
 | .label _=>some .skip
 | .scope a=>jB a
 | _=>none
def kC:List ResultVar->Option (List iu)
 | []=>some []
 | .tmp t :: r=>cond (Nat.blt t nt) ((kC r).map (.tmp t :: ·)) none
 | .cell a t :: r=>cond (Nat.blt a nt) ((n7 P t).bind fun g=>(fC P t).bind fun sz=>(kC r).map (.cell a g sz :: ·)) none
end
def Sw(P:Program)(dI locals muts:List Nat)(f:Func):Option aB :=
 f.body.bind fun c=>(jB P dI locals muts f.ntmps c).bind fun b=>(kC P f.ntmps f.results.toList).bind fun rs =>
  cond (Nat.ble (f.params.size+f.nfree) f.ntmps&&f.name != "runtime.NumGoroutine") (some { dI,locals,muts,nt:=f.ntmps,np:=f.params.size+f.nfree,results:=rs,body:=b }) none
def bp(P:Program)(dI locals muts:List Nat)(f:Func):Option aB :=
 (Sw P dI locals muts f).map fun i=>{ i with body:=zw i.locals i.body }
end
variable {s:AS}{F:AS->Option (bH × AS)}{p q:AS->Prop}{v:AV}{args:List AV}{os:List aV}{fn:aB}{a:aK}{o:aV}
section
def gz.Le(f g:gz):Prop:=∀ a b c r,f a b c=some r->g a b c=some r
section
variable {G:Nat->List AV}{f g:gz}
theorem zS{x y:Option α}{r:α}(h:cond b x none=some r)(W5:x=some r->y=some r):cond b y none=some r:=by
 grind
theorem PK(h:gz.Le f g){o:ow}{r:AV × Option AS}(he:aR G f s o=some r):aR G g s o=some r:=by
 cases o with
 | call fn args =>
  simp only[aR] at he ⊢;split at he
  ·refine zS he fun he=>?_
   simp only[au2] at he ⊢;obtain⟨r0,h0,rfl⟩:=he;exact⟨r0,h _ _ _ _ h0,rfl⟩
  ·cases he
 | Cs fn args =>
  simp only[aR] at he ⊢;split at he
  ·refine zS he fun he=>?_
   simp only[au3] at he ⊢;obtain⟨r0,h0,he⟩:=he;exact⟨r0,h _ _ _ _ h0,he⟩
  ·cases he
 | _=>exact he
theorem AO(h:gz.Le f g){r:AS}(he:aS G f s o=some r):aS G g s o=some r:=by
 have key:∀ r,((aR G f s o.op).bind fun r=>match r.2 with
   | none=>some (s.ca o.dst r.1)
   | some s'=>some (s'.ca o.dst r.1))=some r->((aR G g s o.op).bind fun r=>match r.2 with
   | none=>some (s.ca o.dst r.1)
   | some s'=>some (s'.ca o.dst r.1))=some r:=by
  intro r hr;simp only[au3] at hr ⊢
  grind [PK]
 unfold aS at he ⊢;simp only at he ⊢;split at he
 ·exact key _ he
 ·grind
theorem xd(h:gz.Le f g):∀ {os:List aV} {s r:AS},gO G f os s=some r->gO G g os s=some r
 | [],_,_,he=>he
 | o :: os,s,r,he=>by
  simp only[gO,au3] at he ⊢;obtain⟨x,h1,h2⟩:=he;exact⟨x,AO h h1,xd h h2⟩
def rS{F':AS->Option (bH × AS)}(h:∀ s r,F s=some r->F' s=some r):∀ {n m:Nat} {s:AS} {r:bH × AS},n<=m->iter F n s=some r->iter F' m s=some r
 | 0,_,_,_,_,he=>by cases he
 | n+1,0,_,_,hn,_=>by omega
 | n+1,m+1,s,r,hn,he=>by
  simp only[iter,au3] at he ⊢;obtain⟨x,h1,h2⟩:=he;refine⟨x,h _ _ h1,?_⟩;split at h2
  ·exact rS h (by omega) h2
  ·exact h2
theorem kV(h:gz.Le f g){n:Nat}(hn:n<=m):∀ {c:aK} {s:AS} {r:bH × AS},kN G f n c s=some r->kN G g m c s=some r
 | .skip,_,_,he=>he
 | .exit _,_,_,he=>he
 | .ret,_,_,he=>he
 | .rD _ _,_,_,he=>by simp[kN] at he
 | .region os,s,r,he=>by
  simp only[kN,au2] at he ⊢
  grind [xd]
 | .seq a b,s,r,he=>by
  simp only[kN,au3] at he ⊢;obtain⟨x,h1,h2⟩:=he;refine⟨x,kV h hn h1,?_⟩;split at h2
  ·exact kV h hn h2
  ·exact h2
 | .cond c a b,s,r,he=>by
  simp only[kN] at he ⊢;split at he
  ·rename_i t ht
   cases t
   ·exact kV h hn (c:=b) he
   ·exact kV h hn (c:=a) he
  ·cases he
 | .block id a,s,r,he=>by
  simp only[kN,au2] at he ⊢;obtain⟨x,h1,h2⟩:=he;exact⟨x,kV h hn h1,h2⟩
 | .loop a,s,r,he=>by
  simp only[kN] at he ⊢;exact rS (fun s r h'=>kV h hn h') hn he
theorem GU(h:gz.Le f g){n:Nat}(hn:n<=m){H:ae}{r:AV × Option fP}(he:zj G f n fn args H=some r):zj G g m fn args H=some r:=by
 unfold zj at he ⊢;refine zS he fun he=>?_
 simp only[au3] at he ⊢
 grind [kV]
end
def Jt{A:AP} : ∀ n,gz.Le (D4 A n) (D4 A (n+1))
 | 0=>fun a b c r h=>by cases h
 | n+1=>fun a b c r h=>by
  simp only[D4] at h ⊢;cases ho:A.ov a with
  | some g=>rw[ho] at h;exact h
  | none =>
   rw[ho] at h;cases hf:A.fns a with
   | none=>rw[hf] at h;cases h
   | some fn=>rw[hf] at h;exact GU (Jt n) (by omega) h
def oc{A:AP}{n:Nat}(h:n<=m):gz.Le (D4 A n) (D4 A m):=by
 induction h with
 | refl=>exact fun _ _ _ _ h=>h
 | step _ ih=>exact fun a b c r hr=>Jt _ a b c r (ih a b c r hr)
def aj(A:AP):gz:=fun f args H=>open Classical in if h:∃ n r,D4 A n f args H=some r then some (Classical.choose (axk h)) else none
theorem pC{A:AP}{f:FuncId}{H:ae}{r:AV × Option fP} : aj A f args H=some r↔∃ n,D4 A n f args H=some r:=by
 unfold aj;constructor
 ·intro h
  split at h
  ·grind
  ·cases h
 ·rintro ⟨n,hn⟩
  have hx:∃ n r,D4 A n f args H=some r:=⟨n,r,hn⟩;rw[dif_pos hx];have h1:=axk (axk hx);have h2:=oc (awV n (Classical.choose hx)) _ _ _ _ hn;have h3:=oc (awD n (Classical.choose hx)) _ _ _ _ h1;rw[h2] at h3;injection h3 with h3
  rw[h3]
def PJ{A:AP}(n:Nat):gz.Le (D4 A n) (aj A):=fun _ _ _ _ h=>pC.2 ⟨n,h⟩
section
variable {A:AP}
theorem SV{o:ow}{r:AV × Option AS}(he:aR A.aY (aj A) s o=some r):∃ n,aR A.aY (D4 A n) s o=some r:=by
 cases o with
 | call fn args =>
  simp only[aR] at he ⊢;split at he
  ·rename_i n fs cs hf
   cases hb:((args.map fun a=>a.addr A.aY s.T).all aN) with
   | false=>rw[hb] at he;cases he
   | true =>
    rw[hb] at he;simp only[cond_true,au2] at he;obtain⟨r0,h0,rfl⟩:=he;obtain⟨k,hk⟩:=pC.1 h0
    grind
  ·cases he
 | Cs fn args =>
  simp only[aR] at he ⊢;split at he
  ·rename_i n fs cs hf
   cases hb:((args.map fun a=>a.addr A.aY s.T).all aN) with
   | false=>rw[hb] at he;cases he
   | true =>
    rw[hb] at he;simp only[cond_true,au3] at he;obtain⟨r0,h0,he⟩:=he;obtain⟨k,hk⟩:=pC.1 h0
    grind
  ·cases he
 | _=>exact⟨0,he⟩
theorem L3{r:AS}(he:aS A.aY (aj A) s o=some r):∃ n,aS A.aY (D4 A n) s o=some r:=by
 have key:∀ r,((aR A.aY (aj A) s o.op).bind fun r=>match r.2 with
   | none=>some (s.ca o.dst r.1)
   | some s'=>some (s'.ca o.dst r.1))=some r->∃ n,((aR A.aY (D4 A n) s o.op).bind fun r=>match r.2 with
   | none=>some (s.ca o.dst r.1)
   | some s'=>some (s'.ca o.dst r.1))=some r:=by
  intro r hr;simp only[au3] at hr ⊢
  grind [SV]
 unfold aS at he ⊢;simp only at he ⊢;split at he
 ·exact key _ he
 ·split at he
  ·rename_i b hb
   cases hbw:(b==_) with
   | true=>rw[hbw] at he;exact key _ he
   | false=>rw[hbw] at he;exact⟨0,he⟩
  ·exact⟨0,he⟩
  ·cases he
theorem F9:∀ {os:List aV} {s r:AS},gO A.aY (aj A) os s=some r->∃ n,gO A.aY (D4 A n) os s=some r
 | [],_,_,he=>⟨0,he⟩
 | o :: os,s,r,he=>by
  simp only[gO,au3] at he ⊢;obtain⟨x,h1,h2⟩:=he;obtain⟨n,hn⟩:=L3 h1;obtain⟨m,hm⟩:=F9 h2;exact⟨max n m,x,AO (oc (awV n m)) hn,xd (oc (awD n m)) hm⟩
theorem J'{F':Nat->AS->Option (bH × AS)}(hm:∀ n m s r,n<=m->F' n s=some r->F' m s=some r)(h:∀ s r,F s=some r->∃ n,F' n s=some r) :
  ∀ {n:Nat} {s:AS} {r:bH × AS},iter F n s=some r->∃ m,iter (F' m) n s=some r
 | 0,_,_,he=>by cases he
 | n+1,s,r,he=>by
  simp only[iter,au3] at he ⊢;obtain⟨x,h1,h2⟩:=he;obtain⟨m1,BV⟩:=h _ _ h1;split at h2
  ·obtain⟨m2,Li⟩:=J' hm h h2
   refine⟨max m1 m2,x,hm _ _ _ _ (awV _ _) BV,?_⟩;rename_i hx;simp only[hx];exact rS (fun s r=>hm _ _ _ _ (awD _ _)) (Nat.le_refl _) Li
  ·grind
theorem td{n:Nat} : ∀ {c:aK} {s:AS} {r:bH × AS},kN A.aY (aj A) n c s=some r->∃ m,kN A.aY (D4 A m) n c s=some r
 | .skip,_,_,he=>⟨0,he⟩
 | .exit _,_,_,he=>⟨0,he⟩
 | .ret,_,_,he=>⟨0,he⟩
 | .rD _ _,_,_,he=>by simp[kN] at he
 | .region os,s,r,he=>by
  simp only[kN,au2] at he ⊢
  grind [F9]
 | .seq a b,s,r,he=>by
  simp only[kN,au3] at he ⊢;obtain⟨x,h1,h2⟩:=he;obtain⟨m1,BV⟩:=td h1;split at h2
  ·rename_i hx
   obtain⟨m2,Li⟩:=td h2;refine⟨max m1 m2,x,kV (oc (awV _ _)) (Nat.le_refl _) BV,?_⟩;simp only[hx];exact kV (oc (awD _ _)) (Nat.le_refl _) Li
  ·grind
 | .cond c a b,s,r,he=>by
  simp only[kN] at he ⊢;split at he
  ·rename_i t ht
   cases t
   ·exact td (c:=b) he
   ·exact td (c:=a) he
  ·cases he
 | .block id a,s,r,he=>by
  simp only[kN,au2] at he ⊢;obtain⟨x,h1,h2⟩:=he;obtain⟨m,hm⟩:=td h1;exact⟨m,x,hm,h2⟩
 | .loop a,s,r,he=>by
  simp only[kN] at he ⊢;exact J' (F':=fun m=>kN A.aY (D4 A m) n a) (fun n' m s r hn h=>kV (oc hn) (Nat.le_refl _) h) (fun s r h=>td h) he
theorem V1{n:Nat}{H:ae}{r:AV × Option fP}(he:zj A.aY (aj A) n fn args H=some r):∃ m,zj A.aY (D4 A m) n fn args H=some r:=by
 unfold zj at he ⊢;cases hb:Nat.beq args.length fn.np with
 | false=>rw[hb] at he;cases he
 | true =>
  rw[hb] at he;simp only[cond_true,au3] at he ⊢
  grind [td]
def rK{f:FuncId}(ho:A.ov f=none)(hf:A.fns f=some fn){n:Nat}{H:ae}{r:AV × Option fP}(h:zj A.aY (aj A) n fn args H=some r):aj A f args H=some r:=by
 obtain⟨m,hm⟩:=V1 h;refine pC.2 ⟨max m n+1,?_⟩;simp only[D4,ho,hf];exact GU (oc (awV _ _)) (awD _ _) hm
def gU{f:FuncId}{g:List AV->ae->Option (AV × Option fP)}(ho:A.ov f=some g){H:ae}{r:AV × Option fP}(h:g args H=some r)(hn:args.all vG=true:=by rfl):aj A f args H=some r :=
 pC.2 ⟨1,by simp only[D4,ho,hn,cond_true];exact h⟩
end
end
section
def aK.sub:List Bool->aK->aK
 | [],c=>c
 | false :: p,.seq a _=>a.sub p
 | true :: p,.seq _ b=>b.sub p
 | false :: p,.cond _ a _=>a.sub p
 | true :: p,.cond _ _ b=>b.sub p
 | _ :: p,.block _ a=>a.sub p
 | _ :: p,.loop a=>a.sub p
 | _,c=>c
def W(A:AP)(c:aK)(s:AS)(Q:bH->AS->Prop):Prop:=∃ n e s',kN A.aY (aj A) n c s=some (e,s')/\Q e s'
def WO(A:AP)(os:List aV)(s:AS)(Q:AS->Prop):Prop:=∃ s',gO A.aY (aj A) os s=some s'/\Q s'
def cd(x:Option α)(K:α->Prop):Prop:=∃ s,x=some s/\K s
def Cu(v:AV)(p q:AS->Prop)(s:AS):Prop:=∃ b,v=.bool b/\(b=true->p s)/\(b=false->q s)
def andThen(P:AS->Prop)(Q:bH->AS->Prop):bH->AS->Prop
 | .normal,s=>P s
 | e,s=>Q e s
def leave(id:Nat)(Q:bH->AS->Prop):bH->AS->Prop
 | .exit i,s=>Q (cond (Nat.beq i id) .normal (.exit i)) s
 | e,s=>Q e s
section
variable {A:AP}
theorem aW{α:Type}{s:α}{K:α->Prop} : cd (some s) K=K s:=by
 refine propext ⟨?_,fun h=>⟨s,rfl,h⟩⟩
 rintro ⟨s',h,hk⟩
 grind
theorem LP{p q:AS->Prop}{s:AS} : Cu (.bool true) p q s=p s:=by
 refine propext ⟨?_,fun h=>⟨true,rfl,fun _=>h,fun hb=>Bool.noConfusion hb⟩⟩
 rintro ⟨b,h,h1,h2⟩
 grind
theorem Jg{p q:AS->Prop}{s:AS} : Cu (.bool false) p q s=q s:=by
 refine propext ⟨?_,fun hq=>⟨false,rfl,(fun hb=>Bool.noConfusion hb),fun _=>hq⟩⟩
 rintro ⟨b,h,h1,h2⟩
 grind
def jO(h1:b=true->p s)(h2:b=false->q s):Cu (.bool b) p q s:=⟨b,rfl,h1,h2⟩
def jC{P:Prop}{_:Decidable P}(h1:P->p s)(h2:¬ P->q s):Cu (.bool (decide P)) p q s :=
 ⟨_,rfl,fun h=>h1 (of_decide_eq_true h),fun h=>h2 (of_decide_eq_false h)⟩
def kQ{P:AS->Prop}{Q:bH->AS->Prop} : andThen P Q .normal s=P s:=rfl
def up{n:Nat}(h:n<=m){c:aK}{r:bH × AS}(he:kN A.aY (aj A) n c s=some r):kN A.aY (aj A) m c s=some r:=kV (fun _ _ _ _ h=>h) h he
def aco{Q:bH->AS->Prop} : W A .skip s Q=Q .normal s:=by
 refine propext ⟨?_,fun h=>⟨0,_,_,rfl,h⟩⟩
 rintro ⟨n,e,s',h,hq⟩
 simp only[kN,au4,au8] at h;rw[h.1,h.2];exact hq
def ag5{Q:bH->AS->Prop} : W A .ret s Q=Q .ret s:=by
 refine propext ⟨?_,fun h=>⟨0,_,_,rfl,h⟩⟩
 rintro ⟨n,e,s',h,hq⟩
 simp only[kN,au4,au8] at h;rw[h.1,h.2];exact hq
def acn{Q:bH->AS->Prop} : W A (.exit i) s Q=Q (.exit i) s:=by
 refine propext ⟨?_,fun h=>⟨0,_,_,rfl,h⟩⟩
 rintro ⟨n,e,s',h,hq⟩
 simp only[kN,au4,au8] at h;rw[h.1,h.2];exact hq
def FJ{b:aK}{Q:bH->AS->Prop} : W A (.seq a b) s Q=W A a s (andThen (fun s'=>W A b s' Q) Q):=by
 refine propext ⟨?_,?_⟩
 ·rintro ⟨n,e,s',h,hq⟩
  simp only[kN,au3] at h;obtain⟨⟨e1,s1⟩,h1,h2⟩:=h;refine⟨n,e1,s1,h1,?_⟩;cases e1 with
  | normal=>exact⟨n,e,s',h2,hq⟩
  | _ =>
   simp only[au4,au8] at h2;obtain⟨rfl,rfl⟩:=h2;exact hq
 ·rintro ⟨n,e,s',h,hq⟩
  cases e with
  | normal =>
   obtain⟨m,e2,s2,h2,hq⟩:=hq;refine⟨max n m,e2,s2,?_,hq⟩;simp only[kN,up (awV n m) h,au9,up (awD n m) h2]
  | exit i =>
   refine⟨n,_,s',?_,hq⟩;simp only[kN,h,au9]
  | ret =>
   refine⟨n,_,s',?_,hq⟩;simp only[kN,h,au9]
def He{Q:bH->AS->Prop} : W A (.block i a) s Q=W A a s (leave i Q):=by
 refine propext ⟨?_,?_⟩
 ·rintro ⟨n,e,s',h,hq⟩
  simp only[kN,au2] at h;obtain⟨⟨e1,s1⟩,h1,h2⟩:=h;refine⟨n,e1,s1,h1,?_⟩;cases e1<;>simp only[au8] at h2<;>obtain⟨rfl,rfl⟩:=h2<;>exact hq
 ·rintro ⟨n,e,s',h,hq⟩
  cases e<;>exact⟨n,_,s',by simp only[kN,h,ave],hq⟩
def acm{c:aE}{b:aK}{Q:bH->AS->Prop} : W A (.cond c a b) s Q=Cu (c.eval A.aY s.T) (fun s=>W A a s Q) (fun s=>W A b s Q) s:=by
 refine propext ⟨?_,?_⟩
 ·rintro ⟨n,e,s',h,hq⟩
  simp only[kN] at h;split at h
  ·rename_i t ht
   refine⟨t,ht,fun hb=>?_,fun hb=>?_⟩
   ·subst hb;exact⟨n,e,s',h,hq⟩
   ·subst hb;exact⟨n,e,s',h,hq⟩
  ·cases h
 ·rintro ⟨t,ht,h1,h2⟩
  cases t with
  | true =>
   obtain⟨n,e,s',h,hq⟩:=h1 rfl;exact⟨n,e,s',by simp only[kN,ht];exact h,hq⟩
  | false =>
   obtain⟨n,e,s',h,hq⟩:=h2 rfl;exact⟨n,e,s',by simp only[kN,ht];exact h,hq⟩
def RT{Q:bH->AS->Prop} : W A (.region os) s Q=WO A os s (Q .normal):=by
 refine propext ⟨?_,?_⟩
 ·rintro ⟨n,e,s',h,hq⟩
  simp only[kN,au2,au8] at h;obtain⟨s1,h1,rfl,rfl⟩:=h;exact⟨s1,h1,hq⟩
 ·rintro ⟨s1,h1,hq⟩
  exact⟨0,.normal,s1,by simp only[kN,h1,ave],hq⟩
def Hc{Q:AS->Prop} : WO A [] s Q=Q s:=by
 refine propext ⟨?_,fun h=>⟨s,rfl,h⟩⟩
 rintro ⟨s',h,hq⟩
 simp only[gO,au4] at h;rw[h];exact hq
def fZ{Q:AS->Prop} : WO A (o :: os) s Q=cd (aS A.aY (aj A) s o) fun s'=>WO A os s' Q:=by
 refine propext ⟨?_,?_⟩
 ·rintro ⟨s',h,hq⟩
  simp only[gO,au3] at h;obtain⟨s1,h1,h2⟩:=h;exact⟨s1,h1,s',h2,hq⟩
 ·rintro ⟨s1,h1,s',h2,hq⟩
  exact⟨s',by simp only[gO,h1,au9,h2],hq⟩
def xY{b:aK}{Q:bH->AS->Prop}(R:AS->Prop)(h1:W A a s (andThen R Q))(h2:∀ s',R s'->W A b s' Q):W A (.seq a b) s Q:=by
 rw[FJ];obtain⟨n,e,s',h,hq⟩:=h1
 exact⟨n,e,s',h,by cases e with|normal=>exact h2 s' hq|_=>exact hq⟩
def uu{c:aK}{Q Q':bH->AS->Prop}(h:W A c s Q)(hq:∀ e s',Q e s'->Q' e s'):W A c s Q':=by
 obtain⟨n,e,s',h1,h2⟩:=h;exact⟨n,e,s',h1,hq e s' h2⟩
def RS{Q:bH->AS->Prop}(I:Nat->AS->Prop)(hI:∀ k s,I k s->W A a s (andThen (fun s'=>∃ k',k' < k/\I k' s') Q)):∀ k s,I k s->W A (.loop a) s Q:=by
 intro k
 induction k using Nat.strongRecOn with
 | _ k ih =>
  intro s hs;obtain⟨n,e,s1,h1,hq⟩:=hI k s hs;cases e with
  | normal =>
   obtain⟨k',hk,qK⟩:=hq;obtain⟨m,e2,s2,h2,hq⟩:=ih k' hk s1 qK;refine⟨max n m+1,e2,s2,?_,hq⟩;simp only[kN,iter] at h2 ⊢;have WV:=up (A:=A) (show n<=max n m+1 by omega) h1
   rw[WV,au9];have h2' : iter (kN A.aY (aj A) (max n m+1) a) (max n m) s1=some (e2,s2) :=
    rS (fun s r h=>up (show m<=max n m+1 by omega) h) (awD n m) h2
   exact h2'
  | exit i =>
   refine⟨n+1,_,s1,?_,hq⟩;simp only[kN,iter];rw[up (A:=A) (show n<=n+1 by omega) h1,au9]
  | ret =>
   refine⟨n+1,_,s1,?_,hq⟩;simp only[kN,iter];rw[up (A:=A) (show n<=n+1 by omega) h1,au9]
def x5{Q:bH->AS->Prop}(h:W A a s (andThen (fun s'=>W A (.loop a) s' Q) Q)):W A (.loop a) s Q:=by
 obtain⟨n,e,s1,h1,hq⟩:=h;cases e with
 | normal =>
  obtain⟨m,e2,s2,h2,hq⟩:=hq;refine⟨max n m+1,e2,s2,?_,hq⟩;simp only[kN,iter] at h2 ⊢;rw[up (A:=A) (show n<=max n m+1 by omega) h1,au9]
  exact rS (fun s r h=>up (show m<=max n m+1 by omega) h) (awD n m) h2
 | exit i =>
  refine⟨n+1,_,s1,?_,hq⟩;simp only[kN,iter];rw[up (A:=A) (show n<=n+1 by omega) h1,au9]
 | ret =>
  refine⟨n+1,_,s1,?_,hq⟩;simp only[kN,iter];rw[up (A:=A) (show n<=n+1 by omega) h1,au9]
def vl{Q:bH->AS->Prop}(n:Nat)(I:Nat->AS->Prop)(hI:∀ k s,k<=n->I k s->W A a s (andThen (fun s'=>k<n/\I (k+1) s') Q))(k:Nat)(s:AS)(hk:k<=n)(hs:I k s):W A (.loop a) s Q:=by
 refine RS (fun j s=>∃ k,k<=n/\j=n-k/\I k s) (fun j s h=>?_) (n-k) s ⟨k,hk,rfl,hs⟩
 obtain⟨k,hk,rfl,hs⟩:=h;refine uu (hI k s hk hs) fun e s' hq=>?_
 cases e with
 | normal =>
  obtain⟨h1,h2⟩:=hq;exact⟨n-(k+1),by omega,k+1,by omega,rfl,h2⟩
 | _=>exact hq
def Ex(i:Nat)(P V:AS->Prop):bH->AS->Prop
 | .exit j,s=>j=i/\P s
 | .ret,s=>V s
 | .normal,_=>False
def ND{Q:bH->AS->Prop}(id:Nat)(P V:AS->Prop)(h:W A (.loop a) s (Ex id P V))(hp:∀ s',P s'->Q (.exit id) s')(hv:∀ s',V s'->Q .ret s'):W A (.loop a) s Q:=by
 refine uu h fun e s' hq=>?_
 cases e with
 | normal=>exact hq.elim
 | exit j=>obtain⟨rfl,hq⟩:=hq;exact hp s' hq
 | ret=>exact hv s' hq
def cg{Q:bH->AS->Prop}(n id:Nat)(I:Nat->AS->Prop)(P V:AS->Prop)(hI:∀ k s,k<=n->I k s->W A a s (andThen (fun s'=>k<n/\I (k+1) s') (Ex id P V)))
  (hp:∀ s',P s'->Q (.exit id) s') (hv:∀ s',V s'->Q .ret s') (k:Nat) (s:AS) (hk:k<=n) (hs:I k s):W A (.loop a) s Q :=
 ND id P V (vl n I hI k s hk hs) hp hv
def oQ{Q:bH->AS->Prop}(id:Nat)(I:Nat->AS->Prop)(P V:AS->Prop)(hI:∀ k s,I k s->W A a s (andThen (fun s'=>∃ k',k' < k/\I k' s') (Ex id P V)))
  (hp:∀ s',P s'->Q (.exit id) s') (hv:∀ s',V s'->Q .ret s') (k:Nat) (s:AS) (hs:I k s):W A (.loop a) s Q :=
 ND id P V (RS I hI k s hs) hp hv
def Hd(P:aD->Prop)(H:ae)(lo gen:Nat)(s:AS):Prop:=P s.T/\s.H=H/\s.lo=lo/\s.gen=gen
theorem Hd.out{P:aD->Prop}{H:ae}{lo gen:Nat}(h:Hd P H lo gen s):∃ T,s=⟨T,H,lo,gen⟩/\P T:=by
 obtain⟨T,H',l',g'⟩:=s;obtain⟨h1,h2,h3,h4⟩:=h
 grind
def HdG(P:aD->Prop)(H:ae)(lo:Nat)(s:AS):Prop:=P s.T/\s.H=H/\s.lo=lo
def HdG.out{P:aD->Prop}{H:ae}{lo:Nat}(h:HdG P H lo s):∃ T g,s=⟨T,H,lo,g⟩/\P T:=by
 obtain⟨T,H',l',g'⟩:=s;obtain⟨h1,h2,h3⟩:=h
 simp_all
def fin(base:Nat)(rs:List iu)(s:AS):Option (AV × Option fP) :=
 cond (kB base s) ((mC s rs).bind fun r=>cond (r.leaves base) (some (r,cond (Nat.beq s.lo base) none (some ⟨s.H.take base,s.lo⟩))) none) none
def done(base:Nat)(rs:List iu)(r:AV × Option fP):bH->AS->Prop
 | .exit _,_=>False
 | _,s=>fin base rs s=some r
def AM(base:Nat)(rs:List iu)(P:AV × Option fP->Prop):bH->AS->Prop
 | .exit _,_=>False
 | _,s=>cd (fin base rs s) P
def Rb{r:iu}{b:Nat}(h:oG s r=some b):iW s r=none:=by
 cases r with
 | tmp t =>
  simp only[oG] at h;simp only[iW];split at h
  ·rename_i hT;rw[hT];rfl
  ·rename_i hT;rw[hT];rfl
  ·cases h
 | cell=>cases h
def JD{rs:List iu}{q:AV × Option fP}(he:tj m rs s=some q):∃ i l off n z,rs=[i]/\iW s i=some (.sref l off n z)/\m<=l:=by
 unfold tj at he;split at he
 ·rename_i i
  simp only[au3] at he;obtain⟨v,hv,he⟩:=he;split at he
  ·rename_i l off n z
   split at he
   ·rename_i ty cs hH
    cases hb:(Nat.ble m l&&cs.all AV.plain) with
    | false=>rw[hb] at he;cases he
    | true =>
     simp_all
   ·cases he
  ·cases he
 ·cases he
theorem Sb{base:Nat}{r:AV × Option fP}(h:iQ base fn.results s=some r):oR base fn s=none:=by
 cases hf:oR base fn s with
 | none=>rfl
 | some q =>
  exfalso;unfold oR at hf;cases hb:fn.muts.elem 888888 with
  | false=>rw[hb] at hf;cases hf
  | true =>
   rw[hb,cond_true] at hf;obtain⟨i,l,off,n,z,Oq,rj,hml⟩:=JD hf;unfold iQ mC at h;rw[Oq] at h;simp only at h;cases hr:oG s i with
   | some b=>rw[Rb hr] at rj;cases rj
   | none =>
    rw[hr] at h;simp only[rj,au9] at h;have:(AV.sref l off n z).leaves base=false:=by
     simp only[AV.leaves,AV.fu,AV.bw];cases hb:Nat.blt l base with
     | false=>rfl
     | true=>rw[avn] at hb;omega
    grind
theorem pI{base:Nat}{r:AV × Option fP}(h:fin base fn.results s=some r):finish base fn s=some (rZ fn r):=by
 unfold fin at h;cases ho:kB base s with
 | false=>rw[ho] at h;cases h
 | true =>
  rw[ho,cond_true] at h;have h:iQ base fn.results s=some r:=h;unfold finish ml qI
  grind [Sb]
def Xu(base:Nat)(fn:aB)(P:AV × Option fP->Prop):bH->AS->Prop
 | .exit _,_=>False
 | _,s=>∃ r,finish base fn s=some r/\P r
def FV{f:FuncId}(ho:A.ov f=none)(hf:A.fns f=some fn){H:ae}{P:AV × Option fP->Prop}(hn:Nat.beq args.length fn.np=true)
  (h:W A fn.body { T:=fi args,H,lo:=H.length,gen:=0 } (Xu H.length fn P)):∃ r,aj A f args H=some r/\P r:=by
 obtain⟨n,e,s',h1,h2⟩:=h;have key:∀ r,finish H.length fn s'=some r->aj A f args H=some r:=by
  intro r hr;refine rK ho hf (n:=n) ?_;unfold zj;rw[hn,cond_true,h1,au9];cases e with
  | exit i=>exact h2.elim
  | _=>exact hr
 cases e with
 | exit i=>exact h2.elim
 | _=>obtain⟨r,hr,hP⟩:=h2;exact⟨r,key r hr,hP⟩
theorem uX(hm:fn.muts.elem 777777=false)(r:AV × Option fP):rZ fn r=r:=by unfold rZ;rw[hm];rfl
theorem Dm(hm:fn.muts.elem 777777=true)(r:AV × Option fP):rZ fn r=(nh r.1,r.2):=by unfold rZ;rw[hm];rfl
theorem FW{f:FuncId}(ho:A.ov f=none)(hf:A.fns f=some fn){H:ae}{P:AV × Option fP->Prop}(hn:Nat.beq args.length fn.np=true)
  (h:W A fn.body { T:=fi args,H,lo:=H.length,gen:=0 } (AM H.length fn.results P)):∃ r,aj A f args H=some (rZ fn r)/\P r:=by
 obtain⟨n,e,s',h1,h2⟩:=h;have key:∀ r,fin H.length fn.results s'=some r->aj A f args H=some (rZ fn r):=by
  intro r hr;refine rK ho hf (n:=n) ?_;unfold zj;rw[hn,cond_true,h1,au9];cases e with
  | exit i=>exact h2.elim
  | _=>exact pI hr
 cases e with
 | exit i=>exact h2.elim
 | _=>obtain⟨r,hr,hP⟩:=h2;exact⟨r,key r hr,hP⟩
theorem uB{f:FuncId}(ho:A.ov f=none)(hf:A.fns f=some fn){H:ae}{P:AV × Option fP->Prop}(hn:Nat.beq args.length fn.np=true)
  (h:W A fn.body { T:=fi args,H,lo:=H.length,gen:=0 } (AM H.length fn.results P)) (hm:fn.muts.elem 777777=false:=by rfl):∃ r,aj A f args H=some r/\P r:=by
 grind [FW,uX]
theorem nF{f:FuncId}(ho:A.ov f=none)(hf:A.fns f=some fn){H:ae}{P:AV × Option fP->Prop}(hn:Nat.beq args.length fn.np=true)
  (hm:fn.muts.elem 777777=true) (h:W A fn.body { T:=fi args,H,lo:=H.length,gen:=0 } (AM H.length fn.results fun r=>P (nh r.1,r.2))):∃ r,aj A f args H=some r/\P r:=by
 grind [FW,Dm]
def Ss{f:FuncId}(ho:A.ov f=none)(hf:A.fns f=some fn){H:ae}{r:AV × Option fP}(hn:Nat.beq args.length fn.np=true)
  (h:W A fn.body { T:=fi args,H,lo:=H.length,gen:=0 } (done H.length fn.results r)):aj A f args H=some (rZ fn r):=by
 obtain⟨n,e,s',h1,h2⟩:=h;refine rK ho hf (n:=n) ?_;unfold zj;rw[hn,cond_true,h1,au9];cases e with
 | exit i=>exact h2.elim
 | _=>exact pI h2
def cJ{f:FuncId}(ho:A.ov f=none)(hf:A.fns f=some fn){H:ae}{r:AV × Option fP}(hn:Nat.beq args.length fn.np=true)
  (h:W A fn.body { T:=fi args,H,lo:=H.length,gen:=0 } (done H.length fn.results r)) (hm:fn.muts.elem 777777=false:=by rfl):aj A f args H=some r:=by
 have:=Ss ho hf hn h
 rwa [uX hm] at this
end
section
variable {A:AP}{T:aD}{H:ae}{lo gen:Nat}{Q:bH->AS->Prop}{K:AS->Prop}
def WJ{a b:aK} : W A (.seq a b) ⟨T,H,lo,gen⟩ Q=W A a ⟨T,H,lo,gen⟩ (andThen (fun s'=>W A b s' Q) Q):=FJ
def IG{i:Nat}{a:aK} : W A (.block i a) ⟨T,H,lo,gen⟩ Q=W A a ⟨T,H,lo,gen⟩ (leave i Q):=He
def agy{c:aE}{a b:aK} : W A (.cond c a b) ⟨T,H,lo,gen⟩ Q=Cu (c.eval A.aY T) (fun s=>W A a s Q) (fun s=>W A b s Q) ⟨T,H,lo,gen⟩:=acm
def Lb{os:List aV} : W A (.region os) ⟨T,H,lo,gen⟩ Q=WO A os ⟨T,H,lo,gen⟩ (Q .normal):=RT
def agE:W A .skip ⟨T,H,lo,gen⟩ Q=Q .normal ⟨T,H,lo,gen⟩:=aco
def akP:W A .ret ⟨T,H,lo,gen⟩ Q=Q .ret ⟨T,H,lo,gen⟩:=ag5
def agA{i:Nat} : W A (.exit i) ⟨T,H,lo,gen⟩ Q=Q (.exit i) ⟨T,H,lo,gen⟩:=acn
def ack:WO A [] ⟨T,H,lo,gen⟩ K=K ⟨T,H,lo,gen⟩:=Hc
def agD{t:Nat}{v:AV} : AS.cx ⟨T,H,lo,gen⟩ t v=⟨T.put t v,H,lo,gen⟩:=rfl
def akN{h:ae}{l:Nat} : AS.iK ⟨T,H,lo,gen⟩ ⟨h,l⟩=⟨T,h,cond (Nat.blt l lo) l lo,gen⟩:=rfl
def La{P:AS->Prop} : andThen P Q .normal ⟨T,H,lo,gen⟩=P ⟨T,H,lo,gen⟩:=rfl
def agx{P:AS->Prop} : andThen P Q .ret ⟨T,H,lo,gen⟩=Q .ret ⟨T,H,lo,gen⟩:=rfl
def aau{P:AS->Prop}{i:Nat} : andThen P Q (.exit i) ⟨T,H,lo,gen⟩=Q (.exit i) ⟨T,H,lo,gen⟩:=rfl
def agB{P:aD->Prop}{H' : ae}{lo' : Nat} : HdG P H' lo' ⟨T,H,lo,gen⟩=(P T/\H=H'/\lo=lo'):=rfl
def WH{i:Nat}{P V:AS->Prop} : Ex i P V (.exit i) ⟨T,H,lo,gen⟩=P ⟨T,H,lo,gen⟩:=propext ⟨fun h=>h.2,fun h=>⟨rfl,h⟩⟩
def aaw{i:Nat}{P V:AS->Prop} : Ex i P V .ret ⟨T,H,lo,gen⟩=V ⟨T,H,lo,gen⟩:=rfl
def akO{P:aD->Prop}{H' : ae}{lo' gen' : Nat} : Hd P H' lo' gen' ⟨T,H,lo,gen⟩=(P T/\H=H'/\lo=lo'/\gen=gen'):=rfl
def agz{base:Nat}{rs:List iu}{r:AV × Option fP} : done base rs r .ret ⟨T,H,lo,gen⟩=(fin base rs ⟨T,H,lo,gen⟩=some r):=rfl
def Rs{base:Nat}{rs:List iu}{r:AV × Option fP} : done base rs r .normal ⟨T,H,lo,gen⟩=(fin base rs ⟨T,H,lo,gen⟩=some r):=rfl
def aav{base:Nat}{rs:List iu}{P:AV × Option fP->Prop} : AM base rs P .ret ⟨T,H,lo,gen⟩=cd (fin base rs ⟨T,H,lo,gen⟩) P:=rfl
def Nx{base:Nat}{rs:List iu}{P:AV × Option fP->Prop} : AM base rs P .normal ⟨T,H,lo,gen⟩=cd (fin base rs ⟨T,H,lo,gen⟩) P:=rfl
def Rt{i:Nat} : leave i Q .normal ⟨T,H,lo,gen⟩=Q .normal ⟨T,H,lo,gen⟩:=rfl
def agC{i:Nat} : leave i Q .ret ⟨T,H,lo,gen⟩=Q .ret ⟨T,H,lo,gen⟩:=rfl
theorem aax : leave i Q (.exit i) ⟨T,H,lo,gen⟩=Q .normal ⟨T,H,lo,gen⟩:=by simp[leave]
theorem WI{i j:Nat} : leave i Q (.exit j) ⟨T,H,lo,gen⟩=if j=i then Q .normal ⟨T,H,lo,gen⟩ else Q (.exit j) ⟨T,H,lo,gen⟩:=by
 by_cases dk:j=i
 ·grind [aax]
 rw[if_neg dk];have hb:Nat.beq j i=false:=by
  cases hb:Nat.beq j i with
  | false=>rfl
  | true=>exact absurd (av5 hb) dk
 simp[leave,hb]
end
def Si{n:Nat} : Nat.beq n n=true:=awZ n
theorem put_eq{T:aD} : (T.put d v) d=v:=by simp[aD.put]
theorem afi{T:aD}(h:(i==d)=false):(T.put d v) i=T i:=by
 have dk:i≠d:=by simpa using h
 have hb:Nat.beq i d=false:=by
  cases hb:Nat.beq i d with
  | false=>rfl
  | true=>exact absurd (av5 hb) dk
 simp only[aD.put,hb];rfl
theorem Zc{T:aD}{d i:Nat}{v:AV} : (T.put d v) i=if i=d then v else T i:=by
 grind [put_eq,afi]
def Mv{a:AV}{l:List AV} : fi (a :: l) 0=a:=rfl
def Mu{a:AV}{l:List AV}{n:Nat} : fi (a :: l) (n+1)=fi l n:=by simp[fi]
end
end Go.Abs
end
