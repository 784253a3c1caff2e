/-
  A part of the proof of SyntaxLossless: AbsOm, AbsOb, AbsDefs, AbsMono, AbsWp.
-/
import Derived.KernelRfl
import Derived.Orders
set_option linter.unusedSimpArgs false
set_option linter.unusedVariables false
set_option linter.defProp false
noncomputable section
namespace Go
def tk {α:Type} {a:Option α} {f g:α} (h:a=some f) (e:f=g):a=some g:=e ▸ h
def aw0:=@Option.map_eq_some_iff
def aw1:=@Option.bind_eq_some_iff
def aw2:=@Option.some.injEq
def aw3:=@List.getElem?_eq_getElem
def aw4:=@Bool.and_eq_true
def aw5:=@List.getElem?_eq_some_iff
def aw6:=@Prod.mk.injEq
def aw7:=@Option.bind_some
def aw8:=@List.all_eq_true
def aw9:=@List.mem_append
def aw':=@decide_eq_true_eq
def axa:=@Option.map_some
def axb:=@Array.getElem?_eq_some_iff
def axc:=@List.mem_of_getElem?
def axd:=@List.getElem?_append_left
def axe:=@List.map_cons
def axf:=@List.append_assoc
def axg:=@Nat.mul_le_mul_right
def axh:=@Nat.zero_le
def axi:=@List.mem_singleton
def axj:=@Array.getElem?_eq_getElem
def axk:=@List.drop_eq_getElem_cons
def axl:=@List.getElem?_cons_zero
def axm:=@List.length_eq_zero_iff
def axn:=@List.getElem_mem
def axo:=@decide_eq_false_iff_not
def axp:=@Nat.blt_eq
def axq:=@Bool.not_eq_true'
def axr:=@List.modify_zero_cons
def axs:=@List.mem_cons
def axt:=@Bool.false_and
def axu:=@List.getElem?_of_mem
def axv:=@Nat.ble_eq
def axw:=@List.flatten_cons
def axx:=@Nat.le_trans
def axy:=@List.take_of_length_le
def axz:=@List.take_length
def axA:=@List.modify_succ_cons
def axB:=@List.map_nil
def axC:=@Nat.zero_add
def axD:=@List.length_drop
def axE:=@List.getElem?_toArray
def axF:=@Bool.true_and
def axG:=@Bool.or_eq_false_iff
def axH:=@Nat.ble_eq_true_of_le
def axI:=@List.getElem?_set
def axJ:=@List.take_succ_cons
def axK:=@List.getElem?_cons_succ
def axL:=@beq_iff_eq
def axM:=@List.nil_append
def axN:=@List.cons_append
def axO:=@List.length_take
def axP:=@Array.getElem?_toList
def axQ:=@List.take_zero
def axR:=@List.not_mem_nil
def axS:=@Option.some.inj
def axT:=@Nat.add_mul
def axU:=@Int.tmod_eq_emod_of_nonneg
def axV:=@List.mem_of_mem_take
def axW:=@List.take_append_drop
def axX:=@Bool.and_true
def axY:=@List.getElem?_append
def axZ:=@Nat.add_zero
def ax0:=@Option.getD_some
def ax1:=@decide_eq_false
def ax2:=@Bool.false_or
def ax3:=@Bool.not_eq_false'
def ax4:=@Nat.eq_of_beq_eq_true
def ax5:=@Nat.le_of_ble_eq_true
def ax6:=@List.drop_drop
def ax7:=@Bool.not_true
def ax8:=@List.mem_cons_of_mem
def ax9:=@List.getElem?_drop
def ax':=@and_true
def aya:=@List.length_singleton
def ayb:=@Bool.not_false
def ayc:=@List.cons.injEq
def ayd:=@Option.map_none
def aye:=@Bool.eq_false_or_eq_true
def ayf:=@bne_eq_false_iff_eq
def ayg:=@Bool.false_eq_true
def ayh:=@Nat.lt_of_lt_of_le
def ayi:=@List.flatten_nil
def ayj:=@congrArg
def ayk:=@Ne.symm
def ayl:=@List.length_eq_one_iff
def aym:=@List.size_toArray
def ayn:=@List.length_pos_iff
def ayo:=@beq_self_eq_true
def ayp:=@Nat.le_zero
def ayq:=@List.ext_getElem?
def ayr:=@List.take_add_one
def ays:=@or_false
def ayt:=@Bool.or_eq_true
def ayu:=@List.drop_left'
def ayv:=@List.take_left'
def ayw:=@Bool.or_false
def ayx:=@Nat.not_lt
def ayy:=@List.drop_length
def ayz:=@List.mem_flatMap
def ayA:=@Nat.le_max_right
def ayB:=@List.mem_range
def ayC:=@List.mem_append_left
def ayD:=@Nat.le_of_lt
def ayE:=@if_true
def ayF:=@List.take_append_of_le_length
def ayG:=@Array.getElem?_push
def ayH:=@List.drop_succ_cons
def ayI:=@beq_eq_false_iff_ne
def ayJ:=@List.contains_cons
def ayK:=@List.sum_cons
def ayL:=@Nat.lt_irrefl
def ayM:=@List.mem_or_eq_of_mem_set
def ayN:=@Option.isNone_iff_eq_none
def ayO:=@List.isEmpty_iff
def ayP:=@Nat.beq_refl
def ayQ:=@Nat.sub_self
def ayR:=@Array.eq_empty_of_size_eq_zero
def ayS:=@List.all_append
def ayT:=@Nat.le_max_left
def ayU:=@List.zipWith_cons_cons
def ayV:=@true_and
def ayW:=@List.drop_append_of_le_length
def ayX:=@Array.mem_of_getElem?
def ayY:=@List.mem_append_right
def ayZ:=@Option.map_map
def ay0:=@Array.ext'
def ay1:=@List.map_toArray
def ay2:=@List.mem_flatten
def ay3:=@Nat.add_le_add_right
def ay4:=@Nat.lt_succ_self
def ay5:=@Int.tdiv_eq_ediv_of_nonneg
def ay6:=@List.mem_map_of_mem
def ay7:=@List.getElem?_zip_eq_some
def ay8:=@List.isEmpty_eq_false_iff
def ay9:=@List.set_cons_succ
def ay':=@Nat.zero_mul
def aza:=@Nat.beq_eq
def azb:=@Nat.lt_trichotomy
def azc:=@Nat.one_mul
def azd:=@List.take_nil
def aze:=@Bool.not_eq_true
def azf:=@List.zipIdx_cons
def azg:=@Classical.choose_spec
def azh:=@Array.getElem?_setIfInBounds_ne
def azi:=@List.mem_filter
def azj:=@Nat.lt_or_ge
def azk:=@Int.toNat_of_nonneg
def azl:=@List.getD_cons_zero
def azm:=@List.take_take
def azn:=@Nat.mul_one
def azo:=@List.set_cons_zero
def azp:=@Nat.add_sub_cancel
def azq:=@List.exists_cons_of_ne_nil
def azr:=@Nat.add_assoc
def azs:=@List.isEmpty_cons
def azt:=@Array.toList_map
def azu:=@List.eq_of_mem_replicate
def azv:=@List.filter_cons
def azw:=@Nat.add_comm
def azx:=@Nat.le_of_not_lt
def azy:=@List.foldl_cons
def azz:=@List.head?_cons
def azA:=@List.nodup_cons
def azB:=@Nat.min_eq_left
def azC:=@Array.getElem?_extract
def azD:=@Option.map_eq_none_iff
def azE:=@List.Perm.refl
def azF:=@List.getElem?_zipWith
def azG:=@List.sizeOf_lt_of_mem
def azH:=@UInt8.toNat_lt
def azI:=@Eq.trans
def azJ:=@List.contains_eq_mem
def azK:=@List.getElem?_mapIdx
def azL:=@if_false
def azM:=@Array.length_toList
def azN:=@Array.toList_zipIdx
def azO:=@Function.comp_apply
def azP:=@List.length_zipWith
def azQ:=@List.replicate_zero
def azR:=@Bool.true_or
def azS:=@Nat.mul_comm
def azT:=@Int.le_refl
def azU:=@List.map_id
def azV:=@decide_true
end Go
namespace Go.Abs
variable {b:Bool}{d i m:Nat}{α:Type}
section
section
variable {P A:Prop}
def af(z:P:=by omega):P:=z
def ae(z:P:=by simp):P:=z
def aB(z:P:=by decide):P:=z
def cB(z:P:=by kernel_rfl):P:=z
def df(z:P:=by simp;omega):P:=z
def iA(z:P:=by simp only[List.length_append,List.length_cons,List.length_nil];omega):P:=z
def cJ(a:A)(z:A->P:=by intro a;simpa using a):P:=z a
def yd(a:A)(z:A->P:=by intro a;simp[a]):P:=z a
end
end
def T6{α:Type}{b:Bool}{x:Option α}{r:α} : (cond b x none=some r)=(b=true/\x=some r):=by cases b<;>simp
def oX:=And.intro (@Option.bind_eq_some_iff.{0,0}) (And.intro (@Option.map_eq_some_iff.{0,0}) (And.intro (@T6) (And.intro (@Option.some.injEq.{0}) (@Prod.mk.injEq.{0,0}))))
section
inductive AV where
 | bool (b:Bool)
 | int (k:IntKind) (n:Int)
 | str (l:List UInt8)
 | any
 | kX|ke|kC|cM
 | slice (elems:List (List AV)) (own:Bool)
 | eptr (cells:List AV)
 | ref (loc off:Nat)
 | sref (loc off n z:Nat)
 | mref (loc:Nat)
 | iW (kz:Nat) (ka va:Bool) (es:List (List AV))
 | mA (kz:Nat) (ka va:Bool) (es:List (List AV))
 | iter (g kz:Nat) (ka va:Bool) (cur:List AV) (todo:List (List AV))
 | lbox (g:Nat) (cells:List AV)
 | lref (s g off:Nat)
 | lsl (g:Nat) (elems:List (List AV))
 | lsr (s g:Nat)
 | eref (s g i z off:Nat)
 | func (f:Fn) (first captured:List AV)
 | iface (t:TypeId) (v:AV)
 | agg (cells:List AV)
 | tuple (vs:List AV)
 | al
 deriving Inhabited,Repr
abbrev AV.undef:AV:=.tuple []
inductive bG where
 | box (ty:TypeId) (cells:List AV)
 | map (kz:Nat) (ka va:Bool) (es:List (List AV))
 | iW (kz:Nat) (ka va:Bool) (es:List (List AV))
 | UG (cells:List AV)
 | bR (cells:List AV)
 | dead
 deriving Inhabited,Repr
abbrev aa:=List bG
abbrev az:=Nat->AV
def az.put(T:az)(d:Nat)(v:AV):az:=fun i=>cond (Nat.beq i d) v (T i)
structure fw where
 heap:aa
 lo:Nat
 deriving Inhabited
abbrev fX:=FuncId->List AV->aa->Option (AV × Option fw)
inductive aI where
 | tmp (t:Nat)
 | yn (v:AV)
 | aX (g:Nat)
 | fn (f:FuncId)
 deriving Inhabited,Repr
inductive CT where
 | toInt (k:IntKind)
 | Js
 | C8
 deriving Inhabited,Repr
inductive An where
 | str
 | sl (sz:Nat)
 | arr (n sz:Nat)
 deriving Inhabited,Repr
inductive CK where
 | b|i|s
 deriving Inhabited,Repr,DecidableEq
inductive Ah where
 | other|bool|iface|func
 | flat (ks:List CK)
 deriving Inhabited,Repr
inductive sO where
 | str|sl
 | arr (n:Nat)
 deriving Inhabited,Repr
inductive S0 where
 | frame (b:Nat)
 | heap
 deriving Inhabited,Repr
inductive oH where
 | chk (c:S0) (x:aI)
 | mov (take obj:Bool) (x:aI)
 | pick (c a b:aI)
 | allocL (zero:List AV)
 | H8 (ty:TypeId) (zero:List AV)
 | boxL (x:aI)
 | box (ty:TypeId) (x:aI)
 | build (zero:List AV) (parts:List (Nat × Nat × aI))
 | mkslice (isB:Bool) (sz:Nat) (Mo:List (List AV)) (parts:List (Nat × aI))
 | zE (sz:Nat) (Mo:List (List AV)) (parts:List (Nat × aI))
 | load (take agg:Bool) (sz:Nat) (x:aI)
 | store (sz:Nat) (a v:aI)
 | nilCheck (x:aI)
 | bin (op:BinOp) (k:Ah) (x y:aI)
 | un (op:UnOp) (x:aI)
 | mm (mx:Bool) (x y:aI)
 | conv (c:CT) (x:aI)
 | slice (k:An) (x:aI) (lo hi mx:Option aI)
 | fieldAddr (off:Nat) (x:aI)
 | ixSl (sz:Nat) (x i:aI)
 | ixArr (n sz:Nat) (x i:aI)
 | index (agg:Bool) (n sz:Nat) (x i:aI)
 | rS (x i:aI)
 | extract (x:aI) (i:Nat)
 | len (k:sO) (x:aI)
 | append (isB wr:Bool) (sz bytes:Nat) (x y:aI)
 | appendO (sz bytes:Nat) (x y:aI)
 | copyO (x y:aI)
 | QY (x:aI)
 | Wz (neg:Bool) (x:aI)
 | Wq (sz bytes:Nat) (zero:List AV) (n:aI)
 | call (f:aI) (args:List aI)
 | Da (f:aI) (args:List aI)
 | mkfunc (f:Fn) (first captured:List aI)
 | Lv (kz:Nat) (ka va:Bool)
 | look (ok:Bool) (kz:Nat) (ka va:Bool) (ks:List CK) (zero:List AV) (m k:aI)
 | N5 (kz:Nat) (ka va:Bool) (vz:Nat) (ks:List CK) (m k v:aI)
 | rng (kz:Nat) (ka va:Bool) (m:aI)
 | next (it:aI)
 | ent (it:aI)
 | same (agg:Bool) (sz d:Nat) (x:aI)
 deriving Inhabited,Repr
structure aQ where
 dst:Option Nat
 guard:Option (Nat × Bool)
 op:oH
 deriving Inhabited,Repr
inductive aG where
 | skip
 | region (ops:List aQ)
 | rD (ops:List aQ) (pre:List (List Nat))
 | seq (a b:aG)
 | cond (c:aI) (a b:aG)
 | block (id:Nat) (a:aG)
 | loop (a:aG)
 | exit (id:Nat)
 | ret
 deriving Inhabited,Repr
inductive gN where
 | tmp (t:Nat)
 | cell (a:Nat) (agg:Bool) (sz:Nat)
 deriving Inhabited,Repr
structure aD where
 dB:List Nat
 locals:List Nat
 muts:List Nat
 nt:Nat
 np:Nat
 results:List gN
 body:aG
 deriving Inhabited,Repr
inductive bB where
 | normal
 | exit (id:Nat)
 | ret
 deriving Inhabited,Repr,DecidableEq
structure AS where
 T:az
 H:aa
 lo:Nat
 gen:Nat
def AV.cells:AV->Option (List AV)
 | .agg cs=>some cs
 | .any=>none
 | .tuple _=>none
 | .lbox ..=>none
 | .lref ..=>none
 | .lsl ..=>none
 | .lsr ..=>none
 | .eref ..=>none
 | .iter ..=>none
 | v=>some [v]
def AV.drop:AV->AV
 | .slice e _=>.slice e false
 | v=>v
def AV.cU:AV->AV
 | .agg cs=>.agg (cs.map AV.drop)
 | v=>v.drop
def AV.plain:AV->Bool
 | .bool _|.int ..|.str _|.any|.kX|.ke|.kC|.cM|.eptr _|.iW ..|.mA ..|.al=>true
 | .slice _ own=>!own
 | .func _ [] []=>true
 | .iface _ (.bool _)|.iface _ (.int ..)|.iface _ (.str _)|.iface _ .any|.iface _ .kX=>true
 | _=>false
def AV.elem(sz:Nat)(v:AV):Option (List AV) :=
 match v.cells with
 | none=>none
 | some cs =>
  let ds:=cs.map AV.drop
  cond (Nat.beq ds.length sz&&ds.all AV.plain) (some ds) none
def AV.bp(base:Nat):AV->Bool
 | .ref loc _=>Nat.blt loc base
 | .sref loc _ _ _=>Nat.blt loc base
 | .mref loc=>Nat.blt loc base
 | v=>v.plain
def AV.dU(base:Nat):AV->Bool
 | .agg cs=>cs.all (AV.bp base)
 | v=>v.bp base
def AV.leaves(base:Nat):AV->Bool
 | .func _ fs cs=>fs.all (AV.bp base)&&cs.all (AV.bp base)
 | .iface _ v=>v.bp base
 | .tuple vs=>vs.all (AV.dU base)
 | .slice ..=>true
 | v=>v.dU base
def dY:AV->Option Nat
 | .lbox g _=>some g
 | .lsl g _=>some g
 | .iter g ..=>some g
 | _=>none
def aI.eval(G:Nat->List AV)(T:az):aI->AV
 | .tmp t=>T t
 | .yn v=>v
 | .aX g=>.eptr (G g)
 | .fn f=>.func (.func f) [] []
def asNat:AV->Option Nat
 | .int _ n=>cond (decide (0<=n)) (some n.toNat) none
 | _=>none
def cm:List CK->List AV->List AV->Option Bool
 | [],_,_=>some true
 | .b :: ks,.bool a :: xs,.bool b :: ys=>(cm ks xs ys).map (a==b&&·)
 | .i :: ks,.int j a :: xs,.int k b :: ys=>cond (decide (j=k)) ((cm ks xs ys).map (a==b&&·)) none
 | .s :: ks,.str a :: xs,.str b :: ys=>(cm ks xs ys).map (a==b&&·)
 | _,_,_=>none
def ab(op:BinOp)(k:IntKind)(a b:Int):Option AV :=
 match op with
 | .add=>some (.int k (k.wrap (a+b)))
 | .sub=>some (.int k (k.wrap (a-b)))
 | .mul=>some (.int k (k.wrap (a*b)))
 | .quo=>cond (decide (b=0)) none (some (.int k (k.wrap (a.tdiv b))))
 | .rem=>cond (decide (b=0)) none (some (.int k (a.tmod b)))
 | .eql=>some (.bool (a==b))
 | .neq=>some (.bool (a != b))
 | .lss=>some (.bool (decide (a<b)))
 | .leq=>some (.bool (decide (a<=b)))
 | .gtr=>some (.bool (decide (a>b)))
 | .geq=>some (.bool (decide (a>=b)))
 | _=>none
def mr(op:BinOp)(a b:List UInt8):Option AV :=
 match op with
 | .add=>cond (decide (a.length+b.length<=4611686018427387904)) (some (.str (a++b))) none
 | .eql=>some (.bool (a==b))
 | .neq=>some (.bool !(a==b))
 | .lss=>some (.bool (Op.bytesLess a b))
 | .leq=>some (.bool (Op.bytesLess a b || a==b))
 | .gtr=>some (.bool !(Op.bytesLess a b || a==b))
 | .geq=>some (.bool !(Op.bytesLess a b))
 | _=>none
def mI(op:BinOp)(b:Bool):Option AV :=
 match op with
 | .eql=>some (.bool b)
 | .neq=>some (.bool !b)
 | _=>none
def nO:aI->Bool
 | .yn _=>true
 | _=>false
def Bm(op:BinOp)(q:Ah)(yn:Bool)(x y:AV):Option AV :=
 match x,y with
 | .int j a,.int k b=>cond (decide (j=k)) (ab op j a b) none
 | .str a,.str b=>mr op a b
 | .bool a,.bool b=>(match q with|.bool=>mI op (a==b)|_=>none)
 | .agg xs,.agg ys=>(match q with|.flat ks=>(cm ks xs ys).bind fun b=>mI op b|_=>none)
 | x,.cM=>cond (yn&&(match q with|.iface=>true|_=>false)) ((match x with|.cM=>some true|.iface ..=>some false|_=>none).bind fun b=>mI op b) none
 | x,.kC=>cond (match q with|.func=>true|_=>false) ((match x with|.kC=>some true|.func ..=>some false|_=>none).bind fun b=>mI op b) none
 | _,_=>none
def yj(op:UnOp)(x:AV):Option AV :=
 match op,x with
 | .neg,.int k n=>some (.int k (k.wrap (0-n)))
 | .not,.bool b=>some (.bool !b)
 | _,_=>none
def agR(mx:Bool)(x y:AV):Option AV :=
 match x,y with
 | .int k a,.int j b=>cond (decide (k=j)) (some (.int k (cond mx (if b>a then b else a) (if b<a then b else a)))) none
 | _,_=>none
def bytesOf:List (List AV)->Option (List UInt8)
 | []=>some []
 | [.int .u8 n] :: r=>(bytesOf r).map (UInt8.ofNat n.toNat :: ·)
 | _=>none
def j8(c:CT)(x:AV):Option AV :=
 match c,x with
 | .toInt k,.int _ n=>some (.int k (k.wrap n))
 | .Js,.str l=>some (.str l)
 | .C8,.slice e _=>(bytesOf e).map .str
 | _,_=>none
def chunks(sz:Nat):Nat->List AV->List (List AV)
 | 0,_=>[]
 | n+1,l=>l.take sz :: chunks sz n (l.drop sz)
def bound(aoB:Nat)(x:Option AV)(jA:Nat):Option Nat :=
 match x with
 | none=>some aoB
 | some v=>(asNat v).bind fun n=>cond (Nat.ble n jA) (some n) none
def fZ(sz:Nat)(e:List (List AV)):Bool:=(e.head?.map fun r=>Nat.beq r.length sz).getD true
def gX(k:An)(x:AV)(lo hi mx:Option AV):Option AV :=
 match k,x with
 | .str,.str l=>(bound l.length hi l.length).bind fun h=>(bound 0 lo h).bind fun a=>cond mx.isNone (some (.str ((l.take h).drop a))) none
 | .sl sz,.slice e _=>(bound e.length mx e.length).bind fun m=>(bound e.length hi m).bind fun h=>(bound 0 lo h).bind fun a =>
   cond ((mx.isNone || hi.isSome)&&(lo.isNone || fZ sz e)) (some (.slice ((e.take h).drop a) (mx.isSome&&Nat.beq m h))) none
 | .sl sz,.sref l o n z=>(bound n hi n).bind fun h=>(bound 0 lo h).bind fun a=>cond (mx.isNone&&Nat.beq z sz) (some (cond (Nat.blt a n) (.sref l (o+a*z) (h-a) z) (.slice [] false))) none
 | .arr n sz,.eptr cs=>cond (Nat.beq cs.length (n*sz)) ((bound n hi n).bind fun h=>(bound 0 lo h).bind fun a=>cond mx.isNone (some (.slice (((chunks sz n cs).take h).drop a) false)) none) none
 | _,_=>none
def ny(k:sO)(x:AV):Option AV :=
 match k,x with
 | .str,.str l=>some (.int .i64 l.length)
 | .sl,.slice e _=>some (.int .i64 e.length)
 | .sl,.sref _ _ n _=>some (.int .i64 n)
 | .sl,.al=>some (.int .i64 0)
 | .arr n,_=>some (.int .i64 n)
 | _,_=>none
def putAt(l:List AV)(off:Nat)(cs:List AV):List AV:=l.take off++cs++l.drop (off+cs.length)
def dW:List AV->List (Nat × Nat × AV)->Option (List AV)
 | cells,[]=>some cells
 | cells,(off,sz,v) :: r =>
  match v.cells with
  | none=>none
  | some cs=>cond (Nat.beq cs.length sz&&Nat.ble (off+cs.length) cells.length) (dW (putAt cells off (cs.map AV.drop)) r) none
def cC(sz:Nat):List (List AV)->List (Nat × AV)->Option (List (List AV))
 | es,[]=>some es
 | es,(i,v) :: r =>
  match v.elem sz with
  | none=>none
  | some cs=>cond (Nat.blt i es.length) (cC sz (es.set i cs) r) none
def ah(take agg:Bool)(sz off:Nat)(cs:List AV):Option AV :=
 cond agg (cond (Nat.ble (off+sz) cs.length) (some (.agg (((cs.drop off).take sz).map AV.drop))) none)
  ((cs[off]?).map fun v=>cond take v v.drop)
def cA(off:Nat)(cs:List AV):List AV:=cs.modify off AV.drop
def AS.cc(s:AS)(t:Nat)(v:AV):AS:={ s with T:=s.T.put t v }
def AS.iw(s:AS)(c:fw):AS:={ s with H:=c.heap,lo:=cond (Nat.blt c.lo s.lo) c.lo s.lo }
def aI.addr(G:Nat->List AV)(T:az):aI->AV
 | .tmp t=>match T t with
  | .lbox g _=>.lref t g 0
  | .lsl g _=>.lsr t g
  | .iter ..=>.any
  | v=>v
 | .yn v=>v
 | .aX g=>.eptr (G g)
 | .fn f=>.func (.func f) [] []
def cH(s:AS)(take agg:Bool)(sz:Nat)(x:AV):Option (AV × Option AS) :=
 match x with
 | .eptr cs=>(ah false agg sz 0 cs).map (·,none)
 | .ref loc off=>match s.H[loc]? with
  | some (.box ty cs)=>(ah take agg sz off cs).map fun v=>(v,cond (take&&!agg) (some (s.iw ⟨s.H.set loc (.box ty (cA off cs)),loc⟩)) none)
  | some (.UG cs)=>(ah false agg sz off cs).map (·,none)
  | some (.bR cs)=>(ah false agg sz off cs).map (·,none)
  | _=>none
 | .lref b g off=>match s.T b with
  | .lbox g' cs=>cond (Nat.beq g g') ((ah take agg sz off cs).map fun v=>(v,cond (take&&!agg) (some (s.cc b (.lbox g (cA off cs)))) none)) none
  | _=>none
 | .eref b g i z off=>match s.T b with
  | .lsl g' e=>cond (Nat.beq g g') ((e[i]?).bind fun r=>cond (Nat.beq r.length z) ((ah false agg sz off r).map (·,none)) none) none
  | _=>none
 | _=>none
def il(loc:Nat):AV->Bool
 | .ref l _=>Nat.ble l loc
 | .sref l _ _ _=>Nat.ble l loc
 | .mref l=>Nat.ble l loc
 | v=>v.drop.plain
def lX(loc:Nat):AV->Bool
 | .agg cs=>cs.all (il loc)
 | v=>il loc v
def aV(loc:Nat):AV->Bool
 | .ref l _=>Nat.ble l loc
 | .sref l _ _ _=>Nat.ble l loc
 | .mref l=>Nat.ble l loc
 | .func _ fs cs=>fs.all (lX loc)&&cs.all (lX loc)
 | v=>v.drop.plain
def aO:AV->Bool
 | .lref ..=>false
 | .lbox ..=>false
 | .lsl ..=>false
 | .lsr ..=>false
 | .eref ..=>false
 | .iter ..=>false
 | _=>true
def aW(s:AS)(sz:Nat)(a v:AV):Option AS :=
 match v.cells with
 | none=>none
 | some vs=>cond (Nat.beq vs.length sz)
  (match a with
   | .ref loc off=>match s.H[loc]? with
    | some (.box ty cs)=>cond (Nat.ble (off+sz) cs.length&&vs.all (aV loc)) (some (s.iw ⟨s.H.set loc (.box ty (putAt cs off vs)),loc⟩)) none
    | some (.bR cs)=>cond (Nat.ble (off+sz) cs.length&&vs.all aO) (some (s.iw ⟨s.H.set loc (.bR (putAt cs off vs)),loc⟩)) none
    | _=>none
   | .lref b g off=>match s.T b with
    | .lbox g' cs=>cond (Nat.beq g g'&&Nat.ble (off+sz) cs.length&&vs.all aO) (some (s.cc b (.lbox g (putAt cs off vs)))) none
    | _=>none
   | .eref b g i z off=>match s.T b with
    | .lsl g' e=>cond (Nat.beq g g') ((e[i]?).bind fun r=>cond (Nat.beq r.length z&&Nat.ble (off+sz) r.length&&(vs.map AV.drop).all AV.plain) (some (s.cc b (.lsl g (e.set i (putAt r off (vs.map AV.drop)))))) none) none
    | _=>none
   | _=>none)
  none
abbrev bz:TypeId:=4294967295
def AS.cN(s:AS):aI->AS
 | .tmp t=>match s.T t with
  | .slice e true=>s.cc t (.slice e false)
  | _=>s
 | _=>s
def dN(sz:Nat):AV->Option (List (List AV))
 | .slice f _=>some f
 | .str l=>cond (Nat.beq sz 1) (some (l.map fun (b:UInt8)=>[AV.int .u8 b.toNat])) none
 | .al=>some []
 | _=>none
abbrev je:TypeId:=5
def nB(e:List (List AV)):Bool:=e.all fun r=>r.all fun|.int .u8 _=>false|.any=>false|_=>true
def oq(e:List (List AV)):Bool:=e.all fun|[.int .u8 _]=>true|_=>false
def mK(isB:Bool)(e:List (List AV)):Bool:=cond isB (oq e) (nB e)
def cn(sz bytes:Nat)(e f:List (List AV)):Bool :=
 Nat.ble ((e.length+f.length)*bytes) 70368744177664&&Nat.ble (e.length+f.length) 70368744177664&&fZ sz e&&fZ sz f
def aC(isB:Bool)(sz bytes:Nat)(x y:AV):Option AV :=
 match x with
 | .slice e own=>(dN sz y).bind fun f =>
  match f with
  | []=>some (.slice e own)
  | f=>cond (own&&cn sz bytes e f&&mK isB (e++f)) (some (.slice (e++f) true)) none
 | _=>none
def dG(f:List (List AV)):Bool:=f.all fun r=>r.all AV.plain
def Hp(x y:AV):Option AV :=
 match x with
 | .slice [] true=>(match y with|.slice [] _|.al=>some (.slice [] false)|_=>none)
 | .al=>(match y with|.slice [] _|.al=>some .al|_=>none)
 | _=>none
def jP(s:AS)(sz bytes:Nat)(x y:AV):Option (AV × Option AS) :=
 (dN sz y).bind fun f =>
  match x with
  | .slice [] true|.al=>cond (!f.isEmpty&&cn sz bytes [] f&&dG f) (some (.sref s.H.length 0 f.length sz,some (s.iw ⟨s.H++[.box bz f.flatten],s.H.length⟩))) none
  | .sref l o n z=>match s.H[l]? with
   | some (.box ty cs)=>cond (Nat.beq o 0&&Nat.beq z sz&&Nat.beq cs.length (n*sz)&&Nat.ble ((n+f.length)*bytes) 70368744177664&&Nat.ble (n+f.length) 70368744177664&&fZ sz f&&dG f)
     (some (.sref s.H.length 0 (n+f.length) sz,some (s.iw ⟨s.H.set l .dead++[.box bz (cs++f.flatten)],l⟩))) none
   | _=>none
  | _=>none
def jv(s:AS)(sz bytes:Nat)(x y:AV):Option (AV × Option AS) :=
 match Hp x y with
 | some v=>some (v,none)
 | none=>jP s sz bytes x y
def yP(s:AS)(x y:AV):Option (AV × Option AS) :=
 match x,y with
 | .sref l o n z,.slice f _=>match s.H[l]? with
  | some (.bR cs)=>cond (Nat.beq z 1&&fZ 1 f&&dG f&&Nat.ble (o+n) cs.length)
    (some (.int .i64 (Nat.min f.length n),some (s.iw ⟨s.H.set l (.bR (putAt cs o (f.take (Nat.min f.length n)).flatten)),l⟩))) none
  | _=>none
 | .slice [] _,.slice _ _=>some (.int .i64 0,none)
 | _,_=>none
def WA:AV->Option Bool
 | .al=>some true
 | .slice (_ :: _) _=>some false
 | _=>none
def Cp(s:AS)(sz bytes:Nat)(zero:List AV)(n:AV):Option (AV × Option AS) :=
 (asNat n).bind fun k=>cond (Nat.ble (k*bytes) 70368744177664&&Nat.ble k 70368744177664)
  (some (.sref s.H.length 0 k sz,some (s.iw ⟨s.H++[.box bz (List.replicate k zero).flatten],s.H.length⟩))) none
def iK(off:Nat):AV->Option AV
 | .ref l o=>some (.ref l (o+off))
 | .lref b g o=>some (.lref b g (o+off))
 | .eref b g i z o=>some (.eref b g i z (o+off))
 | .eptr cs=>some (.eptr (cs.drop off))
 | _=>none
def cK(s:AS):AV->Bool
 | .ref ..=>true
 | .eptr _=>true
 | .lref b g _=>(match s.T b with|.lbox g' _=>Nat.beq g g'|_=>false)
 | .eref b g i _ _=>(match s.T b with|.lsl g' e=>Nat.beq g g'&&Nat.blt i e.length|_=>false)
 | _=>false
def fY(c:S0)(v:AV):Bool :=
 match c with
 | .frame b=>(match v with|.lref b' _ _=>Nat.beq b b'|_=>false)
 | .heap=>(match v with|.lref ..=>false|.eref ..=>false|.lsr ..=>false|_=>true)
def AV.isAgg:AV->Bool
 | .agg _=>true
 | _=>false
def zD(s:AS)(kz:Nat)(ka va:Bool)(m:AV):Option (List (List AV)) :=
 match m with
 | .iW qw qv qy es=>cond (Nat.beq kz qw&&ka==qv&&va==qy) (some es) none
 | .mref l=>match s.H[l]? with
  | some (.map qw qv qy es)=>cond (Nat.beq kz qw&&ka==qv&&va==qy) (some es) none
  | some (.iW qw qv qy es)=>cond (Nat.beq kz qw&&ka==qv&&va==qy) (some es) none
  | _=>none
 | _=>none
def dC(ks:List CK)(kc:List AV):List (List AV)->Option (Option Nat)
 | []=>some none
 | r :: es=>(cm ks kc r).bind fun b=>cond b (some (some 0)) ((dC ks kc es).map fun o=>o.map (· + 1))
def qY(agg:Bool)(cs:List AV):AV:=cond agg (.agg (cs.map AV.drop)) ((cs.headD .undef).drop)
def BI(ok va:Bool)(cs:List AV)(found:Bool):AV :=
 let v:=cond va (.agg (cs.map AV.drop)) ((cs.headD .undef).drop)
 cond ok (.tuple [v,.bool found]) v
def qc(ok va:Bool)(zero:List AV)(kz:Nat)(es:List (List AV)):Option Nat->AV
 | none=>BI ok va zero false
 | some i=>BI ok va ((es.getD i []).drop kz) true
def tR:List AV->Option (List UInt8)
 | .str a :: _=>some a
 | _=>none
def uJ:List (List AV)->Bool
 | []=>true
 | r :: es=>(match tR r with|some a=>es.all fun q=>(match tR q with|some b=>!(a==b)|none=>false)|none=>false)&&uJ es
def VZ:List CK->List AV->Bool
 | [.s],[.str _]=>true
 | _,_=>false
def xF(s:AS)(ok:Bool)(kz:Nat)(ka va:Bool)(ks:List CK)(zero:List AV)(m k:AV):Option (AV × Option AS) :=
 k.drop.cells.bind fun kc=>cond (Nat.beq kc.length kz&&ka==k.drop.isAgg)
  (match m with
   | .ke=>some (BI ok va zero false,none)
   | .mA qw qv qy es=>cond (Nat.beq kz qw&&ka==qv&&va==qy&&uJ es&&VZ ks kc) ((dC ks kc es).map fun o=>(qc ok va zero kz es o,none)) none
   | m=>(zD s kz ka va m).bind fun es=>(dC ks kc es).map fun o=>(qc ok va zero kz es o,none)) none
def wN(es:List (List AV))(o:Option Nat)(r:List AV):List (List AV) :=
 match o with
 | none=>es++[r]
 | some i=>es.set i r
def tu(s:AS)(kz:Nat)(ka va:Bool)(vz:Nat)(ks:List CK)(m k v:AV):Option AS :=
 match m with
 | .mref l=>match s.H[l]? with
  | some (.map qw qv qy es)=>k.drop.cells.bind fun kc=>v.cells.bind fun vc =>
    cond (Nat.beq kc.length kz&&Nat.beq vc.length vz&&Nat.beq kz qw&&ka==qv&&va==qy&&ka==k.drop.isAgg&&va==v.isAgg&&vc.all (aV l)&&kc.all AV.plain)
     ((dC ks kc es).map fun o=>s.iw ⟨s.H.set l (.map kz ka va (wN es o (kc++cond va (vc.map AV.drop) vc))),l⟩) none
  | _=>none
 | _=>none
mutual
def qK:AV->AV->Bool
 | .bool a,y=>match y with|.bool b=>a==b|_=>false
 | .int k a,y=>match y with|.int k' b=>k==k'&&a==b|_=>false
 | .str a,y=>match y with|.str b=>a==b|_=>false
 | .any,y=>match y with|.any=>true|_=>false
 | .kX,y=>match y with|.kX=>true|_=>false
 | .ke,y=>match y with|.ke=>true|_=>false
 | .kC,y=>match y with|.kC=>true|_=>false
 | .cM,y=>match y with|.cM=>true|_=>false
 | .al,y=>match y with|.al=>true|_=>false
 | .slice e o,y=>match y with|.slice f q=>BW e f&&o==q|_=>false
 | .ref l o,y=>match y with|.ref l' o'=>l==l'&&o==o'|_=>false
 | .sref l o n z,y=>match y with|.sref l' o' n' z'=>l==l'&&o==o'&&n==n'&&z==z'|_=>false
 | .mref l,y=>match y with|.mref l'=>l==l'|_=>false
 | .agg a,y=>match y with|.agg b=>M' a b|_=>false
 | .tuple a,y=>match y with|.tuple b=>M' a b|_=>false
 | .iface t a,y=>match y with|.iface t' b=>t==t'&&qK a b|_=>false
 | .eptr a,y=>match y with|.eptr b=>M' a b|_=>false
 | .lbox g a,y=>match y with|.lbox g' b=>g==g'&&M' a b|_=>false
 | .lref s g o,y=>match y with|.lref s' g' o'=>s==s'&&g==g'&&o==o'|_=>false
 | .lsl g e,y=>match y with|.lsl g' f=>g==g'&&BW e f|_=>false
 | .lsr s g,y=>match y with|.lsr s' g'=>s==s'&&g==g'|_=>false
 | .eref s g i z o,y=>match y with|.eref s' g' i' z' o'=>s==s'&&g==g'&&i==i'&&z==z'&&o==o'|_=>false
 | .iW kz ka va e,y=>match y with|.iW qw qv qy f=>kz==qw&&ka==qv&&va==qy&&BW e f|_=>false
 | .mA kz ka va e,y=>match y with|.mA qw qv qy f=>kz==qw&&ka==qv&&va==qy&&BW e f|_=>false
 | .iter g kz ka va c e,y=>match y with|.iter g' qw qv qy c' f=>g==g'&&kz==qw&&ka==qv&&va==qy&&M' c c'&&BW e f|_=>false
 | .func f a c,y=>match y with|.func g b d=>decide (f=g)&&M' a b&&M' c d|_=>false
def M' : List AV->List AV->Bool
 | [],y=>match y with|[]=>true|_=>false
 | a :: l,y=>match y with|b :: m=>qK a b&&M' l m|_=>false
def BW:List (List AV)->List (List AV)->Bool
 | [],y=>match y with|[]=>true|_=>false
 | a :: l,y=>match y with|b :: m=>M' a b&&BW l m|_=>false
end
section
variable (G:Nat->List AV)(cf:fX)
def rO(s:AS)(take obj:Bool)(x:aI):Option (AV × Option AS) :=
 match x with
 | .tmp t=>match s.T t with
  | .lbox g _=>some (.lref t g 0,none)
  | .lsl g e=>cond take (cond obj (some (.lsl s.gen e,some { s.cc t .any with gen:=s.gen+1 })) (cond (nB e) (some (.slice e true,some (s.cc t (.slice e false)))) none)) (some (.lsr t g,none))
  | .slice e own=>some (.slice e (take&&own),cond (take&&own) (some (s.cc t (.slice e false))) none)
  | .iter ..=>none
  | v=>some (v,none)
 | x=>some (x.eval G s.T,none)
def fO(s:AS)(isB wr:Bool)(sz bytes:Nat)(x y:aI):Option (AV × Option AS) :=
 match x with
 | .tmp t=>match s.T t with
  | .lsl _ e=>(dN sz (y.eval G s.T)).bind fun f=>cond (wr&&cn sz bytes e f) (some (.lsl s.gen (e++f),some { s.cc t .any with gen:=s.gen+1 })) none
  | .slice e own=>cond wr
    ((dN sz (y.eval G s.T)).bind fun f=>cond (e.isEmpty&&own&&cn sz bytes [] f) (some (.lsl s.gen f,some { s.cc t .any with gen:=s.gen+1 })) none)
    ((aC isB sz bytes (.slice e own) (y.eval G s.T)).map (·,some (s.cc t (.slice e false))))
  | .al=>cond wr
    ((dN sz (y.eval G s.T)).bind fun f=>cond (cn sz bytes [] f) (some (.lsl s.gen f,some { s.cc t .any with gen:=s.gen+1 })) none)
    ((aC isB sz bytes (.slice [] true) (y.eval G s.T)).map (·,some s))
  | _=>none
 | x=>cond wr none ((aC isB sz bytes (x.eval G s.T) (y.eval G s.T)).map (·,none))
def br(s:AS)(o:oH):Option (AV × Option AS) :=
 match o with
 | .chk c x=>cond (fY c (x.addr G s.T)) (some (.undef,none)) none
 | .mov take obj x=>rO G s take obj x
 | .pick c a b=>match c.eval G s.T with
  | .bool t=>some (cond t (a.addr G s.T).drop (b.addr G s.T).drop,none)
  | _=>none
 | .allocL zero=>some (.lbox s.gen zero,some { s with gen:=s.gen+1 })
 | .boxL x=>(x.eval G s.T).drop.cells.map fun cs=>(.lbox s.gen (cs.map AV.drop),some { s with gen:=s.gen+1 })
 | .H8 ty zero=>some (.ref s.H.length 0,some (s.iw ⟨s.H++[.box ty zero],s.H.length⟩))
 | .box ty x=>(x.eval G s.T).drop.cells.bind fun cs=>cond (cs.all (aV s.H.length)) (some (.ref s.H.length 0,some (s.iw ⟨s.H++[.box ty (cs.map AV.drop)],s.H.length⟩))) none
 | .build zero parts=>(dW zero (parts.map fun p=>(p.1,p.2.1,(p.2.2.eval G s.T).drop))).map (.agg ·,none)
 | .mkslice isB sz Mo parts=>(cC sz Mo (parts.map fun p=>(p.1,(p.2.eval G s.T).drop))).bind fun E=>cond (mK isB E) (some (.slice E true,none)) none
 | .zE sz Mo parts=>(cC sz Mo (parts.map fun p=>(p.1,(p.2.eval G s.T).drop))).bind fun E=>cond (dG E) (some (.sref s.H.length 0 E.length sz,some (s.iw ⟨s.H++[.box bz E.flatten],s.H.length⟩))) none
 | .load take agg sz x=>cH s take agg sz (x.addr G s.T)
 | .store sz a v=>(aW s sz (a.addr G s.T) (v.eval G s.T)).map fun s'=>(.undef,some (s'.cN v))
 | .nilCheck x=>cond (cK s (x.addr G s.T)) (some (x.addr G s.T,none)) none
 | .bin op q x y=>(Bm op q (nO x || nO y) (x.eval G s.T) (y.eval G s.T)).map (·,none)
 | .un op x=>(yj op (x.eval G s.T)).map (·,none)
 | .mm mx x y=>(agR mx (x.eval G s.T) (y.eval G s.T)).map (·,none)
 | .conv c x=>(j8 c (x.eval G s.T)).map (·,none)
 | .slice k x lo hi mx=>(gX k (x.eval G s.T) (lo.map (·.eval G s.T)) (hi.map (·.eval G s.T)) (mx.map (·.eval G s.T))).map (·,none)
 | .fieldAddr off x=>cond (cK s (x.addr G s.T)) ((iK off (x.addr G s.T)).map (·,none)) none
 | .ixSl sz x i=>match x.addr G s.T with
  | .slice e _=>(asNat (i.eval G s.T)).bind fun n=>(e[n]?).bind fun r=>cond (Nat.beq r.length sz) (some (.eptr r,none)) none
  | .sref l o m _=>(asNat (i.eval G s.T)).bind fun n=>cond (Nat.blt n m) (some (.ref l (o+n*sz),none)) none
  | .lsr t g=>match s.T t with
   | .lsl g' e=>cond (Nat.beq g g') ((asNat (i.eval G s.T)).bind fun n=>(e[n]?).bind fun r=>cond (Nat.beq r.length sz) (some (.eref t g n sz 0,none)) none) none
   | _=>none
  | _=>none
 | .ixArr n sz x i=>(asNat (i.eval G s.T)).bind fun k=>cond (Nat.blt k n&&cK s (x.addr G s.T)) ((iK (k*sz) (x.addr G s.T)).map (·,none)) none
 | .index agg n sz x i=>(asNat (i.eval G s.T)).bind fun k=>cond (Nat.blt k n)
   (match x.eval G s.T with
    | .agg cs=>(ah false agg sz (k*sz) cs).map (·,none)
    | _=>none) none
 | .rS x i=>match x.eval G s.T with
  | .str l=>(asNat (i.eval G s.T)).bind fun n=>(l[n]?).map fun (b:UInt8)=>(AV.int .u8 b.toNat,none)
  | _=>none
 | .extract x i=>match x.eval G s.T with
  | .tuple vs=>(vs[i]?).map fun v=>(v.cU,none)
  | _=>none
 | .len k x=>match x.addr G s.T with
  | .lsr t g=>match s.T t with
   | .lsl g' e=>cond (Nat.beq g g') ((ny k (.slice e false)).map (·,none)) none
   | _=>none
  | v=>(ny k v).map (·,none)
 | .append isB wr sz bytes x y=>fO G s isB wr sz bytes x y
 | .appendO sz bytes x y=>jv s sz bytes (x.addr G s.T) (y.eval G s.T)
 | .Wq sz bytes zero n=>Cp s sz bytes zero (n.eval G s.T)
 | .copyO x y=>yP s (x.addr G s.T) (y.eval G s.T)
 | .QY x=>(x.eval G s.T).drop.cells.bind fun cs=>cond (cs.all aO) (some (.ref s.H.length 0,some (s.iw ⟨s.H++[.bR (cs.map AV.drop)],s.H.length⟩))) none
 | .Wz neg x=>(WA (x.eval G s.T)).map fun b=>(.bool (neg != b),none)
 | .call f args=>match f.eval G s.T with
  | .func (.func n) fs cs=>cond ((args.map fun a=>a.addr G s.T).all aO)
    ((cf n (fs++args.map (fun a=>(a.addr G s.T).cU)++cs) s.H).map fun r=>(r.1,r.2.map s.iw)) none
  | _=>none
 | .Da f args=>match f.eval G s.T with
  | .func (.func n) fs cs=>cond ((args.map fun a=>a.addr G s.T).all aO)
    ((cf n (fs++args.map (fun a=>(a.addr G s.T).cU)++cs) s.H).bind fun r=>match r.2 with|none=>some (r.1,none)|some _=>none) none
  | _=>none
 | .mkfunc f first captured=>cond ((first.map fun a=>a.addr G s.T).all aO&&(captured.map fun a=>a.addr G s.T).all aO)
   (some (.func f (first.map fun a=>(a.addr G s.T).drop) (captured.map fun a=>(a.addr G s.T).drop),none)) none
 | .Lv kz ka va=>some (.mref s.H.length,some (s.iw ⟨s.H++[.map kz ka va []],s.H.length⟩))
 | .look ok kz ka va ks zero m k=>xF s ok kz ka va ks zero (m.addr G s.T) (k.eval G s.T)
 | .N5 kz ka va vz ks m k v=>(tu s kz ka va vz ks (m.addr G s.T) (k.eval G s.T) (v.eval G s.T)).map fun s'=>(.undef,some (s'.cN v))
 | .rng kz ka va m=>match m.addr G s.T with
  | .ke=>some (.iter s.gen kz ka va [] [],some { s with gen:=s.gen+1 })
  | .iW qw qv qy es=>cond (Nat.beq kz qw&&ka==qv&&va==qy) (some (.iter s.gen kz ka va [] es,some { s with gen:=s.gen+1 })) none
  | .mA qw qv qy es=>cond (Nat.beq kz qw&&ka==qv&&va==qy) (some (.iter s.gen kz ka va [] es,some { s with gen:=s.gen+1 })) none
  | .mref l=>match s.H[l]? with
   | some (.map qw qv qy es)=>cond (Nat.beq kz qw&&ka==qv&&va==qy&&dG es)
     (some (.iter s.gen kz ka va [] es,some { s.iw ⟨s.H.set l (.iW kz ka va es),l⟩ with gen:=s.gen+1 })) none
   | _=>none
  | _=>none
 | .same agg sz d x=>match cH s false agg sz (x.addr G s.T) with
  | some (v,none)=>cond (qK v (s.T d)) (some (.undef,none)) none
  | _=>none
 | .next _=>none
 | .ent it=>match it with
  | .tmp t=>match s.T t with
   | .iter _ kz ka va cur _=>cond (Nat.ble kz cur.length&&!cur.isEmpty) (some (.tuple [qY ka (cur.take kz),qY va (cur.drop kz)],none)) none
   | _=>none
  | _=>none
def AS.cR(s:AS)(d:Option Nat)(v:AV):AS:=match d with|none=>s|some d=>s.cc d v
def bS(s:AS)(o:aQ):Option AS :=
 let run:Option AS:=(br G cf s o.op).bind fun r=>match r.2 with
  | none=>some (s.cR o.dst r.1)
  | some s'=>some (s'.cR o.dst r.1)
 match o.guard with
 | none=>run
 | some (g,want)=>match s.T g with
  | .bool b=>cond (b==want) run (some (s.cR o.dst .undef))
  | .tuple []=>some (s.cR o.dst .undef)
  | _=>none
def gr:List aQ->AS->Option AS
 | [],s=>some s
 | o :: r,s=>(bS G cf s o).bind (gr r)
def iter(f:AS->Option (bB × AS)):Nat->AS->Option (bB × AS)
 | 0,_=>none
 | n+1,s=>(f s).bind fun r=>match r.1 with
  | .normal=>iter f n r.2
  | _=>some r
def kF(n:Nat):aG->AS->Option (bB × AS)
 | .skip,s=>some (.normal,s)
 | .region ops,s=>(gr G cf ops s).map (.normal,·)
 | .seq a b,s=>(kF n a s).bind fun r=>match r.1 with
  | .normal=>kF n b r.2
  | _=>some r
 | .cond c a b,s=>match c.eval G s.T with
  | .bool t=>cond t (kF n a s) (kF n b s)
  | _=>none
 | .block id a,s=>(kF n a s).map fun r=>match r.1 with
  | .exit i=>(cond (Nat.beq i id) .normal (.exit i),r.2)
  | e=>(e,r.2)
 | .loop a,s=>iter (kF n a) n s
 | .exit id,s=>some (.exit id,s)
 | .ret,s=>some (.ret,s)
 | .rD _ _,_=>none
end
def iP(s:AS):gN->Option AV
 | .tmp t=>cond (aO (s.T t)) (some (s.T t)) none
 | .cell a agg sz=>match s.T a with
  | .lbox _ cs=>ah false agg sz 0 cs
  | .ref loc 0=>match s.H[loc]? with
   | some (.box _ cs)=>ah false agg sz 0 cs
   | _=>none
  | _=>none
def oR(s:AS):gN->Option Nat
 | .tmp t=>match s.T t with
  | .lsl _ _=>some t
  | .lsr b g=>match s.T b with
   | .lsl g' _=>cond (Nat.beq g g') (some b) none
   | _=>none
  | _=>none
 | .cell ..=>none
def lS(s:AS):List gN->Option (List AV)
 | []=>some []
 | r :: rs=>(iP s r).bind fun v=>(lS s rs).map (v.cU :: ·)
def mJ(s:AS)(rs:List gN):Option AV :=
 match rs with
 | [r]=>match oR s r with
  | some b=>(match s.T b with|.lsl _ e=>cond (nB e) (some (.slice e true)) none|_=>none)
  | none=>iP s r
 | rs=>(lS s rs).map .tuple
def iF(base:Nat)(rs:List gN)(s:AS):Option (AV × Option fw) :=
 (mJ s rs).bind fun r =>
  cond (r.leaves base) (some (r,cond (Nat.beq s.lo base) none (some ⟨s.H.take base,s.lo⟩))) none
def Xi(e:List (List AV)):Nat:=(e.head?.map List.length).getD 0
def rr(s:AS)(base:Nat):List gN->Option (List AV × Option (List (List AV)))
 | []=>some ([],none)
 | r :: rs=>(rr s base rs).bind fun q=>match oR s r with
  | some b=>match s.T b with
   | .lsl _ e=>cond (q.2.isNone&&!e.isEmpty&&e.all (fun r=>r.all AV.plain)) (some (.sref base 0 e.length (Xi e) :: q.1,some e)) none
   | _=>none
  | none=>(iP s r).bind fun v=>cond (v.cU.dU base) (some (v.cU :: q.1,q.2)) none
def qZ(base:Nat)(rs:List gN)(s:AS):Option (AV × Option fw) :=
 cond (Nat.beq rs.length 1) none ((rr s base rs).bind fun q=>q.2.map fun e=>(.tuple q.1,some ⟨s.H.take base++[.box bz e.flatten],s.lo⟩))
def kD:AV->Bool
 | .int .u8 _=>false
 | .any=>false
 | _=>true
def oW:AV->AV
 | .slice [] true=>.al
 | v=>v
def qe:bG->Option (List AV)
 | .box _ cs=>some cs
 | .bR cs=>some cs
 | _=>none
def fP(H:aa)(base:Nat):Nat->AV->AV
 | 0,v=>v
 | k+1,v=>match v with
  | .sref l off n z=>cond (Nat.ble base l) (match (H[l]?).bind qe with
   | some cs=>cond (Nat.blt 0 z&&Nat.ble (off+n*z) cs.length&&(cs.all fun x=>(fP H base k x.drop).plain&&kD x)) (.slice (chunks z n ((cs.map fun x=>fP H base k x.drop).drop off)) false) v
   | none=>v) v
  | v=>v
abbrev Gd:Nat:=3
def Nj(H:aa)(base:Nat):AV->AV
 | .agg cs=>.agg (cs.map (fP H base Gd))
 | v=>fP H base Gd v
def wq(base:Nat)(s:AS)(rs:List gN):Option AV :=
 match rs with
 | [r]=>(iP s r).map fun v=>Nj s.H base v.cU
 | rs=>(lS s rs).map fun vs=>.tuple (vs.map (Nj s.H base))
def tA(base:Nat)(rs:List gN)(s:AS):Option (AV × Option fw) :=
 (wq base s rs).bind fun r=>cond (r.leaves base) (some (r,cond (Nat.beq s.lo base) none (some ⟨s.H.take base,s.lo⟩))) none
def tz(base:Nat)(rs:List gN)(s:AS):Option (AV × Option fw) :=
 match rs with
 | [r]=>(iP s r).bind fun v=>match v with
  | .sref l off n z=>match s.H[l]? with
   | some (.box _ cs)=>cond (Nat.ble base l&&cs.all AV.plain) (some (.sref base off n z,some ⟨s.H.take base++[.bR cs],s.lo⟩)) none
   | _=>none
  | _=>none
 | _=>none
def o7(base:Nat)(fn:aD)(s:AS):Option (AV × Option fw):=cond (fn.muts.elem 888888) (tz base fn.results s) none
def kg(base:Nat)(s:AS):Bool:=cond (Nat.beq s.lo base) true (((s.H.take base).drop s.lo).all fun o=>match o with|.bR cs=>cs.all (AV.bp base)|_=>true)
def qM(base:Nat)(fn:aD)(s:AS):Option (AV × Option fw) :=
 match o7 base fn s with
 | some r=>some r
 | none=>match iF base fn.results s with
 | some r=>some r
 | none=>match qZ base fn.results s with
  | some r=>some r
  | none=>tA base fn.results s
def mj(base:Nat)(fn:aD)(s:AS):Option (AV × Option fw):=cond (kg base s) (qM base fn s) none
def n1:AV->AV
 | .al=>.slice [] false
 | v=>v
def n2:AV->AV
 | .al=>.slice [] false
 | .slice e false=>.slice (e.map fun r=>r.map n1) false
 | v=>v
def n3:AV->AV
 | .agg cs=>.agg (cs.map n2)
 | v=>n2 v
def nC:AV->AV
 | .tuple vs=>.tuple (vs.map n3)
 | v=>n3 v
def sf(fn:aD)(r:AV × Option fw):AV × Option fw:=cond (fn.muts.elem 777777) (nC r.1,r.2) r
def xJ(rs:List gN)(s:AS):Option (AV × Option fw) :=
 cond (Nat.beq rs.length 1) none ((lS s rs).map fun vs=>(.tuple vs,some ⟨s.H,s.lo⟩))
def Cq(fn:aD)(s:AS):Option (AV × Option fw):=cond (fn.muts.elem 888887) (xJ fn.results s) none
def finish(base:Nat)(fn:aD)(s:AS):Option (AV × Option fw) :=
 match (mj base fn s).map (sf fn) with
 | some r=>some r
 | none=>Cq fn s
def dO(args:List AV):az:=fun i=>args.getD i .undef
def zL(G:Nat->List AV)(cf:fX)(n:Nat)(fn:aD)(args:List AV)(H:aa):Option (AV × Option fw) :=
 cond (Nat.beq args.length fn.np)
  ((kF G cf n fn.body { T:=dO args,H,lo:=H.length,gen:=0 }).bind fun r=>match r.1 with
   | .exit _=>none
   | _=>finish H.length fn r.2)
  none
structure AP where
 fns:FuncId->Option aD
 ov:FuncId->Option (List AV->aa->Option (AV × Option fw))
 aX:Nat->List AV
def vX:AV->Bool
 | .slice _ true=>false
 | _=>true
def FV(A:AP):Nat->fX
 | 0=>fun _ _ _=>none
 | n+1=>fun f args H=>match A.ov f with
  | some g=>cond (args.all vX) (g args H) none
  | none=>match A.fns f with
   | none=>none
   | some fn=>zL A.aX (FV A n) n fn args H
def lH:Value->Option AV
 | .bool b=>some (.bool b)
 | .int k n=>some (.int k n)
 | .string s=>some (.str s.data.toList)
 | .slice none 0 0=>some (.slice [] true)
 | .pointer none=>some .kX
 | .map none=>some .ke
 | .nilFunc=>some .kC
 | .nilIface=>some .cM
 | _=>none
def dX:List Value->Option (List AV)
 | []=>some []
 | v :: r=>(lH v).bind fun x=>(dX r).map (x :: ·)
def uP:Value->Option AV
 | .agg vs=>(dX vs.toList).map fun l=>.agg (l.map oW)
 | v=>lH v
section
variable (P:Program)(dB locals muts:List Nat)(nt:Nat)
def au:Operand->Option aI
 | .tmp t=>cond (Nat.blt t nt) (some (.tmp t)) none
 | .const v=>(uP v).map .yn
 | .global g=>some (.aX g)
 | .func f=>some (.fn f)
def kJ:List Operand->Option (List aI)
 | []=>some []
 | x :: r=>(au nt x).bind fun a=>(kJ r).map (a :: ·)
def fe(t:TypeId):Option Nat:=(P.info? t).map (·.size)
def gG(t:TypeId):Option (List AV):=((P.info? t).bind (·.zero)).bind fun z=>dX z.cells.toList
def og(t:TypeId):Option Bool:=(P.underlying t).map fun|.struct _=>true|.array _ _=>true|_=>false
def iR:Option Operand->Option (Option aI)
 | none=>some none
 | some x=>(au nt x).map some
def qL(flat:TypeId->Option (List CK)):List Go.Field->Nat->Option (List CK)
 | [],_=>some []
 | f :: fs,o=>cond (Nat.beq f.offset o&&f.name != "_") ((flat f.type).bind fun k=>(qL flat fs (o+k.length)).map (k++·)) none
def oS:Nat->TypeId->Option (List CK)
 | 0,_=>none
 | d+1,t=>match P.underlying t with
  | some .bool=>some [.b]
  | some (.int _)=>some [.i]
  | some .string=>some [.s]
  | some (.struct fs)=>cond (!P.stoodInHeld t) ((qL (oS d) fs.toList 0).bind fun ks=>cond (match fe P t with|some n=>Nat.beq n ks.length|none=>false) (some ks) none) none
  | _=>none
def pR(t:TypeId):Ah :=
 match P.underlying t with
 | some .bool=>.bool
 | some (.interface _)=>.iface
 | some (.func _ _ _)=>.func
 | some (.struct _)=>cond (!P.eqGuardType P.depth t) (match oS P 8 t with|some ks=>.flat ks|none=>.other) .other
 | _=>.other
def pA(fs:List Go.Field):List (Nat × Operand)->Option (List (Nat × Nat × aI))
 | []=>some []
 | (i,x) :: r=>(fs[i]?).bind fun f=>(fe P f.type).bind fun z=>(au nt x).bind fun a=>(pA fs r).map ((f.offset,z,a) :: ·)
def lF(sz:Nat):List (Nat × Operand)->Option (List (Nat × Nat × aI))
 | []=>some []
 | (i,x) :: r=>(au nt x).bind fun a=>(lF sz r).map ((i*sz,sz,a) :: ·)
def mP:List (Nat × Operand)->Option (List (Nat × aI))
 | []=>some []
 | (i,x) :: r=>(au nt x).bind fun a=>(mP r).map ((i,a) :: ·)
def Tu:Value->Bool
 | .agg _=>true
 | _=>false
def Sj(t:TypeId):Option (List CK × Bool × Bool × List AV) :=
 match P.underlying t with
 | some (.map k e)=>(oS P 8 k).bind fun ks=>(og P k).bind fun ka=>(P.info? e).bind fun i=>i.zero.bind fun z=>(dX z.cells.toList).bind fun zero =>
   cond (Tu z || Nat.beq zero.length 1) (some (ks,ka,Tu z,zero)) none
 | _=>none
def Jm:Operand->Operand->Bool
 | .tmp a,.tmp b=>Nat.beq a b
 | _,_=>false
def lQ(d:Option Nat):Bool:=match d with|some d=>dB.contains d|none=>false
def isLocal(d:Option Nat):Bool:=match d with|some d=>locals.contains d|none=>false
def yI(d:Option Nat)(c:Call):Option oH :=
 match c.callee with
 | .value f=>(au nt f).bind fun g=>(kJ nt c.args.toList).map (.call g ·)
 | .builtin .len=>match c.args.toList,c.argTypes.toList with
  | [x],[t]=>(au nt x).bind fun a=>match P.underlying t with
   | some .string=>some (.len .str a)
   | some (.slice _)=>some (.len .sl a)
   | some (.array n _)=>some (.len (.arr n) a)
   | _=>none
  | _,_=>none
 | .builtin .append=>match c.args.toList,c.argTypes.toList with
  | [x,y],[t,u]=>(au nt x).bind fun a=>(au nt y).bind fun b=>match P.underlying t,P.underlying u with
   | some (.slice e),some (.slice _)|some (.slice e),some .string=>(P.info? e).bind fun i=>cond (Nat.blt 0 i.size&&(i.zero.map fun z=>Nat.beq z.cells.size i.size).getD false) (some (cond (isLocal locals d) (.appendO i.size i.bytes a b) (.append (Nat.beq e je) (lQ muts d) i.size i.bytes a b))) none
   | _,_=>none
  | _,_=>none
 | .builtin .copy=>match c.args.toList,c.argTypes.toList with
  | [x,y],[t,u]=>(au nt x).bind fun a=>(au nt y).bind fun b=>match P.underlying t,P.underlying u with
   | some (.slice e),some (.slice _)=>(fe P e).bind fun sz=>cond (Nat.beq sz 1) (some (.copyO a b)) none
   | _,_=>none
  | _,_=>none
 | .builtin .max=>match c.args.toList with
  | [x,y]=>(au nt x).bind fun a=>(au nt y).map (.mm true a ·)
  | _=>none
 | .builtin .min=>match c.args.toList with
  | [x,y]=>(au nt x).bind fun a=>(au nt y).map (.mm false a ·)
  | _=>none
 | .builtin .clear=>some (.un .neg (.yn .undef))
 | _=>none
def KG(k:Nat)(l:List Nat)(d:Option Nat):Bool:=match d with|some d=>l.elem (k+d)|none=>false
def Ob(op:BinOp)(t:TypeId)(y:Operand):Option Bool :=
 match y,P.underlying t with
 | .const (.slice none 0 0),some (.slice _)=>(match op with|.eql=>some false|.neq=>some true|_=>none)
 | _,_=>none
def I9:aI->aI
 | .yn v=>.yn (oW v)
 | x=>x
def dm(d:Option Nat)(o:Op):Option oH :=
 match o with
 | .move x|.assign x=>(au nt x).map fun a=>.mov (lQ dB d) (lQ muts d) (cond (lQ muts d) (I9 a) a)
 | .pick c a b=>(au nt c).bind fun c=>(au nt a).bind fun a=>(au nt b).map (.pick c a ·)
 | .alloc t=>((gG P t).map fun z=>cond (KG 700000 dB d) (z.map oW) z).bind fun z=>cond (isLocal locals d) (some (.allocL z)) (some (cond (KG 500000 muts d) (.QY (.yn (.agg z))) (.H8 t z)))
 | .box t x=>(au nt x).map fun a=>cond (isLocal locals d) (.boxL a) (cond (KG 500000 muts d) (.QY a) (.box t a))
 | .build t parts=>((gG P t).map fun z=>cond (lQ dB d) (z.map oW) z).bind fun z=>match P.underlying t with
  | some (.struct fs)=>cond ((fs.toList.mapM fun f=>(P.info? f.type).map fun i=>(f.offset,i.size)).isSome) ((pA P nt fs.toList parts.toList).map (.build z ·)) none
  | some (.array _ e)=>(fe P e).bind fun sz=>(lF nt sz parts.toList).map (.build z ·)
  | _=>none
 | .buildSlice t len parts=>match P.underlying t with
  | some (.slice e)=>(fe P e).bind fun sz=>(gG P e).bind fun z=>(mP nt parts.toList).bind fun ps =>
    cond (Nat.ble (len*sz) 16777216&&Nat.beq z.length sz&&Nat.blt 0 sz) (some (cond (isLocal locals d) (.zE sz (List.replicate len (z.map AV.drop)) ps) (.mkslice (Nat.beq e je) sz (List.replicate len (z.map AV.drop)) ps))) none
  | _=>none
 | .load t x=>(au nt x).bind fun a=>(og P t).bind fun g=>(fe P t).map fun sz=>.load (lQ dB d) g sz a
 | .store t x y=>(au nt x).bind fun a=>(au nt y).bind fun b=>(fe P t).map fun sz=>.store sz a b
 | .nilCheck x=>(au nt x).map .nilCheck
 | .binOp op t x y _=>(au nt x).bind fun a=>(au nt y).bind fun b=>match Ob P op t y with
  | some neg=>some (.Wz neg a)
  | none=>some (.bin op (pR P t) a b)
 | .unOp op _ x=>(au nt x).map (.un op ·)
 | .convert s t x=>(au nt x).bind fun a=>match P.underlying s,P.underlying t with
  | some (.int _),some (.int k)=>some (.conv (.toInt k) a)
  | some .string,some .string=>some (.conv .Js a)
  | some (.slice e),some .string=>match P.underlying e with
   | some (.int .u8)=>some (.conv .C8 a)
   | _=>none
  | _,_=>none
 | .makeFunc f first captured=>(kJ nt first.toList).bind fun a=>(kJ nt captured.toList).map (.mkfunc f a ·)
 | .slice t x lo hi mx=>(au nt x).bind fun a=>(iR nt lo).bind fun lo=>(iR nt hi).bind fun hi=>(iR nt mx).bind fun mx=>match P.underlying t with
  | some .string=>some (.slice .str a lo hi mx)
  | some (.slice e)=>(fe P e).map fun sz=>.slice (.sl sz) a lo hi mx
  | some (.array n e)=>(fe P e).bind fun sz=>cond (Nat.blt 0 sz) (some (.slice (.arr n sz) a lo hi mx)) none
  | _=>none
 | .fieldAddr t x f=>(au nt x).bind fun a=>match P.underlying t with
  | some (.struct fs)=>(fs[f]?).bind fun q=>(fe P q.type).bind fun sz=>cond (Nat.blt 0 sz) (some (.fieldAddr q.offset a)) none
  | _=>none
 | .indexAddr t x i=>(au nt x).bind fun a=>(au nt i).bind fun b=>match P.underlying t with
  | some (.slice e)=>(fe P e).map fun sz=>.ixSl sz a b
  | some (.array n e)=>(fe P e).map fun sz=>.ixArr n sz a b
  | _=>none
 | .index t x i=>(au nt x).bind fun a=>(au nt i).bind fun b=>match P.underlying t with
  | some .string=>some (.rS a b)
  | some (.array n e)=>(fe P e).bind fun sz=>(og P e).map fun g=>.index g n sz a b
  | _=>none
 | .extract x i=>(au nt x).map (.extract · i)
 | .call c=>yI P locals muts nt d c
 | .makeSlice t x y=>(au nt x).bind fun a=>cond (Jm x y) (match P.underlying t with
  | some (.slice e)=>(P.info? e).bind fun i=>i.zero.bind fun z=>(dX z.cells.toList).bind fun zero=>cond (Nat.blt 0 i.size&&Nat.beq z.cells.size i.size) (some (.Wq i.size i.bytes (zero.map AV.drop) a)) none
  | _=>none) none
 | .makeMap t none=>(Sj P t).map fun m=>.Lv m.1.length m.2.1 m.2.2.1
 | .lookup t x i ok=>(au nt x).bind fun a=>(au nt i).bind fun b=>(Sj P t).map fun m=>(.look ok m.1.length m.2.1 m.2.2.1 m.1 m.2.2.2 a b)
 | .mapUpdate t x i v|.insert t x i v=>(au nt x).bind fun a=>(au nt i).bind fun b=>(au nt v).bind fun c=>(Sj P t).map fun m=>.N5 m.1.length m.2.1 m.2.2.1 m.2.2.2.length m.1 a b c
 | .range t x=>cond (lQ muts d) ((au nt x).bind fun a=>(Sj P t).map fun m=>.rng m.1.length m.2.1 m.2.2.1 a) none
 | .next x false=>(au nt x).map .next
 | .entry x=>(au nt x).map .ent
 | _=>none
def rN(ops:Array Oper):Option (Nat × Bool)->Option (Option (Nat × Bool))
 | none=>some none
 | some (j,want)=>((ops[j]?).bind (·.dst)).bind fun s=>cond (Nat.blt s nt) (some (some (s,want))) none
def uO(ops:Array Oper)(o:Oper):Option aQ :=
 (dm P dB locals muts nt o.dst o.op).bind fun p=>(rN nt ops o.guard).bind fun g =>
  match o.dst with
  | none=>some ⟨none,g,p⟩
  | some d=>cond (Nat.blt d nt) (some ⟨some d,g,p⟩) none
def lG(ops:Array Oper):List Oper->Option (List aQ)
 | []=>some []
 | o :: r=>(uO P dB locals muts nt ops o).bind fun p=>(lG ops r).map (p :: ·)
def aI.tmps:aI->List Nat
 | .tmp t=>[t]
 | _=>[]
def oH.tmps:oH->List Nat
 | .chk _ x|.boxL x|.QY x|.mov _ _ x|.box _ x|.load _ _ _ x|.nilCheck x|.un _ x|.Wz _ x|.conv _ x|.fieldAddr _ x|.extract x _|.len _ x=>x.tmps
 | .pick c a b=>c.tmps++a.tmps++b.tmps
 | .allocL _|.H8 _ _=>[]
 | .build _ ps=>ps.flatMap fun p=>p.2.2.tmps
 | .mkslice _ _ _ ps|.zE _ _ ps=>ps.flatMap fun p=>p.2.tmps
 | .store _ a v=>a.tmps++v.tmps
 | .bin _ _ x y|.mm _ x y|.ixSl _ x y|.ixArr _ _ x y|.index _ _ _ x y|.rS x y|.append _ _ _ _ x y|.appendO _ _ x y|.copyO x y=>x.tmps++y.tmps
 | .slice _ x lo hi mx=>x.tmps++(lo.toList.flatMap aI.tmps)++(hi.toList.flatMap aI.tmps)++(mx.toList.flatMap aI.tmps)
 | .call f xs|.Da f xs=>f.tmps++xs.flatMap aI.tmps
 | .mkfunc _ a b=>a.flatMap aI.tmps++b.flatMap aI.tmps
 | .Lv _ _ _=>[]
 | .Wq _ _ _ n=>n.tmps
 | .look _ _ _ _ _ _ m k=>m.tmps++k.tmps
 | .N5 _ _ _ _ _ m k v=>m.tmps++k.tmps++v.tmps
 | .rng _ _ _ m|.next m|.ent m=>m.tmps
 | .same _ _ d x=>d :: x.tmps
structure rB where
 rs:List Nat
 ws:List Nat
 rh:Bool
 wh:Bool
 wg:Bool
 deriving Inhabited
def Ie(is:List aQ)(L:List Nat):Nat->aI->Option Nat
 | 0,_=>none
 | f+1,.tmp t=>cond (L.contains t) (some t) (match is.find? (fun o=>match o.dst with|some d=>Nat.beq d t|none=>false) with
  | some ⟨_,_,.fieldAddr _ y⟩=>Ie is L f y
  | some ⟨_,_,.ixArr _ _ y _⟩=>Ie is L f y
  | some ⟨_,_,.nilCheck y⟩=>Ie is L f y
  | _=>none)
 | _,_=>none
def Kd(is:List aQ)(L:List Nat)(x:aI):S0 :=
 match Ie is L 8 x with
 | some b=>.frame b
 | none=>.heap
def wR(is:List aQ)(L:List Nat):oH->Option (S0 × aI)
 | .load _ _ _ x=>some (Kd is L x,x)
 | .store _ x _=>some (Kd is L x,x)
 | .nilCheck x=>some (Kd is L x,x)
 | .fieldAddr _ x=>some (Kd is L x,x)
 | .ixArr _ _ x _=>some (Kd is L x,x)
 | .ixSl _ x _=>some (.heap,x)
 | .len _ x=>some (.heap,x)
 | _=>none
def gU:S0->List Nat
 | .frame b=>[b]
 | _=>[]
def AJ:S0->Bool
 | .heap=>true
 | _=>false
def GQ(pc:Bool)(c:S0):oH->Option rB
 | .mov take obj x=>cond obj none (some ⟨x.tmps,cond take x.tmps [],false,false,false⟩)
 | .pick a b d=>some ⟨a.tmps++b.tmps++d.tmps,[],false,false,false⟩
 | .allocL _=>some ⟨[],[],false,false,true⟩
 | .boxL x=>some ⟨x.tmps,[],false,false,true⟩
 | .build z ps=>some ⟨(oH.build z ps).tmps,[],false,false,false⟩
 | .mkslice b sz zs ps=>some ⟨(oH.mkslice b sz zs ps).tmps,[],false,false,false⟩
 | .bin _ _ x y=>some ⟨x.tmps++y.tmps,[],false,false,false⟩
 | .mm _ x y=>some ⟨x.tmps++y.tmps,[],false,false,false⟩
 | .un _ x=>some ⟨x.tmps,[],false,false,false⟩
 | .Wz _ x=>some ⟨x.tmps,[],false,false,false⟩
 | .conv _ x=>some ⟨x.tmps,[],false,false,false⟩
 | .index _ _ _ x i=>some ⟨x.tmps++i.tmps,[],false,false,false⟩
 | .rS x i=>some ⟨x.tmps++i.tmps,[],false,false,false⟩
 | .extract x _=>some ⟨x.tmps,[],false,false,false⟩
 | .mkfunc f a b=>some ⟨(oH.mkfunc f a b).tmps,[],false,false,false⟩
 | .load take agg _ x=>some ⟨x.tmps++gU c,cond (take&&!agg) (gU c) [],AJ c,AJ c&&take&&!agg,false⟩
 | .store _ x y=>some ⟨x.tmps++y.tmps++gU c,y.tmps++gU c,AJ c,AJ c,false⟩
 | .nilCheck x=>some ⟨x.tmps++gU c,[],false,false,false⟩
 | .fieldAddr _ x=>some ⟨x.tmps++gU c,[],false,false,false⟩
 | .ixArr _ _ x i=>some ⟨x.tmps++i.tmps++gU c,[],false,false,false⟩
 | .ixSl _ x i=>some ⟨x.tmps++i.tmps,[],false,false,false⟩
 | .len _ x=>some ⟨x.tmps,[],false,false,false⟩
 | .append _ wr _ _ x y=>cond wr none (some ⟨x.tmps++y.tmps,x.tmps,false,false,false⟩)
 | .appendO _ _ x y=>some ⟨x.tmps++y.tmps,[],true,true,false⟩
 | .copyO x y=>some ⟨x.tmps++y.tmps,[],true,true,false⟩
 | .slice k x lo hi mx=>some ⟨(oH.slice k x lo hi mx).tmps,[],false,false,false⟩
 | .call f xs=>some ⟨(oH.call f xs).tmps,[],true,!pc,false⟩
 | .look _ _ _ _ _ _ m k=>some ⟨m.tmps++k.tmps,[],true,false,false⟩
 | _=>none
def Km(pc:Bool)(is:List aQ)(L:List Nat)(o:aQ):Option rB :=
 (GQ pc (match wR is L o.op with|some p=>p.1|none=>.heap) o.op).map fun e =>
  ⟨(match o.guard with|some (g,_)=>[g]|none=>[])++e.rs,o.dst.toList++e.ws,e.rh,e.wh,e.wg⟩
def meets(x y:List Nat):Bool:=x.any y.contains
def conflict(e f:rB):Bool :=
 meets e.ws f.rs || meets e.ws f.ws || meets f.ws e.rs || (e.wh&&(f.rh || f.wh)) || (f.wh&&e.rh) || (e.wg&&f.wg)
def nF(pc:Bool)(o:aQ):aQ :=
 match o with
 | ⟨d,g,.call f xs⟩=>cond pc ⟨d,g,.Da f xs⟩ ⟨d,g,.call f xs⟩
 | o=>o
def inter(pc:Bool)(is:List aQ)(L:List Nat)(o:aQ):List aQ :=
 match wR is L o.op with
 | some (c,x)=>[⟨none,o.guard,.chk c x⟩,nF pc o]
 | none=>[nF pc o]
def pQ(o:Oper):List Nat:=(o.after.toList.filter fun e=>Region.binds .any e).map (·.on)
def Oc:List Nat->Bool
 | []=>true
 | x :: l=>!(l.contains x)&&Oc l
def T4(pre:List (List Nat)):List (List Nat):=pre.foldl (fun t l=>t++[(l.flatMap fun e=>e :: t.getD e []).eraseDups]) []
def lj(L:List Nat)(ops:List aQ)(o:aQ):Option (Bool × Nat × Nat × aI) :=
 match o with
 | ⟨some d,none,.load false agg sz x⟩=>cond (AJ (Kd ops L x)&&!(x.tmps.contains d)) (some (agg,sz,d,x)) none
 | _=>none
def M6(pc:Bool)(L:List Nat)(ops:List aQ)(o:aQ):Option rB :=
 (Km pc ops L o).map fun e=>match lj L ops o with|some _=>⟨e.rs,e.ws,false,e.wh,e.wg⟩|none=>e
def GR(pc:Bool)(L:List Nat)(ops:List aQ):List aQ->Option (List rB)
 | []=>some []
 | o :: r=>(M6 pc L ops o).bind fun e=>(GR pc L ops r).map (e :: ·)
def QA(pre:List (List Nat))(es:List rB):Nat->List Nat->List Nat->List Nat
 | 0,acc,_=>acc
 | n+1,acc,rest =>
  match rest.find? (fun i=>(pre.getD i []).all acc.contains&&!(es.getD i default).wh) with
  | some i=>QA pre es n (acc++[i]) (rest.erase i)
  | none=>match rest.find? (fun i=>(pre.getD i []).all acc.contains) with
   | some i=>QA pre es n (acc++[i]) (rest.erase i)
   | none=>acc
def adV(L:List Nat)(ops:List aQ)(cl:List (List Nat))(es:List rB)(done:List Nat)(k:Nat):List aQ :=
 cond (es.getD k default).wh (done.filterMap fun j=>cond ((cl.getD k []).contains j) none ((ops[j]?).bind fun o=>(lj L ops o).map fun q=>⟨none,none,.same q.1 q.2.1 q.2.2.1 q.2.2.2⟩)) []
def HQ(pc:Bool)(L:List Nat)(ops:List aQ)(cl:List (List Nat))(es:List rB):List Nat->List Nat->List aQ
 | _,[]=>[]
 | done,k :: r=>(match ops[k]? with|some o=>inter pc ops L o|none=>[])++(adV L ops cl es done k++HQ pc L ops cl es (done++[k]) r)
def R8(L:List Nat)(ops:List aQ)(k:Nat):Bool:=((ops[k]?).bind (lj L ops)).isSome
def stT(L:List Nat)(ops:List aQ)(k:Nat):List Nat:=match (ops[k]?).bind (lj L ops) with|some q=>q.2.2.1 :: q.2.2.2.tmps|none=>[]
def D8(L:List Nat)(ops:List aQ)(cl:List (List Nat))(es:List rB)(ord:List Nat)(p q:Nat):Bool :=
 (!conflict (es.getD (ord.getD q 0) default) (es.getD (ord.getD p 0) default) || (cl.getD (ord.getD q 0) []).contains (ord.getD p 0)) &&
 (!(R8 L ops (ord.getD q 0)&&(es.getD (ord.getD p 0) default).wh) || (cl.getD (ord.getD q 0) []).contains (ord.getD p 0)) &&
 (!(R8 L ops (ord.getD p 0)&&(es.getD (ord.getD q 0) default).wh) || (cl.getD (ord.getD q 0) []).contains (ord.getD p 0) ||
  (List.range (q+1)).all fun r=>Nat.ble r p || !(meets (es.getD (ord.getD r 0) default).ws (stT L ops (ord.getD p 0))))
def okS(L:List Nat)(ops:List aQ)(pre cl:List (List Nat))(es:List rB)(ord:List Nat):Bool :=
 Nat.beq pre.length ops.length&&Nat.beq ord.length ops.length&&Oc ord&&ord.all (fun k=>Nat.blt k ops.length) &&
 (List.range ops.length).all (fun k=>(pre.getD k []).all fun e=>Nat.blt e k) &&
 (List.range ops.length).all (fun k=>(cl.getD k []).all fun j=>(pre.getD k []).any fun e=>Nat.beq j e || (cl.getD e []).contains j) &&
 (List.range ops.length).all (fun q=>(List.range q).all fun p=>D8 L ops cl es ord p q)
def XI(pc:Bool)(L:List Nat)(ops:List aQ)(pre:List (List Nat)):Option (List aQ) :=
 (GR pc L ops ops).bind fun es=>cond (okS L ops pre (T4 pre) es (QA pre es ops.length [] (List.range ops.length)))
  (some (HQ pc L ops (T4 pre) es [] (QA pre es ops.length [] (List.range ops.length)))) none
def x5(o:aQ):Option Nat :=
 match o.op,o.guard with
 | .next (.tmp t),none=>some t
 | _,_=>none
def Sl(os:List aQ):Bool:=os.all fun o=>(x5 o).isNone
def orR(L:List Nat)(ops:List aQ)(pre:List (List Nat))(c:aG)(pc:Bool):aG :=
 match XI pc L ops pre with
 | some l=>cond (Sl l) (.region l) c
 | none=>c
def zV(L:List Nat):aG->aG
 | .rD ops pre=>orR L ops pre (orR L ops pre (.rD ops pre) (!L.elem 999999)) (L.elem 999995)
 | .seq a b=>.seq (zV L a) (zV L b)
 | .cond c a b=>.cond c (zV L a) (zV L b)
 | .block i a=>.block i (zV L a)
 | .loop a=>.loop (zV L a)
 | c=>c
def jt:Code->Option aG
 | .skip=>some .skip
 | .region _ ops draw=>(lG P dB locals muts nt ops ops.toList).map fun is=>cond draw (.rD is (ops.toList.map pQ)) (.region is)
 | .seq a b=>(jt a).bind fun x=>(jt b).map (.seq x ·)
 | .cond c a b=>(au nt c).bind fun c=>(jt a).bind fun x=>(jt b).map (.cond c x ·)
 | .block id a=>(jt a).map (.block id ·)
 | .loop a=>(jt a).map .loop
 | .exit id=>some (.exit id)
 | .ret=>some .ret
 | .label _=>some .skip
 | .scope a=>jt a
 | _=>none
def ki:List ResultVar->Option (List gN)
 | []=>some []
 | .tmp t :: r=>cond (Nat.blt t nt) ((ki r).map (.tmp t :: ·)) none
 | .cell a t :: r=>cond (Nat.blt a nt) ((og P t).bind fun g=>(fe P t).bind fun sz=>(ki r).map (.cell a g sz :: ·)) none
end
def T5(P:Program)(dB locals muts:List Nat)(f:Func):Option aD :=
 f.body.bind fun c=>(jt P dB locals muts f.ntmps c).bind fun b=>(ki P f.ntmps f.results.toList).bind fun rs =>
  cond (Nat.ble (f.params.size+f.nfree) f.ntmps&&f.name != "runtime.NumGoroutine") (some { dB,locals,muts,nt:=f.ntmps,np:=f.params.size+f.nfree,results:=rs,body:=b }) none
def aR(P:Program)(dB locals muts:List Nat)(f:Func):Option aD :=
 (T5 P dB locals muts f).map fun i=>{ i with body:=zV i.locals i.body }
end
variable {s:AS}{F:AS->Option (bB × AS)}{p q:AS->Prop}{v:AV}{r:AV × Option fw}{args:List AV}{os:List aQ}{fn:aD}{a:aG}{o:aQ}
section
def fX.Le(f g:fX):Prop:=∀ a b c r,f a b c=some r->g a b c=some r
section
variable {G:Nat->List AV}{f g:fX}
theorem Au{x y:Option α}{r:α}(h:cond b x none=some r)(Yk:x=some r->y=some r):cond b y none=some r:=by
 grind
theorem Rh(h:fX.Le f g){o:oH}{r:AV × Option AS}(he:br G f s o=some r):br G g s o=some r:=by
 cases o with
 | call fn args =>
  simp only[br] at he ⊢;split at he
  ·refine Au he fun he=>?_
   simp only[aw0] at he ⊢;obtain⟨r0,h0,rfl⟩:=he;exact⟨r0,h _ _ _ _ h0,rfl⟩
  ·cases he
 | Da fn args =>
  simp only[br] at he ⊢;split at he
  ·refine Au he fun he=>?_
   simp only[aw1] at he ⊢;obtain⟨r0,h0,he⟩:=he;exact⟨r0,h _ _ _ _ h0,he⟩
  ·cases he
 | _=>exact he
theorem Bw(h:fX.Le f g){r:AS}(he:bS G f s o=some r):bS G g s o=some r:=by
 have key:∀ r,((br G f s o.op).bind fun r=>match r.2 with
   | none=>some (s.cR o.dst r.1)
   | some s'=>some (s'.cR o.dst r.1))=some r->((br G g s o.op).bind fun r=>match r.2 with
   | none=>some (s.cR o.dst r.1)
   | some s'=>some (s'.cR o.dst r.1))=some r:=by
  intro r hr;simp only[aw1] at hr ⊢
  grind [Rh]
 unfold bS at he ⊢;simp only at he ⊢;split at he
 ·exact key _ he
 ·grind
theorem xH(h:fX.Le f g):∀ {os:List aQ} {s r:AS},gr G f os s=some r->gr G g os s=some r
 | [],_,_,he=>he
 | o :: os,s,r,he=>by
  simp only[gr,aw1] at he ⊢;obtain⟨x,h1,h2⟩:=he;exact⟨x,Bw h h1,xH h h2⟩
def rT{F':AS->Option (bB × AS)}(h:∀ s r,F s=some r->F' s=some r):∀ {n m:Nat} {s:AS} {r:bB × AS},n<=m->iter F n s=some r->iter F' m s=some r
 | 0,_,_,_,_,he=>by cases he
 | n+1,0,_,_,hn,_=>by omega
 | n+1,m+1,s,r,hn,he=>by
  simp only[iter,aw1] at he ⊢;obtain⟨x,h1,h2⟩:=he;refine⟨x,h _ _ h1,?_⟩;split at h2
  ·exact rT h (by omega) h2
  ·exact h2
theorem kN(h:fX.Le f g){n:Nat}(hn:n<=m):∀ {c:aG} {s:AS} {r:bB × AS},kF G f n c s=some r->kF G g m c s=some r
 | .skip,_,_,he=>he
 | .exit _,_,_,he=>he
 | .ret,_,_,he=>he
 | .rD _ _,_,_,he=>by simp[kF] at he
 | .region os,s,r,he=>by
  simp only[kF,aw0] at he ⊢
  grind [xH]
 | .seq a b,s,r,he=>by
  simp only[kF,aw1] at he ⊢;obtain⟨x,h1,h2⟩:=he;refine⟨x,kN h hn h1,?_⟩;split at h2
  ·exact kN h hn h2
  ·exact h2
 | .cond c a b,s,r,he=>by
  simp only[kF] at he ⊢;split at he
  ·rename_i t ht
   cases t
   ·exact kN h hn (c:=b) he
   ·exact kN h hn (c:=a) he
  ·cases he
 | .block id a,s,r,he=>by
  simp only[kF,aw0] at he ⊢;obtain⟨x,h1,h2⟩:=he;exact⟨x,kN h hn h1,h2⟩
 | .loop a,s,r,he=>by
  simp only[kF] at he ⊢;exact rT (fun s r h'=>kN h hn h') hn he
theorem HH(h:fX.Le f g){n:Nat}(hn:n<=m){H:aa}(he:zL G f n fn args H=some r):zL G g m fn args H=some r:=by
 unfold zL at he ⊢;refine Au he fun he=>?_
 simp only[aw1] at he ⊢
 grind [kN]
end
def Kt{A:AP} : ∀ n,fX.Le (FV A n) (FV A (n+1))
 | 0=>fun a b c r h=>by cases h
 | n+1=>fun a b c r h=>by
  simp only[FV] at h ⊢;cases ho:A.ov a with
  | some g=>rw[ho] at h;exact h
  | none =>
   rw[ho] at h;cases hf:A.fns a with
   | none=>rw[hf] at h;cases h
   | some fn=>rw[hf] at h;exact HH (Kt n) (by omega) h
def ou{A:AP}{n:Nat}(h:n<=m):fX.Le (FV A n) (FV A m):=by
 induction h with
 | refl=>exact fun _ _ _ _ h=>h
 | step _ ih=>exact fun a b c r hr=>Kt _ a b c r (ih a b c r hr)
def ai(A:AP):fX:=fun f args H=>open Classical in if h:∃ n r,FV A n f args H=some r then some (Classical.choose (azg h)) else none
theorem pN{A:AP}{f:FuncId}{H:aa} : ai A f args H=some r↔∃ n,FV A n f args H=some r:=by
 unfold ai;constructor
 ·intro h
  split at h
  ·grind
  ·cases h
 ·rintro ⟨n,hn⟩
  have hx:∃ n r,FV A n f args H=some r:=⟨n,r,hn⟩;rw[dif_pos hx];have h1:=azg (azg hx);have h2:=ou (ayT n (Classical.choose hx)) _ _ _ _ hn;have h3:=ou (ayA n (Classical.choose hx)) _ _ _ _ h1;rw[h2] at h3;injection h3 with h3
  rw[h3]
def Rg{A:AP}(n:Nat):fX.Le (FV A n) (ai A):=fun _ _ _ _ h=>pN.2 ⟨n,h⟩
section
variable {A:AP}
theorem Uq{o:oH}{r:AV × Option AS}(he:br A.aX (ai A) s o=some r):∃ n,br A.aX (FV A n) s o=some r:=by
 cases o with
 | call fn args =>
  simp only[br] at he ⊢;split at he
  ·rename_i n fs cs hf
   cases hb:((args.map fun a=>a.addr A.aX s.T).all aO) with
   | false=>rw[hb] at he;cases he
   | true =>
    rw[hb] at he;simp only[cond_true,aw0] at he;obtain⟨r0,h0,rfl⟩:=he;obtain⟨k,hk⟩:=pN.1 h0
    grind
  ·cases he
 | Da fn args =>
  simp only[br] at he ⊢;split at he
  ·rename_i n fs cs hf
   cases hb:((args.map fun a=>a.addr A.aX s.T).all aO) with
   | false=>rw[hb] at he;cases he
   | true =>
    rw[hb] at he;simp only[cond_true,aw1] at he;obtain⟨r0,h0,he⟩:=he;obtain⟨k,hk⟩:=pN.1 h0
    grind
  ·cases he
 | _=>exact⟨0,he⟩
theorem Na{r:AS}(he:bS A.aX (ai A) s o=some r):∃ n,bS A.aX (FV A n) s o=some r:=by
 have key:∀ r,((br A.aX (ai A) s o.op).bind fun r=>match r.2 with
   | none=>some (s.cR o.dst r.1)
   | some s'=>some (s'.cR o.dst r.1))=some r->∃ n,((br A.aX (FV A n) s o.op).bind fun r=>match r.2 with
   | none=>some (s.cR o.dst r.1)
   | some s'=>some (s'.cR o.dst r.1))=some r:=by
  intro r hr;simp only[aw1] at hr ⊢
  grind [Uq]
 unfold bS at he ⊢;simp only at he ⊢;split at he
 ·exact key _ he
 ·split at he
  ·rename_i b hb
   cases hbw:(b==_) with
   | true=>rw[hbw] at he;exact key _ he
   | false=>rw[hbw] at he;exact⟨0,he⟩
  ·exact⟨0,he⟩
  ·cases he
theorem GV:∀ {os:List aQ} {s r:AS},gr A.aX (ai A) os s=some r->∃ n,gr A.aX (FV A n) os s=some r
 | [],_,_,he=>⟨0,he⟩
 | o :: os,s,r,he=>by
  simp only[gr,aw1] at he ⊢;obtain⟨x,h1,h2⟩:=he;obtain⟨n,hn⟩:=Na h1;obtain⟨m,hm⟩:=GV h2;exact⟨max n m,x,Bw (ou (ayT n m)) hn,xH (ou (ayA n m)) hm⟩
theorem Lg{F':Nat->AS->Option (bB × AS)}(hm:∀ n m s r,n<=m->F' n s=some r->F' m s=some r)(h:∀ s r,F s=some r->∃ n,F' n s=some r) :
  ∀ {n:Nat} {s:AS} {r:bB × AS},iter F n s=some r->∃ m,iter (F' m) n s=some r
 | 0,_,_,he=>by cases he
 | n+1,s,r,he=>by
  simp only[iter,aw1] at he ⊢;obtain⟨x,h1,h2⟩:=he;obtain⟨m1,Cz⟩:=h _ _ h1;split at h2
  ·obtain⟨m2,Mv⟩:=Lg hm h h2
   refine⟨max m1 m2,x,hm _ _ _ _ (ayT _ _) Cz,?_⟩;rename_i hx;simp only[hx];exact rT (fun s r=>hm _ _ _ _ (ayA _ _)) (Nat.le_refl _) Mv
  ·grind
theorem tq{n:Nat} : ∀ {c:aG} {s:AS} {r:bB × AS},kF A.aX (ai A) n c s=some r->∃ m,kF A.aX (FV A m) n c s=some r
 | .skip,_,_,he=>⟨0,he⟩
 | .exit _,_,_,he=>⟨0,he⟩
 | .ret,_,_,he=>⟨0,he⟩
 | .rD _ _,_,_,he=>by simp[kF] at he
 | .region os,s,r,he=>by
  simp only[kF,aw0] at he ⊢
  grind [GV]
 | .seq a b,s,r,he=>by
  simp only[kF,aw1] at he ⊢;obtain⟨x,h1,h2⟩:=he;obtain⟨m1,Cz⟩:=tq h1;split at h2
  ·rename_i hx
   obtain⟨m2,Mv⟩:=tq h2;refine⟨max m1 m2,x,kN (ou (ayT _ _)) (Nat.le_refl _) Cz,?_⟩;simp only[hx];exact kN (ou (ayA _ _)) (Nat.le_refl _) Mv
  ·grind
 | .cond c a b,s,r,he=>by
  simp only[kF] at he ⊢;split at he
  ·rename_i t ht
   cases t
   ·exact tq (c:=b) he
   ·exact tq (c:=a) he
  ·cases he
 | .block id a,s,r,he=>by
  simp only[kF,aw0] at he ⊢;obtain⟨x,h1,h2⟩:=he;obtain⟨m,hm⟩:=tq h1;exact⟨m,x,hm,h2⟩
 | .loop a,s,r,he=>by
  simp only[kF] at he ⊢;exact Lg (F':=fun m=>kF A.aX (FV A m) n a) (fun n' m s r hn h=>kN (ou hn) (Nat.le_refl _) h) (fun s r h=>tq h) he
theorem Xm{n:Nat}{H:aa}(he:zL A.aX (ai A) n fn args H=some r):∃ m,zL A.aX (FV A m) n fn args H=some r:=by
 unfold zL at he ⊢;cases hb:Nat.beq args.length fn.np with
 | false=>rw[hb] at he;cases he
 | true =>
  rw[hb] at he;simp only[cond_true,aw1] at he ⊢
  grind [tq]
def rL{f:FuncId}(ho:A.ov f=none)(hf:A.fns f=some fn){n:Nat}{H:aa}(h:zL A.aX (ai A) n fn args H=some r):ai A f args H=some r:=by
 obtain⟨m,hm⟩:=Xm h;refine pN.2 ⟨max m n+1,?_⟩;simp only[FV,ho,hf];exact HH (ou (ayT _ _)) (ayA _ _) hm
def fC{f:FuncId}{g:List AV->aa->Option (AV × Option fw)}(ho:A.ov f=some g){H:aa}(h:g args H=some r)(hn:args.all vX=true:=by rfl):ai A f args H=some r :=
 pN.2 ⟨1,by simp only[FV,ho,hn,cond_true];exact h⟩
end
end
section
def aG.sub:List Bool->aG->aG
 | [],c=>c
 | false :: p,.seq a _=>a.sub p
 | true :: p,.seq _ b=>b.sub p
 | false :: p,.cond _ a _=>a.sub p
 | true :: p,.cond _ _ b=>b.sub p
 | _ :: p,.block _ a=>a.sub p
 | _ :: p,.loop a=>a.sub p
 | _,c=>c
def W(A:AP)(c:aG)(s:AS)(Q:bB->AS->Prop):Prop:=∃ n e s',kF A.aX (ai A) n c s=some (e,s')/\Q e s'
def WO(A:AP)(os:List aQ)(s:AS)(Q:AS->Prop):Prop:=∃ s',gr A.aX (ai A) os s=some s'/\Q s'
def bX(x:Option α)(K:α->Prop):Prop:=∃ s,x=some s/\K s
def Dc(v:AV)(p q:AS->Prop)(s:AS):Prop:=∃ b,v=.bool b/\(b=true->p s)/\(b=false->q s)
def andThen(P:AS->Prop)(Q:bB->AS->Prop):bB->AS->Prop
 | .normal,s=>P s
 | e,s=>Q e s
def leave(id:Nat)(Q:bB->AS->Prop):bB->AS->Prop
 | .exit i,s=>Q (cond (Nat.beq i id) .normal (.exit i)) s
 | e,s=>Q e s
section
variable {A:AP}
theorem aS{α:Type}{s:α}{K:α->Prop} : bX (some s) K=K s:=by
 refine propext ⟨?_,fun h=>⟨s,rfl,h⟩⟩
 rintro ⟨s',h,hk⟩
 grind
theorem MX{p q:AS->Prop}{s:AS} : Dc (.bool true) p q s=p s:=by
 refine propext ⟨?_,fun h=>⟨true,rfl,fun _=>h,fun hb=>Bool.noConfusion hb⟩⟩
 rintro ⟨b,h,h1,h2⟩
 grind
theorem Kf{p q:AS->Prop}{s:AS} : Dc (.bool false) p q s=q s:=by
 refine propext ⟨?_,fun hq=>⟨false,rfl,(fun hb=>Bool.noConfusion hb),fun _=>hq⟩⟩
 rintro ⟨b,h,h1,h2⟩
 grind
def jI(h1:b=true->p s)(h2:b=false->q s):Dc (.bool b) p q s:=⟨b,rfl,h1,h2⟩
def ju{P:Prop}{_:Decidable P}(h1:P->p s)(h2:¬ P->q s):Dc (.bool (decide P)) p q s :=
 ⟨_,rfl,fun h=>h1 (of_decide_eq_true h),fun h=>h2 (of_decide_eq_false h)⟩
def kH{P:AS->Prop}{Q:bB->AS->Prop} : andThen P Q .normal s=P s:=rfl
def up{n:Nat}(h:n<=m){c:aG}{r:bB × AS}(he:kF A.aX (ai A) n c s=some r):kF A.aX (ai A) m c s=some r:=kN (fun _ _ _ _ h=>h) h he
def aeb{Q:bB->AS->Prop} : W A .skip s Q=Q .normal s:=by
 refine propext ⟨?_,fun h=>⟨0,_,_,rfl,h⟩⟩
 rintro ⟨n,e,s',h,hq⟩
 simp only[kF,aw2,aw6] at h;rw[h.1,h.2];exact hq
def ajj{Q:bB->AS->Prop} : W A .ret s Q=Q .ret s:=by
 refine propext ⟨?_,fun h=>⟨0,_,_,rfl,h⟩⟩
 rintro ⟨n,e,s',h,hq⟩
 simp only[kF,aw2,aw6] at h;rw[h.1,h.2];exact hq
def aea{Q:bB->AS->Prop} : W A (.exit i) s Q=Q (.exit i) s:=by
 refine propext ⟨?_,fun h=>⟨0,_,_,rfl,h⟩⟩
 rintro ⟨n,e,s',h,hq⟩
 simp only[kF,aw2,aw6] at h;rw[h.1,h.2];exact hq
def Gw{b:aG}{Q:bB->AS->Prop} : W A (.seq a b) s Q=W A a s (andThen (fun s'=>W A b s' Q) Q):=by
 refine propext ⟨?_,?_⟩
 ·rintro ⟨n,e,s',h,hq⟩
  simp only[kF,aw1] at h;obtain⟨⟨e1,s1⟩,h1,h2⟩:=h;refine⟨n,e1,s1,h1,?_⟩;cases e1 with
  | normal=>exact⟨n,e,s',h2,hq⟩
  | _ =>
   simp only[aw2,aw6] at h2;obtain⟨rfl,rfl⟩:=h2;exact hq
 ·rintro ⟨n,e,s',h,hq⟩
  cases e with
  | normal =>
   obtain⟨m,e2,s2,h2,hq⟩:=hq;refine⟨max n m,e2,s2,?_,hq⟩;simp only[kF,up (ayT n m) h,aw7,up (ayA n m) h2]
  | exit i =>
   refine⟨n,_,s',?_,hq⟩;simp only[kF,h,aw7]
  | ret =>
   refine⟨n,_,s',?_,hq⟩;simp only[kF,h,aw7]
def H4{Q:bB->AS->Prop} : W A (.block i a) s Q=W A a s (leave i Q):=by
 refine propext ⟨?_,?_⟩
 ·rintro ⟨n,e,s',h,hq⟩
  simp only[kF,aw0] at h;obtain⟨⟨e1,s1⟩,h1,h2⟩:=h;refine⟨n,e1,s1,h1,?_⟩;cases e1<;>simp only[aw6] at h2<;>obtain⟨rfl,rfl⟩:=h2<;>exact hq
 ·rintro ⟨n,e,s',h,hq⟩
  cases e<;>exact⟨n,_,s',by simp only[kF,h,axa],hq⟩
def ad9{c:aI}{b:aG}{Q:bB->AS->Prop} : W A (.cond c a b) s Q=Dc (c.eval A.aX s.T) (fun s=>W A a s Q) (fun s=>W A b s Q) s:=by
 refine propext ⟨?_,?_⟩
 ·rintro ⟨n,e,s',h,hq⟩
  simp only[kF] at h;split at h
  ·rename_i t ht
   refine⟨t,ht,fun hb=>?_,fun hb=>?_⟩
   ·subst hb;exact⟨n,e,s',h,hq⟩
   ·subst hb;exact⟨n,e,s',h,hq⟩
  ·cases h
 ·rintro ⟨t,ht,h1,h2⟩
  cases t with
  | true =>
   obtain⟨n,e,s',h,hq⟩:=h1 rfl;exact⟨n,e,s',by simp only[kF,ht];exact h,hq⟩
  | false =>
   obtain⟨n,e,s',h,hq⟩:=h2 rfl;exact⟨n,e,s',by simp only[kF,ht];exact h,hq⟩
def Tn{Q:bB->AS->Prop} : W A (.region os) s Q=WO A os s (Q .normal):=by
 refine propext ⟨?_,?_⟩
 ·rintro ⟨n,e,s',h,hq⟩
  simp only[kF,aw0,aw6] at h;obtain⟨s1,h1,rfl,rfl⟩:=h;exact⟨s1,h1,hq⟩
 ·rintro ⟨s1,h1,hq⟩
  exact⟨0,.normal,s1,by simp only[kF,h1,axa],hq⟩
def H3{Q:AS->Prop} : WO A [] s Q=Q s:=by
 refine propext ⟨?_,fun h=>⟨s,rfl,h⟩⟩
 rintro ⟨s',h,hq⟩
 simp only[gr,aw2] at h;rw[h];exact hq
def fG{Q:AS->Prop} : WO A (o :: os) s Q=bX (bS A.aX (ai A) s o) fun s'=>WO A os s' Q:=by
 refine propext ⟨?_,?_⟩
 ·rintro ⟨s',h,hq⟩
  simp only[gr,aw1] at h;obtain⟨s1,h1,h2⟩:=h;exact⟨s1,h1,s',h2,hq⟩
 ·rintro ⟨s1,h1,s',h2,hq⟩
  exact⟨s',by simp only[gr,h1,aw7,h2],hq⟩
def yu{b:aG}{Q:bB->AS->Prop}(R:AS->Prop)(h1:W A a s (andThen R Q))(h2:∀ s',R s'->W A b s' Q):W A (.seq a b) s Q:=by
 rw[Gw];obtain⟨n,e,s',h,hq⟩:=h1
 exact⟨n,e,s',h,by cases e with|normal=>exact h2 s' hq|_=>exact hq⟩
def uH{c:aG}{Q Q':bB->AS->Prop}(h:W A c s Q)(hq:∀ e s',Q e s'->Q' e s'):W A c s Q':=by
 obtain⟨n,e,s',h1,h2⟩:=h;exact⟨n,e,s',h1,hq e s' h2⟩
def Tl{Q:bB->AS->Prop}(I:Nat->AS->Prop)(hI:∀ k s,I k s->W A a s (andThen (fun s'=>∃ k',k' < k/\I k' s') Q)):∀ k s,I k s->W A (.loop a) s Q:=by
 intro k
 induction k using Nat.strongRecOn with
 | _ k ih =>
  intro s hs;obtain⟨n,e,s1,h1,hq⟩:=hI k s hs;cases e with
  | normal =>
   obtain⟨k',hk,pH⟩:=hq;obtain⟨m,e2,s2,h2,hq⟩:=ih k' hk s1 pH;refine⟨max n m+1,e2,s2,?_,hq⟩;simp only[kF,iter] at h2 ⊢;have Yc:=up (A:=A) (show n<=max n m+1 by omega) h1
   rw[Yc,aw7];have h2' : iter (kF A.aX (ai A) (max n m+1) a) (max n m) s1=some (e2,s2) :=
    rT (fun s r h=>up (show m<=max n m+1 by omega) h) (ayA n m) h2
   exact h2'
  | exit i =>
   refine⟨n+1,_,s1,?_,hq⟩;simp only[kF,iter];rw[up (A:=A) (show n<=n+1 by omega) h1,aw7]
  | ret =>
   refine⟨n+1,_,s1,?_,hq⟩;simp only[kF,iter];rw[up (A:=A) (show n<=n+1 by omega) h1,aw7]
def yw{Q:bB->AS->Prop}(h:W A a s (andThen (fun s'=>W A (.loop a) s' Q) Q)):W A (.loop a) s Q:=by
 obtain⟨n,e,s1,h1,hq⟩:=h;cases e with
 | normal =>
  obtain⟨m,e2,s2,h2,hq⟩:=hq;refine⟨max n m+1,e2,s2,?_,hq⟩;simp only[kF,iter] at h2 ⊢;rw[up (A:=A) (show n<=max n m+1 by omega) h1,aw7]
  exact rT (fun s r h=>up (show m<=max n m+1 by omega) h) (ayA n m) h2
 | exit i =>
  refine⟨n+1,_,s1,?_,hq⟩;simp only[kF,iter];rw[up (A:=A) (show n<=n+1 by omega) h1,aw7]
 | ret =>
  refine⟨n+1,_,s1,?_,hq⟩;simp only[kF,iter];rw[up (A:=A) (show n<=n+1 by omega) h1,aw7]
def vC{Q:bB->AS->Prop}(n:Nat)(I:Nat->AS->Prop)(hI:∀ k s,k<=n->I k s->W A a s (andThen (fun s'=>k<n/\I (k+1) s') Q))(k:Nat)(s:AS)(hk:k<=n)(hs:I k s):W A (.loop a) s Q:=by
 refine Tl (fun j s=>∃ k,k<=n/\j=n-k/\I k s) (fun j s h=>?_) (n-k) s ⟨k,hk,rfl,hs⟩
 obtain⟨k,hk,rfl,hs⟩:=h;refine uH (hI k s hk hs) fun e s' hq=>?_
 cases e with
 | normal =>
  obtain⟨h1,h2⟩:=hq;exact⟨n-(k+1),by omega,k+1,by omega,rfl,h2⟩
 | _=>exact hq
def Ex(i:Nat)(P V:AS->Prop):bB->AS->Prop
 | .exit j,s=>j=i/\P s
 | .ret,s=>V s
 | .normal,_=>False
def OW{Q:bB->AS->Prop}(id:Nat)(P V:AS->Prop)(h:W A (.loop a) s (Ex id P V))(hp:∀ s',P s'->Q (.exit id) s')(hv:∀ s',V s'->Q .ret s'):W A (.loop a) s Q:=by
 refine uH h fun e s' hq=>?_
 cases e with
 | normal=>exact hq.elim
 | exit j=>obtain⟨rfl,hq⟩:=hq;exact hp s' hq
 | ret=>exact hv s' hq
def bK{Q:bB->AS->Prop}(n id:Nat)(I:Nat->AS->Prop)(P V:AS->Prop)(hI:∀ k s,k<=n->I k s->W A a s (andThen (fun s'=>k<n/\I (k+1) s') (Ex id P V)))
  (hp:∀ s',P s'->Q (.exit id) s') (hv:∀ s',V s'->Q .ret s') (k:Nat) (s:AS) (hk:k<=n) (hs:I k s):W A (.loop a) s Q :=
 OW id P V (vC n I hI k s hk hs) hp hv
def o6{Q:bB->AS->Prop}(id:Nat)(I:Nat->AS->Prop)(P V:AS->Prop)(hI:∀ k s,I k s->W A a s (andThen (fun s'=>∃ k',k' < k/\I k' s') (Ex id P V)))
  (hp:∀ s',P s'->Q (.exit id) s') (hv:∀ s',V s'->Q .ret s') (k:Nat) (s:AS) (hs:I k s):W A (.loop a) s Q :=
 OW id P V (Tl I hI k s hs) hp hv
def Hd(P:az->Prop)(H:aa)(lo gen:Nat)(s:AS):Prop:=P s.T/\s.H=H/\s.lo=lo/\s.gen=gen
theorem Hd.out{P:az->Prop}{H:aa}{lo gen:Nat}(h:Hd P H lo gen s):∃ T,s=⟨T,H,lo,gen⟩/\P T:=by
 obtain⟨T,H',l',g'⟩:=s;obtain⟨h1,h2,h3,h4⟩:=h
 grind
def HdG(P:az->Prop)(H:aa)(lo:Nat)(s:AS):Prop:=P s.T/\s.H=H/\s.lo=lo
def HdG.out{P:az->Prop}{H:aa}{lo:Nat}(h:HdG P H lo s):∃ T g,s=⟨T,H,lo,g⟩/\P T:=by
 obtain⟨T,H',l',g'⟩:=s;obtain⟨h1,h2,h3⟩:=h
 simp_all
def fin(base:Nat)(rs:List gN)(s:AS):Option (AV × Option fw) :=
 cond (kg base s) ((mJ s rs).bind fun r=>cond (r.leaves base) (some (r,cond (Nat.beq s.lo base) none (some ⟨s.H.take base,s.lo⟩))) none) none
def done(base:Nat)(rs:List gN)(r:AV × Option fw):bB->AS->Prop
 | .exit _,_=>False
 | _,s=>fin base rs s=some r
def Bu(base:Nat)(rs:List gN)(P:AV × Option fw->Prop):bB->AS->Prop
 | .exit _,_=>False
 | _,s=>bX (fin base rs s) P
def SG{r:gN}{b:Nat}(h:oR s r=some b):iP s r=none:=by
 cases r with
 | tmp t =>
  simp only[oR] at h;simp only[iP];split at h
  ·rename_i hT;rw[hT];rfl
  ·rename_i hT;rw[hT];rfl
  ·cases h
 | cell=>cases h
def KD{rs:List gN}{q:AV × Option fw}(he:tz m rs s=some q):∃ i l off n z,rs=[i]/\iP s i=some (.sref l off n z)/\m<=l:=by
 unfold tz at he;split at he
 ·rename_i i
  simp only[aw1] at he;obtain⟨v,hv,he⟩:=he;split at he
  ·rename_i l off n z
   split at he
   ·rename_i ty cs hH
    cases hb:(Nat.ble m l&&cs.all AV.plain) with
    | false=>rw[hb] at he;cases he
    | true =>
     simp_all
   ·cases he
  ·cases he
 ·cases he
theorem TJ{base:Nat}(h:iF base fn.results s=some r):o7 base fn s=none:=by
 cases hf:o7 base fn s with
 | none=>rfl
 | some q =>
  exfalso;unfold o7 at hf;cases hb:fn.muts.elem 888888 with
  | false=>rw[hb] at hf;cases hf
  | true =>
   rw[hb,cond_true] at hf;obtain⟨i,l,off,n,z,PH,rj,hml⟩:=KD hf;unfold iF mJ at h;rw[PH] at h;simp only at h;cases hr:oR s i with
   | some b=>rw[SG hr] at rj;cases rj
   | none =>
    rw[hr] at h;simp only[rj,aw7] at h;have:(AV.sref l off n z).leaves base=false:=by
     simp only[AV.leaves,AV.dU,AV.bp];cases hb:Nat.blt l base with
     | false=>rfl
     | true=>rw[axp] at hb;omega
    grind
theorem pU{base:Nat}(h:fin base fn.results s=some r):finish base fn s=some (sf fn r):=by
 unfold fin at h;cases ho:kg base s with
 | false=>rw[ho] at h;cases h
 | true =>
  rw[ho,cond_true] at h;have h:iF base fn.results s=some r:=h;unfold finish mj qM
  grind [TJ]
def YV(base:Nat)(fn:aD)(P:AV × Option fw->Prop):bB->AS->Prop
 | .exit _,_=>False
 | _,s=>∃ r,finish base fn s=some r/\P r
def GH{f:FuncId}(ho:A.ov f=none)(hf:A.fns f=some fn){H:aa}{P:AV × Option fw->Prop}(hn:Nat.beq args.length fn.np=true)
  (h:W A fn.body { T:=dO args,H,lo:=H.length,gen:=0 } (YV H.length fn P)):∃ r,ai A f args H=some r/\P r:=by
 obtain⟨n,e,s',h1,h2⟩:=h;have key:∀ r,finish H.length fn s'=some r->ai A f args H=some r:=by
  intro r hr;refine rL ho hf (n:=n) ?_;unfold zL;rw[hn,cond_true,h1,aw7];cases e with
  | exit i=>exact h2.elim
  | _=>exact hr
 cases e with
 | exit i=>exact h2.elim
 | _=>obtain⟨r,hr,hP⟩:=h2;exact⟨r,key r hr,hP⟩
theorem vk(hm:fn.muts.elem 777777=false)(r:AV × Option fw):sf fn r=r:=by unfold sf;rw[hm];rfl
theorem D5(hm:fn.muts.elem 777777=true)(r:AV × Option fw):sf fn r=(nC r.1,r.2):=by unfold sf;rw[hm];rfl
theorem GI{f:FuncId}(ho:A.ov f=none)(hf:A.fns f=some fn){H:aa}{P:AV × Option fw->Prop}(hn:Nat.beq args.length fn.np=true)
  (h:W A fn.body { T:=dO args,H,lo:=H.length,gen:=0 } (Bu H.length fn.results P)):∃ r,ai A f args H=some (sf fn r)/\P r:=by
 obtain⟨n,e,s',h1,h2⟩:=h;have key:∀ r,fin H.length fn.results s'=some r->ai A f args H=some (sf fn r):=by
  intro r hr;refine rL ho hf (n:=n) ?_;unfold zL;rw[hn,cond_true,h1,aw7];cases e with
  | exit i=>exact h2.elim
  | _=>exact pU hr
 cases e with
 | exit i=>exact h2.elim
 | _=>obtain⟨r,hr,hP⟩:=h2;exact⟨r,key r hr,hP⟩
theorem uL{f:FuncId}(ho:A.ov f=none)(hf:A.fns f=some fn){H:aa}{P:AV × Option fw->Prop}(hn:Nat.beq args.length fn.np=true)
  (h:W A fn.body { T:=dO args,H,lo:=H.length,gen:=0 } (Bu H.length fn.results P)) (hm:fn.muts.elem 777777=false:=by rfl):∃ r,ai A f args H=some r/\P r:=by
 grind [GI,vk]
theorem nQ{f:FuncId}(ho:A.ov f=none)(hf:A.fns f=some fn){H:aa}{P:AV × Option fw->Prop}(hn:Nat.beq args.length fn.np=true)
  (hm:fn.muts.elem 777777=true) (h:W A fn.body { T:=dO args,H,lo:=H.length,gen:=0 } (Bu H.length fn.results fun r=>P (nC r.1,r.2))):∃ r,ai A f args H=some r/\P r:=by
 grind [GI,D5]
def TZ{f:FuncId}(ho:A.ov f=none)(hf:A.fns f=some fn){H:aa}(hn:Nat.beq args.length fn.np=true)
  (h:W A fn.body { T:=dO args,H,lo:=H.length,gen:=0 } (done H.length fn.results r)):ai A f args H=some (sf fn r):=by
 obtain⟨n,e,s',h1,h2⟩:=h;refine rL ho hf (n:=n) ?_;unfold zL;rw[hn,cond_true,h1,aw7];cases e with
 | exit i=>exact h2.elim
 | _=>exact pU h2
def cy{f:FuncId}(ho:A.ov f=none)(hf:A.fns f=some fn){H:aa}(hn:Nat.beq args.length fn.np=true)
  (h:W A fn.body { T:=dO args,H,lo:=H.length,gen:=0 } (done H.length fn.results r)) (hm:fn.muts.elem 777777=false:=by rfl):ai A f args H=some r:=by
 have:=TZ ho hf hn h
 rwa [vk hm] at this
end
section
variable {A:AP}{T:az}{H:aa}{lo gen:Nat}{Q:bB->AS->Prop}{K:AS->Prop}
def X3{a b:aG} : W A (.seq a b) ⟨T,H,lo,gen⟩ Q=W A a ⟨T,H,lo,gen⟩ (andThen (fun s'=>W A b s' Q) Q):=Gw
def JC{i:Nat}{a:aG} : W A (.block i a) ⟨T,H,lo,gen⟩ Q=W A a ⟨T,H,lo,gen⟩ (leave i Q):=H4
def aiF{c:aI}{a b:aG} : W A (.cond c a b) ⟨T,H,lo,gen⟩ Q=Dc (c.eval A.aX T) (fun s=>W A a s Q) (fun s=>W A b s Q) ⟨T,H,lo,gen⟩:=ad9
def Mm{os:List aQ} : W A (.region os) ⟨T,H,lo,gen⟩ Q=WO A os ⟨T,H,lo,gen⟩ (Q .normal):=Tn
def aiL:W A .skip ⟨T,H,lo,gen⟩ Q=Q .normal ⟨T,H,lo,gen⟩:=aeb
def ano:W A .ret ⟨T,H,lo,gen⟩ Q=Q .ret ⟨T,H,lo,gen⟩:=ajj
def aiH{i:Nat} : W A (.exit i) ⟨T,H,lo,gen⟩ Q=Q (.exit i) ⟨T,H,lo,gen⟩:=aea
def ad8:WO A [] ⟨T,H,lo,gen⟩ K=K ⟨T,H,lo,gen⟩:=H3
def aiK{t:Nat}{v:AV} : AS.cc ⟨T,H,lo,gen⟩ t v=⟨T.put t v,H,lo,gen⟩:=rfl
def anm{h:aa}{l:Nat} : AS.iw ⟨T,H,lo,gen⟩ ⟨h,l⟩=⟨T,h,cond (Nat.blt l lo) l lo,gen⟩:=rfl
def Ml{P:AS->Prop} : andThen P Q .normal ⟨T,H,lo,gen⟩=P ⟨T,H,lo,gen⟩:=rfl
def aiE{P:AS->Prop} : andThen P Q .ret ⟨T,H,lo,gen⟩=Q .ret ⟨T,H,lo,gen⟩:=rfl
def ab'{P:AS->Prop}{i:Nat} : andThen P Q (.exit i) ⟨T,H,lo,gen⟩=Q (.exit i) ⟨T,H,lo,gen⟩:=rfl
def aiI{P:az->Prop}{H' : aa}{lo' : Nat} : HdG P H' lo' ⟨T,H,lo,gen⟩=(P T/\H=H'/\lo=lo'):=rfl
def X1{i:Nat}{P V:AS->Prop} : Ex i P V (.exit i) ⟨T,H,lo,gen⟩=P ⟨T,H,lo,gen⟩:=propext ⟨fun h=>h.2,fun h=>⟨rfl,h⟩⟩
def acb{i:Nat}{P V:AS->Prop} : Ex i P V .ret ⟨T,H,lo,gen⟩=V ⟨T,H,lo,gen⟩:=rfl
def ann{P:az->Prop}{H' : aa}{lo' gen' : Nat} : Hd P H' lo' gen' ⟨T,H,lo,gen⟩=(P T/\H=H'/\lo=lo'/\gen=gen'):=rfl
def aiG{base:Nat}{rs:List gN}{r:AV × Option fw} : done base rs r .ret ⟨T,H,lo,gen⟩=(fin base rs ⟨T,H,lo,gen⟩=some r):=rfl
def SW{base:Nat}{rs:List gN}{r:AV × Option fw} : done base rs r .normal ⟨T,H,lo,gen⟩=(fin base rs ⟨T,H,lo,gen⟩=some r):=rfl
def aca{base:Nat}{rs:List gN}{P:AV × Option fw->Prop} : Bu base rs P .ret ⟨T,H,lo,gen⟩=bX (fin base rs ⟨T,H,lo,gen⟩) P:=rfl
def OR{base:Nat}{rs:List gN}{P:AV × Option fw->Prop} : Bu base rs P .normal ⟨T,H,lo,gen⟩=bX (fin base rs ⟨T,H,lo,gen⟩) P:=rfl
def SX{i:Nat} : leave i Q .normal ⟨T,H,lo,gen⟩=Q .normal ⟨T,H,lo,gen⟩:=rfl
def aiJ{i:Nat} : leave i Q .ret ⟨T,H,lo,gen⟩=Q .ret ⟨T,H,lo,gen⟩:=rfl
theorem acd : leave i Q (.exit i) ⟨T,H,lo,gen⟩=Q .normal ⟨T,H,lo,gen⟩:=by simp[leave]
theorem X2{i j:Nat} : leave i Q (.exit j) ⟨T,H,lo,gen⟩=if j=i then Q .normal ⟨T,H,lo,gen⟩ else Q (.exit j) ⟨T,H,lo,gen⟩:=by
 by_cases da:j=i
 ·grind [acd]
 rw[if_neg da];have hb:Nat.beq j i=false:=by
  cases hb:Nat.beq j i with
  | false=>rfl
  | true=>exact absurd (ax4 hb) da
 simp[leave,hb]
end
def J9{n:Nat} : Nat.beq n n=true:=ayP n
theorem put_eq{T:az} : (T.put d v) d=v:=by simp[az.put]
theorem ahm{T:az}(h:(i==d)=false):(T.put d v) i=T i:=by
 have da:i≠d:=by simpa using h
 have hb:Nat.beq i d=false:=by
  cases hb:Nat.beq i d with
  | false=>rfl
  | true=>exact absurd (ax4 hb) da
 simp only[az.put,hb];rfl
theorem aaQ{T:az}{d i:Nat}{v:AV} : (T.put d v) i=if i=d then v else T i:=by
 grind [put_eq,ahm]
def NO{a:AV}{l:List AV} : dO (a :: l) 0=a:=rfl
def NM{a:AV}{l:List AV}{n:Nat} : dO (a :: l) (n+1)=dO l n:=by simp[dO]
end
end Go.Abs
end
