/-
  A part of the proof of PrintKept: AbsRule.
-/
import Derived.Test.YtaedakihpnghjaaGreatDoorP15
set_option linter.unusedSimpArgs false
set_option linter.unusedVariables false
section
namespace Go.Abs
set_option linter.unusedSimpArgs false
set_option linter.unusedVariables false
def addrV (s:Nat):AV→AV
 | .lbox g _=>.lref s g 0
 | .lsl g _=>.lsr s g
 | .iter ..=>.any
 | v=>v
theorem r_addr {G:Nat→List AV} {T:AFrame} {s:Nat} : IArg.addr G T (.tmp s)=addrV s (T s):=by
 simp only[IArg.addr,addrV]
 split<;>simp_all
section
theorem drop_bool {b:Bool} : AV.drop (AV.bool b)=(.bool b):=rfl
theorem drop_int {k:IntKind} {n:Int} : AV.drop (AV.int k n)=(.int k n):=rfl
theorem drop_str {l:List UInt8} : AV.drop (AV.str l)=(.str l):=rfl
theorem drop_any:AV.drop AV.any=.any:=rfl
theorem drop_nilptr:AV.drop AV.nilptr=.nilptr:=rfl
theorem drop_nilmap:AV.drop AV.nilmap=.nilmap:=rfl
theorem drop_fmap {kz:Nat} {ka va:Bool} {es:List (List AV)} : AV.drop (AV.fmap kz ka va es)=(.fmap kz ka va es):=rfl
theorem drop_nilsl:AV.drop AV.nilsl=.nilsl:=rfl
theorem dropAll_nilsl:AV.dropAll AV.nilsl=.nilsl:=rfl
theorem cells_nilsl:AV.cells AV.nilsl=some [.nilsl]:=rfl
theorem plain_nilsl:AV.plain AV.nilsl=true:=rfl
theorem fc_nilsl:frameCell AV.nilsl=true:=rfl
theorem drop_nilfunc:AV.drop AV.nilfunc=.nilfunc:=rfl
theorem drop_niliface:AV.drop AV.niliface=.niliface:=rfl
theorem drop_slice {e:List (List AV)} {own:Bool} : AV.drop (AV.slice e own)=.slice e false:=rfl
theorem drop_eptr {cs:List AV} : AV.drop (AV.eptr cs)=(.eptr cs):=rfl
theorem drop_ref {loc off:Nat} : AV.drop (AV.ref loc off)=(.ref loc off):=rfl
theorem drop_sref {loc off n z:Nat} : AV.drop (AV.sref loc off n z)=(.sref loc off n z):=rfl
theorem drop_mref {loc:Nat} : AV.drop (AV.mref loc)=(.mref loc):=rfl
theorem drop_lbox {g:Nat} {cs:List AV} : AV.drop (AV.lbox g cs)=(.lbox g cs):=rfl
theorem drop_lref {s g off:Nat} : AV.drop (AV.lref s g off)=(.lref s g off):=rfl
theorem drop_lsl {g:Nat} {e:List (List AV)} : AV.drop (AV.lsl g e)=(.lsl g e):=rfl
theorem drop_lsr {s g:Nat} : AV.drop (AV.lsr s g)=(.lsr s g):=rfl
theorem drop_eref {s g i z off:Nat} : AV.drop (AV.eref s g i z off)=(.eref s g i z off):=rfl
theorem drop_func {f:Fn} {fs cs:List AV} : AV.drop (AV.func f fs cs)=(.func f fs cs):=rfl
theorem drop_iface {t:TypeId} {v:AV} : AV.drop (AV.iface t v)=(.iface t v):=rfl
theorem drop_agg {cs:List AV} : AV.drop (AV.agg cs)=(.agg cs):=rfl
theorem drop_tuple {vs:List AV} : AV.drop (AV.tuple vs)=(.tuple vs):=rfl
theorem dropAll_bool {b:Bool} : AV.dropAll (AV.bool b)=(.bool b):=rfl
theorem dropAll_int {k:IntKind} {n:Int} : AV.dropAll (AV.int k n)=(.int k n):=rfl
theorem dropAll_str {l:List UInt8} : AV.dropAll (AV.str l)=(.str l):=rfl
theorem dropAll_any:AV.dropAll AV.any=.any:=rfl
theorem dropAll_nilptr:AV.dropAll AV.nilptr=.nilptr:=rfl
theorem dropAll_nilmap:AV.dropAll AV.nilmap=.nilmap:=rfl
theorem dropAll_fmap {kz:Nat} {ka va:Bool} {es:List (List AV)} : AV.dropAll (AV.fmap kz ka va es)=(.fmap kz ka va es):=rfl
theorem dropAll_nilfunc:AV.dropAll AV.nilfunc=.nilfunc:=rfl
theorem dropAll_niliface:AV.dropAll AV.niliface=.niliface:=rfl
theorem dropAll_slice {e:List (List AV)} {own:Bool} : AV.dropAll (AV.slice e own)=.slice e false:=rfl
theorem dropAll_eptr {cs:List AV} : AV.dropAll (AV.eptr cs)=(.eptr cs):=rfl
theorem dropAll_ref {loc off:Nat} : AV.dropAll (AV.ref loc off)=(.ref loc off):=rfl
theorem dropAll_sref {loc off n z:Nat} : AV.dropAll (AV.sref loc off n z)=(.sref loc off n z):=rfl
theorem dropAll_mref {loc:Nat} : AV.dropAll (AV.mref loc)=(.mref loc):=rfl
theorem dropAll_lbox {g:Nat} {cs:List AV} : AV.dropAll (AV.lbox g cs)=(.lbox g cs):=rfl
theorem dropAll_lref {s g off:Nat} : AV.dropAll (AV.lref s g off)=(.lref s g off):=rfl
theorem dropAll_lsl {g:Nat} {e:List (List AV)} : AV.dropAll (AV.lsl g e)=(.lsl g e):=rfl
theorem dropAll_lsr {s g:Nat} : AV.dropAll (AV.lsr s g)=(.lsr s g):=rfl
theorem dropAll_eref {s g i z off:Nat} : AV.dropAll (AV.eref s g i z off)=(.eref s g i z off):=rfl
theorem dropAll_func {f:Fn} {fs cs:List AV} : AV.dropAll (AV.func f fs cs)=(.func f fs cs):=rfl
theorem dropAll_iface {t:TypeId} {v:AV} : AV.dropAll (AV.iface t v)=(.iface t v):=rfl
theorem dropAll_agg {cs:List AV} : AV.dropAll (AV.agg cs)=.agg (cs.map AV.drop):=rfl
theorem dropAll_tuple {vs:List AV} : AV.dropAll (AV.tuple vs)=(.tuple vs):=rfl
theorem fc_bool {b:Bool} : frameCell (AV.bool b)=true:=rfl
theorem fc_int {k:IntKind} {n:Int} : frameCell (AV.int k n)=true:=rfl
theorem fc_str {l:List UInt8} : frameCell (AV.str l)=true:=rfl
theorem fc_any:frameCell AV.any=true:=rfl
theorem fc_nilptr:frameCell AV.nilptr=true:=rfl
theorem fc_nilmap:frameCell AV.nilmap=true:=rfl
theorem fc_fmap {kz:Nat} {ka va:Bool} {es:List (List AV)} : frameCell (AV.fmap kz ka va es)=true:=rfl
theorem fc_nilfunc:frameCell AV.nilfunc=true:=rfl
theorem fc_niliface:frameCell AV.niliface=true:=rfl
theorem fc_slice {e:List (List AV)} {own:Bool} : frameCell (AV.slice e own)=true:=rfl
theorem fc_eptr {cs:List AV} : frameCell (AV.eptr cs)=true:=rfl
theorem fc_ref {loc off:Nat} : frameCell (AV.ref loc off)=true:=rfl
theorem fc_sref {loc off n z:Nat} : frameCell (AV.sref loc off n z)=true:=rfl
theorem fc_mref {loc:Nat} : frameCell (AV.mref loc)=true:=rfl
theorem fc_lbox {g:Nat} {cs:List AV} : frameCell (AV.lbox g cs)=false:=rfl
theorem fc_lref {s g off:Nat} : frameCell (AV.lref s g off)=false:=rfl
theorem fc_lsl {g:Nat} {e:List (List AV)} : frameCell (AV.lsl g e)=false:=rfl
theorem fc_lsr {s g:Nat} : frameCell (AV.lsr s g)=false:=rfl
theorem fc_eref {s g i z off:Nat} : frameCell (AV.eref s g i z off)=false:=rfl
theorem fc_func {f:Fn} {fs cs:List AV} : frameCell (AV.func f fs cs)=true:=rfl
theorem fc_iface {t:TypeId} {v:AV} : frameCell (AV.iface t v)=true:=rfl
theorem fc_agg {cs:List AV} : frameCell (AV.agg cs)=true:=rfl
theorem fc_tuple {vs:List AV} : frameCell (AV.tuple vs)=true:=rfl
theorem genOf_bool {b:Bool} : genOf (AV.bool b)=none:=rfl
theorem genOf_int {k:IntKind} {n:Int} : genOf (AV.int k n)=none:=rfl
theorem genOf_str {l:List UInt8} : genOf (AV.str l)=none:=rfl
theorem genOf_any:genOf AV.any=none:=rfl
theorem genOf_nilptr:genOf AV.nilptr=none:=rfl
theorem genOf_nilmap:genOf AV.nilmap=none:=rfl
theorem genOf_fmap {kz:Nat} {ka va:Bool} {es:List (List AV)} : genOf (AV.fmap kz ka va es)=none:=rfl
theorem genOf_nilfunc:genOf AV.nilfunc=none:=rfl
theorem genOf_niliface:genOf AV.niliface=none:=rfl
theorem genOf_slice {e:List (List AV)} {own:Bool} : genOf (AV.slice e own)=none:=rfl
theorem genOf_eptr {cs:List AV} : genOf (AV.eptr cs)=none:=rfl
theorem genOf_ref {loc off:Nat} : genOf (AV.ref loc off)=none:=rfl
theorem genOf_sref {loc off n z:Nat} : genOf (AV.sref loc off n z)=none:=rfl
theorem genOf_mref {loc:Nat} : genOf (AV.mref loc)=none:=rfl
theorem genOf_lbox {g:Nat} {cs:List AV} : genOf (AV.lbox g cs)=some g:=rfl
theorem genOf_lref {s g off:Nat} : genOf (AV.lref s g off)=none:=rfl
theorem genOf_lsl {g:Nat} {e:List (List AV)} : genOf (AV.lsl g e)=some g:=rfl
theorem genOf_lsr {s g:Nat} : genOf (AV.lsr s g)=none:=rfl
theorem genOf_eref {s g i z off:Nat} : genOf (AV.eref s g i z off)=none:=rfl
theorem genOf_func {f:Fn} {fs cs:List AV} : genOf (AV.func f fs cs)=none:=rfl
theorem genOf_iface {t:TypeId} {v:AV} : genOf (AV.iface t v)=none:=rfl
theorem genOf_agg {cs:List AV} : genOf (AV.agg cs)=none:=rfl
theorem genOf_tuple {vs:List AV} : genOf (AV.tuple vs)=none:=rfl
theorem cells_bool {b:Bool} : AV.cells (AV.bool b)=some [(.bool b)]:=rfl
theorem cells_int {k:IntKind} {n:Int} : AV.cells (AV.int k n)=some [(.int k n)]:=rfl
theorem cells_str {l:List UInt8} : AV.cells (AV.str l)=some [(.str l)]:=rfl
theorem cells_any:AV.cells AV.any=none:=rfl
theorem cells_nilptr:AV.cells AV.nilptr=some [.nilptr]:=rfl
theorem cells_nilmap:AV.cells AV.nilmap=some [.nilmap]:=rfl
theorem cells_fmap {kz:Nat} {ka va:Bool} {es:List (List AV)} : AV.cells (AV.fmap kz ka va es)=some [(.fmap kz ka va es)]:=rfl
theorem cells_nilfunc:AV.cells AV.nilfunc=some [.nilfunc]:=rfl
theorem cells_niliface:AV.cells AV.niliface=some [.niliface]:=rfl
theorem cells_slice {e:List (List AV)} {own:Bool} : AV.cells (AV.slice e own)=some [(.slice e own)]:=rfl
theorem cells_eptr {cs:List AV} : AV.cells (AV.eptr cs)=some [(.eptr cs)]:=rfl
theorem cells_ref {loc off:Nat} : AV.cells (AV.ref loc off)=some [(.ref loc off)]:=rfl
theorem cells_sref {loc off n z:Nat} : AV.cells (AV.sref loc off n z)=some [(.sref loc off n z)]:=rfl
theorem cells_mref {loc:Nat} : AV.cells (AV.mref loc)=some [(.mref loc)]:=rfl
theorem cells_lbox {g:Nat} {cs:List AV} : AV.cells (AV.lbox g cs)=none:=rfl
theorem cells_lref {s g off:Nat} : AV.cells (AV.lref s g off)=none:=rfl
theorem cells_lsl {g:Nat} {e:List (List AV)} : AV.cells (AV.lsl g e)=none:=rfl
theorem cells_lsr {s g:Nat} : AV.cells (AV.lsr s g)=none:=rfl
theorem cells_eref {s g i z off:Nat} : AV.cells (AV.eref s g i z off)=none:=rfl
theorem cells_func {f:Fn} {fs cs:List AV} : AV.cells (AV.func f fs cs)=some [(.func f fs cs)]:=rfl
theorem cells_iface {t:TypeId} {v:AV} : AV.cells (AV.iface t v)=some [(.iface t v)]:=rfl
theorem cells_agg {cs:List AV} : AV.cells (AV.agg cs)=some cs:=rfl
theorem cells_tuple {vs:List AV} : AV.cells (AV.tuple vs)=none:=rfl
theorem plain_bool {b:Bool} : AV.plain (AV.bool b)=true:=rfl
theorem plain_int {k:IntKind} {n:Int} : AV.plain (AV.int k n)=true:=rfl
theorem plain_str {l:List UInt8} : AV.plain (AV.str l)=true:=rfl
theorem plain_any:AV.plain AV.any=true:=rfl
theorem plain_nilptr:AV.plain AV.nilptr=true:=rfl
theorem plain_nilmap:AV.plain AV.nilmap=true:=rfl
theorem plain_fmap {kz:Nat} {ka va:Bool} {es:List (List AV)} : AV.plain (AV.fmap kz ka va es)=true:=rfl
theorem plain_nilfunc:AV.plain AV.nilfunc=true:=rfl
theorem plain_niliface:AV.plain AV.niliface=true:=rfl
theorem plain_slice {e:List (List AV)} {own:Bool} : AV.plain (AV.slice e own)=!own:=rfl
theorem plain_eptr {cs:List AV} : AV.plain (AV.eptr cs)=true:=rfl
theorem plain_ref {loc off:Nat} : AV.plain (AV.ref loc off)=false:=rfl
theorem plain_sref {loc off n z:Nat} : AV.plain (AV.sref loc off n z)=false:=rfl
theorem plain_mref {loc:Nat} : AV.plain (AV.mref loc)=false:=rfl
theorem plain_lbox {g:Nat} {cs:List AV} : AV.plain (AV.lbox g cs)=false:=rfl
theorem plain_lref {s g off:Nat} : AV.plain (AV.lref s g off)=false:=rfl
theorem plain_lsl {g:Nat} {e:List (List AV)} : AV.plain (AV.lsl g e)=false:=rfl
theorem plain_lsr {s g:Nat} : AV.plain (AV.lsr s g)=false:=rfl
theorem plain_eref {s g i z off:Nat} : AV.plain (AV.eref s g i z off)=false:=rfl
theorem plain_agg {cs:List AV} : AV.plain (AV.agg cs)=false:=rfl
theorem plain_tuple {vs:List AV} : AV.plain (AV.tuple vs)=false:=rfl
theorem cellOut_bool {base:Nat} {b:Bool} : AV.cellOut base (AV.bool b)=AV.plain (.bool b):=rfl
theorem cellOut_int {base:Nat} {k:IntKind} {n:Int} : AV.cellOut base (AV.int k n)=AV.plain (.int k n):=rfl
theorem cellOut_str {base:Nat} {l:List UInt8} : AV.cellOut base (AV.str l)=AV.plain (.str l):=rfl
theorem cellOut_any {base:Nat} : AV.cellOut base AV.any=AV.plain .any:=rfl
theorem cellOut_nilptr {base:Nat} : AV.cellOut base AV.nilptr=AV.plain .nilptr:=rfl
theorem cellOut_nilmap {base:Nat} : AV.cellOut base AV.nilmap=AV.plain .nilmap:=rfl
theorem cellOut_fmap {kz:Nat} {ka va:Bool} {es:List (List AV)} {base:Nat} : AV.cellOut base (AV.fmap kz ka va es)=AV.plain (.fmap kz ka va es):=rfl
theorem cellOut_nilfunc {base:Nat} : AV.cellOut base AV.nilfunc=AV.plain .nilfunc:=rfl
theorem cellOut_niliface {base:Nat} : AV.cellOut base AV.niliface=AV.plain .niliface:=rfl
theorem cellOut_slice {base:Nat} {e:List (List AV)} {own:Bool} : AV.cellOut base (AV.slice e own)=AV.plain (.slice e own):=rfl
theorem cellOut_eptr {base:Nat} {cs:List AV} : AV.cellOut base (AV.eptr cs)=AV.plain (.eptr cs):=rfl
theorem cellOut_ref {base:Nat} {loc off:Nat} : AV.cellOut base (AV.ref loc off)=Nat.blt loc base:=rfl
theorem cellOut_sref {base:Nat} {loc off n z:Nat} : AV.cellOut base (AV.sref loc off n z)=Nat.blt loc base:=rfl
theorem cellOut_mref {base:Nat} {loc:Nat} : AV.cellOut base (AV.mref loc)=Nat.blt loc base:=rfl
theorem cellOut_lbox {base:Nat} {g:Nat} {cs:List AV} : AV.cellOut base (AV.lbox g cs)=AV.plain (.lbox g cs):=rfl
theorem cellOut_lref {base:Nat} {s g off:Nat} : AV.cellOut base (AV.lref s g off)=AV.plain (.lref s g off):=rfl
theorem cellOut_lsl {base:Nat} {g:Nat} {e:List (List AV)} : AV.cellOut base (AV.lsl g e)=AV.plain (.lsl g e):=rfl
theorem cellOut_lsr {base:Nat} {s g:Nat} : AV.cellOut base (AV.lsr s g)=AV.plain (.lsr s g):=rfl
theorem cellOut_eref {base:Nat} {s g i z off:Nat} : AV.cellOut base (AV.eref s g i z off)=AV.plain (.eref s g i z off):=rfl
theorem cellOut_func {base:Nat} {f:Fn} {fs cs:List AV} : AV.cellOut base (AV.func f fs cs)=AV.plain (.func f fs cs):=rfl
theorem cellOut_iface {base:Nat} {t:TypeId} {v:AV} : AV.cellOut base (AV.iface t v)=AV.plain (.iface t v):=rfl
theorem cellOut_agg {base:Nat} {cs:List AV} : AV.cellOut base (AV.agg cs)=AV.plain (.agg cs):=rfl
theorem cellOut_tuple {base:Nat} {vs:List AV} : AV.cellOut base (AV.tuple vs)=AV.plain (.tuple vs):=rfl
theorem partOut_bool {base:Nat} {b:Bool} : AV.partOut base (AV.bool b)=AV.cellOut base (.bool b):=rfl
theorem partOut_int {base:Nat} {k:IntKind} {n:Int} : AV.partOut base (AV.int k n)=AV.cellOut base (.int k n):=rfl
theorem partOut_str {base:Nat} {l:List UInt8} : AV.partOut base (AV.str l)=AV.cellOut base (.str l):=rfl
theorem partOut_any {base:Nat} : AV.partOut base AV.any=AV.cellOut base .any:=rfl
theorem partOut_nilptr {base:Nat} : AV.partOut base AV.nilptr=AV.cellOut base .nilptr:=rfl
theorem partOut_nilmap {base:Nat} : AV.partOut base AV.nilmap=AV.cellOut base .nilmap:=rfl
theorem partOut_fmap {kz:Nat} {ka va:Bool} {es:List (List AV)} {base:Nat} : AV.partOut base (AV.fmap kz ka va es)=AV.cellOut base (.fmap kz ka va es):=rfl
theorem partOut_nilfunc {base:Nat} : AV.partOut base AV.nilfunc=AV.cellOut base .nilfunc:=rfl
theorem partOut_niliface {base:Nat} : AV.partOut base AV.niliface=AV.cellOut base .niliface:=rfl
theorem partOut_slice {base:Nat} {e:List (List AV)} {own:Bool} : AV.partOut base (AV.slice e own)=AV.cellOut base (.slice e own):=rfl
theorem partOut_eptr {base:Nat} {cs:List AV} : AV.partOut base (AV.eptr cs)=AV.cellOut base (.eptr cs):=rfl
theorem partOut_ref {base:Nat} {loc off:Nat} : AV.partOut base (AV.ref loc off)=AV.cellOut base (.ref loc off):=rfl
theorem partOut_sref {base:Nat} {loc off n z:Nat} : AV.partOut base (AV.sref loc off n z)=AV.cellOut base (.sref loc off n z):=rfl
theorem partOut_mref {base:Nat} {loc:Nat} : AV.partOut base (AV.mref loc)=AV.cellOut base (.mref loc):=rfl
theorem partOut_lbox {base:Nat} {g:Nat} {cs:List AV} : AV.partOut base (AV.lbox g cs)=AV.cellOut base (.lbox g cs):=rfl
theorem partOut_lref {base:Nat} {s g off:Nat} : AV.partOut base (AV.lref s g off)=AV.cellOut base (.lref s g off):=rfl
theorem partOut_lsl {base:Nat} {g:Nat} {e:List (List AV)} : AV.partOut base (AV.lsl g e)=AV.cellOut base (.lsl g e):=rfl
theorem partOut_lsr {base:Nat} {s g:Nat} : AV.partOut base (AV.lsr s g)=AV.cellOut base (.lsr s g):=rfl
theorem partOut_eref {base:Nat} {s g i z off:Nat} : AV.partOut base (AV.eref s g i z off)=AV.cellOut base (.eref s g i z off):=rfl
theorem partOut_func {base:Nat} {f:Fn} {fs cs:List AV} : AV.partOut base (AV.func f fs cs)=AV.cellOut base (.func f fs cs):=rfl
theorem partOut_iface {base:Nat} {t:TypeId} {v:AV} : AV.partOut base (AV.iface t v)=AV.cellOut base (.iface t v):=rfl
theorem partOut_agg {base:Nat} {cs:List AV} : AV.partOut base (AV.agg cs)=cs.all (AV.cellOut base):=rfl
theorem partOut_tuple {base:Nat} {vs:List AV} : AV.partOut base (AV.tuple vs)=AV.cellOut base (.tuple vs):=rfl
theorem leaves_bool {base:Nat} {b:Bool} : AV.leaves base (AV.bool b)=AV.partOut base (.bool b):=rfl
theorem leaves_int {base:Nat} {k:IntKind} {n:Int} : AV.leaves base (AV.int k n)=AV.partOut base (.int k n):=rfl
theorem leaves_str {base:Nat} {l:List UInt8} : AV.leaves base (AV.str l)=AV.partOut base (.str l):=rfl
theorem leaves_any {base:Nat} : AV.leaves base AV.any=AV.partOut base .any:=rfl
theorem leaves_nilptr {base:Nat} : AV.leaves base AV.nilptr=AV.partOut base .nilptr:=rfl
theorem leaves_nilmap {base:Nat} : AV.leaves base AV.nilmap=AV.partOut base .nilmap:=rfl
theorem leaves_fmap {kz:Nat} {ka va:Bool} {es:List (List AV)} {base:Nat} : AV.leaves base (AV.fmap kz ka va es)=AV.partOut base (.fmap kz ka va es):=rfl
theorem leaves_nilfunc {base:Nat} : AV.leaves base AV.nilfunc=AV.partOut base .nilfunc:=rfl
theorem leaves_niliface {base:Nat} : AV.leaves base AV.niliface=AV.partOut base .niliface:=rfl
theorem leaves_slice {base:Nat} {e:List (List AV)} {own:Bool} : AV.leaves base (AV.slice e own)=true:=rfl
theorem leaves_eptr {base:Nat} {cs:List AV} : AV.leaves base (AV.eptr cs)=AV.partOut base (.eptr cs):=rfl
theorem leaves_ref {base:Nat} {loc off:Nat} : AV.leaves base (AV.ref loc off)=AV.partOut base (.ref loc off):=rfl
theorem leaves_sref {base:Nat} {loc off n z:Nat} : AV.leaves base (AV.sref loc off n z)=AV.partOut base (.sref loc off n z):=rfl
theorem leaves_mref {base:Nat} {loc:Nat} : AV.leaves base (AV.mref loc)=AV.partOut base (.mref loc):=rfl
theorem leaves_lbox {base:Nat} {g:Nat} {cs:List AV} : AV.leaves base (AV.lbox g cs)=AV.partOut base (.lbox g cs):=rfl
theorem leaves_lref {base:Nat} {s g off:Nat} : AV.leaves base (AV.lref s g off)=AV.partOut base (.lref s g off):=rfl
theorem leaves_lsl {base:Nat} {g:Nat} {e:List (List AV)} : AV.leaves base (AV.lsl g e)=AV.partOut base (.lsl g e):=rfl
theorem leaves_lsr {base:Nat} {s g:Nat} : AV.leaves base (AV.lsr s g)=AV.partOut base (.lsr s g):=rfl
theorem leaves_eref {base:Nat} {s g i z off:Nat} : AV.leaves base (AV.eref s g i z off)=AV.partOut base (.eref s g i z off):=rfl
theorem leaves_func {base:Nat} {f:Fn} {fs cs:List AV} : AV.leaves base (AV.func f fs cs)=(fs.all (AV.cellOut base)&&cs.all (AV.cellOut base)):=rfl
theorem leaves_iface {base:Nat} {t:TypeId} {v:AV} : AV.leaves base (AV.iface t v)=v.cellOut base:=rfl
theorem leaves_agg {base:Nat} {cs:List AV} : AV.leaves base (AV.agg cs)=AV.partOut base (.agg cs):=rfl
theorem leaves_tuple {base:Nat} {vs:List AV} : AV.leaves base (AV.tuple vs)=vs.all (AV.partOut base):=rfl
theorem addrV_bool {s:Nat} {b:Bool} : addrV s (AV.bool b)=(.bool b):=rfl
theorem addrV_int {s:Nat} {k:IntKind} {n:Int} : addrV s (AV.int k n)=(.int k n):=rfl
theorem addrV_str {s:Nat} {l:List UInt8} : addrV s (AV.str l)=(.str l):=rfl
theorem addrV_any {s:Nat} : addrV s AV.any=.any:=rfl
theorem addrV_nilptr {s:Nat} : addrV s AV.nilptr=.nilptr:=rfl
theorem addrV_nilmap {s:Nat} : addrV s AV.nilmap=.nilmap:=rfl
theorem addrV_fmap {kz:Nat} {ka va:Bool} {es:List (List AV)} {s:Nat} : addrV s (AV.fmap kz ka va es)=(.fmap kz ka va es):=rfl
theorem addrV_nilfunc {s:Nat} : addrV s AV.nilfunc=.nilfunc:=rfl
theorem addrV_niliface {s:Nat} : addrV s AV.niliface=.niliface:=rfl
theorem addrV_slice {s:Nat} {e:List (List AV)} {own:Bool} : addrV s (AV.slice e own)=(.slice e own):=rfl
theorem addrV_eptr {s:Nat} {cs:List AV} : addrV s (AV.eptr cs)=(.eptr cs):=rfl
theorem addrV_ref {s:Nat} {loc off:Nat} : addrV s (AV.ref loc off)=(.ref loc off):=rfl
theorem addrV_sref {s:Nat} {loc off n z:Nat} : addrV s (AV.sref loc off n z)=(.sref loc off n z):=rfl
theorem addrV_mref {s:Nat} {loc:Nat} : addrV s (AV.mref loc)=(.mref loc):=rfl
theorem addrV_lbox {s:Nat} {g:Nat} {cs:List AV} : addrV s (AV.lbox g cs)=.lref s g 0:=rfl
theorem addrV_lref {s:Nat} {r g off:Nat} : addrV s (AV.lref r g off)=(.lref r g off):=rfl
theorem addrV_lsl {s:Nat} {g:Nat} {e:List (List AV)} : addrV s (AV.lsl g e)=.lsr s g:=rfl
theorem addrV_lsr {s:Nat} {r g:Nat} : addrV s (AV.lsr r g)=(.lsr r g):=rfl
theorem addrV_eref {s:Nat} {r g i z off:Nat} : addrV s (AV.eref r g i z off)=(.eref r g i z off):=rfl
theorem addrV_func {s:Nat} {f:Fn} {fs cs:List AV} : addrV s (AV.func f fs cs)=(.func f fs cs):=rfl
theorem addrV_iface {s:Nat} {t:TypeId} {v:AV} : addrV s (AV.iface t v)=(.iface t v):=rfl
theorem addrV_agg {s:Nat} {cs:List AV} : addrV s (AV.agg cs)=(.agg cs):=rfl
theorem addrV_tuple {s:Nat} {vs:List AV} : addrV s (AV.tuple vs)=(.tuple vs):=rfl
end
def stepO (A:AP) (d:Bool) (o:Option AV) (t:Nat) (os:List IOper) (T:AFrame) (H:AHeap) (lo gen:Nat) (K:AS→Prop):Prop :=
 bindW (o.bind fun z=>cond (d&&(genOf z).isSome) none (some z)) fun z=>WO A d os ⟨T.put t z,H,lo,gen⟩ K
def movK (A:AP) (d take obj:Bool) (i:Nat) (v:AV) (t:Nat) (os:List IOper) (T:AFrame) (H:AHeap) (lo gen:Nat) (K:AS→Prop):Prop :=
 bindW (match v with
  | .lbox g _=>some (AV.lref i g 0,(⟨T,H,lo,gen⟩:AS))
  | .lsl g e=>cond take (cond d none (cond obj (some (.lsl gen e,⟨T.put i .any,H,lo,gen+1⟩)) (cond (noByte e) (some (.slice e true,⟨T.put i .any,H,lo,gen⟩)) none))) (some (.lsr i g,⟨T,H,lo,gen⟩))
  | .slice e own=>cond (take&&own) (cond d none (some (.slice e true,⟨T.put i (.slice e false),H,lo,gen⟩))) (some (.slice e false,⟨T,H,lo,gen⟩))
  | .iter ..=>none
  | v=>some (v,⟨T,H,lo,gen⟩)) fun r=>WO A d os (r.2.setT t r.1) K
def guardK (A:AP) (d:Bool) (v:AV) (w:Bool) (t:Nat) (op:IOp) (os:List IOper) (T:AFrame) (H:AHeap) (lo gen:Nat) (K:AS→Prop):Prop :=
 bindW (match v with|.bool b=>some (b==w)|.tuple []=>some false|_=>none) fun b =>
  (b=true→WO A d (⟨some t,none,op⟩ :: os) ⟨T,H,lo,gen⟩ K)∧(b=false→WO A d os ⟨T.put t .undef,H,lo,gen⟩ K)
def callK (A:AP) (d:Bool) (r:Option (AV × Option Chg)) (t:Nat) (os:List IOper) (T:AFrame) (H:AHeap) (lo gen:Nat) (K:AS→Prop):Prop :=
 bindW (r.bind fun r=>match r.2 with
  | none=>cond (d&&(genOf r.1).isSome) none (some (r.1,(⟨T,H,lo,gen⟩:AS)))
  | some c=>cond d none (some (r.1,AS.chg ⟨T,H,lo,gen⟩ c))) fun r=>WO A d os (r.2.setT t r.1) K
def argsV (G:Nat→List AV) (T:AFrame):List IArg→List AV
 | []=>[]
 | a :: r=>(a.addr G T).dropAll :: argsV G T r
def argsOK (G:Nat→List AV) (T:AFrame):List IArg→Bool
 | []=>true
 | a :: r=>frameCell (a.addr G T)&&argsOK G T r
theorem argsV_eq {G:Nat→List AV} {T:AFrame} : ∀ l:List IArg,l.map (fun a=>(a.addr G T).dropAll)=argsV G T l
 | []=>rfl
 | a :: r=>by simp[argsV,argsV_eq r]
theorem argsOK_eq {G:Nat→List AV} {T:AFrame} : ∀ l:List IArg,(l.map fun a=>a.addr G T).all frameCell=argsOK G T l
 | []=>rfl
 | a :: r=>by simp only[List.map_cons,List.all_cons,argsOK,argsOK_eq r]
def partsV (G:Nat→List AV) (T:AFrame):List (Nat × Nat × IArg)→List (Nat × Nat × AV)
 | []=>[]
 | (o,z,a) :: r=>(o,z,(a.eval G T).drop) :: partsV G T r
theorem partsV_eq {G:Nat→List AV} {T:AFrame} : ∀ l:List (Nat × Nat × IArg),l.map (fun p=>(p.1,p.2.1,(p.2.2.eval G T).drop))=partsV G T l
 | []=>rfl
 | a :: r=>by simp[partsV,partsV_eq r]
def elemsV (G:Nat→List AV) (T:AFrame):List (Nat × IArg)→List (Nat × AV)
 | []=>[]
 | (i,a) :: r=>(i,(a.eval G T).drop) :: elemsV G T r
theorem elemsV_eq {G:Nat→List AV} {T:AFrame} : ∀ l:List (Nat × IArg),l.map (fun p=>(p.1,(p.2.eval G T).drop))=elemsV G T l
 | []=>rfl
 | a :: r=>by simp[elemsV,elemsV_eq r]
def optV (G:Nat→List AV) (T:AFrame):Option IArg→Option AV
 | none=>none
 | some a=>some (a.eval G T)
def pickV (c a b:AV):Option AV:=match c with
 | .bool t=>some (cond t a.drop b.drop)
 | _=>none
def mkslV (b:Bool) (o:Option (List (List AV))):Option AV:=o.bind fun E=>cond (rowsOK b E) (some (.slice E true)) none
def boxCells (o:Option AObj) (agg:Bool) (sz off:Nat):Option AV:=match o with
 | some (.box _ cs)=>loadCellsAV false agg sz off cs
 | some (.fbox cs)=>loadCellsAV false agg sz off cs
 | some (.obox cs)=>loadCellsAV false agg sz off cs
 | _=>none
def lboxCells (v:AV) (g:Nat) (agg:Bool) (sz off:Nat):Option AV:=match v with
 | .lbox g' cs=>cond (Nat.beq g g') (loadCellsAV false agg sz off cs) none
 | _=>none
def rowCells (o:Option (List AV)) (z:Nat) (agg:Bool) (sz off:Nat):Option AV:=o.bind fun r=>cond (Nat.beq r.length z) (loadCellsAV false agg sz off r) none
def lslCells (v:AV) (g i z:Nat) (agg:Bool) (sz off:Nat):Option AV:=match v with
 | .lsl g' e=>cond (Nat.beq g g') (rowCells (e[i]?) z agg sz off) none
 | _=>none
def loadV (T:AFrame) (H:AHeap) (agg:Bool) (sz:Nat) (x:AV):Option AV:=match x with
 | .eptr cs=>loadCellsAV false agg sz 0 cs
 | .ref loc off=>boxCells H[loc]? agg sz off
 | .lref b g off=>lboxCells (T b) g agg sz off
 | .eref b g i z off=>lslCells (T b) g i z agg sz off
 | _=>none
def lboxLive (v:AV) (g:Nat) (r:AV):Option AV:=match v with
 | .lbox g' _=>cond (Nat.beq g g') (some r) none
 | _=>none
def lslLive (v:AV) (g i:Nat) (r:AV):Option AV:=match v with
 | .lsl g' e=>cond (Nat.beq g g'&&Nat.blt i e.length) (some r) none
 | _=>none
def faV (T:AFrame) (off:Nat) (x:AV):Option AV:=match x with
 | .ref l o=>some (.ref l (o+off))
 | .eptr cs=>some (.eptr (cs.drop off))
 | .lref b g o=>lboxLive (T b) g (.lref b g (o+off))
 | .eref b g i z o=>lslLive (T b) g i (.eref b g i z (o+off))
 | _=>none
def fieldV (x:AV) (agg:Bool) (sz off:Nat):Option AV:=match x with
 | .agg cs=>loadCellsAV false agg sz off cs
 | _=>none
def rowV (sz:Nat) (r:Option (List AV)) (f:List AV→AV):Option AV:=r.bind fun r=>cond (Nat.beq r.length sz) (some (f r)) none
def ixV (T:AFrame) (sz:Nat) (x:AV) (n:Option Nat):Option AV:=match x with
 | .slice e _=>n.bind fun n=>rowV sz (e[n]?) .eptr
 | .sref l o m _=>n.bind fun n=>cond (Nat.blt n m) (some (.ref l (o+n*sz))) none
 | .lsr t g=>match T t with
  | .lsl g' e=>cond (Nat.beq g g') (n.bind fun n=>rowV sz (e[n]?) fun _=>.eref t g n sz 0) none
  | _=>none
 | _=>none
def indexV (agg:Bool) (n sz:Nat) (x:AV) (i:Option Nat):Option AV:=match x with
 | .agg cs=>i.bind fun k=>cond (Nat.blt k n) (loadCellsAV false agg sz (k*sz) cs) none
 | _=>none
def byteAt (o:Option UInt8):Option AV:=o.map fun (b:UInt8)=>AV.int .u8 b.toNat
def byteV (x:AV) (i:Option Nat):Option AV:=match x with
 | .str l=>i.bind fun n=>byteAt (l[n]?)
 | _=>none
def extrV (x:AV) (i:Nat):Option AV:=match x with
 | .tuple vs=>(vs[i]?).map AV.dropAll
 | _=>none
def lenV (T:AFrame) (k:LenKind) (x:AV):Option AV:=match x with
 | .lsr t g=>match T t with
  | .lsl g' e=>cond (Nat.beq g g') (lenAV k (.slice e false)) none
  | _=>none
 | v=>lenAV k v
def callN (A:AP) (d:Bool) (r:Option (AV × Option Chg)) (os:List IOper) (T:AFrame) (H:AHeap) (lo gen:Nat) (K:AS→Prop):Prop :=
 bindW (r.bind fun r=>match r.2 with
  | none=>cond (d&&(genOf r.1).isSome) none (some (⟨T,H,lo,gen⟩:AS))
  | some c=>cond d none (some (AS.chg ⟨T,H,lo,gen⟩ c))) fun s=>WO A d os s K
def callF (A:AP) (d:Bool) (f:AV) (vs:List AV) (t:Nat) (os:List IOper) (T:AFrame) (H:AHeap) (lo gen:Nat) (K:AS→Prop):Prop:=match f with
 | .func (.func n) fs cs=>callK A d (callD A n (fs++vs++cs) H) t os T H lo gen K
 | _=>False
def appK (A:AP) (b:Bool) (sz bytes i:Nat) (x y:AV) (t:Nat) (os:List IOper) (T:AFrame) (H:AHeap) (lo gen:Nat) (K:AS→Prop):Prop:=match x with
 | .slice e own=>bindW (appendAV b sz bytes (.slice e own) y) fun z=>WO A false os ⟨(T.put i (.slice e false)).put t z,H,lo,gen⟩ K
 | .nilsl=>bindW (appendAV b sz bytes (.slice [] true) y) fun z=>WO A false os ⟨T.put t z,H,lo,gen⟩ K
 | _=>False
section
variable {A:AP} {T:AFrame} {H:AHeap} {lo gen:Nat} {K:AS→Prop} {d:Bool} {os:List IOper} {t:Nat}
theorem stepO_some {z:AV} (h:genOf z=none):stepO A d (some z) t os T H lo gen K=WO A d os ⟨T.put t z,H,lo,gen⟩ K:=by
 simp[stepO,h,bindW_some]
theorem so_bool {b:Bool} : stepO A d (some (AV.bool b)) t os T H lo gen K=WO A d os ⟨T.put t (AV.bool b),H,lo,gen⟩ K:=stepO_some rfl
theorem so_int {k:IntKind} {n:Int} : stepO A d (some (AV.int k n)) t os T H lo gen K=WO A d os ⟨T.put t (AV.int k n),H,lo,gen⟩ K:=stepO_some rfl
theorem so_str {l:List UInt8} : stepO A d (some (AV.str l)) t os T H lo gen K=WO A d os ⟨T.put t (AV.str l),H,lo,gen⟩ K:=stepO_some rfl
theorem so_any:stepO A d (some AV.any) t os T H lo gen K=WO A d os ⟨T.put t AV.any,H,lo,gen⟩ K:=stepO_some rfl
theorem so_nilptr:stepO A d (some AV.nilptr) t os T H lo gen K=WO A d os ⟨T.put t AV.nilptr,H,lo,gen⟩ K:=stepO_some rfl
theorem so_nilmap:stepO A d (some AV.nilmap) t os T H lo gen K=WO A d os ⟨T.put t AV.nilmap,H,lo,gen⟩ K:=stepO_some rfl
theorem so_fmap {kz:Nat} {ka va:Bool} {es:List (List AV)} : stepO A d (some (AV.fmap kz ka va es)) t os T H lo gen K=WO A d os ⟨T.put t (AV.fmap kz ka va es),H,lo,gen⟩ K:=stepO_some rfl
theorem so_nilfunc:stepO A d (some AV.nilfunc) t os T H lo gen K=WO A d os ⟨T.put t AV.nilfunc,H,lo,gen⟩ K:=stepO_some rfl
theorem so_niliface:stepO A d (some AV.niliface) t os T H lo gen K=WO A d os ⟨T.put t AV.niliface,H,lo,gen⟩ K:=stepO_some rfl
theorem so_slice {e:List (List AV)} {own:Bool} : stepO A d (some (AV.slice e own)) t os T H lo gen K=WO A d os ⟨T.put t (AV.slice e own),H,lo,gen⟩ K:=stepO_some rfl
theorem so_eptr {cs:List AV} : stepO A d (some (AV.eptr cs)) t os T H lo gen K=WO A d os ⟨T.put t (AV.eptr cs),H,lo,gen⟩ K:=stepO_some rfl
theorem so_ref {loc off:Nat} : stepO A d (some (AV.ref loc off)) t os T H lo gen K=WO A d os ⟨T.put t (AV.ref loc off),H,lo,gen⟩ K:=stepO_some rfl
theorem so_sref {loc off n z:Nat} : stepO A d (some (AV.sref loc off n z)) t os T H lo gen K=WO A d os ⟨T.put t (AV.sref loc off n z),H,lo,gen⟩ K:=stepO_some rfl
theorem so_mref {loc:Nat} : stepO A d (some (AV.mref loc)) t os T H lo gen K=WO A d os ⟨T.put t (AV.mref loc),H,lo,gen⟩ K:=stepO_some rfl
theorem so_lref {r g off:Nat} : stepO A d (some (AV.lref r g off)) t os T H lo gen K=WO A d os ⟨T.put t (AV.lref r g off),H,lo,gen⟩ K:=stepO_some rfl
theorem so_lsr {r g:Nat} : stepO A d (some (AV.lsr r g)) t os T H lo gen K=WO A d os ⟨T.put t (AV.lsr r g),H,lo,gen⟩ K:=stepO_some rfl
theorem so_eref {r g i z off:Nat} : stepO A d (some (AV.eref r g i z off)) t os T H lo gen K=WO A d os ⟨T.put t (AV.eref r g i z off),H,lo,gen⟩ K:=stepO_some rfl
theorem so_func {fn:Fn} {fs cs:List AV} : stepO A d (some (AV.func fn fs cs)) t os T H lo gen K=WO A d os ⟨T.put t (AV.func fn fs cs),H,lo,gen⟩ K:=stepO_some rfl
theorem so_iface {u:TypeId} {v:AV} : stepO A d (some (AV.iface u v)) t os T H lo gen K=WO A d os ⟨T.put t (AV.iface u v),H,lo,gen⟩ K:=stepO_some rfl
theorem so_agg {cs:List AV} : stepO A d (some (AV.agg cs)) t os T H lo gen K=WO A d os ⟨T.put t (AV.agg cs),H,lo,gen⟩ K:=stepO_some rfl
theorem so_tuple {vs:List AV} : stepO A d (some (AV.tuple vs)) t os T H lo gen K=WO A d os ⟨T.put t (AV.tuple vs),H,lo,gen⟩ K:=stepO_some rfl
theorem so_of {o:Option AV} (z:AV) (h:o=some z) (hg:genOf z=none) (hK:WO A d os ⟨T.put t z,H,lo,gen⟩ K):stepO A d o t os T H lo gen K:=by
 rw[h,stepO_some hg];exact hK
theorem pure_op {op:IOp} {o:Option AV} (h:evOp A.glob (callD A) ⟨T,H,lo,gen⟩ op=o.map (·,none)):WO A d (⟨some t,none,op⟩ :: os) ⟨T,H,lo,gen⟩ K=stepO A d o t os T H lo gen K:=by
 rw[WO_cons]
 cases o with
 | none=>simp[stepO,evOper,h,bindW]
 | some z =>
  simp only[stepO,evOper,h,Option.map_some,Option.bind_some]
  cases hb:(d&&(genOf z).isSome) with
  | true=>simp[bindW]
  | false=>simp only[cond_false,bindW_some];rfl
section
variable {take obj:Bool} {i:Nat}
theorem mk_bool {b:Bool} : movK A d take obj i (AV.bool b) t os T H lo gen K=WO A d os ⟨T.put t (AV.bool b),H,lo,gen⟩ K:=bindW_some
theorem mk_int {k:IntKind} {n:Int} : movK A d take obj i (AV.int k n) t os T H lo gen K=WO A d os ⟨T.put t (AV.int k n),H,lo,gen⟩ K:=bindW_some
theorem mk_str {l:List UInt8} : movK A d take obj i (AV.str l) t os T H lo gen K=WO A d os ⟨T.put t (AV.str l),H,lo,gen⟩ K:=bindW_some
theorem mk_any:movK A d take obj i AV.any t os T H lo gen K=WO A d os ⟨T.put t AV.any,H,lo,gen⟩ K:=bindW_some
theorem mk_nilptr:movK A d take obj i AV.nilptr t os T H lo gen K=WO A d os ⟨T.put t AV.nilptr,H,lo,gen⟩ K:=bindW_some
theorem mk_nilmap:movK A d take obj i AV.nilmap t os T H lo gen K=WO A d os ⟨T.put t AV.nilmap,H,lo,gen⟩ K:=bindW_some
theorem mk_fmap {kz:Nat} {ka va:Bool} {es:List (List AV)} : movK A d take obj i (AV.fmap kz ka va es) t os T H lo gen K=WO A d os ⟨T.put t (AV.fmap kz ka va es),H,lo,gen⟩ K:=bindW_some
theorem mk_nilfunc:movK A d take obj i AV.nilfunc t os T H lo gen K=WO A d os ⟨T.put t AV.nilfunc,H,lo,gen⟩ K:=bindW_some
theorem mk_niliface:movK A d take obj i AV.niliface t os T H lo gen K=WO A d os ⟨T.put t AV.niliface,H,lo,gen⟩ K:=bindW_some
theorem mk_eptr {cs:List AV} : movK A d take obj i (AV.eptr cs) t os T H lo gen K=WO A d os ⟨T.put t (AV.eptr cs),H,lo,gen⟩ K:=bindW_some
theorem mk_ref {loc off:Nat} : movK A d take obj i (AV.ref loc off) t os T H lo gen K=WO A d os ⟨T.put t (AV.ref loc off),H,lo,gen⟩ K:=bindW_some
theorem mk_sref {loc off n z:Nat} : movK A d take obj i (AV.sref loc off n z) t os T H lo gen K=WO A d os ⟨T.put t (AV.sref loc off n z),H,lo,gen⟩ K:=bindW_some
theorem mk_mref {loc:Nat} : movK A d take obj i (AV.mref loc) t os T H lo gen K=WO A d os ⟨T.put t (AV.mref loc),H,lo,gen⟩ K:=bindW_some
theorem mk_lbox {g:Nat} {cs:List AV} : movK A d take obj i (AV.lbox g cs) t os T H lo gen K=WO A d os ⟨T.put t (AV.lref i g 0),H,lo,gen⟩ K:=bindW_some
theorem mk_lref {r g off:Nat} : movK A d take obj i (AV.lref r g off) t os T H lo gen K=WO A d os ⟨T.put t (AV.lref r g off),H,lo,gen⟩ K:=bindW_some
theorem mk_lsr {r g:Nat} : movK A d take obj i (AV.lsr r g) t os T H lo gen K=WO A d os ⟨T.put t (AV.lsr r g),H,lo,gen⟩ K:=bindW_some
theorem mk_eref {r g j z off:Nat} : movK A d take obj i (AV.eref r g j z off) t os T H lo gen K=WO A d os ⟨T.put t (AV.eref r g j z off),H,lo,gen⟩ K:=bindW_some
theorem mk_func {fn:Fn} {fs cs:List AV} : movK A d take obj i (AV.func fn fs cs) t os T H lo gen K=WO A d os ⟨T.put t (AV.func fn fs cs),H,lo,gen⟩ K:=bindW_some
theorem mk_iface {u:TypeId} {v:AV} : movK A d take obj i (AV.iface u v) t os T H lo gen K=WO A d os ⟨T.put t (AV.iface u v),H,lo,gen⟩ K:=bindW_some
theorem mk_agg {cs:List AV} : movK A d take obj i (AV.agg cs) t os T H lo gen K=WO A d os ⟨T.put t (AV.agg cs),H,lo,gen⟩ K:=bindW_some
theorem mk_tuple {vs:List AV} : movK A d take obj i (AV.tuple vs) t os T H lo gen K=WO A d os ⟨T.put t (AV.tuple vs),H,lo,gen⟩ K:=bindW_some
theorem mk_slf {e:List (List AV)} : movK A d take obj i (.slice e false) t os T H lo gen K=WO A d os ⟨T.put t (.slice e false),H,lo,gen⟩ K:=by
 simp[movK,bindW_some,AS.setT]
theorem mk_slt {e:List (List AV)} : movK A false true obj i (.slice e true) t os T H lo gen K=WO A false os ⟨(T.put i (.slice e false)).put t (.slice e true),H,lo,gen⟩ K:=by
 simp[movK,bindW_some,AS.setT]
theorem mk_sl0 {e:List (List AV)} {own:Bool} : movK A d false obj i (.slice e own) t os T H lo gen K=WO A d os ⟨T.put t (.slice e false),H,lo,gen⟩ K:=by
 simp[movK,bindW_some,AS.setT]
theorem mk_lsl0 {g:Nat} {e:List (List AV)} : movK A d false obj i (.lsl g e) t os T H lo gen K=WO A d os ⟨T.put t (.lsr i g),H,lo,gen⟩ K:=by
 simp[movK,bindW_some,AS.setT]
theorem mk_lslz {g:Nat} {e:List (List AV)} (hn:noByte e=true):movK A false true false i (.lsl g e) t os T H lo gen K=WO A false os ⟨(T.put i .any).put t (.slice e true),H,lo,gen⟩ K:=by
 simp[movK,bindW_some,AS.setT,hn]
theorem mk_lslt {g:Nat} {e:List (List AV)} : movK A false true true i (.lsl g e) t os T H lo gen K=WO A false os ⟨(T.put i .any).put t (.lsl gen e),H,lo,gen+1⟩ K:=by
 simp[movK,bindW_some,AS.setT]
end
theorem r_mov {take obj:Bool} {i:Nat} : WO A d (⟨some t,none,.mov take obj (.tmp i)⟩ :: os) ⟨T,H,lo,gen⟩ K=movK A d take obj i (T i) t os T H lo gen K:=by
 rw[WO_cons]
 simp only[movK,evOper,evOp,evMov]
 cases hT:T i with
 | slice e own=>cases take<;>cases own<;>cases d<;>simp[bindW,AS.putD,AS.setT,genOf]
 | lbox g cs=>simp[bindW,AS.putD,AS.setT,genOf]
 | lsl g e=>cases take<;>cases obj<;>cases d<;>cases hn:noByte e<;>simp[bindW,AS.putD,AS.setT,genOf,hn]
 | _=>simp[bindW,AS.putD,AS.setT,genOf]
theorem r_movc {take obj:Bool} {v:AV} : WO A d (⟨some t,none,.mov take obj (.con v)⟩ :: os) ⟨T,H,lo,gen⟩ K=stepO A d (some v) t os T H lo gen K:=pure_op rfl
theorem r_movg {take obj:Bool} {g:Nat} : WO A d (⟨some t,none,.mov take obj (.glob g)⟩ :: os) ⟨T,H,lo,gen⟩ K=stepO A d (some (.eptr (A.glob g))) t os T H lo gen K:=pure_op rfl
theorem r_movf {take obj:Bool} {f:FuncId} : WO A d (⟨some t,none,.mov take obj (.fn f)⟩ :: os) ⟨T,H,lo,gen⟩ K=stepO A d (some (.func (.func f) [] [])) t os T H lo gen K:=pure_op rfl
theorem r_guard {g:Nat} {w:Bool} {op:IOp} : WO A d (⟨some t,some (g,w),op⟩ :: os) ⟨T,H,lo,gen⟩ K=guardK A d (T g) w t op os T H lo gen K:=by
 rw[WO_cons]
 simp only[guardK,WO_cons]
 unfold evOper
 simp only
 cases hT:T g with
 | bool b =>
  cases hb:(b==w) with
  | true=>simp only[hb,bindW_some,cond_true,forall_const,Bool.true_eq_false,false_implies,and_true,eq_self]
  | false=>simp only[hb,bindW_some,cond_false,forall_const,Bool.false_eq_true,false_implies,true_and,eq_self,AS.putD,AS.setT]
 | tuple l =>
  cases l with
  | nil=>simp only[bindW_some,forall_const,Bool.false_eq_true,false_implies,true_and,eq_self,AS.putD,AS.setT]
  | cons a l=>simp[bindW]
 | _=>simp[bindW]
theorem r_gtt {op:IOp} : guardK A d (.bool true) true t op os T H lo gen K=WO A d (⟨some t,none,op⟩ :: os) ⟨T,H,lo,gen⟩ K:=by simp[guardK,bindW_some]
theorem r_gff {op:IOp} : guardK A d (.bool false) false t op os T H lo gen K=WO A d (⟨some t,none,op⟩ :: os) ⟨T,H,lo,gen⟩ K:=by simp[guardK,bindW_some]
theorem r_gtf {op:IOp} : guardK A d (.bool true) false t op os T H lo gen K=WO A d os ⟨T.put t .undef,H,lo,gen⟩ K:=by simp[guardK,bindW_some]
theorem r_gft {op:IOp} : guardK A d (.bool false) true t op os T H lo gen K=WO A d os ⟨T.put t .undef,H,lo,gen⟩ K:=by simp[guardK,bindW_some]
theorem r_gun {op:IOp} {w:Bool} : guardK A d (.tuple []) w t op os T H lo gen K=WO A d os ⟨T.put t .undef,H,lo,gen⟩ K:=by simp[guardK,bindW_some]
theorem r_pick {c a b:IArg} : WO A d (⟨some t,none,.pick c a b⟩ :: os) ⟨T,H,lo,gen⟩ K=stepO A d (pickV (c.eval A.glob T) (a.addr A.glob T) (b.addr A.glob T)) t os T H lo gen K:=by
 refine pure_op ?_
 simp only[evOp,pickV]
 cases c.eval A.glob T<;>rfl
theorem r_pickt {x y:AV} : pickV (.bool true) x y=some x.drop:=rfl
theorem r_pickf {x y:AV} : pickV (.bool false) x y=some y.drop:=rfl
theorem r_allocL {z:List AV} : WO A false (⟨some t,none,.allocL z⟩ :: os) ⟨T,H,lo,gen⟩ K=WO A false os ⟨T.put t (.lbox gen z),H,lo,gen+1⟩ K:=by
 rw[WO_cons];simp only[evOper,evOp,Option.bind_some,cond_false,bindW_some];rfl
theorem r_allocH {ty:TypeId} {z:List AV} : WO A false (⟨some t,none,.allocH ty z⟩ :: os) ⟨T,H,lo,gen⟩ K=WO A false os ⟨T.put t (.ref H.length 0),H++[.box ty z],cond (Nat.blt H.length lo) H.length lo,gen⟩ K:=by
 rw[WO_cons];simp only[evOper,evOp,Option.bind_some,cond_false,bindW_some];rfl
theorem r_build {z:List AV} {ps:List (Nat × Nat × IArg)} : WO A d (⟨some t,none,.build z ps⟩ :: os) ⟨T,H,lo,gen⟩ K=stepO A d ((buildParts z (partsV A.glob T ps)).map .agg) t os T H lo gen K:=by
 refine pure_op ?_
 simp only[evOp,partsV_eq,Option.map_map];rfl
theorem r_mkslice {b:Bool} {sz:Nat} {z:List (List AV)} {ps:List (Nat × IArg)} : WO A d (⟨some t,none,.mkslice b sz z ps⟩ :: os) ⟨T,H,lo,gen⟩ K=stepO A d (mkslV b (sliceParts sz z (elemsV A.glob T ps))) t os T H lo gen K:=by
 refine pure_op ?_
 simp only[evOp,elemsV_eq,mkslV]
 cases sliceParts sz z (elemsV A.glob T ps) with
 | none=>rfl
 | some E=>simp only[Option.bind_some];cases rowsOK b E<;>rfl
theorem r_mk {b:Bool} {E:List (List AV)} : mkslV b (some E)=cond (rowsOK b E) (some (.slice E true)) none:=rfl
theorem r_load0 {agg:Bool} {sz:Nat} {x:IArg} : WO A d (⟨some t,none,.load false agg sz x⟩ :: os) ⟨T,H,lo,gen⟩ K=stepO A d (loadV T H agg sz (x.addr A.glob T)) t os T H lo gen K:=by
 refine pure_op ?_
 simp only[evOp,loadAV,loadV,Bool.false_and,cond_false]
 cases x.addr A.glob T with
 | ref loc off=>cases hl:H[loc]? with
  | none=>simp only[hl,boxCells];rfl
  | some o=>cases o<;>simp only[hl,boxCells]<;>rfl
 | lref b g off =>
  cases hb:T b with
  | lbox g' cs=>simp only[hb,lboxCells];cases Nat.beq g g'<;>rfl
  | _=>simp only[hb,lboxCells];rfl
 | eref b g i z off =>
  cases hb:T b with
  | lsl g' e =>
   simp only[hb,lslCells,rowCells]
   cases Nat.beq g g' with
   | false=>rfl
   | true =>
    simp only[cond_true]
    cases e[i]? with
    | none=>rfl
    | some r=>simp only[Option.bind_some];cases Nat.beq r.length z<;>rfl
  | _=>simp only[hb,lslCells];rfl
 | _=>rfl
theorem r_loadX {agg:Bool} {sz b g i z off:Nat} : loadV T H agg sz (.eref b g i z off)=lslCells (T b) g i z agg sz off:=rfl
theorem r_lslC {g g' i z:Nat} {e:List (List AV)} {agg:Bool} {sz off:Nat} : lslCells (.lsl g e) g' i z agg sz off=cond (Nat.beq g' g) (rowCells (e[i]?) z agg sz off) none:=rfl
theorem r_rowC {r:List AV} {z:Nat} {agg:Bool} {sz off:Nat} : rowCells (some r) z agg sz off=cond (Nat.beq r.length z) (loadCellsAV false agg sz off r) none:=rfl
theorem r_loadE {agg:Bool} {sz:Nat} {cs:List AV} : loadV T H agg sz (.eptr cs)=loadCellsAV false agg sz 0 cs:=rfl
theorem r_loadR {agg:Bool} {sz loc off:Nat} : loadV T H agg sz (.ref loc off)=boxCells H[loc]? agg sz off:=rfl
theorem r_boxC {ty:TypeId} {cs:List AV} {agg:Bool} {sz off:Nat} : boxCells (some (.box ty cs)) agg sz off=loadCellsAV false agg sz off cs:=rfl
theorem r_loadL {agg:Bool} {sz b g off:Nat} : loadV T H agg sz (.lref b g off)=lboxCells (T b) g agg sz off:=rfl
theorem r_lboxC {g g' : Nat} {cs:List AV} {agg:Bool} {sz off:Nat} : lboxCells (.lbox g cs) g' agg sz off=cond (Nat.beq g' g) (loadCellsAV false agg sz off cs) none:=rfl
theorem r_cellsA {sz off:Nat} {cs:List AV} : loadCellsAV false true sz off cs=cond (Nat.ble (off+sz) cs.length) (some (.agg (((cs.drop off).take sz).map AV.drop))) none:=rfl
theorem r_cells1 {sz off:Nat} {cs:List AV} : loadCellsAV false false sz off cs=(cs[off]?).map AV.drop:=by
 simp only[loadCellsAV,cond_false]
theorem r_bin {op:BinOp} {q:EqKind} {x y:IArg} : WO A d (⟨some t,none,.bin op q x y⟩ :: os) ⟨T,H,lo,gen⟩ K=stepO A d (binAV op q (isCon x || isCon y) (x.eval A.glob T) (y.eval A.glob T)) t os T H lo gen K:=pure_op rfl
theorem r_mm {mx:Bool} {x y:IArg} : WO A d (⟨some t,none,.mm mx x y⟩ :: os) ⟨T,H,lo,gen⟩ K=stepO A d (mmAV mx (x.eval A.glob T) (y.eval A.glob T)) t os T H lo gen K:=pure_op rfl
theorem r_mmI {k j:IntKind} {mx:Bool} {a b:Int} : mmAV mx (.int k a) (.int j b)=cond (decide (k=j)) (some (.int k (cond mx (if b>a then b else a) (if b<a then b else a)))) none:=rfl
theorem r_un {op:UnOp} {x:IArg} : WO A d (⟨some t,none,.un op x⟩ :: os) ⟨T,H,lo,gen⟩ K=stepO A d (unAV op (x.eval A.glob T)) t os T H lo gen K:=pure_op rfl
theorem r_conv {c:ConvKind} {x:IArg} : WO A d (⟨some t,none,.conv c x⟩ :: os) ⟨T,H,lo,gen⟩ K=stepO A d (convAV c (x.eval A.glob T)) t os T H lo gen K:=pure_op rfl
theorem r_iface {ty:TypeId} {x:IArg} : WO A d (⟨some t,none,.mkiface ty x⟩ :: os) ⟨T,H,lo,gen⟩ K=stepO A d (mkifaceAV ty (x.eval A.glob T)) t os T H lo gen K:=pure_op rfl
theorem r_slice {k:SliceKind} {x:IArg} {l h m:Option IArg} : WO A d (⟨some t,none,.slice k x l h m⟩ :: os) ⟨T,H,lo,gen⟩ K=stepO A d (sliceAV k (x.eval A.glob T) (optV A.glob T l) (optV A.glob T h) (optV A.glob T m)) t os T H lo gen K:=by
 refine pure_op ?_
 cases l<;>cases h<;>cases m<;>rfl
theorem r_bii {op:BinOp} {q:EqKind} {c:Bool} {j k:IntKind} {a b:Int} : binAV op q c (.int j a) (.int k b)=cond (decide (j=k)) (binInt op j a b) none:=rfl
theorem r_bss {op:BinOp} {q:EqKind} {c:Bool} {a b:List UInt8} : binAV op q c (.str a) (.str b)=binStr op a b:=rfl
theorem r_bbb {op:BinOp} {c:Bool} {a b:Bool} : binAV op .bool c (.bool a) (.bool b)=nilCmp op (a==b):=rfl
theorem r_fieldAddr {off:Nat} {x:IArg} : WO A d (⟨some t,none,.fieldAddr off x⟩ :: os) ⟨T,H,lo,gen⟩ K=stepO A d (faV T off (x.addr A.glob T)) t os T H lo gen K:=by
 refine pure_op ?_
 simp only[evOp,faV]
 cases x.addr A.glob T with
 | lref b g o =>
  cases hb:T b with
  | lbox g' cs=>simp only[hb,liveAddr,offAddr,lboxLive];cases Nat.beq g g'<;>rfl
  | _=>simp only[hb,liveAddr,lboxLive];rfl
 | eref b g i z o =>
  cases hb:T b with
  | lsl g' e=>simp only[hb,liveAddr,offAddr,lslLive];cases (Nat.beq g g'&&Nat.blt i e.length)<;>rfl
  | _=>simp only[hb,liveAddr,lslLive];rfl
 | _=>rfl
theorem r_faE {off:Nat} {cs:List AV} : faV T off (.eptr cs)=some (.eptr (cs.drop off)):=rfl
theorem r_faR {off l o:Nat} : faV T off (.ref l o)=some (.ref l (o+off)):=rfl
theorem r_faL {off b g o:Nat} : faV T off (.lref b g o)=lboxLive (T b) g (.lref b g (o+off)):=rfl
theorem r_lboxLive {g g' : Nat} {cs:List AV} {r:AV} : lboxLive (.lbox g cs) g' r=cond (Nat.beq g' g) (some r) none:=rfl
theorem r_faX {off b g i z o:Nat} : faV T off (.eref b g i z o)=lslLive (T b) g i (.eref b g i z (o+off)):=rfl
theorem r_lslLive {g g' i:Nat} {e:List (List AV)} {r:AV} : lslLive (.lsl g e) g' i r=cond (Nat.beq g' g&&Nat.blt i e.length) (some r) none:=rfl
theorem r_ixArr {n sz:Nat} {x i:IArg} : WO A d (⟨some t,none,.ixArr n sz x i⟩ :: os) ⟨T,H,lo,gen⟩ K=stepO A d ((asNat (i.eval A.glob T)).bind fun k=>cond (Nat.blt k n) (faV T (k*sz) (x.addr A.glob T)) none) t os T H lo gen K:=by
 refine pure_op ?_
 simp only[evOp]
 cases asNat (i.eval A.glob T) with
 | none=>rfl
 | some k =>
  simp only[Option.bind_some]
  cases Nat.blt k n with
  | false=>rfl
  | true =>
   simp only[Bool.true_and,cond_true,faV]
   cases x.addr A.glob T with
   | lref b g o =>
    cases hb:T b with
    | lbox g' cs=>simp only[hb,liveAddr,offAddr,lboxLive];cases Nat.beq g g'<;>rfl
    | _=>simp only[hb,liveAddr,lboxLive];rfl
   | eref b g i z o =>
    cases hb:T b with
    | lsl g' e=>simp only[hb,liveAddr,offAddr,lslLive];cases (Nat.beq g g'&&Nat.blt i e.length)<;>rfl
    | _=>simp only[hb,liveAddr,lslLive];rfl
   | _=>rfl
theorem r_field {agg:Bool} {off sz:Nat} {x:IArg} : WO A d (⟨some t,none,.field agg off sz x⟩ :: os) ⟨T,H,lo,gen⟩ K=stepO A d (fieldV (x.eval A.glob T) agg sz off) t os T H lo gen K:=by
 refine pure_op ?_
 simp only[evOp,fieldV]
 cases x.eval A.glob T<;>rfl
theorem r_fieldA {agg:Bool} {off sz:Nat} {cs:List AV} : fieldV (.agg cs) agg sz off=loadCellsAV false agg sz off cs:=rfl
theorem r_ixSl {sz:Nat} {x i:IArg} : WO A d (⟨some t,none,.ixSl sz x i⟩ :: os) ⟨T,H,lo,gen⟩ K=stepO A d (ixV T sz (x.addr A.glob T) (asNat (i.eval A.glob T))) t os T H lo gen K:=by
 refine pure_op ?_
 simp only[evOp,ixV]
 cases x.addr A.glob T with
 | slice e own =>
  cases asNat (i.eval A.glob T) with
  | none=>rfl
  | some n =>
   simp only[Option.bind_some,rowV]
   cases e[n]? with
   | none=>rfl
   | some r=>simp only[Option.bind_some];cases Nat.beq r.length sz<;>rfl
 | sref l o m z =>
  cases asNat (i.eval A.glob T) with
  | none=>rfl
  | some n=>simp only[Option.bind_some];cases Nat.blt n m<;>rfl
 | lsr s g =>
  cases hs:T s with
  | lsl g' e =>
   simp only[hs]
   cases Nat.beq g g' with
   | false=>rfl
   | true =>
    simp only[cond_true]
    cases asNat (i.eval A.glob T) with
    | none=>rfl
    | some n =>
     simp only[Option.bind_some,rowV]
     cases e[n]? with
     | none=>rfl
     | some r=>simp only[Option.bind_some];cases Nat.beq r.length sz<;>rfl
  | _=>simp[hs]
 | _=>rfl
theorem r_ixS {sz n:Nat} {e:List (List AV)} {own:Bool} : ixV T sz (.slice e own) (some n)=rowV sz (e[n]?) .eptr:=rfl
theorem r_ixR {sz n l o m z:Nat} : ixV T sz (.sref l o m z) (some n)=cond (Nat.blt n m) (some (.ref l (o+n*sz))) none:=rfl
theorem r_ixL {sz n s g:Nat} : ixV T sz (.lsr s g) (some n)=(match T s with|.lsl g' e=>cond (Nat.beq g g') (rowV sz (e[n]?) fun _=>.eref s g n sz 0) none|_=>none):=rfl
theorem r_rowV {sz:Nat} {r:List AV} {f:List AV→AV} : rowV sz (some r) f=cond (Nat.beq r.length sz) (some (f r)) none:=rfl
theorem r_index {agg:Bool} {n sz:Nat} {x i:IArg} : WO A d (⟨some t,none,.index agg n sz x i⟩ :: os) ⟨T,H,lo,gen⟩ K=stepO A d (indexV agg n sz (x.eval A.glob T) (asNat (i.eval A.glob T))) t os T H lo gen K:=by
 refine pure_op ?_
 simp only[evOp,indexV]
 cases asNat (i.eval A.glob T) with
 | none=>cases x.eval A.glob T<;>rfl
 | some k =>
  simp only[Option.bind_some]
  cases Nat.blt k n with
  | false=>cases x.eval A.glob T<;>rfl
  | true=>cases x.eval A.glob T<;>rfl
theorem r_indexA {agg:Bool} {n sz k:Nat} {cs:List AV} : indexV agg n sz (.agg cs) (some k)=cond (Nat.blt k n) (loadCellsAV false agg sz (k*sz) cs) none:=rfl
theorem r_indexStr {x i:IArg} : WO A d (⟨some t,none,.indexStr x i⟩ :: os) ⟨T,H,lo,gen⟩ K=stepO A d (byteV (x.eval A.glob T) (asNat (i.eval A.glob T))) t os T H lo gen K:=by
 refine pure_op ?_
 simp only[evOp,byteV]
 cases x.eval A.glob T with
 | str l =>
  cases asNat (i.eval A.glob T) with
  | none=>rfl
  | some n=>simp only[Option.bind_some];cases l[n]?<;>rfl
 | _=>rfl
theorem r_byteV {l:List UInt8} {n:Nat} : byteV (.str l) (some n)=byteAt (l[n]?):=rfl
theorem r_byteAt {b:UInt8} : byteAt (some b)=some (.int .u8 b.toNat):=rfl
theorem r_extract {x:IArg} {i:Nat} : WO A d (⟨some t,none,.extract x i⟩ :: os) ⟨T,H,lo,gen⟩ K=stepO A d (extrV (x.eval A.glob T) i) t os T H lo gen K:=by
 refine pure_op ?_
 simp only[evOp,extrV]
 cases x.eval A.glob T with
 | tuple vs=>simp only;cases vs[i]?<;>rfl
 | _=>rfl
theorem r_extrT {vs:List AV} {i:Nat} : extrV (.tuple vs) i=(vs[i]?).map AV.dropAll:=rfl
theorem r_len {k:LenKind} {x:IArg} : WO A d (⟨some t,none,.len k x⟩ :: os) ⟨T,H,lo,gen⟩ K=stepO A d (lenV T k (x.addr A.glob T)) t os T H lo gen K:=by
 refine pure_op ?_
 simp only[evOp,lenV]
 cases x.addr A.glob T with
 | lsr s g =>
  cases hs:T s with
  | lsl g' e=>simp only[hs];cases Nat.beq g g'<;>rfl
  | _=>simp[hs]
 | _=>rfl
theorem r_lenS {l:List UInt8} : lenV T .str (.str l)=some (.int .i64 l.length):=rfl
theorem r_lenE {e:List (List AV)} {own:Bool} : lenV T .sl (.slice e own)=some (.int .i64 e.length):=rfl
theorem r_lenR {l o m z:Nat} : lenV T .sl (.sref l o m z)=some (.int .i64 m):=rfl
theorem r_lenL {k:LenKind} {s g:Nat} : lenV T k (.lsr s g)=(match T s with|.lsl g' e=>cond (Nat.beq g g') (lenAV k (.slice e false)) none|_=>none):=rfl
theorem r_call {f:FuncId} {args:List IArg} : WO A d (⟨some t,none,.call (.fn f) args⟩ :: os) ⟨T,H,lo,gen⟩ K=(argsOK A.glob T args=true∧callK A d (callD A f (argsV A.glob T args) H) t os T H lo gen K):=by
 rw[WO_cons]
 simp only[evOper,evOp,IArg.eval,argsOK_eq,argsV_eq,callK,List.nil_append,List.append_nil]
 refine propext ?_
 cases argsOK A.glob T args with
 | false=>simp[bindW]
 | true =>
  simp only[cond_true,true_and]
  cases callD A f (argsV A.glob T args) H with
  | none=>simp[bindW]
  | some r =>
   obtain⟨v,c⟩:=r
   cases c with
   | none=>simp only[Option.map_some,Option.map_none,Option.bind_some];cases (d&&(genOf v).isSome)<;>simp[bindW,AS.putD]
   | some c=>simp only[Option.map_some,Option.bind_some];cases d<;>simp[bindW,AS.putD]
theorem r_calln {f:FuncId} {args:List IArg} : WO A d (⟨none,none,.call (.fn f) args⟩ :: os) ⟨T,H,lo,gen⟩ K=(argsOK A.glob T args=true∧callN A d (callD A f (argsV A.glob T args) H) os T H lo gen K):=by
 rw[WO_cons]
 simp only[evOper,evOp,IArg.eval,argsOK_eq,argsV_eq,callN,List.nil_append,List.append_nil]
 refine propext ?_
 cases argsOK A.glob T args with
 | false=>simp[bindW]
 | true =>
  simp only[cond_true,true_and]
  cases callD A f (argsV A.glob T args) H with
  | none=>simp[bindW]
  | some r =>
   obtain⟨v,c⟩:=r
   cases c with
   | none=>simp only[Option.map_some,Option.map_none,Option.bind_some];cases (d&&(genOf v).isSome)<;>simp[bindW,AS.putD]
   | some c=>simp only[Option.map_some,Option.bind_some];cases d<;>simp[bindW,AS.putD]
theorem r_callv {i:Nat} {args:List IArg} : WO A d (⟨some t,none,.call (.tmp i) args⟩ :: os) ⟨T,H,lo,gen⟩ K=(argsOK A.glob T args=true∧callF A d (T i) (argsV A.glob T args) t os T H lo gen K):=by
 rw[WO_cons]
 simp only[evOper,evOp,IArg.eval,argsOK_eq,argsV_eq,callF,callK]
 refine propext ?_
 cases hT:T i with
 | func fn fs cs =>
  cases fn with
  | func n =>
   cases argsOK A.glob T args with
   | false=>simp[bindW]
   | true =>
    simp only[cond_true,true_and]
    cases callD A n (fs++argsV A.glob T args++cs) H with
    | none=>simp[bindW]
    | some r =>
     obtain⟨v,c⟩:=r
     cases c with
     | none=>simp only[Option.map_some,Option.map_none,Option.bind_some];cases (d&&(genOf v).isSome)<;>simp[bindW,AS.putD]
     | some c=>simp only[Option.map_some,Option.bind_some];cases d<;>simp[bindW,AS.putD]
  | _=>simp[bindW]
 | _=>simp[bindW]
theorem r_callF {n:FuncId} {fs vs cs:List AV} : callF A d (.func (.func n) fs cs) vs t os T H lo gen K=callK A d (callD A n (fs++vs++cs) H) t os T H lo gen K:=rfl
theorem r_ret {v:AV} : callK A false (some (v,none)) t os T H lo gen K=WO A false os ⟨T.put t v,H,lo,gen⟩ K:=by
 simp[callK,bindW_some,AS.setT]
theorem r_retd {v:AV} : callK A true (some (v,none)) t os T H lo gen K=stepO A true (some v) t os T H lo gen K:=by
 simp only[callK,stepO,Option.bind_some]
 cases (genOf v).isSome<;>simp[bindW,AS.setT]
theorem r_retc {v:AV} {h:AHeap} {l:Nat} : callK A false (some (v,some ⟨h,l⟩)) t os T H lo gen K=WO A false os ⟨T.put t v,h,cond (Nat.blt l lo) l lo,gen⟩ K:=by
 simp[callK,bindW_some,AS.setT,AS.chg]
theorem r_retn {v:AV} : callN A false (some (v,none)) os T H lo gen K=WO A false os ⟨T,H,lo,gen⟩ K:=by
 simp[callN,bindW_some]
theorem r_retnc {v:AV} {h:AHeap} {l:Nat} : callN A false (some (v,some ⟨h,l⟩)) os T H lo gen K=WO A false os ⟨T,h,cond (Nat.blt l lo) l lo,gen⟩ K:=by
 simp[callN,bindW_some,AS.chg]
theorem r_append {b:Bool} {sz bytes i:Nat} {y:IArg} : WO A false (⟨some t,none,.append b false sz bytes (.tmp i) y⟩ :: os) ⟨T,H,lo,gen⟩ K=appK A b sz bytes i (T i) (y.eval A.glob T) t os T H lo gen K:=by
 rw[WO_cons]
 simp only[evOper,evOp,evAppend,appK]
 cases hT:T i with
 | slice e own =>
  simp only[cond_false,Option.map_eq_map]
  cases appendAV b sz bytes (.slice e own) (y.eval A.glob T) with
  | none=>simp[bindW]
  | some z=>simp[bindW,AS.putD,AS.setT]
 | lsl g e =>
  simp only[Bool.false_and,cond_false]
  cases elemsOf sz (y.eval A.glob T)<;>simp[bindW]
 | nilsl =>
  simp only[cond_false]
  cases appendAV b sz bytes (.slice [] true) (y.eval A.glob T) with
  | none=>simp[bindW]
  | some z=>simp[bindW,AS.putD,AS.setT]
 | _=>simp[bindW]
theorem r_appN {b:Bool} {sz bytes i:Nat} {y:AV} : appK A b sz bytes i .nilsl y t os T H lo gen K=bindW (appendAV b sz bytes (.slice [] true) y) fun z=>WO A false os ⟨T.put t z,H,lo,gen⟩ K:=rfl
theorem r_appK {b:Bool} {sz bytes i:Nat} {e:List (List AV)} {own:Bool} {y:AV} : appK A b sz bytes i (.slice e own) y t os T H lo gen K=bindW (appendAV b sz bytes (.slice e own) y) fun z=>WO A false os ⟨(T.put i (.slice e false)).put t z,H,lo,gen⟩ K:=rfl
theorem r_appc {b:Bool} {sz bytes:Nat} {v:AV} {y:IArg} : WO A false (⟨some t,none,.append b false sz bytes (.con v) y⟩ :: os) ⟨T,H,lo,gen⟩ K=stepO A false (appendAV b sz bytes v (y.eval A.glob T)) t os T H lo gen K:=by
 refine pure_op ?_
 simp only[evOp,evAppend,cond_false,IArg.eval]
theorem r_store {dst:Option Nat} {sz:Nat} {a v:IArg} : WO A d (⟨dst,none,.store sz a v⟩ :: os) ⟨T,H,lo,gen⟩ K=bindW (evOper A.glob (callD A) d ⟨T,H,lo,gen⟩ ⟨dst,none,.store sz a v⟩) fun s'=>WO A d os s' K:=WO_cons
theorem r_loadT {dst:Option Nat} {agg:Bool} {sz:Nat} {x:IArg} : WO A d (⟨dst,none,.load true agg sz x⟩ :: os) ⟨T,H,lo,gen⟩ K=bindW (evOper A.glob (callD A) d ⟨T,H,lo,gen⟩ ⟨dst,none,.load true agg sz x⟩) fun s'=>WO A d os s' K:=WO_cons
theorem r_nilCheck {dst:Option Nat} {x:IArg} : WO A d (⟨dst,none,.nilCheck x⟩ :: os) ⟨T,H,lo,gen⟩ K=bindW (evOper A.glob (callD A) d ⟨T,H,lo,gen⟩ ⟨dst,none,.nilCheck x⟩) fun s'=>WO A d os s' K:=WO_cons
theorem r_mkfunc {dst:Option Nat} {f:Fn} {a b:List IArg} : WO A d (⟨dst,none,.mkfunc f a b⟩ :: os) ⟨T,H,lo,gen⟩ K=bindW (evOper A.glob (callD A) d ⟨T,H,lo,gen⟩ ⟨dst,none,.mkfunc f a b⟩) fun s'=>WO A d os s' K:=WO_cons
end
theorem r_addrc {G:Nat→List AV} {T:AFrame} {v:AV} : IArg.addr G T (.con v)=v:=rfl
theorem r_addrg {G:Nat→List AV} {T:AFrame} {g:Nat} : IArg.addr G T (.glob g)=.eptr (G g):=rfl
theorem r_addrf {G:Nat→List AV} {T:AFrame} {f:FuncId} : IArg.addr G T (.fn f)=.func (.func f) [] []:=rfl
def spK (sz:Nat) (es:List (List AV)) (i:Nat) (o:Option (List AV)) (r:List (Nat × AV)):Option (List (List AV)):=match o with
 | none=>none
 | some cs=>cond (Nat.blt i es.length) (sliceParts sz (es.set i cs) r) none
theorem r_spn {sz:Nat} {es:List (List AV)} : sliceParts sz es []=some es:=rfl
theorem r_spc {sz i:Nat} {es:List (List AV)} {v:AV} {r:List (Nat × AV)} : sliceParts sz es ((i,v) :: r)=spK sz es i (v.elem sz) r:=by
 simp only[sliceParts,spK]
 cases v.elem sz<;>rfl
theorem r_spk {sz i:Nat} {es:List (List AV)} {cs:List AV} {r:List (Nat × AV)} : spK sz es i (some cs) r=cond (Nat.blt i es.length) (sliceParts sz (es.set i cs) r) none:=rfl
theorem r_elemA {sz:Nat} {cs:List AV} : AV.elem sz (.agg cs)=cond (Nat.beq (cs.map AV.drop).length sz&&(cs.map AV.drop).all AV.plain) (some (cs.map AV.drop)) none:=rfl
theorem r_elemI {k:IntKind} {n:Int} : AV.elem 1 (.int k n)=some [.int k n]:=rfl
theorem r_elemS {l:List UInt8} : AV.elem 1 (.str l)=some [.str l]:=rfl
theorem r_elemB {b:Bool} : AV.elem 1 (.bool b)=some [.bool b]:=rfl
theorem r_elemL {e:List (List AV)} {o:Bool} : AV.elem 1 (.slice e o)=some [.slice e false]:=rfl
def bpK (cells:List AV) (off sz:Nat) (o:Option (List AV)) (r:List (Nat × Nat × AV)):Option (List AV):=match o with
 | none=>none
 | some cs=>cond (Nat.beq cs.length sz&&Nat.ble (off+cs.length) cells.length) (buildParts (putAt cells off (cs.map AV.drop)) r) none
theorem r_bpn {cells:List AV} : buildParts cells []=some cells:=rfl
theorem r_bpc {cells:List AV} {off sz:Nat} {v:AV} {r:List (Nat × Nat × AV)} : buildParts cells ((off,sz,v) :: r)=bpK cells off sz v.cells r:=by
 simp only[buildParts,bpK]
 cases v.cells<;>rfl
theorem r_bpk {cells cs:List AV} {off sz:Nat} {r:List (Nat × Nat × AV)} : bpK cells off sz (some cs) r=cond (Nat.beq cs.length sz&&Nat.ble (off+cs.length) cells.length) (buildParts (putAt cells off (cs.map AV.drop)) r) none:=rfl
def nbA:AV→Bool
 | .int .u8 _=>false
 | .any=>false
 | _=>true
def nbR:List AV→Bool
 | []=>true
 | x :: r=>nbA x&&nbR r
def nb:List (List AV)→Bool
 | []=>true
 | r :: e=>nbR r&&nb e
theorem nbR_eq:∀ r:List AV,(r.all fun|.int .u8 _=>false|.any=>false|_=>true)=nbR r
 | []=>rfl
 | x :: r=>by
  rw[List.all_cons,nbR,← nbR_eq r]
  congr 1
theorem nb_eq:∀ e:List (List AV),noByte e=nb e
 | []=>rfl
 | r :: e=>by
  have:=nb_eq e
  simp only[noByte] at this
  simp only[noByte,List.all_cons,nb,this]
  rw[← nbR_eq];rfl
theorem r_rows {E:List (List AV)} : rowsOK false E=nb E:=by simp only[rowsOK,cond_false,nb_eq]
theorem r_nb {E:List (List AV)} : noByte E=nb E:=nb_eq E
theorem r_nb0:nb []=true:=rfl
theorem r_nbc {r:List AV} {e:List (List AV)} : nb (r :: e)=(nbR r&&nb e):=rfl
theorem r_nbr0:nbR []=true:=rfl
theorem r_nbrc {x:AV} {r:List AV} : nbR (x :: r)=(nbA x&&nbR r):=rfl
theorem r_nbi {n:Int} : nbA (.int .i64 n)=true:=rfl
theorem r_nbs {l:List UInt8} : nbA (.str l)=true:=rfl
theorem r_nbb {b:Bool} : nbA (.bool b)=true:=rfl
theorem r_nbl {e:List (List AV)} {o:Bool} : nbA (.slice e o)=true:=rfl
theorem r_nbg {cs:List AV} : nbA (.agg cs)=true:=rfl
theorem nb_all {E:List (List AV)} (h:∀ r∈E,nbR r=true):nb E=true:=by
 induction E with
 | nil=>rfl
 | cons r E ih=>rw[nb,h r (List.mem_cons_self ..),ih fun r hr=>h r (List.mem_cons_of_mem _ hr)];rfl
theorem nb_append:∀ {e f:List (List AV)},nb (e++f)=(nb e&&nb f)
 | [],f=>by simp[nb]
 | r :: e,f=>by simp only[List.cons_append,nb,nb_append,Bool.and_assoc]
def RowsB (sz:Nat) (e:List (List AV)):Prop:=(∀ r∈e,r.length=sz)∧nb e=true
theorem headOk_of {sz:Nat} {e:List (List AV)} (h:∀ r∈e,r.length=sz):headOk sz e=true:=by
 cases e with
 | nil=>rfl
 | cons r e=>simp[headOk,h r (List.mem_cons_self ..)]
theorem app_ok {sz bytes:Nat} {e f:List (List AV)} {o:Bool} (h1:RowsB sz e) (h2:RowsB sz f) (hb:(e.length+f.length)*bytes≤70368744177664) (hl:e.length+f.length≤70368744177664) :
  appendAV false sz bytes (.slice e true) (.slice f o)=some (.slice (e++f) true):=by
 simp only[appendAV,elemsOf,Option.bind_some]
 cases f with
 | nil=>simp
 | cons r f =>
  have hr:rowsOK false (e++r :: f)=true:=by rw[r_rows,nb_append,h1.2,h2.2];rfl
  have hf:fitsRows sz bytes e (r :: f)=true:=by
   simp only[fitsRows,headOk_of h1.1,headOk_of h2.1,Nat.ble_eq_true_of_le hb,Nat.ble_eq_true_of_le hl,Bool.and_self]
  simp only[hr,hf,Bool.and_self,cond_true]
theorem app_nil {b:Bool} {sz bytes:Nat} {e:List (List AV)} {o o' : Bool} : appendAV b sz bytes (.slice e o) (.slice [] o')=some (.slice e o):=rfl
def lslRes (v:AV) (g:Nat):Option AV:=match v with
 | .lsl g' e=>cond (Nat.beq g g') (cond (noByte e) (some (.slice e true)) none) none
 | _=>none
def resV (T:AFrame) (t:Nat) (v:AV):Option AV:=match v with
 | .lsl _ e=>cond (noByte e) (some (.slice e true)) none
 | .lsr b g=>lslRes (T b) g
 | .lbox ..|.lref ..|.eref ..|.iter ..=>none
 | v=>some v
def finV (base lo:Nat) (H:AHeap) (o:Option AV):Option (AV × Option Chg):=o.bind fun r=>cond (r.leaves base) (some (r,cond (Nat.beq lo base) none (some ⟨H.take base,lo⟩))) none
def resBox (o:Option AObj) (agg:Bool) (sz:Nat):Option AV:=match o with
 | some (.box _ cs)=>loadCellsAV false agg sz 0 cs
 | _=>none
def rescV (v:AV) (H:AHeap) (agg:Bool) (sz:Nat):Option AV:=match v with
 | .lbox _ cs=>loadCellsAV false agg sz 0 cs
 | .ref loc 0=>resBox H[loc]? agg sz
 | _=>none
def consO (o:Option AV) (l:Option (List AV)):Option (List AV):=o.bind fun v=>l.map (v.dropAll :: ·)
section
variable {T:AFrame} {H:AHeap} {lo gen base t:Nat} {rs:List IRes}
def openL (base lo:Nat) (H:AHeap):Bool:=cond (Nat.beq lo base) true (((H.take base).drop lo).all fun o=>match o with|.obox cs=>cs.all (AV.cellOut base)|_=>true)
theorem r_openB {n:Nat} {H:AHeap} : openL n n H=true:=by simp[openL]
theorem r_fin:fin base rs ⟨T,H,lo,gen⟩=cond (openL base lo H) (finV base lo H (resVal ⟨T,H,lo,gen⟩ rs)) none:=rfl
theorem r_finv {v:AV} : finV base lo H (some v)=cond (v.leaves base) (some (v,cond (Nat.beq lo base) none (some ⟨H.take base,lo⟩))) none:=rfl
theorem r_res1:resVal ⟨T,H,lo,gen⟩ [.tmp t]=resV T t (T t):=by
 simp only[resVal,resRow,resV]
 cases hT:T t with
 | lsl g e=>simp only[hT]
 | lsr b g =>
  cases hb:T b with
  | lsl g' e =>
   simp only[hb,lslRes]
   cases Nat.beq g g' with
   | false=>simp only[cond_false,resOf,hT];rfl
   | true=>simp only[cond_true,hb]
  | _=>simp only[hb,lslRes,resOf,hT];rfl
 | _=>simp only[resOf,hT];rfl
theorem r_reslsr {b g:Nat} : resV T t (.lsr b g)=lslRes (T b) g:=rfl
theorem r_lslRes {g g' : Nat} {e:List (List AV)} : lslRes (.lsl g e) g'=cond (Nat.beq g' g) (cond (noByte e) (some (.slice e true)) none) none:=rfl
theorem r_res1c {a sz:Nat} {agg:Bool} : resVal ⟨T,H,lo,gen⟩ [.cell a agg sz]=resOf ⟨T,H,lo,gen⟩ (.cell a agg sz):=rfl
theorem r_res0:resVal ⟨T,H,lo,gen⟩ []=some (.tuple []):=rfl
theorem r_res2 {r1 r2:IRes} {rs:List IRes} : resVal ⟨T,H,lo,gen⟩ (r1 :: r2 :: rs)=(resAll ⟨T,H,lo,gen⟩ (r1 :: r2 :: rs)).map .tuple:=rfl
theorem r_resn:resAll ⟨T,H,lo,gen⟩ []=some []:=rfl
theorem r_ress {r:IRes} {rs:List IRes} : resAll ⟨T,H,lo,gen⟩ (r :: rs)=consO (resOf ⟨T,H,lo,gen⟩ r) (resAll ⟨T,H,lo,gen⟩ rs):=rfl
theorem r_consO {v:AV} {l:List AV} : consO (some v) (some l)=some (v.dropAll :: l):=rfl
theorem r_rest:resOf ⟨T,H,lo,gen⟩ (.tmp t)=cond (frameCell (T t)) (some (T t)) none:=rfl
theorem r_resc {a sz:Nat} {agg:Bool} : resOf ⟨T,H,lo,gen⟩ (.cell a agg sz)=rescV (T a) H agg sz:=by
 simp only[resOf,rescV]
 cases T a with
 | ref loc off =>
  cases off with
  | zero=>cases hl:H[loc]? with
   | none=>simp only[hl,resBox]
   | some o=>cases o<;>simp only[hl,resBox]
  | succ n=>rfl
 | _=>rfl
theorem r_rescl {g sz:Nat} {cs:List AV} {agg:Bool} : rescV (.lbox g cs) H agg sz=loadCellsAV false agg sz 0 cs:=rfl
theorem r_rescr {loc sz:Nat} {agg:Bool} : rescV (.ref loc 0) H agg sz=resBox H[loc]? agg sz:=rfl
theorem r_resB {ty:TypeId} {cs:List AV} {sz:Nat} {agg:Bool} : resBox (some (.box ty cs)) agg sz=loadCellsAV false agg sz 0 cs:=rfl
theorem rv_bool {b:Bool} : resV T t (AV.bool b)=some (AV.bool b):=rfl
theorem rv_int {k:IntKind} {n:Int} : resV T t (AV.int k n)=some (AV.int k n):=rfl
theorem rv_str {l:List UInt8} : resV T t (AV.str l)=some (AV.str l):=rfl
theorem rv_any:resV T t AV.any=some AV.any:=rfl
theorem rv_nilptr:resV T t AV.nilptr=some AV.nilptr:=rfl
theorem rv_nilmap:resV T t AV.nilmap=some AV.nilmap:=rfl
theorem rv_fmap {kz:Nat} {ka va:Bool} {es:List (List AV)} : resV T t (AV.fmap kz ka va es)=some (AV.fmap kz ka va es):=rfl
theorem rv_nilfunc:resV T t AV.nilfunc=some AV.nilfunc:=rfl
theorem rv_niliface:resV T t AV.niliface=some AV.niliface:=rfl
theorem rv_slice {e:List (List AV)} {own:Bool} : resV T t (AV.slice e own)=some (AV.slice e own):=rfl
theorem rv_eptr {cs:List AV} : resV T t (AV.eptr cs)=some (AV.eptr cs):=rfl
theorem rv_ref {loc off:Nat} : resV T t (AV.ref loc off)=some (AV.ref loc off):=rfl
theorem rv_sref {loc off n z:Nat} : resV T t (AV.sref loc off n z)=some (AV.sref loc off n z):=rfl
theorem rv_mref {loc:Nat} : resV T t (AV.mref loc)=some (AV.mref loc):=rfl
theorem rv_lsl {g:Nat} {e:List (List AV)} : resV T t (AV.lsl g e)=cond (noByte e) (some (.slice e true)) none:=rfl
theorem rv_func {fn:Fn} {fs cs:List AV} : resV T t (AV.func fn fs cs)=some (AV.func fn fs cs):=rfl
theorem rv_iface {u:TypeId} {v:AV} : resV T t (AV.iface u v)=some (AV.iface u v):=rfl
theorem rv_agg {cs:List AV} : resV T t (AV.agg cs)=some (AV.agg cs):=rfl
theorem rv_tuple {vs:List AV} : resV T t (AV.tuple vs)=some (AV.tuple vs):=rfl
end
def aoK (A:AP) (sz bytes:Nat) (x y:AV) (t:Nat) (os:List IOper) (T:AFrame) (H:AHeap) (lo gen:Nat) (K:AS→Prop):Prop :=
 bindW (evAppendO ⟨T,H,lo,gen⟩ sz bytes x y) fun r=>match r.2 with
  | some s'=>WO A false os (s'.setT t r.1) K
  | none=>WO A false os ⟨T.put t r.1,H,lo,gen⟩ K
def keyV (k:AV) (kz:Nat) (ka:Bool):Option (List AV):=k.drop.cells.bind fun kc=>cond (Nat.beq kc.length kz&&ka==k.drop.isAgg) (some kc) none
def lookX (H:AHeap) (ok:Bool) (kz:Nat) (ka va:Bool) (ks:List CK) (zero:List AV) (m k:AV):Option AV :=
 (keyV k kz ka).bind fun kc=>match m with
  | .nilmap=>some (lookV ok va zero false)
  | .gmap kz' ka' va' es=>cond (Nat.beq kz kz'&&ka==ka'&&va==va'&&apartS es&&isSK ks kc) ((findE ks kc es).map (lookO ok va zero kz es)) none
  | .fmap kz' ka' va' es=>cond (Nat.beq kz kz'&&ka==ka'&&va==va') ((findE ks kc es).map (lookO ok va zero kz es)) none
  | .mref l=>match H[l]? with
   | some (.map kz' ka' va' es)=>cond (Nat.beq kz kz'&&ka==ka'&&va==va') ((findE ks kc es).map (lookO ok va zero kz es)) none
   | some (.fmap kz' ka' va' es)=>cond (Nat.beq kz kz'&&ka==ka'&&va==va') ((findE ks kc es).map (lookO ok va zero kz es)) none
   | _=>none
  | _=>none
def mlenX (H:AHeap) (m:AV):Option AV:=match m with
 | .nilmap=>some (.int .i64 0)
 | .fmap _ _ _ es=>some (.int .i64 es.length)
 | .mref l=>match H[l]? with
  | some (.map _ _ _ es)=>some (.int .i64 es.length)
  | some (.fmap _ _ _ es)=>some (.int .i64 es.length)
  | _=>none
 | _=>none
section
variable {A:AP} {T:AFrame} {H:AHeap} {lo gen:Nat} {K:AS→Prop} {d:Bool} {os:List IOper} {t:Nat}
theorem state_op {op:IOp} {x:Option (AV × Option AS)} (h:evOp A.glob (callD A) ⟨T,H,lo,gen⟩ op=x):WO A false (⟨some t,none,op⟩ :: os) ⟨T,H,lo,gen⟩ K=bindW x fun r=>match r.2 with
  | some s'=>WO A false os (s'.setT t r.1) K
  | none=>WO A false os ⟨T.put t r.1,H,lo,gen⟩ K:=by
 rw[WO_cons]
 simp only[evOper,h]
 cases x with
 | none=>simp[bindW]
 | some r =>
  obtain⟨z,s'⟩:=r
  cases s' with
  | none=>simp only[Option.bind_some,Bool.false_and,cond_false,bindW_some];rfl
  | some s'=>simp only[Option.bind_some,cond_false,bindW_some];rfl
theorem r_appO {sz bytes:Nat} {x y:IArg} : WO A false (⟨some t,none,.appendO sz bytes x y⟩ :: os) ⟨T,H,lo,gen⟩ K=aoK A sz bytes (x.addr A.glob T) (y.eval A.glob T) t os T H lo gen K:=state_op rfl
theorem r_mkarr {sz bytes:Nat} {zero:List AV} {n:IArg} : WO A false (⟨some t,none,.mkarr sz bytes zero n⟩ :: os) ⟨T,H,lo,gen⟩ K =
  bindW ((asNat (n.eval A.glob T)).bind fun k=>cond (Nat.ble (k*bytes) 70368744177664&&Nat.ble k 70368744177664) (some k) none) fun k=>WO A false os ⟨T.put t (.sref H.length 0 k sz),H++[.box freeTy (List.replicate k zero).flatten],cond (Nat.blt H.length lo) H.length lo,gen⟩ K:=by
 rw[state_op rfl]
 simp only[evOp,evMkarr]
 cases asNat (n.eval A.glob T) with
 | none=>simp[bindW]
 | some k =>
  simp only[Option.bind_some]
  cases (Nat.ble (k*bytes) 70368744177664&&Nat.ble k 70368744177664) with
  | false=>simp[bindW]
  | true=>simp only[cond_true,bindW_some];rfl
theorem r_mkmap {kz:Nat} {ka va:Bool} : WO A false (⟨some t,none,.mkmap kz ka va⟩ :: os) ⟨T,H,lo,gen⟩ K=WO A false os ⟨T.put t (.mref H.length),H++[.map kz ka va []],cond (Nat.blt H.length lo) H.length lo,gen⟩ K:=by
 rw[state_op rfl];simp only[evOp,bindW_some];rfl
theorem r_look {ok:Bool} {kz:Nat} {ka va:Bool} {ks:List CK} {zero:List AV} {m k:IArg} : WO A d (⟨some t,none,.look ok kz ka va ks zero m k⟩ :: os) ⟨T,H,lo,gen⟩ K=stepO A d (lookX H ok kz ka va ks zero (m.addr A.glob T) (k.eval A.glob T)) t os T H lo gen K:=by
 refine pure_op ?_
 simp only[evOp,evLook,lookX,keyV]
 cases (k.eval A.glob T).drop.cells with
 | none=>rfl
 | some kc =>
  simp only[Option.bind_some]
  cases (Nat.beq kc.length kz&&ka==(k.eval A.glob T).drop.isAgg) with
  | false=>rfl
  | true =>
   simp only[cond_true,Option.bind_some]
   cases m.addr A.glob T with
   | nilmap=>rfl
   | gmap kz' ka' va' es =>
    simp only[]
    cases (Nat.beq kz kz'&&ka==ka'&&va==va'&&apartS es&&isSK ks kc) with
    | false=>rfl
    | true=>simp only[cond_true,Option.map_map];rfl
   | fmap kz' ka' va' es =>
    simp only[mapRows]
    cases (Nat.beq kz kz'&&ka==ka'&&va==va') with
    | false=>rfl
    | true=>simp only[cond_true,Option.bind_some,Option.map_map];rfl
   | mref l =>
    simp only[mapRows]
    cases hl:H[l]? with
    | none=>rfl
    | some o =>
     cases o with
     | map kz' ka' va' es =>
      simp only[hl]
      cases (Nat.beq kz kz'&&ka==ka'&&va==va') with
      | false=>rfl
      | true=>simp only[cond_true,Option.bind_some,Option.map_map];rfl
     | fmap kz' ka' va' es =>
      simp only[hl]
      cases (Nat.beq kz kz'&&ka==ka'&&va==va') with
      | false=>rfl
      | true=>simp only[cond_true,Option.bind_some,Option.map_map];rfl
     | _=>simp only[hl];rfl
   | _=>rfl
theorem r_mlen {m:IArg} : WO A d (⟨some t,none,.mlen m⟩ :: os) ⟨T,H,lo,gen⟩ K=stepO A d (mlenX H (m.addr A.glob T)) t os T H lo gen K:=by
 refine pure_op ?_
 simp only[evOp,mlenX]
 cases m.addr A.glob T with
 | mref l =>
  cases hl:H[l]? with
  | none=>simp only[hl];rfl
  | some o=>cases o<;>simp only[hl]<;>rfl
 | _=>rfl
theorem r_mset {kz vz:Nat} {ka va:Bool} {ks:List CK} {m k v:IArg} : WO A false (⟨none,none,.mset kz ka va vz ks m k v⟩ :: os) ⟨T,H,lo,gen⟩ K =
  bindW (evMset ⟨T,H,lo,gen⟩ kz ka va vz ks (m.addr A.glob T) (k.eval A.glob T) (v.eval A.glob T)) fun s'=>WO A false os (s'.spent v) K:=by
 rw[WO_cons]
 simp only[evOper,evOp]
 cases evMset ⟨T,H,lo,gen⟩ kz ka va vz ks (m.addr A.glob T) (k.eval A.glob T) (v.eval A.glob T) with
 | none=>simp[bindW]
 | some s'=>simp only[Option.map_some,Option.bind_some,cond_false,bindW_some];rfl
end
end Go.Abs
end
