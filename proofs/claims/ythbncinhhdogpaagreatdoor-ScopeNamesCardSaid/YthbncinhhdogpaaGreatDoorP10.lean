/-
  A part of the proof of ScopeNames: AbsMemo, AbsLivesV, AbsRule, AbsEq, AbsEqS, AbsEvV, AbsSgnV, AbsSgnV2.
-/
import Derived.KernelRfl
import Derived.IntWalk
import Derived.Test.YthbncinhhdogpaaGreatDoorP09
set_option linter.unusedSimpArgs false
set_option linter.unusedVariables false
set_option linter.defProp false
set_option maxRecDepth 100000
namespace Go.Abs
structure aer where
 f:FuncId
 args:List AV
 heap:ah
 out:AV × Option fQ
def YD(f:FuncId)(args:List AV)(H:ah):List aer->Option (AV × Option fQ)
 | []=>none
 | e :: r=>cond (Nat.beq e.f f&&B9 e.args args&&Yz e.heap H) (some e.out) (YD f args H r)
def alr(tb:List aer)(cf:cu):cu:=fun f args H=>match YD f args H tb with
 | some r=>some r
 | none=>cf f args H
def isR(x:Option (AV × Option fQ))(y:AV × Option fQ):Bool:=match x with
 | some r=>eqR r y
 | none=>false
theorem abR{x:Option (AV × Option fQ)}{y:AV × Option fQ}(h:isR x y=true):x=some y:=by
 cases x with
 | none=>cases h
 | some r=>exact ari some (OO h)
end Go.Abs
namespace Go.Proofs.YthbncinhhdogpaaGreatDoor
open Go Go.Abs Go.Proofs
theorem MM:evN A1 60 12 [] []=some (.bool true,none):=abR (by kernel_rfl)
end Go.Proofs.YthbncinhhdogpaaGreatDoor
namespace Go.Abs
section
def iC(s:Nat):AV->AV
 | .lbox g _=>.lref s g 0
 | .lsl g _=>.lsr s g
 | .iter ..=>.any
 | v=>v
theorem acy{G:Nat->List AV}{T:aw}{s:Nat} : an.addr G T (.tmp s)=iC s (T s):=by
 simp only[an.addr,iC]
 split<;>simp_all
section
theorem LB{b:Bool} : AV.drop (AV.bool b)=(.bool b):=rfl
theorem OE{k:IntKind}{n:Int} : AV.drop (AV.int k n)=(.int k n):=rfl
theorem OI{l:List UInt8} : AV.drop (AV.str l)=(.str l):=rfl
theorem OD:AV.drop AV.any=.any:=rfl
theorem Fe:AV.drop AV.df=.df:=rfl
theorem Fc:AV.drop AV.cI=.cI:=rfl
theorem LF{kz:Nat}{ka va:Bool}{es:List (List AV)} : AV.drop (AV.dM kz ka va es)=(.dM kz ka va es):=rfl
theorem HY:AV.drop AV.ae=.ae:=rfl
theorem zt:AV.aX AV.ae=.ae:=rfl
theorem DQ:AV.cells AV.ae=some [.ae]:=rfl
theorem GO:AV.plain AV.ae=true:=rfl
theorem O8:al AV.ae=true:=rfl
theorem B5:AV.drop AV.ct=.ct:=rfl
theorem zx:AV.drop AV.bR=.bR:=rfl
theorem HZ{e:List (List AV)}{own:Bool} : AV.drop (AV.slice e own)=.slice e false:=rfl
theorem LC{cs:List AV} : AV.drop (AV.eptr cs)=(.eptr cs):=rfl
theorem OH{loc off:Nat} : AV.drop (AV.ref loc off)=(.ref loc off):=rfl
theorem LL{loc off n z:Nat} : AV.drop (AV.sref loc off n z)=(.sref loc off n z):=rfl
theorem LK{loc:Nat} : AV.drop (AV.mref loc)=(.mref loc):=rfl
theorem LI{g:Nat}{cs:List AV} : AV.drop (AV.lbox g cs)=(.lbox g cs):=rfl
theorem LJ{s g off:Nat} : AV.drop (AV.lref s g off)=(.lref s g off):=rfl
theorem OF{g:Nat}{e:List (List AV)} : AV.drop (AV.lsl g e)=(.lsl g e):=rfl
theorem OG{s g:Nat} : AV.drop (AV.lsr s g)=(.lsr s g):=rfl
theorem LD{s g i z off:Nat} : AV.drop (AV.eref s g i z off)=(.eref s g i z off):=rfl
theorem LG{f:Fn}{fs cs:List AV} : AV.drop (AV.func f fs cs)=(.func f fs cs):=rfl
theorem HX{t:TypeId}{v:AV} : AV.drop (AV.iface t v)=(.iface t v):=rfl
theorem OC{cs:List AV} : AV.drop (AV.agg cs)=(.agg cs):=rfl
theorem H2{vs:List AV} : AV.drop (AV.tuple vs)=(.tuple vs):=rfl
theorem BW{b:Bool} : AV.aX (AV.bool b)=(.bool b):=rfl
theorem D5{k:IntKind}{n:Int} : AV.aX (AV.int k n)=(.int k n):=rfl
theorem Fa{l:List UInt8} : AV.aX (AV.str l)=(.str l):=rfl
theorem D4:AV.aX AV.any=.any:=rfl
theorem xA:AV.aX AV.df=.df:=rfl
theorem xz:AV.aX AV.cI=.cI:=rfl
theorem BZ{kz:Nat}{ka va:Bool}{es:List (List AV)} : AV.aX (AV.dM kz ka va es)=(.dM kz ka va es):=rfl
theorem wC:AV.aX AV.ct=.ct:=rfl
theorem u5:AV.aX AV.bR=.bR:=rfl
theorem zu{e:List (List AV)}{own:Bool} : AV.aX (AV.slice e own)=.slice e false:=rfl
theorem BX{cs:List AV} : AV.aX (AV.eptr cs)=(.eptr cs):=rfl
theorem D8{loc off:Nat} : AV.aX (AV.ref loc off)=(.ref loc off):=rfl
theorem B4{loc off n z:Nat} : AV.aX (AV.sref loc off n z)=(.sref loc off n z):=rfl
theorem B3{loc:Nat} : AV.aX (AV.mref loc)=(.mref loc):=rfl
theorem B1{g:Nat}{cs:List AV} : AV.aX (AV.lbox g cs)=(.lbox g cs):=rfl
theorem B2{s g off:Nat} : AV.aX (AV.lref s g off)=(.lref s g off):=rfl
theorem D6{g:Nat}{e:List (List AV)} : AV.aX (AV.lsl g e)=(.lsl g e):=rfl
theorem D7{s g:Nat} : AV.aX (AV.lsr s g)=(.lsr s g):=rfl
theorem BY{s g i z off:Nat} : AV.aX (AV.eref s g i z off)=(.eref s g i z off):=rfl
theorem B0{f:Fn}{fs cs:List AV} : AV.aX (AV.func f fs cs)=(.func f fs cs):=rfl
theorem zr{t:TypeId}{v:AV} : AV.aX (AV.iface t v)=(.iface t v):=rfl
theorem D3{cs:List AV} : AV.aX (AV.agg cs)=.agg (cs.map AV.drop):=rfl
theorem zw{vs:List AV} : AV.aX (AV.tuple vs)=(.tuple vs):=rfl
theorem Ui{b:Bool} : al (AV.bool b)=true:=rfl
theorem ZZ{k:IntKind}{n:Int} : al (AV.int k n)=true:=rfl
theorem Z3{l:List UInt8} : al (AV.str l)=true:=rfl
theorem ZY:al AV.any=true:=rfl
theorem L0:al AV.df=true:=rfl
theorem LZ:al AV.cI=true:=rfl
theorem Ul{kz:Nat}{ka va:Bool}{es:List (List AV)} : al (AV.dM kz ka va es)=true:=rfl
theorem Io:al AV.ct=true:=rfl
theorem Fv:al AV.bR=true:=rfl
theorem O9{e:List (List AV)}{own:Bool} : al (AV.slice e own)=true:=rfl
theorem Uj{cs:List AV} : al (AV.eptr cs)=true:=rfl
theorem Z2{loc off:Nat} : al (AV.ref loc off)=true:=rfl
theorem Ur{loc off n z:Nat} : al (AV.sref loc off n z)=true:=rfl
theorem Uq{loc:Nat} : al (AV.mref loc)=true:=rfl
theorem Un{g:Nat}{cs:List AV} : al (AV.lbox g cs)=false:=rfl
theorem Uo{s g off:Nat} : al (AV.lref s g off)=false:=rfl
theorem Z0{g:Nat}{e:List (List AV)} : al (AV.lsl g e)=false:=rfl
theorem Z1{s g:Nat} : al (AV.lsr s g)=false:=rfl
theorem Uk{s g i z off:Nat} : al (AV.eref s g i z off)=false:=rfl
theorem Um{f:Fn}{fs cs:List AV} : al (AV.func f fs cs)=true:=rfl
theorem O7{t:TypeId}{v:AV} : al (AV.iface t v)=true:=rfl
theorem ZX{cs:List AV} : al (AV.agg cs)=true:=rfl
theorem O'{vs:List AV} : al (AV.tuple vs)=true:=rfl
theorem It{b:Bool} : aO (AV.bool b)=none:=rfl
theorem L7{k:IntKind}{n:Int} : aO (AV.int k n)=none:=rfl
theorem Ma{l:List UInt8} : aO (AV.str l)=none:=rfl
theorem L6:aO AV.any=none:=rfl
theorem Ck:aO AV.df=none:=rfl
theorem Cj:aO AV.cI=none:=rfl
theorem Iw{kz:Nat}{ka va:Bool}{es:List (List AV)} : aO (AV.dM kz ka va es)=none:=rfl
theorem zA:aO AV.ct=none:=rfl
theorem xV:aO AV.bR=none:=rfl
theorem FH{e:List (List AV)}{own:Bool} : aO (AV.slice e own)=none:=rfl
theorem Iu{cs:List AV} : aO (AV.eptr cs)=none:=rfl
theorem L'{loc off:Nat} : aO (AV.ref loc off)=none:=rfl
theorem IB{loc off n z:Nat} : aO (AV.sref loc off n z)=none:=rfl
theorem IA{loc:Nat} : aO (AV.mref loc)=none:=rfl
theorem Iy{g:Nat}{cs:List AV} : aO (AV.lbox g cs)=some g:=rfl
theorem Iz{s g off:Nat} : aO (AV.lref s g off)=none:=rfl
theorem L8{g:Nat}{e:List (List AV)} : aO (AV.lsl g e)=some g:=rfl
theorem L9{s g:Nat} : aO (AV.lsr s g)=none:=rfl
theorem Iv{s g i z off:Nat} : aO (AV.eref s g i z off)=none:=rfl
theorem Ix{f:Fn}{fs cs:List AV} : aO (AV.func f fs cs)=none:=rfl
theorem FF{t:TypeId}{v:AV} : aO (AV.iface t v)=none:=rfl
theorem L5{cs:List AV} : aO (AV.agg cs)=none:=rfl
theorem FI{vs:List AV} : aO (AV.tuple vs)=none:=rfl
theorem HI{b:Bool} : AV.cells (AV.bool b)=some [(.bool b)]:=rfl
theorem Lo{k:IntKind}{n:Int} : AV.cells (AV.int k n)=some [(.int k n)]:=rfl
theorem Ls{l:List UInt8} : AV.cells (AV.str l)=some [(.str l)]:=rfl
theorem Ln:AV.cells AV.any=none:=rfl
theorem BQ:AV.cells AV.df=some [.df]:=rfl
theorem BP:AV.cells AV.cI=some [.cI]:=rfl
theorem HM{kz:Nat}{ka va:Bool}{es:List (List AV)} : AV.cells (AV.dM kz ka va es)=some [(.dM kz ka va es)]:=rfl
theorem zn:AV.cells AV.ct=some [.ct]:=rfl
theorem xp:AV.cells AV.bR=some [.bR]:=rfl
theorem DR{e:List (List AV)}{own:Bool} : AV.cells (AV.slice e own)=some [(.slice e own)]:=rfl
theorem HK{cs:List AV} : AV.cells (AV.eptr cs)=some [(.eptr cs)]:=rfl
theorem Lr{loc off:Nat} : AV.cells (AV.ref loc off)=some [(.ref loc off)]:=rfl
theorem HR{loc off n z:Nat} : AV.cells (AV.sref loc off n z)=some [(.sref loc off n z)]:=rfl
theorem HQ{loc:Nat} : AV.cells (AV.mref loc)=some [(.mref loc)]:=rfl
theorem HO{g:Nat}{cs:List AV} : AV.cells (AV.lbox g cs)=none:=rfl
theorem HP{s g off:Nat} : AV.cells (AV.lref s g off)=none:=rfl
theorem Lp{g:Nat}{e:List (List AV)} : AV.cells (AV.lsl g e)=none:=rfl
theorem Lq{s g:Nat} : AV.cells (AV.lsr s g)=none:=rfl
theorem HL{s g i z off:Nat} : AV.cells (AV.eref s g i z off)=none:=rfl
theorem HN{f:Fn}{fs cs:List AV} : AV.cells (AV.func f fs cs)=some [(.func f fs cs)]:=rfl
theorem DO{t:TypeId}{v:AV} : AV.cells (AV.iface t v)=some [(.iface t v)]:=rfl
theorem Lm{cs:List AV} : AV.cells (AV.agg cs)=some cs:=rfl
theorem DT{vs:List AV} : AV.cells (AV.tuple vs)=none:=rfl
theorem Jt{b:Bool} : AV.plain (AV.bool b)=true:=rfl
theorem M4{k:IntKind}{n:Int} : AV.plain (AV.int k n)=true:=rfl
theorem M8{l:List UInt8} : AV.plain (AV.str l)=true:=rfl
theorem M3:AV.plain AV.any=true:=rfl
theorem C4:AV.plain AV.df=true:=rfl
theorem C3:AV.plain AV.cI=true:=rfl
theorem Jw{kz:Nat}{ka va:Bool}{es:List (List AV)} : AV.plain (AV.dM kz ka va es)=true:=rfl
theorem zS:AV.plain AV.ct=true:=rfl
theorem yN:AV.plain AV.bR=true:=rfl
theorem GP{e:List (List AV)}{own:Bool} : AV.plain (AV.slice e own)=!own:=rfl
theorem Ju{cs:List AV} : AV.plain (AV.eptr cs)=true:=rfl
theorem M7{loc off:Nat} : AV.plain (AV.ref loc off)=false:=rfl
theorem JA{loc off n z:Nat} : AV.plain (AV.sref loc off n z)=false:=rfl
theorem Jz{loc:Nat} : AV.plain (AV.mref loc)=false:=rfl
theorem Jx{g:Nat}{cs:List AV} : AV.plain (AV.lbox g cs)=false:=rfl
theorem Jy{s g off:Nat} : AV.plain (AV.lref s g off)=false:=rfl
theorem M5{g:Nat}{e:List (List AV)} : AV.plain (AV.lsl g e)=false:=rfl
theorem M6{s g:Nat} : AV.plain (AV.lsr s g)=false:=rfl
theorem Jv{s g i z off:Nat} : AV.plain (AV.eref s g i z off)=false:=rfl
theorem M1{cs:List AV} : AV.plain (AV.agg cs)=false:=rfl
theorem GQ{vs:List AV} : AV.plain (AV.tuple vs)=false:=rfl
theorem BF{base:Nat}{b:Bool} : AV.aG base (AV.bool b)=AV.plain (.bool b):=rfl
theorem DJ{base:Nat}{k:IntKind}{n:Int} : AV.aG base (AV.int k n)=AV.plain (.int k n):=rfl
theorem DN{base:Nat}{l:List UInt8} : AV.aG base (AV.str l)=AV.plain (.str l):=rfl
theorem DI{base:Nat} : AV.aG base AV.any=AV.plain .any:=rfl
theorem xn{base:Nat} : AV.aG base AV.df=AV.plain .df:=rfl
theorem xl{base:Nat} : AV.aG base AV.cI=AV.plain .cI:=rfl
theorem BI{kz:Nat}{ka va:Bool}{es:List (List AV)}{base:Nat} : AV.aG base (AV.dM kz ka va es)=AV.plain (.dM kz ka va es):=rfl
theorem wB{base:Nat} : AV.aG base AV.ct=AV.plain .ct:=rfl
theorem u2{base:Nat} : AV.aG base AV.bR=AV.plain .bR:=rfl
theorem zl{base:Nat}{e:List (List AV)}{own:Bool} : AV.aG base (AV.slice e own)=AV.plain (.slice e own):=rfl
theorem BG{base:Nat}{cs:List AV} : AV.aG base (AV.eptr cs)=AV.plain (.eptr cs):=rfl
theorem DM{base:Nat}{loc off:Nat} : AV.aG base (AV.ref loc off)=Nat.blt loc base:=rfl
theorem BO{base:Nat}{loc off n z:Nat} : AV.aG base (AV.sref loc off n z)=Nat.blt loc base:=rfl
theorem BN{base:Nat}{loc:Nat} : AV.aG base (AV.mref loc)=Nat.blt loc base:=rfl
theorem BK{base:Nat}{g:Nat}{cs:List AV} : AV.aG base (AV.lbox g cs)=AV.plain (.lbox g cs):=rfl
theorem BL{base:Nat}{s g off:Nat} : AV.aG base (AV.lref s g off)=AV.plain (.lref s g off):=rfl
theorem DK{base:Nat}{g:Nat}{e:List (List AV)} : AV.aG base (AV.lsl g e)=AV.plain (.lsl g e):=rfl
theorem DL{base:Nat}{s g:Nat} : AV.aG base (AV.lsr s g)=AV.plain (.lsr s g):=rfl
theorem BH{base:Nat}{s g i z off:Nat} : AV.aG base (AV.eref s g i z off)=AV.plain (.eref s g i z off):=rfl
theorem BJ{base:Nat}{f:Fn}{fs cs:List AV} : AV.aG base (AV.func f fs cs)=AV.plain (.func f fs cs):=rfl
theorem zj{base:Nat}{t:TypeId}{v:AV} : AV.aG base (AV.iface t v)=AV.plain (.iface t v):=rfl
theorem DH{base:Nat}{cs:List AV} : AV.aG base (AV.agg cs)=AV.plain (.agg cs):=rfl
theorem zm{base:Nat}{vs:List AV} : AV.aG base (AV.tuple vs)=AV.plain (.tuple vs):=rfl
theorem CQ{base:Nat}{b:Bool} : AV.bn base (AV.bool b)=AV.aG base (.bool b):=rfl
theorem GF{base:Nat}{k:IntKind}{n:Int} : AV.bn base (AV.int k n)=AV.aG base (.int k n):=rfl
theorem GK{base:Nat}{l:List UInt8} : AV.bn base (AV.str l)=AV.aG base (.str l):=rfl
theorem GC{base:Nat} : AV.bn base AV.any=AV.aG base .any:=rfl
theorem yM{base:Nat} : AV.bn base AV.df=AV.aG base .df:=rfl
theorem yL{base:Nat} : AV.bn base AV.cI=AV.aG base .cI:=rfl
theorem CV{kz:Nat}{ka va:Bool}{es:List (List AV)}{base:Nat} : AV.bn base (AV.dM kz ka va es)=AV.aG base (.dM kz ka va es):=rfl
theorem wK{base:Nat} : AV.bn base AV.ct=AV.aG base .ct:=rfl
theorem vt{base:Nat} : AV.bn base AV.bR=AV.aG base .bR:=rfl
theorem zQ{base:Nat}{e:List (List AV)}{own:Bool} : AV.bn base (AV.slice e own)=AV.aG base (.slice e own):=rfl
theorem CT{base:Nat}{cs:List AV} : AV.bn base (AV.eptr cs)=AV.aG base (.eptr cs):=rfl
theorem GJ{base:Nat}{loc off:Nat} : AV.bn base (AV.ref loc off)=AV.aG base (.ref loc off):=rfl
theorem C1{base:Nat}{loc off n z:Nat} : AV.bn base (AV.sref loc off n z)=AV.aG base (.sref loc off n z):=rfl
theorem CZ{base:Nat}{loc:Nat} : AV.bn base (AV.mref loc)=AV.aG base (.mref loc):=rfl
theorem CX{base:Nat}{g:Nat}{cs:List AV} : AV.bn base (AV.lbox g cs)=AV.aG base (.lbox g cs):=rfl
theorem CY{base:Nat}{s g off:Nat} : AV.bn base (AV.lref s g off)=AV.aG base (.lref s g off):=rfl
theorem GG{base:Nat}{g:Nat}{e:List (List AV)} : AV.bn base (AV.lsl g e)=AV.aG base (.lsl g e):=rfl
theorem GI{base:Nat}{s g:Nat} : AV.bn base (AV.lsr s g)=AV.aG base (.lsr s g):=rfl
theorem CU{base:Nat}{s g i z off:Nat} : AV.bn base (AV.eref s g i z off)=AV.aG base (.eref s g i z off):=rfl
theorem CW{base:Nat}{f:Fn}{fs cs:List AV} : AV.bn base (AV.func f fs cs)=AV.aG base (.func f fs cs):=rfl
theorem zO{base:Nat}{t:TypeId}{v:AV} : AV.bn base (AV.iface t v)=AV.aG base (.iface t v):=rfl
theorem GB{base:Nat}{cs:List AV} : AV.bn base (AV.agg cs)=cs.all (AV.aG base):=rfl
theorem zR{base:Nat}{vs:List AV} : AV.bn base (AV.tuple vs)=AV.aG base (.tuple vs):=rfl
theorem F6{base:Nat}{b:Bool} : AV.leaves base (AV.bool b)=AV.bn base (.bool b):=rfl
theorem I'{base:Nat}{k:IntKind}{n:Int} : AV.leaves base (AV.int k n)=AV.bn base (.int k n):=rfl
theorem Jd{base:Nat}{l:List UInt8} : AV.leaves base (AV.str l)=AV.bn base (.str l):=rfl
theorem I9{base:Nat} : AV.leaves base AV.any=AV.bn base .any:=rfl
theorem zK{base:Nat} : AV.leaves base AV.df=AV.bn base .df:=rfl
theorem zJ{base:Nat} : AV.leaves base AV.cI=AV.bn base .cI:=rfl
theorem F9{kz:Nat}{ka va:Bool}{es:List (List AV)}{base:Nat} : AV.leaves base (AV.dM kz ka va es)=AV.bn base (.dM kz ka va es):=rfl
theorem yp{base:Nat} : AV.leaves base AV.ct=AV.bn base .ct:=rfl
theorem wH{base:Nat} : AV.leaves base AV.bR=AV.bn base .bR:=rfl
theorem CA{base:Nat}{e:List (List AV)}{own:Bool} : AV.leaves base (AV.slice e own)=true:=rfl
theorem F7{base:Nat}{cs:List AV} : AV.leaves base (AV.eptr cs)=AV.bn base (.eptr cs):=rfl
theorem Jc{base:Nat}{loc off:Nat} : AV.leaves base (AV.ref loc off)=AV.bn base (.ref loc off):=rfl
theorem Ge{base:Nat}{loc off n z:Nat} : AV.leaves base (AV.sref loc off n z)=AV.bn base (.sref loc off n z):=rfl
theorem Gd{base:Nat}{loc:Nat} : AV.leaves base (AV.mref loc)=AV.bn base (.mref loc):=rfl
theorem Gb{base:Nat}{g:Nat}{cs:List AV} : AV.leaves base (AV.lbox g cs)=AV.bn base (.lbox g cs):=rfl
theorem Gc{base:Nat}{s g off:Nat} : AV.leaves base (AV.lref s g off)=AV.bn base (.lref s g off):=rfl
theorem Ja{base:Nat}{g:Nat}{e:List (List AV)} : AV.leaves base (AV.lsl g e)=AV.bn base (.lsl g e):=rfl
theorem Jb{base:Nat}{s g:Nat} : AV.leaves base (AV.lsr s g)=AV.bn base (.lsr s g):=rfl
theorem F8{base:Nat}{s g i z off:Nat} : AV.leaves base (AV.eref s g i z off)=AV.bn base (.eref s g i z off):=rfl
theorem Ga{base:Nat}{f:Fn}{fs cs:List AV} : AV.leaves base (AV.func f fs cs)=(fs.all (AV.aG base)&&cs.all (AV.aG base)):=rfl
theorem Cy{base:Nat}{t:TypeId}{v:AV} : AV.leaves base (AV.iface t v)=v.aG base:=rfl
theorem I8{base:Nat}{cs:List AV} : AV.leaves base (AV.agg cs)=AV.bn base (.agg cs):=rfl
theorem CB{base:Nat}{vs:List AV} : AV.leaves base (AV.tuple vs)=vs.all (AV.bn base):=rfl
theorem Hq{s:Nat}{b:Bool} : iC s (AV.bool b)=(.bool b):=rfl
theorem K8{s:Nat}{k:IntKind}{n:Int} : iC s (AV.int k n)=(.int k n):=rfl
theorem Lb{s:Nat}{l:List UInt8} : iC s (AV.str l)=(.str l):=rfl
theorem K7{s:Nat} : iC s AV.any=.any:=rfl
theorem Br{s:Nat} : iC s AV.df=.df:=rfl
theorem Bq{s:Nat} : iC s AV.cI=.cI:=rfl
theorem Ht{kz:Nat}{ka va:Bool}{es:List (List AV)}{s:Nat} : iC s (AV.dM kz ka va es)=(.dM kz ka va es):=rfl
theorem zh{s:Nat} : iC s AV.ct=.ct:=rfl
theorem w9{s:Nat} : iC s AV.bR=.bR:=rfl
theorem Dy{s:Nat}{e:List (List AV)}{own:Bool} : iC s (AV.slice e own)=(.slice e own):=rfl
theorem Hr{s:Nat}{cs:List AV} : iC s (AV.eptr cs)=(.eptr cs):=rfl
theorem La{s:Nat}{loc off:Nat} : iC s (AV.ref loc off)=(.ref loc off):=rfl
theorem Hy{s:Nat}{loc off n z:Nat} : iC s (AV.sref loc off n z)=(.sref loc off n z):=rfl
theorem Hx{s:Nat}{loc:Nat} : iC s (AV.mref loc)=(.mref loc):=rfl
theorem Hv{s:Nat}{g:Nat}{cs:List AV} : iC s (AV.lbox g cs)=.lref s g 0:=rfl
theorem Hw{s:Nat}{r g off:Nat} : iC s (AV.lref r g off)=(.lref r g off):=rfl
theorem K9{s:Nat}{g:Nat}{e:List (List AV)} : iC s (AV.lsl g e)=.lsr s g:=rfl
theorem K'{s:Nat}{r g:Nat} : iC s (AV.lsr r g)=(.lsr r g):=rfl
theorem Hs{s:Nat}{r g i z off:Nat} : iC s (AV.eref r g i z off)=(.eref r g i z off):=rfl
theorem Hu{s:Nat}{f:Fn}{fs cs:List AV} : iC s (AV.func f fs cs)=(.func f fs cs):=rfl
theorem Dw{s:Nat}{t:TypeId}{v:AV} : iC s (AV.iface t v)=(.iface t v):=rfl
theorem K6{s:Nat}{cs:List AV} : iC s (AV.agg cs)=(.agg cs):=rfl
theorem Dz{s:Nat}{vs:List AV} : iC s (AV.tuple vs)=(.tuple vs):=rfl
end
def cW(A:AP)(d:Bool)(o:Option AV)(t:Nat)(os:List aj)(T:aw)(H:ah)(lo gen:Nat)(K:AS->Prop):Prop :=
 bf (o.bind fun z=>cond (d&&(aO z).isSome) none (some z)) fun z=>WO A d os ⟨T.put t z,H,lo,gen⟩ K
def jf(A:AP)(d take obj:Bool)(i:Nat)(v:AV)(t:Nat)(os:List aj)(T:aw)(H:ah)(lo gen:Nat)(K:AS->Prop):Prop :=
 bf (match v with
  | .lbox g _=>some (AV.lref i g 0,(⟨T,H,lo,gen⟩:AS))
  | .lsl g e=>cond take (cond d none (cond obj (some (.lsl gen e,⟨T.put i .any,H,lo,gen+1⟩)) (cond (iY e) (some (.slice e true,⟨T.put i (.slice e false),H,lo,gen⟩)) none))) (some (.lsr i g,⟨T,H,lo,gen⟩))
  | .slice e own=>cond (take&&own) (cond d none (some (.slice e true,⟨T.put i (.slice e false),H,lo,gen⟩))) (some (.slice e false,⟨T,H,lo,gen⟩))
  | .iter ..=>none
  | v=>some (v,⟨T,H,lo,gen⟩)) fun r=>WO A d os (r.2.br t r.1) K
def mb(A:AP)(d:Bool)(v:AV)(w:Bool)(t:Nat)(op:fc)(os:List aj)(T:aw)(H:ah)(lo gen:Nat)(K:AS->Prop):Prop :=
 bf (match v with|.bool b=>some (b==w)|.tuple []=>some false|_=>none) fun b =>
  (b=true->WO A d (⟨some t,none,op⟩ :: os) ⟨T,H,lo,gen⟩ K)/\(b=false->WO A d os ⟨T.put t .undef,H,lo,gen⟩ K)
def qF(A:AP)(d:Bool)(r:Option (AV × Option fQ))(t:Nat)(os:List aj)(T:aw)(H:ah)(lo gen:Nat)(K:AS->Prop):Prop :=
 bf (r.bind fun r=>match r.2 with
  | none=>cond (d&&(aO r.1).isSome) none (some (r.1,(⟨T,H,lo,gen⟩:AS)))
  | some c=>cond d none (some (r.1,AS.fp ⟨T,H,lo,gen⟩ c))) fun r=>WO A d os (r.2.br t r.1) K
def mw(G:Nat->List AV)(T:aw):List an->List AV
 | []=>[]
 | a :: r=>(a.addr G T).aX :: mw G T r
def jN(G:Nat->List AV)(T:aw):List an->Bool
 | []=>true
 | a :: r=>al (a.addr G T)&&jN G T r
theorem qD{G:Nat->List AV}{T:aw} : ∀ l:List an,l.map (fun a=>(a.addr G T).aX)=mw G T l
 | []=>rfl
 | a :: r=>by simp[mw,qD r]
theorem oF{G:Nat->List AV}{T:aw} : ∀ l:List an,(l.map fun a=>a.addr G T).all al=jN G T l
 | []=>rfl
 | a :: r=>by simp only[apm,List.all_cons,jN,oF r]
def p4(G:Nat->List AV)(T:aw):List (Nat × Nat × an)->List (Nat × Nat × AV)
 | []=>[]
 | (o,z,a) :: r=>(o,z,(a.eval G T).drop) :: p4 G T r
theorem Ba{G:Nat->List AV}{T:aw} : ∀ l:List (Nat × Nat × an),l.map (fun p=>(p.1,p.2.1,(p.2.2.eval G T).drop))=p4 G T l
 | []=>rfl
 | a :: r=>by simp[p4,Ba r]
def l6(G:Nat->List AV)(T:aw):List (Nat × an)->List (Nat × AV)
 | []=>[]
 | (i,a) :: r=>(i,(a.eval G T).drop) :: l6 G T r
theorem u6{G:Nat->List AV}{T:aw} : ∀ l:List (Nat × an),l.map (fun p=>(p.1,(p.2.eval G T).drop))=l6 G T l
 | []=>rfl
 | a :: r=>by simp[l6,u6 r]
def Gx(G:Nat->List AV)(T:aw):Option an->Option AV
 | none=>none
 | some a=>some (a.eval G T)
def KT(c a b:AV):Option AV:=match c with
 | .bool t=>some (cond t a.drop b.drop)
 | _=>none
def Sf(b:Bool)(o:Option (List (List AV))):Option AV:=o.bind fun E=>cond (nG b E) (some (.slice E true)) none
def lI(o:Option cj)(agg:Bool)(sz off:Nat):Option AV:=match o with
 | some (.box _ cs)=>ag false agg sz off cs
 | some (.Im cs)=>ag false agg sz off cs
 | some (.ca cs)=>ag false agg sz off cs
 | _=>none
def mT(v:AV)(g:Nat)(agg:Bool)(sz off:Nat):Option AV:=match v with
 | .lbox g' cs=>cond (Nat.beq g g') (ag false agg sz off cs) none
 | _=>none
def rr(o:Option (List AV))(z:Nat)(agg:Bool)(sz off:Nat):Option AV:=o.bind fun r=>cond (Nat.beq r.length z) (ag false agg sz off r) none
def oT(v:AV)(g i z:Nat)(agg:Bool)(sz off:Nat):Option AV:=match v with
 | .lsl g' e=>cond (Nat.beq g g') (rr (e[i]?) z agg sz off) none
 | _=>none
def jK(T:aw)(H:ah)(agg:Bool)(sz:Nat)(x:AV):Option AV:=match x with
 | .eptr cs=>ag false agg sz 0 cs
 | .ref loc off=>lI H[loc]? agg sz off
 | .lref b g off=>mT (T b) g agg sz off
 | .eref b g i z off=>oT (T b) g i z agg sz off
 | _=>none
def nz(v:AV)(g:Nat)(r:AV):Option AV:=match v with
 | .lbox g' _=>cond (Nat.beq g g') (some r) none
 | _=>none
def pT(v:AV)(g i:Nat)(r:AV):Option AV:=match v with
 | .lsl g' e=>cond (Nat.beq g g'&&Nat.blt i e.length) (some r) none
 | _=>none
def YC(T:aw)(off:Nat)(x:AV):Option AV:=match x with
 | .ref l o=>some (.ref l (o+off))
 | .eptr cs=>some (.eptr (cs.drop off))
 | .lref b g o=>nz (T b) g (.lref b g (o+off))
 | .eref b g i z o=>pT (T b) g i (.eref b g i z (o+off))
 | _=>none
def Z4(x:AV)(agg:Bool)(sz off:Nat):Option AV:=match x with
 | .agg cs=>ag false agg sz off cs
 | _=>none
def JG(sz:Nat)(r:Option (List AV))(f:List AV->AV):Option AV:=r.bind fun r=>cond (Nat.beq r.length sz) (some (f r)) none
def ixV(T:aw)(sz:Nat)(x:AV)(n:Option Nat):Option AV:=match x with
 | .slice e _=>n.bind fun n=>JG sz (e[n]?) .eptr
 | .sref l o m _=>n.bind fun n=>cond (Nat.blt n m) (some (.ref l (o+n*sz))) none
 | .lsr t g=>match T t with
  | .lsl g' e=>cond (Nat.beq g g') (n.bind fun n=>JG sz (e[n]?) fun _=>.eref t g n sz 0) none
  | _=>none
 | _=>none
def IW(agg:Bool)(n sz:Nat)(x:AV)(i:Option Nat):Option AV:=match x with
 | .agg cs=>i.bind fun k=>cond (Nat.blt k n) (ag false agg sz (k*sz) cs) none
 | _=>none
def HH(o:Option UInt8):Option AV:=o.map fun (b:UInt8)=>AV.int .u8 b.toNat
def Oh(x:AV)(i:Option Nat):Option AV:=match x with
 | .str l=>i.bind fun n=>HH (l[n]?)
 | _=>none
def O6(x:AV)(i:Nat):Option AV:=match x with
 | .tuple vs=>(vs[i]?).map AV.aX
 | _=>none
def zL(T:aw)(k:ly)(x:AV):Option AV:=match x with
 | .lsr t g=>match T t with
  | .lsl g' e=>cond (Nat.beq g g') (kx k (.slice e false)) none
  | _=>none
 | v=>kx k v
def z6(A:AP)(d:Bool)(r:Option (AV × Option fQ))(os:List aj)(T:aw)(H:ah)(lo gen:Nat)(K:AS->Prop):Prop :=
 bf (r.bind fun r=>match r.2 with
  | none=>cond (d&&(aO r.1).isSome) none (some (⟨T,H,lo,gen⟩:AS))
  | some c=>cond d none (some (AS.fp ⟨T,H,lo,gen⟩ c))) fun s=>WO A d os s K
def Oj(A:AP)(d:Bool)(f:AV)(vs:List AV)(t:Nat)(os:List aj)(T:aw)(H:ah)(lo gen:Nat)(K:AS->Prop):Prop:=match f with
 | .func (.func n) fs cs=>qF A d (aE A n (fs++vs++cs) H) t os T H lo gen K
 | _=>False
def TG(A:AP)(b:Bool)(sz bytes i:Nat)(x y:AV)(t:Nat)(os:List aj)(T:aw)(H:ah)(lo gen:Nat)(K:AS->Prop):Prop:=match x with
 | .slice e own=>bf (bw b sz bytes (.slice e own) y) fun z=>WO A false os ⟨(T.put i (.slice e false)).put t z,H,lo,gen⟩ K
 | .ae=>bf (bw b sz bytes (.slice [] true) y) fun z=>WO A false os ⟨T.put t z,H,lo,gen⟩ K
 | _=>False
section
variable {A:AP}{T:aw}{H:ah}{lo gen:Nat}{K:AS->Prop}{d:Bool}{os:List aj}{t:Nat}
theorem cB{z:AV}(h:aO z=none):cW A d (some z) t os T H lo gen K=WO A d os ⟨T.put t z,H,lo,gen⟩ K:=by
 simp[cW,h,aB]
theorem X2{b:Bool} : cW A d (some (AV.bool b)) t os T H lo gen K=WO A d os ⟨T.put t (AV.bool b),H,lo,gen⟩ K:=cB rfl
theorem adt{k:IntKind}{n:Int} : cW A d (some (AV.int k n)) t os T H lo gen K=WO A d os ⟨T.put t (AV.int k n),H,lo,gen⟩ K:=cB rfl
theorem adw{l:List UInt8} : cW A d (some (AV.str l)) t os T H lo gen K=WO A d os ⟨T.put t (AV.str l),H,lo,gen⟩ K:=cB rfl
theorem ads:cW A d (some AV.any) t os T H lo gen K=WO A d os ⟨T.put t AV.any,H,lo,gen⟩ K:=cB rfl
theorem Ns:cW A d (some AV.df) t os T H lo gen K=WO A d os ⟨T.put t AV.df,H,lo,gen⟩ K:=cB rfl
theorem Nr:cW A d (some AV.cI) t os T H lo gen K=WO A d os ⟨T.put t AV.cI,H,lo,gen⟩ K:=cB rfl
theorem X5{kz:Nat}{ka va:Bool}{es:List (List AV)} : cW A d (some (AV.dM kz ka va es)) t os T H lo gen K=WO A d os ⟨T.put t (AV.dM kz ka va es),H,lo,gen⟩ K:=cB rfl
theorem JO:cW A d (some AV.ct) t os T H lo gen K=WO A d os ⟨T.put t AV.ct,H,lo,gen⟩ K:=cB rfl
theorem G5:cW A d (some AV.bR) t os T H lo gen K=WO A d os ⟨T.put t AV.bR,H,lo,gen⟩ K:=cB rfl
theorem S7{e:List (List AV)}{own:Bool} : cW A d (some (AV.slice e own)) t os T H lo gen K=WO A d os ⟨T.put t (AV.slice e own),H,lo,gen⟩ K:=cB rfl
theorem X3{cs:List AV} : cW A d (some (AV.eptr cs)) t os T H lo gen K=WO A d os ⟨T.put t (AV.eptr cs),H,lo,gen⟩ K:=cB rfl
theorem adv{loc off:Nat} : cW A d (some (AV.ref loc off)) t os T H lo gen K=WO A d os ⟨T.put t (AV.ref loc off),H,lo,gen⟩ K:=cB rfl
theorem X9{loc off n z:Nat} : cW A d (some (AV.sref loc off n z)) t os T H lo gen K=WO A d os ⟨T.put t (AV.sref loc off n z),H,lo,gen⟩ K:=cB rfl
theorem X8{loc:Nat} : cW A d (some (AV.mref loc)) t os T H lo gen K=WO A d os ⟨T.put t (AV.mref loc),H,lo,gen⟩ K:=cB rfl
theorem X7{r g off:Nat} : cW A d (some (AV.lref r g off)) t os T H lo gen K=WO A d os ⟨T.put t (AV.lref r g off),H,lo,gen⟩ K:=cB rfl
theorem adu{r g:Nat} : cW A d (some (AV.lsr r g)) t os T H lo gen K=WO A d os ⟨T.put t (AV.lsr r g),H,lo,gen⟩ K:=cB rfl
theorem X4{r g i z off:Nat} : cW A d (some (AV.eref r g i z off)) t os T H lo gen K=WO A d os ⟨T.put t (AV.eref r g i z off),H,lo,gen⟩ K:=cB rfl
theorem X6{fn:Fn}{fs cs:List AV} : cW A d (some (AV.func fn fs cs)) t os T H lo gen K=WO A d os ⟨T.put t (AV.func fn fs cs),H,lo,gen⟩ K:=cB rfl
theorem S5{u:TypeId}{v:AV} : cW A d (some (AV.iface u v)) t os T H lo gen K=WO A d os ⟨T.put t (AV.iface u v),H,lo,gen⟩ K:=cB rfl
theorem adr{cs:List AV} : cW A d (some (AV.agg cs)) t os T H lo gen K=WO A d os ⟨T.put t (AV.agg cs),H,lo,gen⟩ K:=cB rfl
theorem S8{vs:List AV} : cW A d (some (AV.tuple vs)) t os T H lo gen K=WO A d os ⟨T.put t (AV.tuple vs),H,lo,gen⟩ K:=cB rfl
theorem ff{op:fc}{o:Option AV}(h:aq A.aN (aE A) ⟨T,H,lo,gen⟩ op=o.map (·,none)):WO A d (⟨some t,none,op⟩ :: os) ⟨T,H,lo,gen⟩ K=cW A d o t os T H lo gen K:=by
 rw[ft]
 cases o with
 | none=>simp[cW,bt,h,bf]
 | some z =>
  simp only[cW,bt,h,Option.map_some,aoW]
  cases hb:(d&&(aO z).isSome) with
  | true=>simp[bf]
  | false=>simp only[aoZ,aB];rfl
section
variable {take obj:Bool}{i:Nat}
theorem WH{b:Bool} : jf A d take obj i (AV.bool b) t os T H lo gen K=WO A d os ⟨T.put t (AV.bool b),H,lo,gen⟩ K:=aB
theorem ab0{k:IntKind}{n:Int} : jf A d take obj i (AV.int k n) t os T H lo gen K=WO A d os ⟨T.put t (AV.int k n),H,lo,gen⟩ K:=aB
theorem ab7{l:List UInt8} : jf A d take obj i (AV.str l) t os T H lo gen K=WO A d os ⟨T.put t (AV.str l),H,lo,gen⟩ K:=aB
theorem abZ:jf A d take obj i AV.any t os T H lo gen K=WO A d os ⟨T.put t AV.any,H,lo,gen⟩ K:=aB
theorem MP:jf A d take obj i AV.df t os T H lo gen K=WO A d os ⟨T.put t AV.df,H,lo,gen⟩ K:=aB
theorem MO:jf A d take obj i AV.cI t os T H lo gen K=WO A d os ⟨T.put t AV.cI,H,lo,gen⟩ K:=aB
theorem WK{kz:Nat}{ka va:Bool}{es:List (List AV)} : jf A d take obj i (AV.dM kz ka va es) t os T H lo gen K=WO A d os ⟨T.put t (AV.dM kz ka va es),H,lo,gen⟩ K:=aB
theorem Jj:jf A d take obj i AV.ct t os T H lo gen K=WO A d os ⟨T.put t AV.ct,H,lo,gen⟩ K:=aB
theorem Gk:jf A d take obj i AV.bR t os T H lo gen K=WO A d os ⟨T.put t AV.bR,H,lo,gen⟩ K:=aB
theorem WI{cs:List AV} : jf A d take obj i (AV.eptr cs) t os T H lo gen K=WO A d os ⟨T.put t (AV.eptr cs),H,lo,gen⟩ K:=aB
theorem ab3{loc off:Nat} : jf A d take obj i (AV.ref loc off) t os T H lo gen K=WO A d os ⟨T.put t (AV.ref loc off),H,lo,gen⟩ K:=aB
theorem WV{loc off n z:Nat} : jf A d take obj i (AV.sref loc off n z) t os T H lo gen K=WO A d os ⟨T.put t (AV.sref loc off n z),H,lo,gen⟩ K:=aB
theorem WU{loc:Nat} : jf A d take obj i (AV.mref loc) t os T H lo gen K=WO A d os ⟨T.put t (AV.mref loc),H,lo,gen⟩ K:=aB
theorem WM{g:Nat}{cs:List AV} : jf A d take obj i (AV.lbox g cs) t os T H lo gen K=WO A d os ⟨T.put t (AV.lref i g 0),H,lo,gen⟩ K:=aB
theorem WQ{r g off:Nat} : jf A d take obj i (AV.lref r g off) t os T H lo gen K=WO A d os ⟨T.put t (AV.lref r g off),H,lo,gen⟩ K:=aB
theorem ab1{r g:Nat} : jf A d take obj i (AV.lsr r g) t os T H lo gen K=WO A d os ⟨T.put t (AV.lsr r g),H,lo,gen⟩ K:=aB
theorem WJ{r g j z off:Nat} : jf A d take obj i (AV.eref r g j z off) t os T H lo gen K=WO A d os ⟨T.put t (AV.eref r g j z off),H,lo,gen⟩ K:=aB
theorem WL{fn:Fn}{fs cs:List AV} : jf A d take obj i (AV.func fn fs cs) t os T H lo gen K=WO A d os ⟨T.put t (AV.func fn fs cs),H,lo,gen⟩ K:=aB
theorem Sc{u:TypeId}{v:AV} : jf A d take obj i (AV.iface u v) t os T H lo gen K=WO A d os ⟨T.put t (AV.iface u v),H,lo,gen⟩ K:=aB
theorem abY{cs:List AV} : jf A d take obj i (AV.agg cs) t os T H lo gen K=WO A d os ⟨T.put t (AV.agg cs),H,lo,gen⟩ K:=aB
theorem Se{vs:List AV} : jf A d take obj i (AV.tuple vs) t os T H lo gen K=WO A d os ⟨T.put t (AV.tuple vs),H,lo,gen⟩ K:=aB
theorem ab5{e:List (List AV)} : jf A d take obj i (.slice e false) t os T H lo gen K=WO A d os ⟨T.put t (.slice e false),H,lo,gen⟩ K:=by
 simp[jf,aB,AS.br]
theorem ab6{e:List (List AV)} : jf A false true obj i (.slice e true) t os T H lo gen K=WO A false os ⟨(T.put i (.slice e false)).put t (.slice e true),H,lo,gen⟩ K:=by
 simp[jf,aB,AS.br]
theorem ab4{e:List (List AV)}{own:Bool} : jf A d false obj i (.slice e own) t os T H lo gen K=WO A d os ⟨T.put t (.slice e false),H,lo,gen⟩ K:=by
 simp[jf,aB,AS.br]
theorem WR{g:Nat}{e:List (List AV)} : jf A d false obj i (.lsl g e) t os T H lo gen K=WO A d os ⟨T.put t (.lsr i g),H,lo,gen⟩ K:=by
 simp[jf,aB,AS.br]
theorem WT{g:Nat}{e:List (List AV)}(hn:iY e=true):jf A false true false i (.lsl g e) t os T H lo gen K=WO A false os ⟨(T.put i (.slice e false)).put t (.slice e true),H,lo,gen⟩ K:=by
 simp[jf,aB,AS.br,hn]
theorem WS{g:Nat}{e:List (List AV)} : jf A false true true i (.lsl g e) t os T H lo gen K=WO A false os ⟨(T.put i .any).put t (.lsl gen e),H,lo,gen+1⟩ K:=by
 simp[jf,aB,AS.br]
end
theorem ag0{take obj:Bool}{i:Nat} : WO A d (⟨some t,none,.mov take obj (.tmp i)⟩ :: os) ⟨T,H,lo,gen⟩ K=jf A d take obj i (T i) t os T H lo gen K:=by
 rw[ft]
 simp only[jf,bt,aq,kV]
 cases hT:T i with
 | slice e own=>cases take<;>cases own<;>cases d<;>simp[bf,AS.bM,AS.br,aO]
 | lbox g cs=>simp[bf,AS.bM,AS.br,aO]
 | lsl g e=>cases take<;>cases obj<;>cases d<;>cases hn:iY e<;>simp[bf,AS.bM,AS.br,aO,hn]
 | _=>simp[bf,AS.bM,AS.br,aO]
theorem acU{take obj:Bool}{v:AV} : WO A d (⟨some t,none,.mov take obj (.cg v)⟩ :: os) ⟨T,H,lo,gen⟩ K=cW A d (some v) t os T H lo gen K:=ff rfl
theorem acW{take obj:Bool}{g:Nat} : WO A d (⟨some t,none,.mov take obj (.aN g)⟩ :: os) ⟨T,H,lo,gen⟩ K=cW A d (some (.eptr (A.aN g))) t os T H lo gen K:=ff rfl
theorem acV{take obj:Bool}{f:FuncId} : WO A d (⟨some t,none,.mov take obj (.fn f)⟩ :: os) ⟨T,H,lo,gen⟩ K=cW A d (some (.func (.func f) [] [])) t os T H lo gen K:=ff rfl
theorem Xt{g:Nat}{w:Bool}{op:fc} : WO A d (⟨some t,some (g,w),op⟩ :: os) ⟨T,H,lo,gen⟩ K=mb A d (T g) w t op os T H lo gen K:=by
 rw[ft]
 simp only[mb,ft]
 unfold bt
 simp only
 cases hT:T g with
 | bool b =>
  cases hb:(b==w) with
  | true=>simp only[hb,aB,cond_true,forall_const,Bool.true_eq_false,false_implies,aqe,eq_self]
  | false=>simp only[hb,aB,aoZ,forall_const,apC,false_implies,aq8,eq_self,AS.bM,AS.br]
 | tuple l =>
  cases l with
  | nil=>simp only[aB,forall_const,apC,false_implies,aq8,eq_self,AS.bM,AS.br]
  | cons a l=>simp[bf]
 | _=>simp[bf]
theorem agT{op:fc} : mb A d (.bool true) true t op os T H lo gen K=WO A d (⟨some t,none,op⟩ :: os) ⟨T,H,lo,gen⟩ K:=by simp[mb,aB]
theorem agQ{op:fc} : mb A d (.bool false) false t op os T H lo gen K=WO A d (⟨some t,none,op⟩ :: os) ⟨T,H,lo,gen⟩ K:=by simp[mb,aB]
theorem agS{op:fc} : mb A d (.bool true) false t op os T H lo gen K=WO A d os ⟨T.put t .undef,H,lo,gen⟩ K:=by simp[mb,aB]
theorem agR{op:fc} : mb A d (.bool false) true t op os T H lo gen K=WO A d os ⟨T.put t .undef,H,lo,gen⟩ K:=by simp[mb,aB]
theorem agU{op:fc}{w:Bool} : mb A d (.tuple []) w t op os T H lo gen K=WO A d os ⟨T.put t .undef,H,lo,gen⟩ K:=by simp[mb,aB]
theorem ac0{c a b:an} : WO A d (⟨some t,none,.pick c a b⟩ :: os) ⟨T,H,lo,gen⟩ K=cW A d (KT (c.eval A.aN T) (a.addr A.aN T) (b.addr A.aN T)) t os T H lo gen K:=by
 refine ff ?_
 simp only[aq,KT]
 cases c.eval A.aN T<;>rfl
theorem XI{x y:AV} : KT (.bool true) x y=some x.drop:=rfl
theorem XH{x y:AV} : KT (.bool false) x y=some y.drop:=rfl
theorem Sz{z:List AV} : WO A false (⟨some t,none,.allocL z⟩ :: os) ⟨T,H,lo,gen⟩ K=WO A false os ⟨T.put t (.lbox gen z),H,lo,gen+1⟩ K:=by
 rw[ft];simp only[bt,aq,aoW,aoZ,aB];rfl
theorem Sy{ty:TypeId}{z:List AV} : WO A false (⟨some t,none,.sQ ty z⟩ :: os) ⟨T,H,lo,gen⟩ K=WO A false os ⟨T.put t (.ref H.length 0),H++[.box ty z],cond (Nat.blt H.length lo) H.length lo,gen⟩ K:=by
 rw[ft];simp only[bt,aq,aoW,aoZ,aB];rfl
theorem Xg{z:List AV}{ps:List (Nat × Nat × an)} : WO A d (⟨some t,none,.build z ps⟩ :: os) ⟨T,H,lo,gen⟩ K=cW A d ((fz z (p4 A.aN T ps)).map .agg) t os T H lo gen K:=by
 refine ff ?_
 simp only[aq,Ba,aqF];rfl
theorem Nc{b:Bool}{sz:Nat}{z:List (List AV)}{ps:List (Nat × an)} : WO A d (⟨some t,none,.mkslice b sz z ps⟩ :: os) ⟨T,H,lo,gen⟩ K=cW A d (Sf b (cA sz z (l6 A.aN T ps))) t os T H lo gen K:=by
 refine ff ?_
 simp only[aq,u6,Sf]
 cases cA sz z (l6 A.aN T ps) with
 | none=>rfl
 | some E=>simp only[aoW];cases nG b E<;>rfl
theorem akb{b:Bool}{E:List (List AV)} : Sf b (some E)=cond (nG b E) (some (.slice E true)) none:=rfl
theorem Xx{agg:Bool}{sz:Nat}{x:an} : WO A d (⟨some t,none,.load false agg sz x⟩ :: os) ⟨T,H,lo,gen⟩ K=cW A d (jK T H agg sz (x.addr A.aN T)) t os T H lo gen K:=by
 refine ff ?_
 simp only[aq,cM,jK,aqb,aoZ]
 cases x.addr A.aN T with
 | ref loc off=>cases hl:H[loc]? with
  | none=>simp only[hl,lI];rfl
  | some o=>cases o<;>simp only[hl,lI]<;>rfl
 | lref b g off =>
  cases hb:T b with
  | lbox g' cs=>simp only[hb,mT];cases Nat.beq g g'<;>rfl
  | _=>simp only[hb,mT];rfl
 | eref b g i z off =>
  cases hb:T b with
  | lsl g' e =>
   simp only[hb,oT,rr]
   cases Nat.beq g g' with
   | false=>rfl
   | true =>
    simp only[cond_true]
    cases e[i]? with
    | none=>rfl
    | some r=>simp only[aoW];cases Nat.beq r.length z<;>rfl
  | _=>simp only[hb,oT];rfl
 | _=>rfl
theorem XC{agg:Bool}{sz b g i z off:Nat} : jK T H agg sz (.eref b g i z off)=oT (T b) g i z agg sz off:=rfl
theorem acT{g g' i z:Nat}{e:List (List AV)}{agg:Bool}{sz off:Nat} : oT (.lsl g e) g' i z agg sz off=cond (Nat.beq g' g) (rr (e[i]?) z agg sz off) none:=rfl
theorem ade{r:List AV}{z:Nat}{agg:Bool}{sz off:Nat} : rr (some r) z agg sz off=cond (Nat.beq r.length z) (ag false agg sz off r) none:=rfl
theorem Xy{agg:Bool}{sz:Nat}{cs:List AV} : jK T H agg sz (.eptr cs)=ag false agg sz 0 cs:=rfl
theorem XA{agg:Bool}{sz loc off:Nat} : jK T H agg sz (.ref loc off)=lI H[loc]? agg sz off:=rfl
theorem acE{ty:TypeId}{cs:List AV}{agg:Bool}{sz off:Nat} : lI (some (.box ty cs)) agg sz off=ag false agg sz off cs:=rfl
theorem Xz{agg:Bool}{sz b g off:Nat} : jK T H agg sz (.lref b g off)=mT (T b) g agg sz off:=rfl
theorem Xw{g g' : Nat}{cs:List AV}{agg:Bool}{sz off:Nat} : mT (.lbox g cs) g' agg sz off=cond (Nat.beq g' g) (ag false agg sz off cs) none:=rfl
theorem SD{sz off:Nat}{cs:List AV} : ag false true sz off cs=cond (Nat.ble (off+sz) cs.length) (some (.agg (((cs.drop off).take sz).map AV.drop))) none:=rfl
theorem SC{sz off:Nat}{cs:List AV} : ag false false sz off cs=(cs[off]?).map AV.drop:=by
 simp only[ag,aoZ]
theorem agA{op:BinOp}{q:uU}{x y:an} : WO A d (⟨some t,none,.bin op q x y⟩ :: os) ⟨T,H,lo,gen⟩ K=cW A d (vJ op q (oR x || oR y) (x.eval A.aN T) (y.eval A.aN T)) t os T H lo gen K:=ff rfl
theorem akc{mx:Bool}{x y:an} : WO A d (⟨some t,none,.mm mx x y⟩ :: os) ⟨T,H,lo,gen⟩ K=cW A d (Sg mx (x.eval A.aN T) (y.eval A.aN T)) t os T H lo gen K:=ff rfl
theorem agZ{k j:IntKind}{mx:Bool}{a b:Int} : Sg mx (.int k a) (.int j b)=cond (decide (k=j)) (some (.int k (cond mx (if b>a then b else a) (if b<a then b else a)))) none:=rfl
theorem ake{op:UnOp}{x:an} : WO A d (⟨some t,none,.un op x⟩ :: os) ⟨T,H,lo,gen⟩ K=cW A d (za op (x.eval A.aN T)) t os T H lo gen K:=ff rfl
theorem acL{c:w5}{x:an} : WO A d (⟨some t,none,.conv c x⟩ :: os) ⟨T,H,lo,gen⟩ K=cW A d (j6 c (x.eval A.aN T)) t os T H lo gen K:=ff rfl
theorem XN{k:uX}{x:an}{l h m:Option an} : WO A d (⟨some t,none,.slice k x l h m⟩ :: os) ⟨T,H,lo,gen⟩ K=cW A d (ij k (x.eval A.aN T) (Gx A.aN T l) (Gx A.aN T h) (Gx A.aN T m)) t os T H lo gen K:=by
 refine ff ?_
 cases l<;>cases h<;>cases m<;>rfl
theorem agz{op:BinOp}{q:uU}{c:Bool}{j k:IntKind}{a b:Int} : vJ op q c (.int j a) (.int k b)=cond (decide (j=k)) (aa op j a b) none:=rfl
theorem agE{op:BinOp}{q:uU}{c:Bool}{a b:List UInt8} : vJ op q c (.str a) (.str b)=j3 op a b:=rfl
theorem agy{op:BinOp}{c:Bool}{a b:Bool} : vJ op .bool c (.bool a) (.bool b)=j9 op (a==b):=rfl
theorem GV{off:Nat}{x:an} : WO A d (⟨some t,none,.fieldAddr off x⟩ :: os) ⟨T,H,lo,gen⟩ K=cW A d (YC T off (x.addr A.aN T)) t os T H lo gen K:=by
 refine ff ?_
 simp only[aq,YC]
 cases x.addr A.aN T with
 | lref b g o =>
  cases hb:T b with
  | lbox g' cs=>simp only[hb,bZ,gD,nz];cases Nat.beq g g'<;>rfl
  | _=>simp only[hb,bZ,nz];rfl
 | eref b g i z o =>
  cases hb:T b with
  | lsl g' e=>simp only[hb,bZ,gD,pT];cases (Nat.beq g g'&&Nat.blt i e.length)<;>rfl
  | _=>simp only[hb,bZ,pT];rfl
 | _=>rfl
theorem agL{off:Nat}{cs:List AV} : YC T off (.eptr cs)=some (.eptr (cs.drop off)):=rfl
theorem agN{off l o:Nat} : YC T off (.ref l o)=some (.ref l (o+off)):=rfl
theorem agM{off b g o:Nat} : YC T off (.lref b g o)=nz (T b) g (.lref b g (o+off)):=rfl
theorem JD{g g' : Nat}{cs:List AV}{r:AV} : nz (.lbox g cs) g' r=cond (Nat.beq g' g) (some r) none:=rfl
theorem agO{off b g i z o:Nat} : YC T off (.eref b g i z o)=pT (T b) g i (.eref b g i z (o+off)):=rfl
theorem Nb{g g' i:Nat}{e:List (List AV)}{r:AV} : pT (.lsl g e) g' i r=cond (Nat.beq g' g&&Nat.blt i e.length) (some r) none:=rfl
theorem Xv{n sz:Nat}{x i:an} : WO A d (⟨some t,none,.ixArr n sz x i⟩ :: os) ⟨T,H,lo,gen⟩ K=cW A d ((asNat (i.eval A.aN T)).bind fun k=>cond (Nat.blt k n) (YC T (k*sz) (x.addr A.aN T)) none) t os T H lo gen K:=by
 refine ff ?_
 simp only[aq]
 cases asNat (i.eval A.aN T) with
 | none=>rfl
 | some k =>
  simp only[aoW]
  cases Nat.blt k n with
  | false=>rfl
  | true =>
   simp only[aql,cond_true,YC]
   cases x.addr A.aN T with
   | lref b g o =>
    cases hb:T b with
    | lbox g' cs=>simp only[hb,bZ,gD,nz];cases Nat.beq g g'<;>rfl
    | _=>simp only[hb,bZ,nz];rfl
   | eref b g i z o =>
    cases hb:T b with
    | lsl g' e=>simp only[hb,bZ,gD,pT];cases (Nat.beq g g'&&Nat.blt i e.length)<;>rfl
    | _=>simp only[hb,bZ,pT];rfl
   | _=>rfl
theorem SE{agg:Bool}{off sz:Nat}{cs:List AV} : Z4 (.agg cs) agg sz off=ag false agg sz off cs:=rfl
theorem acO{sz:Nat}{x i:an} : WO A d (⟨some t,none,.ixSl sz x i⟩ :: os) ⟨T,H,lo,gen⟩ K=cW A d (ixV T sz (x.addr A.aN T) (asNat (i.eval A.aN T))) t os T H lo gen K:=by
 refine ff ?_
 simp only[aq,ixV]
 cases x.addr A.aN T with
 | slice e own =>
  cases asNat (i.eval A.aN T) with
  | none=>rfl
  | some n =>
   simp only[aoW,JG]
   cases e[n]? with
   | none=>rfl
   | some r=>simp only[aoW];cases Nat.beq r.length sz<;>rfl
 | sref l o m z =>
  cases asNat (i.eval A.aN T) with
  | none=>rfl
  | some n=>simp only[aoW];cases Nat.blt n m<;>rfl
 | lsr s g =>
  cases hs:T s with
  | lsl g' e =>
   simp only[hs]
   cases Nat.beq g g' with
   | false=>rfl
   | true =>
    simp only[cond_true]
    cases asNat (i.eval A.aN T) with
    | none=>rfl
    | some n =>
     simp only[aoW,JG]
     cases e[n]? with
     | none=>rfl
     | some r=>simp only[aoW];cases Nat.beq r.length sz<;>rfl
  | _=>simp[hs]
 | _=>rfl
theorem agX{sz n:Nat}{e:List (List AV)}{own:Bool} : ixV T sz (.slice e own) (some n)=JG sz (e[n]?) .eptr:=rfl
theorem agW{sz n l o m z:Nat} : ixV T sz (.sref l o m z) (some n)=cond (Nat.blt n m) (some (.ref l (o+n*sz))) none:=rfl
theorem agV{sz n s g:Nat} : ixV T sz (.lsr s g) (some n)=(match T s with|.lsl g' e=>cond (Nat.beq g g') (JG sz (e[n]?) fun _=>.eref s g n sz 0) none|_=>none):=rfl
theorem adf{sz:Nat}{r:List AV}{f:List AV->AV} : JG sz (some r) f=cond (Nat.beq r.length sz) (some (f r)) none:=rfl
theorem Xu{agg:Bool}{n sz:Nat}{x i:an} : WO A d (⟨some t,none,.index agg n sz x i⟩ :: os) ⟨T,H,lo,gen⟩ K=cW A d (IW agg n sz (x.eval A.aN T) (asNat (i.eval A.aN T))) t os T H lo gen K:=by
 refine ff ?_
 simp only[aq,IW]
 cases asNat (i.eval A.aN T) with
 | none=>cases x.eval A.aN T<;>rfl
 | some k =>
  simp only[aoW]
  cases Nat.blt k n with
  | false=>cases x.eval A.aN T<;>rfl
  | true=>cases x.eval A.aN T<;>rfl
theorem SF{agg:Bool}{n sz k:Nat}{cs:List AV} : IW agg n sz (.agg cs) (some k)=cond (Nat.blt k n) (ag false agg sz (k*sz) cs) none:=rfl
theorem JC{x i:an} : WO A d (⟨some t,none,.indexStr x i⟩ :: os) ⟨T,H,lo,gen⟩ K=cW A d (Oh (x.eval A.aN T) (asNat (i.eval A.aN T))) t os T H lo gen K:=by
 refine ff ?_
 simp only[aq,Oh]
 cases x.eval A.aN T with
 | str l =>
  cases asNat (i.eval A.aN T) with
  | none=>rfl
  | some n=>simp only[aoW];cases l[n]?<;>rfl
 | _=>rfl
theorem Xh{l:List UInt8}{n:Nat} : Oh (.str l) (some n)=HH (l[n]?):=rfl
theorem SB{b:UInt8} : HH (some b)=some (.int .u8 b.toNat):=rfl
theorem Na{x:an}{i:Nat} : WO A d (⟨some t,none,.extract x i⟩ :: os) ⟨T,H,lo,gen⟩ K=cW A d (O6 (x.eval A.aN T) i) t os T H lo gen K:=by
 refine ff ?_
 simp only[aq,O6]
 cases x.eval A.aN T with
 | tuple vs=>simp only;cases vs[i]?<;>rfl
 | _=>rfl
theorem Xs{vs:List AV}{i:Nat} : O6 (.tuple vs) i=(vs[i]?).map AV.aX:=rfl
theorem agY{k:ly}{x:an} : WO A d (⟨some t,none,.len k x⟩ :: os) ⟨T,H,lo,gen⟩ K=cW A d (zL T k (x.addr A.aN T)) t os T H lo gen K:=by
 refine ff ?_
 simp only[aq,zL]
 cases x.addr A.aN T with
 | lsr s g =>
  cases hs:T s with
  | lsl g' e=>simp only[hs];cases Nat.beq g g'<;>rfl
  | _=>simp[hs]
 | _=>rfl
theorem acR{l:List UInt8} : zL T .str (.str l)=some (.int .i64 l.length):=rfl
theorem Da{e:List (List AV)}{own:Bool} : zL T .sl (.slice e own)=some (.int .i64 e.length):=rfl
theorem acQ{l o m z:Nat} : zL T .sl (.sref l o m z)=some (.int .i64 m):=rfl
theorem acP{k:ly}{s g:Nat} : zL T k (.lsr s g)=(match T s with|.lsl g' e=>cond (Nat.beq g g') (kx k (.slice e false)) none|_=>none):=rfl
theorem acI{f:FuncId}{args:List an} : WO A d (⟨some t,none,.call (.fn f) args⟩ :: os) ⟨T,H,lo,gen⟩ K=(jN A.aN T args=true/\qF A d (aE A f (mw A.aN T args) H) t os T H lo gen K):=by
 rw[ft]
 simp only[bt,aq,an.eval,oF,qD,qF,apv,apR]
 refine propext ?_
 cases jN A.aN T args with
 | false=>simp[bf]
 | true =>
  simp only[cond_true,aq8]
  cases aE A f (mw A.aN T args) H with
  | none=>simp[bf]
  | some r =>
   obtain⟨v,c⟩:=r
   cases c with
   | none=>simp only[Option.map_some,Option.map_none,aoW];cases (d&&(aO v).isSome)<;>simp[bf,AS.bM]
   | some c=>simp only[Option.map_some,aoW];cases d<;>simp[bf,AS.bM]
theorem Xk{f:FuncId}{args:List an} : WO A d (⟨none,none,.call (.fn f) args⟩ :: os) ⟨T,H,lo,gen⟩ K=(jN A.aN T args=true/\z6 A d (aE A f (mw A.aN T args) H) os T H lo gen K):=by
 rw[ft]
 simp only[bt,aq,an.eval,oF,qD,z6,apv,apR]
 refine propext ?_
 cases jN A.aN T args with
 | false=>simp[bf]
 | true =>
  simp only[cond_true,aq8]
  cases aE A f (mw A.aN T args) H with
  | none=>simp[bf]
  | some r =>
   obtain⟨v,c⟩:=r
   cases c with
   | none=>simp only[Option.map_some,Option.map_none,aoW];cases (d&&(aO v).isSome)<;>simp[bf,AS.bM]
   | some c=>simp only[Option.map_some,aoW];cases d<;>simp[bf,AS.bM]
theorem Xl{i:Nat}{args:List an} : WO A d (⟨some t,none,.call (.tmp i) args⟩ :: os) ⟨T,H,lo,gen⟩ K=(jN A.aN T args=true/\Oj A d (T i) (mw A.aN T args) t os T H lo gen K):=by
 rw[ft]
 simp only[bt,aq,an.eval,oF,qD,Oj,qF]
 refine propext ?_
 cases hT:T i with
 | func fn fs cs =>
  cases fn with
  | func n =>
   cases jN A.aN T args with
   | false=>simp[bf]
   | true =>
    simp only[cond_true,aq8]
    cases aE A n (fs++mw A.aN T args++cs) H with
    | none=>simp[bf]
    | some r =>
     obtain⟨v,c⟩:=r
     cases c with
     | none=>simp only[Option.map_some,Option.map_none,aoW];cases (d&&(aO v).isSome)<;>simp[bf,AS.bM]
     | some c=>simp only[Option.map_some,aoW];cases d<;>simp[bf,AS.bM]
  | _=>simp[bf]
 | _=>simp[bf]
theorem Xi{n:FuncId}{fs vs cs:List AV} : Oj A d (.func (.func n) fs cs) vs t os T H lo gen K=qF A d (aE A n (fs++vs++cs) H) t os T H lo gen K:=rfl
theorem ag8{v:AV} : qF A false (some (v,none)) t os T H lo gen K=WO A false os ⟨T.put t v,H,lo,gen⟩ K:=by
 simp[qF,aB,AS.br]
theorem ada{v:AV} : qF A true (some (v,none)) t os T H lo gen K=cW A true (some v) t os T H lo gen K:=by
 simp only[qF,cW,aoW]
 cases (aO v).isSome<;>simp[bf,AS.br]
theorem ac'{v:AV}{h:ah}{l:Nat} : qF A false (some (v,some ⟨h,l⟩)) t os T H lo gen K=WO A false os ⟨T.put t v,h,cond (Nat.blt l lo) l lo,gen⟩ K:=by
 simp[qF,aB,AS.br,AS.fp]
theorem adb{v:AV} : z6 A false (some (v,none)) os T H lo gen K=WO A false os ⟨T,H,lo,gen⟩ K:=by
 simp[z6,aB]
theorem XM{v:AV}{h:ah}{l:Nat} : z6 A false (some (v,some ⟨h,l⟩)) os T H lo gen K=WO A false os ⟨T,h,cond (Nat.blt l lo) l lo,gen⟩ K:=by
 simp[z6,aB,AS.fp]
theorem SA{b:Bool}{sz bytes i:Nat}{y:an} : WO A false (⟨some t,none,.append b false sz bytes (.tmp i) y⟩ :: os) ⟨T,H,lo,gen⟩ K=TG A b sz bytes i (T i) (y.eval A.aN T) t os T H lo gen K:=by
 rw[ft]
 simp only[bt,aq,fe,TG]
 cases hT:T i with
 | slice e own =>
  simp only[aoZ,Option.map_eq_map]
  cases bw b sz bytes (.slice e own) (y.eval A.aN T) with
  | none=>simp[bf]
  | some z=>simp[bf,AS.bM,AS.br]
 | lsl g e =>
  simp only[aqb,aoZ]
  cases dQ sz (y.eval A.aN T)<;>simp[bf]
 | ae =>
  simp only[aoZ]
  cases bw b sz bytes (.slice [] true) (y.eval A.aN T) with
  | none=>simp[bf]
  | some z=>simp[bf,AS.bM,AS.br]
 | _=>simp[bf]
theorem acB{b:Bool}{sz bytes i:Nat}{y:AV} : TG A b sz bytes i .ae y t os T H lo gen K=bf (bw b sz bytes (.slice [] true) y) fun z=>WO A false os ⟨T.put t z,H,lo,gen⟩ K:=rfl
theorem acz{b:Bool}{sz bytes i:Nat}{e:List (List AV)}{own:Bool}{y:AV} : TG A b sz bytes i (.slice e own) y t os T H lo gen K=bf (bw b sz bytes (.slice e own) y) fun z=>WO A false os ⟨(T.put i (.slice e false)).put t z,H,lo,gen⟩ K:=rfl
theorem acD{b:Bool}{sz bytes:Nat}{v:AV}{y:an} : WO A false (⟨some t,none,.append b false sz bytes (.cg v) y⟩ :: os) ⟨T,H,lo,gen⟩ K=cW A false (bw b sz bytes v (y.eval A.aN T)) t os T H lo gen K:=by
 refine ff ?_
 simp only[aq,fe,aoZ,an.eval]
theorem XO{dst:Option Nat}{sz:Nat}{a v:an} : WO A d (⟨dst,none,.store sz a v⟩ :: os) ⟨T,H,lo,gen⟩ K=bf (bt A.aN (aE A) d ⟨T,H,lo,gen⟩ ⟨dst,none,.store sz a v⟩) fun s'=>WO A d os s' K:=ft
theorem XB{dst:Option Nat}{agg:Bool}{sz:Nat}{x:an} : WO A d (⟨dst,none,.load true agg sz x⟩ :: os) ⟨T,H,lo,gen⟩ K=bf (bt A.aN (aE A) d ⟨T,H,lo,gen⟩ ⟨dst,none,.load true agg sz x⟩) fun s'=>WO A d os s' K:=ft
theorem JE{dst:Option Nat}{x:an} : WO A d (⟨dst,none,.nilCheck x⟩ :: os) ⟨T,H,lo,gen⟩ K=bf (bt A.aN (aE A) d ⟨T,H,lo,gen⟩ ⟨dst,none,.nilCheck x⟩) fun s'=>WO A d os s' K:=ft
theorem SH{dst:Option Nat}{f:Fn}{a b:List an} : WO A d (⟨dst,none,.mkfunc f a b⟩ :: os) ⟨T,H,lo,gen⟩ K=bf (bt A.aN (aE A) d ⟨T,H,lo,gen⟩ ⟨dst,none,.mkfunc f a b⟩) fun s'=>WO A d os s' K:=ft
end
theorem Xc{G:Nat->List AV}{T:aw}{v:AV} : an.addr G T (.cg v)=v:=rfl
theorem Xf{G:Nat->List AV}{T:aw}{g:Nat} : an.addr G T (.aN g)=.eptr (G g):=rfl
theorem Xe{G:Nat->List AV}{T:aw}{f:FuncId} : an.addr G T (.fn f)=.func (.func f) [] []:=rfl
def spK(sz:Nat)(es:List (List AV))(i:Nat)(o:Option (List AV))(r:List (Nat × AV)):Option (List (List AV)):=match o with
 | none=>none
 | some cs=>cond (Nat.blt i es.length) (cA sz (es.set i cs) r) none
theorem aha{sz:Nat}{es:List (List AV)} : cA sz es []=some es:=rfl
theorem ag9{sz i:Nat}{es:List (List AV)}{v:AV}{r:List (Nat × AV)} : cA sz es ((i,v) :: r)=spK sz es i (v.elem sz) r:=by
 simp only[cA,spK]
 cases v.elem sz<;>rfl
theorem ag'{sz i:Nat}{es:List (List AV)}{cs:List AV}{r:List (Nat × AV)} : spK sz es i (some cs) r=cond (Nat.blt i es.length) (cA sz (es.set i cs) r) none:=rfl
theorem Xn{sz:Nat}{cs:List AV} : AV.elem sz (.agg cs)=cond (Nat.beq (cs.map AV.drop).length sz&&(cs.map AV.drop).all AV.plain) (some (cs.map AV.drop)) none:=rfl
theorem Xp{k:IntKind}{n:Int} : AV.elem 1 (.int k n)=some [.int k n]:=rfl
theorem Xr{l:List UInt8} : AV.elem 1 (.str l)=some [.str l]:=rfl
theorem Xo{b:Bool} : AV.elem 1 (.bool b)=some [.bool b]:=rfl
theorem Xq{e:List (List AV)}{o:Bool} : AV.elem 1 (.slice e o)=some [.slice e false]:=rfl
def bpK(cells:List AV)(off sz:Nat)(o:Option (List AV))(r:List (Nat × Nat × AV)):Option (List AV):=match o with
 | none=>none
 | some cs=>cond (Nat.beq cs.length sz&&Nat.ble (off+cs.length) cells.length) (fz (putAt cells off (cs.map AV.drop)) r) none
theorem agD{cells:List AV} : fz cells []=some cells:=rfl
theorem agB{cells:List AV}{off sz:Nat}{v:AV}{r:List (Nat × Nat × AV)} : fz cells ((off,sz,v) :: r)=bpK cells off sz v.cells r:=by
 simp only[fz,bpK]
 cases v.cells<;>rfl
theorem agC{cells cs:List AV}{off sz:Nat}{r:List (Nat × Nat × AV)} : bpK cells off sz (some cs) r=cond (Nat.beq cs.length sz&&Nat.ble (off+cs.length) cells.length) (fz (putAt cells off (cs.map AV.drop)) r) none:=rfl
def Jn:AV->Bool
 | .int .u8 _=>false
 | .any=>false
 | _=>true
def MV:List AV->Bool
 | []=>true
 | x :: r=>Jn x&&MV r
def nb:List (List AV)->Bool
 | []=>true
 | r :: e=>MV r&&nb e
theorem Sm:∀ r:List AV,(r.all fun|.int .u8 _=>false|.any=>false|_=>true)=MV r
 | []=>rfl
 | x :: r=>by
  rw[List.all_cons,MV,<- Sm r]
  congr 1
theorem Sn:∀ e:List (List AV),iY e=nb e
 | []=>rfl
 | r :: e=>by
  have:=Sn e
  simp only[iY] at this
  simp only[iY,List.all_cons,nb,this]
  rw[<- Sm];rfl
theorem SK{E:List (List AV)} : nG false E=nb E:=by simp only[nG,aoZ,Sn]
theorem akd{E:List (List AV)} : iY E=nb E:=Sn E
theorem ag1:nb []=true:=rfl
theorem ag3{r:List AV}{e:List (List AV)} : nb (r :: e)=(MV r&&nb e):=rfl
theorem acY:MV []=true:=rfl
theorem acZ{x:AV}{r:List AV} : MV (x :: r)=(Jn x&&MV r):=rfl
theorem ag5{n:Int} : Jn (.int .i64 n)=true:=rfl
theorem ag7{l:List UInt8} : Jn (.str l)=true:=rfl
theorem ag2{b:Bool} : Jn (.bool b)=true:=rfl
theorem ag6{e:List (List AV)}{o:Bool} : Jn (.slice e o)=true:=rfl
theorem ag4{cs:List AV} : Jn (.agg cs)=true:=rfl
theorem CJ{E:List (List AV)}(h:∀ r∈E,MV r=true):nb E=true:=by
 induction E with
 | nil=>rfl
 | cons r E ih=>rw[nb,h r (ao9 ..),ih fun r hr=>h r (apd _ hr)];rfl
theorem AZ:∀ {e f:List (List AV)},nb (e++f)=(nb e&&nb f)
 | [],f=>by simp[nb]
 | r :: e,f=>by simp only[apj,nb,AZ,Bool.and_assoc]
def zW(sz:Nat)(e:List (List AV)):Prop:=(∀ r∈e,r.length=sz)/\nb e=true
theorem Az{sz:Nat}{e:List (List AV)}(h:∀ r∈e,r.length=sz):fR sz e=true:=by
 cases e with
 | nil=>rfl
 | cons r e=>simp[fR,h r (ao9 ..)]
theorem Bv{sz bytes:Nat}{e f:List (List AV)}{o:Bool}(h1:zW sz e)(h2:zW sz f)(hb:(e.length+f.length)*bytes<=70368744177664)(hl:e.length+f.length<=70368744177664) :
  bw false sz bytes (.slice e true) (.slice f o)=some (.slice (e++f) true):=by
 simp only[bw,dQ,aoW]
 cases f with
 | nil=>simp
 | cons r f =>
  have hr:nG false (e++r :: f)=true:=by rw[SK,AZ,h1.2,h2.2];rfl
  have hf:cw sz bytes e (r :: f)=true:=by
   simp only[cw,Az h1.1,Az h2.1,apD hb,apD hl,Bool.and_self]
  simp only[hr,hf,Bool.and_self,cond_true]
theorem TI{b:Bool}{sz bytes:Nat}{e:List (List AV)}{o o' : Bool} : bw b sz bytes (.slice e o) (.slice [] o')=some (.slice e o):=rfl
def yw(v:AV)(g:Nat):Option AV:=match v with
 | .lsl g' e=>cond (Nat.beq g g') (cond (iY e) (some (.slice e true)) none) none
 | _=>none
def nR(T:aw)(t:Nat)(v:AV):Option AV:=match v with
 | .lsl _ e=>cond (iY e) (some (.slice e true)) none
 | .lsr b g=>yw (T b) g
 | .lbox ..|.lref ..|.eref ..|.iter ..=>none
 | v=>some v
def aeY(base lo:Nat)(H:ah)(o:Option AV):Option (AV × Option fQ):=o.bind fun r=>cond (r.leaves base) (some (r,cond (Nat.beq lo base) none (some ⟨H.take base,lo⟩))) none
def yS(o:Option cj)(agg:Bool)(sz:Nat):Option AV:=match o with
 | some (.box _ cs)=>ag false agg sz 0 cs
 | _=>none
def KU(v:AV)(H:ah)(agg:Bool)(sz:Nat):Option AV:=match v with
 | .lbox _ cs=>ag false agg sz 0 cs
 | .ref loc 0=>yS H[loc]? agg sz
 | _=>none
def Yx(o:Option AV)(l:Option (List AV)):Option (List AV):=o.bind fun v=>l.map (v.aX :: ·)
section
variable {T:aw}{H:ah}{lo gen base t:Nat}{rs:List fZ}
def jW(base lo:Nat)(H:ah):Bool:=cond (Nat.beq lo base) true (((H.take base).drop lo).all fun o=>match o with|.ca cs=>cs.all (AV.aG base)|_=>true)
theorem XG{n:Nat}{H:ah} : jW n n H=true:=by simp[jW]
theorem agP:fin base rs ⟨T,H,lo,gen⟩=cond (jW base lo H) (aeY base lo H (kO ⟨T,H,lo,gen⟩ rs)) none:=rfl
theorem acN{v:AV} : aeY base lo H (some v)=cond (v.leaves base) (some (v,cond (Nat.beq lo base) none (some ⟨H.take base,lo⟩))) none:=rfl
theorem ac2:kO ⟨T,H,lo,gen⟩ [.tmp t]=nR T t (T t):=by
 simp only[kO,mr,nR]
 cases hT:T t with
 | lsl g e=>simp only[hT]
 | lsr b g =>
  cases hb:T b with
  | lsl g' e =>
   simp only[hb,yw]
   cases Nat.beq g g' with
   | false=>simp only[aoZ,iR,hT];rfl
   | true=>simp only[cond_true,hb]
  | _=>simp only[hb,yw,iR,hT];rfl
 | _=>simp only[iR,hT];rfl
theorem SJ{b g:Nat} : nR T t (.lsr b g)=yw (T b) g:=rfl
theorem SG{g g' : Nat}{e:List (List AV)} : yw (.lsl g e) g'=cond (Nat.beq g' g) (cond (iY e) (some (.slice e true)) none) none:=rfl
theorem XJ{a sz:Nat}{agg:Bool} : kO ⟨T,H,lo,gen⟩ [.cell a agg sz]=iR ⟨T,H,lo,gen⟩ (.cell a agg sz):=rfl
theorem ac1:kO ⟨T,H,lo,gen⟩ []=some (.tuple []):=rfl
theorem ac3{r1 r2:fZ}{rs:List fZ} : kO ⟨T,H,lo,gen⟩ (r1 :: r2 :: rs)=(mq ⟨T,H,lo,gen⟩ (r1 :: r2 :: rs)).map .tuple:=rfl
theorem ac6:mq ⟨T,H,lo,gen⟩ []=some []:=rfl
theorem ac7{r:fZ}{rs:List fZ} : mq ⟨T,H,lo,gen⟩ (r :: rs)=Yx (iR ⟨T,H,lo,gen⟩ r) (mq ⟨T,H,lo,gen⟩ rs):=rfl
theorem Xm{v:AV}{l:List AV} : Yx (some v) (some l)=some (v.aX :: l):=rfl
theorem ac8:iR ⟨T,H,lo,gen⟩ (.tmp t)=cond (al (T t)) (some (T t)) none:=rfl
theorem ac5{a sz:Nat}{agg:Bool} : iR ⟨T,H,lo,gen⟩ (.cell a agg sz)=KU (T a) H agg sz:=by
 simp only[iR,KU]
 cases T a with
 | ref loc off =>
  cases off with
  | zero=>cases hl:H[loc]? with
   | none=>simp only[hl,yS]
   | some o=>cases o<;>simp only[hl,yS]
  | succ n=>rfl
 | _=>rfl
theorem XK{g sz:Nat}{cs:List AV}{agg:Bool} : KU (.lbox g cs) H agg sz=ag false agg sz 0 cs:=rfl
theorem XL{loc sz:Nat}{agg:Bool} : KU (.ref loc 0) H agg sz=yS H[loc]? agg sz:=rfl
theorem ac4{ty:TypeId}{cs:List AV}{sz:Nat}{agg:Bool} : yS (some (.box ty cs)) agg sz=ag false agg sz 0 cs:=rfl
theorem XT{b:Bool} : nR T t (AV.bool b)=some (AV.bool b):=rfl
theorem adj{k:IntKind}{n:Int} : nR T t (AV.int k n)=some (AV.int k n):=rfl
theorem adm{l:List UInt8} : nR T t (AV.str l)=some (AV.str l):=rfl
theorem adi:nR T t AV.any=some AV.any:=rfl
theorem Nj:nR T t AV.df=some AV.df:=rfl
theorem Ni:nR T t AV.cI=some AV.cI:=rfl
theorem XV{kz:Nat}{ka va:Bool}{es:List (List AV)} : nR T t (AV.dM kz ka va es)=some (AV.dM kz ka va es):=rfl
theorem JJ:nR T t AV.ct=some AV.ct:=rfl
theorem G0:nR T t AV.bR=some AV.bR:=rfl
theorem SV{e:List (List AV)}{own:Bool} : nR T t (AV.slice e own)=some (AV.slice e own):=rfl
theorem XU{cs:List AV} : nR T t (AV.eptr cs)=some (AV.eptr cs):=rfl
theorem adl{loc off:Nat} : nR T t (AV.ref loc off)=some (AV.ref loc off):=rfl
theorem XY{loc off n z:Nat} : nR T t (AV.sref loc off n z)=some (AV.sref loc off n z):=rfl
theorem XX{loc:Nat} : nR T t (AV.mref loc)=some (AV.mref loc):=rfl
theorem adk{g:Nat}{e:List (List AV)} : nR T t (AV.lsl g e)=cond (iY e) (some (.slice e true)) none:=rfl
theorem XW{fn:Fn}{fs cs:List AV} : nR T t (AV.func fn fs cs)=some (AV.func fn fs cs):=rfl
theorem SU{u:TypeId}{v:AV} : nR T t (AV.iface u v)=some (AV.iface u v):=rfl
theorem adh{cs:List AV} : nR T t (AV.agg cs)=some (AV.agg cs):=rfl
theorem SW{vs:List AV} : nR T t (AV.tuple vs)=some (AV.tuple vs):=rfl
end
def Bs(A:AP)(sz bytes:Nat)(x y:AV)(t:Nat)(os:List aj)(T:aw)(H:ah)(lo gen:Nat)(K:AS->Prop):Prop :=
 bf (il ⟨T,H,lo,gen⟩ sz bytes x y) fun r=>match r.2 with
  | some s'=>WO A false os (s'.br t r.1) K
  | none=>WO A false os ⟨T.put t r.1,H,lo,gen⟩ K
def Wu(k:AV)(kz:Nat)(ka:Bool):Option (List AV):=k.drop.cells.bind fun kc=>cond (Nat.beq kc.length kz&&ka==k.drop.isAgg) (some kc) none
def AW(H:ah)(ok:Bool)(kz:Nat)(ka va:Bool)(ks:List CK)(zero:List AV)(m k:AV):Option AV :=
 (Wu k kz ka).bind fun kc=>match m with
  | .cI=>some (yt ok va zero false)
  | .mF lR lQ mC es=>cond (Nat.beq kz lR&&ka==lQ&&va==mC&&sR es&&Ws ks kc) ((fw ks kc es).map (oS ok va zero kz es)) none
  | .dM lR lQ mC es=>cond (Nat.beq kz lR&&ka==lQ&&va==mC) ((fw ks kc es).map (oS ok va zero kz es)) none
  | .mref l=>match H[l]? with
   | some (.map lR lQ mC es)=>cond (Nat.beq kz lR&&ka==lQ&&va==mC) ((fw ks kc es).map (oS ok va zero kz es)) none
   | some (.dM lR lQ mC es)=>cond (Nat.beq kz lR&&ka==lQ&&va==mC) ((fw ks kc es).map (oS ok va zero kz es)) none
   | _=>none
  | _=>none
section
variable {A:AP}{T:aw}{H:ah}{lo gen:Nat}{K:AS->Prop}{d:Bool}{os:List aj}{t:Nat}
theorem nJ{op:fc}{x:Option (AV × Option AS)}(h:aq A.aN (aE A) ⟨T,H,lo,gen⟩ op=x):WO A false (⟨some t,none,op⟩ :: os) ⟨T,H,lo,gen⟩ K=bf x fun r=>match r.2 with
  | some s'=>WO A false os (s'.br t r.1) K
  | none=>WO A false os ⟨T.put t r.1,H,lo,gen⟩ K:=by
 rw[ft]
 simp only[bt,h]
 cases x with
 | none=>simp[bf]
 | some r =>
  obtain⟨z,s'⟩:=r
  cases s' with
  | none=>simp only[aoW,aqb,aoZ,aB];rfl
  | some s'=>simp only[aoW,aoZ,aB];rfl
theorem acC{sz bytes:Nat}{x y:an} : WO A false (⟨some t,none,.appendO sz bytes x y⟩ :: os) ⟨T,H,lo,gen⟩ K=Bs A sz bytes (x.addr A.aN T) (y.eval A.aN T) t os T H lo gen K:=nJ rfl
theorem Hz{sz bytes:Nat}{r:List AV}{f:List (List AV)}{own:Bool}(h1:cw sz bytes [] (r :: f)=true)(h2:cC (r :: f)=true) :
  Bs A sz bytes (.slice [] true) (.slice (r :: f) own) t os T H lo gen K=WO A false os ⟨T.put t (.sref H.length 0 (f.length+1) sz),H++[.box aJ (r :: f).flatten],cond (Nat.blt H.length lo) H.length lo,gen⟩ K:=by
 simp only[Bs,il,Gq,gU,dQ,aoW,List.isEmpty_cons,aqq,aql,h1,h2,cond_true,aB,List.length_cons]
 rfl
theorem Zt{sz bytes:Nat}{r:List AV}{f:List (List AV)}{own:Bool}(h1:cw sz bytes [] (r :: f)=true)(h2:cC (r :: f)=true) :
  Bs A sz bytes .ae (.slice (r :: f) own) t os T H lo gen K=WO A false os ⟨T.put t (.sref H.length 0 (f.length+1) sz),H++[.box aJ (r :: f).flatten],cond (Nat.blt H.length lo) H.length lo,gen⟩ K:=by
 simp only[Bs,il,Gq,gU,dQ,aoW,List.isEmpty_cons,aqq,aql,h1,h2,cond_true,aB,List.length_cons]
 rfl
theorem wQ{sz bytes n l:Nat}{ty:TypeId}{cs:List AV}{f:List (List AV)}{own:Bool}(hl:H[l]?=some (.box ty cs))(hc:cs.length=n*sz)(h1:(n+f.length)*bytes<=70368744177664)(h2:n+f.length<=70368744177664)
  (h3:fR sz f=true) (h4:cC f=true) :
  Bs A sz bytes (.sref l 0 n sz) (.slice f own) t os T H lo gen K=WO A false os ⟨T.put t (.sref H.length 0 (n+f.length) sz),H.set l .dead++[.box aJ (cs++f.flatten)],cond (Nat.blt l lo) l lo,gen⟩ K:=by
 have e1:Nat.beq cs.length (n*sz)=true:=by rw[hc];exact Nat.beq_refl _
 simp only[Bs,il,Gq,gU,dQ,aoW,hl,e1,h3,h4,Nat.beq_refl,Bool.and_true,apD h1,apD h2,cond_true,aB]
 rfl
theorem XD{sz bytes:Nat}{zero:List AV}{n:an} : WO A false (⟨some t,none,.yB sz bytes zero n⟩ :: os) ⟨T,H,lo,gen⟩ K =
  bf ((asNat (n.eval A.aN T)).bind fun k=>cond (Nat.ble (k*bytes) 70368744177664&&Nat.ble k 70368744177664) (some k) none) fun k=>WO A false os ⟨T.put t (.sref H.length 0 k sz),H++[.box aJ (List.replicate k zero).flatten],cond (Nat.blt H.length lo) H.length lo,gen⟩ K:=by
 rw[nJ rfl]
 simp only[aq,pG]
 cases asNat (n.eval A.aN T) with
 | none=>simp[bf]
 | some k =>
  simp only[aoW]
  cases (Nat.ble (k*bytes) 70368744177664&&Nat.ble k 70368744177664) with
  | false=>simp[bf]
  | true=>simp only[cond_true,aB];rfl
theorem XE{kz:Nat}{ka va:Bool} : WO A false (⟨some t,none,.uA kz ka va⟩ :: os) ⟨T,H,lo,gen⟩ K=WO A false os ⟨T.put t (.mref H.length),H++[.map kz ka va []],cond (Nat.blt H.length lo) H.length lo,gen⟩ K:=by
 rw[nJ rfl];simp only[aq,aB];rfl
theorem acS{ok:Bool}{kz:Nat}{ka va:Bool}{ks:List CK}{zero:List AV}{m k:an} : WO A d (⟨some t,none,.look ok kz ka va ks zero m k⟩ :: os) ⟨T,H,lo,gen⟩ K=cW A d (AW H ok kz ka va ks zero (m.addr A.aN T) (k.eval A.aN T)) t os T H lo gen K:=by
 refine ff ?_
 simp only[aq,sX,AW,Wu]
 cases (k.eval A.aN T).drop.cells with
 | none=>rfl
 | some kc =>
  simp only[aoW]
  cases (Nat.beq kc.length kz&&ka==(k.eval A.aN T).drop.isAgg) with
  | false=>rfl
  | true =>
   simp only[cond_true,aoW]
   cases m.addr A.aN T with
   | cI=>rfl
   | mF lR lQ mC es =>
    simp only[]
    cases (Nat.beq kz lR&&ka==lQ&&va==mC&&sR es&&Ws ks kc) with
    | false=>rfl
    | true=>simp only[cond_true,aqF];rfl
   | dM lR lQ mC es =>
    simp only[uy]
    cases (Nat.beq kz lR&&ka==lQ&&va==mC) with
    | false=>rfl
    | true=>simp only[cond_true,aoW,aqF];rfl
   | mref l =>
    simp only[uy]
    cases hl:H[l]? with
    | none=>rfl
    | some o =>
     cases o with
     | map lR lQ mC es =>
      simp only[hl]
      cases (Nat.beq kz lR&&ka==lQ&&va==mC) with
      | false=>rfl
      | true=>simp only[cond_true,aoW,aqF];rfl
     | dM lR lQ mC es =>
      simp only[hl]
      cases (Nat.beq kz lR&&ka==lQ&&va==mC) with
      | false=>rfl
      | true=>simp only[cond_true,aoW,aqF];rfl
     | _=>simp only[hl];rfl
   | _=>rfl
theorem acX{kz vz:Nat}{ka va:Bool}{ks:List CK}{m k v:an} : WO A false (⟨none,none,.wJ kz ka va vz ks m k v⟩ :: os) ⟨T,H,lo,gen⟩ K =
  bf (nj ⟨T,H,lo,gen⟩ kz ka va vz ks (m.addr A.aN T) (k.eval A.aN T) (v.eval A.aN T)) fun s'=>WO A false os (s'.bD v) K:=by
 rw[ft]
 simp only[bt,aq]
 cases nj ⟨T,H,lo,gen⟩ kz ka va vz ks (m.addr A.aN T) (k.eval A.aN T) (v.eval A.aN T) with
 | none=>simp[bf]
 | some s'=>simp only[Option.map_some,aoW,aoZ,aB];rfl
end
end
end Go.Abs
namespace Go.Abs
open Go
section
abbrev pr(n:Int):Prop:=-9223372036854775808<=n/\n<=9223372036854775807
theorem wrap64{n:Int}(h:-9223372036854775808<=n/\n<=9223372036854775807):IntKind.i64.wrap n=n:=by
 exact IntWalk.i64_in _ h
theorem uZ{k:IntKind}{n:Nat} : asNat (.int k n)=some n:=by simp[asNat]
theorem Li{k:IntKind}{n:Nat} : asNat (.int k (no_index (@OfNat.ofNat Int n instOfNat)))=some n:=by
 show asNat (.int k ((n:Nat):Int))=some n
 exact uZ
theorem Lh{k:IntKind}{a n:Nat} : asNat (.int k ((a:Int)+no_index (@OfNat.ofNat Int n instOfNat)))=some (a+n):=by
 show asNat (.int k ((a:Int)+((n:Nat):Int)))=some (a+n)
 rw[<- Int.natCast_add];exact uZ
theorem qE{k:IntKind}{n:Int}(h:0<=n):asNat (.int k n)=some n.toNat:=by simp[asNat,h]
theorem J2{a b:Nat} : Nat.ble a b=decide (a<=b):=by
 cases h:Nat.ble a b with
 | true=>simp[Nat.le_of_ble_eq_true h]
 | false=>simp[show ¬ a<=b from fun e=>by rw[apD e] at h;cases h]
theorem TK{a b:Nat} : Nat.blt a b=decide (a<b):=by
 show Nat.ble (a+1) b=_
 rw[J2];rfl
theorem dle{a b:Nat}(h:a<=b):decide (a<=b)=true:=by simp[h]
theorem dlt{a b:Nat}(h:a<b):decide (a<b)=true:=by simp[h]
theorem KD{a b:Int}(h:a<b):decide (a<b)=true:=by simp[h]
theorem KC{a b:Int}(h:b<=a):decide (a<b)=false:=by simp;omega
theorem KB{a b:Int}(h:a<=b):decide (a<=b)=true:=by simp[h]
theorem KA{a b:Int}(h:b<a):decide (a<=b)=false:=by simp;omega
theorem Kz{a b:Int}(h:a=b):(a==b)=true:=by simp[h]
theorem Ky{a b:Int}(h:a≠b):(a==b)=false:=by simp[h]
theorem KF{a b:Int}(h:a≠b):(a != b)=true:=by simp[h]
theorem KE{a b:Int}(h:a=b):(a != b)=false:=by simp[h]
theorem tq{a b:Nat}(h:a≠b):Nat.beq a b=false:=by
 cases hb:Nat.beq a b with
 | false=>rfl
 | true=>exact absurd (apQ hb) h
theorem ab9{a b:Nat}(h:a=b):Nat.beq a b=true:=by rw[h];exact Nat.beq_refl b
theorem Zx:(true==false)=false:=rfl
theorem Zw:(false==true)=false:=rfl
def ints(l:List Int):List (List AV):=l.map fun n=>[.int .i64 n]
def strs(l:List (List UInt8)):List (List AV):=l.map fun n=>[.str n]
theorem lP{l:List Int} : (ints l).length=l.length:=by simp[ints]
theorem rE{l:List (List UInt8)} : (strs l).length=l.length:=by simp[strs]
theorem ints_at{l:List Int}{i:Nat}{n:Int}(h:l[i]?=some n):(ints l)[i]?=some [.int .i64 n]:=by simp[ints,h]
theorem PT{l:List Int}{i:Nat} : (ints l)[i]?=l[i]?.map fun n=>[.int .i64 n]:=by simp[ints]
theorem vM:∀ {l:List (List UInt8)} {n:Nat},n=l.length->chunks 1 n (l.map .str)=strs l
 | [],0,_=>rfl
 | a :: l,n+1,h=>by
  simp only[apm,chunks,strs,ap9,aqz,aqw,apN]
  rw[vM (by simpa using h)];rfl
theorem Nt{l:List (List UInt8)}{n:Nat}(h:l.length<=n):(strs l).take n=strs l:=apM (by rw[rE];exact h)
theorem vk{l:List Int} : zW 1 (ints l):=⟨fun r hr=>by simp only[ints,apu] at hr;obtain⟨n,_,rfl⟩:=hr;rfl,CJ fun r hr=>by simp only[ints,apu] at hr;obtain⟨n,_,rfl⟩:=hr;rfl⟩
theorem kB{l:List (List UInt8)} : zW 1 (strs l):=⟨fun r hr=>by simp only[strs,apu] at hr;obtain⟨n,_,rfl⟩:=hr;rfl,CJ fun r hr=>by simp only[strs,apu] at hr;obtain⟨n,_,rfl⟩:=hr;rfl⟩
theorem U1{l:List Int} : nb (ints l)=true:=vk.2
theorem Yh{l:List (List UInt8)} : nb (strs l)=true:=kB.2
theorem F2{l m:List Int} : ints l++ints m=ints (l++m):=by simp[ints]
theorem G6{l m:List (List UInt8)} : strs l++strs m=strs (l++m):=by simp[strs]
theorem qC{l m:List Int}{o:Bool}(h:l.length+m.length<=1099511627776):bw false 1 8 (.slice (ints l) true) (.slice (ints m) o)=some (.slice (ints (l++m)) true):=by
 rw[Bv vk vk (by rw[lP,lP];omega) (by rw[lP,lP];omega),F2]
theorem TH{l:List Int}{n:Int}{o:Bool}(h:l.length<=1099511627775):bw false 1 8 (.slice (ints l) true) (.slice [[.int .i64 n]] o)=some (.slice (ints (l++[n])) true):=qC (m:=[n]) (by simp;omega)
theorem N5{m:List Int}{n:Int}{o:Bool}(h:m.length<=1099511627775):bw false 1 8 (.slice [[.int .i64 n]] true) (.slice (ints m) o)=some (.slice (ints (n :: m)) true):=qC (l:=[n]) (m:=m) (by simp;omega)
theorem N6{n:Int}{o:Bool} : bw false 1 8 (.slice [] true) (.slice [[.int .i64 n]] o)=some (.slice (ints [n]) true):=qC (l:=[]) (m:=[n]) (by simp)
theorem Lf{m:List Int}{o:Bool}(h:m.length<=1099511627776):bw false 1 8 (.slice [] true) (.slice (ints m) o)=some (.slice (ints m) true):=qC (l:=[]) (by simpa using h)
theorem xe{l m:List (List UInt8)}{o:Bool}(h:l.length+m.length<=1099511627776):bw false 1 16 (.slice (strs l) true) (.slice (strs m) o)=some (.slice (strs (l++m)) true):=by
 rw[Bv kB kB (by rw[rE,rE];omega) (by rw[rE,rE];omega),G6]
theorem wR{l:List (List UInt8)}{n:List UInt8}{o:Bool}(h:l.length<=1099511627775):bw false 1 16 (.slice (strs l) true) (.slice [[.str n]] o)=some (.slice (strs (l++[n])) true):=xe (m:=[n]) (by simp;omega)
theorem N7{n:List UInt8}{o:Bool} : bw false 1 16 (.slice [] true) (.slice [[.str n]] o)=some (.slice (strs [n]) true):=xe (l:=[]) (m:=[n]) (by simp)
theorem aaJ{H l m:ah} : H++l++m=H++(l++m):=ap' ..
theorem aaK{H l:ah} : List.length (H++l)=H.length+l.length:=ao6
theorem PE{H l:ah}{k:Nat} : (H++l)[H.length+k]?=l[k]?:=by rw[ao5 (by omega)];simp
theorem UM{H l:ah} : (H++l)[H.length]?=l[0]?:=PE (k:=0)
theorem PF{H l:ah}{k:Nat}{x:cj} : (H++l).set (H.length+k) x=H++l.set k x:=by rw[apx _ _ (by omega)];simp
theorem UN{H l:ah}{x:cj} : (H++l).set H.length x=H++l.set 0 x:=PF (k:=0)
theorem UO{H l:ah} : (H++l).take H.length=H:=by simp
theorem afS{n k:Nat} : decide (n+k<n)=false:=by simp
theorem aaL{n:Nat} : decide (n<n)=false:=by simp
def Og(A:AP)(ty:TypeId)(v:AV)(t:Nat)(os:List aj)(T:aw)(H:ah)(lo gen:Nat)(K:AS->Prop):Prop :=
 bf (v.drop.cells.bind fun cs=>cond (cs.all (aV H.length)) (some (cs.map AV.drop)) none) fun cs=>WO A false os ⟨T.put t (.ref H.length 0),H++[.box ty cs],cond (Nat.blt H.length lo) H.length lo,gen⟩ K
section
variable {A:AP}{T:aw}{H:ah}{lo gen:Nat}{K:AS->Prop}{d:Bool}{os:List aj}{t:Nat}
theorem acF{ty:TypeId}{x:an} : WO A false (⟨some t,none,.box ty x⟩ :: os) ⟨T,H,lo,gen⟩ K=Og A ty (x.eval A.aN T) t os T H lo gen K:=by
 rw[nJ rfl]
 simp only[aq,Og]
 cases (x.eval A.aN T).drop.cells with
 | none=>simp[bf]
 | some cs =>
  simp only[aoW]
  cases cs.all (aV H.length) with
  | false=>simp[bf]
  | true=>simp only[cond_true,aB];rfl
theorem ZA{ty:TypeId}{cs:List AV} : Og A ty (.agg cs) t os T H lo gen K=bf (cond (cs.all (aV H.length)) (some (cs.map AV.drop)) none) fun cs=>WO A false os ⟨T.put t (.ref H.length 0),H++[.box ty cs],cond (Nat.blt H.length lo) H.length lo,gen⟩ K:=rfl
theorem ZB{ty:TypeId}{k:IntKind}{n:Int} : Og A ty (.int k n) t os T H lo gen K=WO A false os ⟨T.put t (.ref H.length 0),H++[.box ty [.int k n]],cond (Nat.blt H.length lo) H.length lo,gen⟩ K:=by
 simp only[Og,AV.drop,AV.cells,aoW];exact aB
end
theorem aag{n:Nat}{k:IntKind}{m:Int} : aV n (.int k m)=true:=rfl
theorem UC{n:Nat}{b:Bool} : aV n (.bool b)=true:=rfl
theorem aaj{n:Nat}{s:List UInt8} : aV n (.str s)=true:=rfl
theorem Pm{n:Nat}{e:List (List AV)}{o:Bool} : aV n (.slice e o)=true:=rfl
theorem UD{n l o k z:Nat} : aV n (.sref l o k z)=Nat.ble l n:=rfl
theorem aai{n l o:Nat} : aV n (.ref l o)=Nat.ble l n:=rfl
theorem aah{n:Nat} : aV n .df=true:=rfl
theorem Yk{a b:Int}(h:0<=a):a.tdiv b=a / b:=Int.tdiv_eq_ediv_of_nonneg h
theorem K2{a b:Int}(h:0<=a):a.tmod b=a % b:=Int.tmod_eq_emod_of_nonneg h
def tP(A:AP)(d:Bool)(v:AV)(w:Bool)(p:Bool)(os:List aj)(T:aw)(H:ah)(lo gen:Nat)(K:AS->Prop):Prop :=
 bf (match v with|.bool b=>some (b==w)|.tuple []=>some false|_=>none) fun b=>(b=true->p=true)/\WO A d os ⟨T,H,lo,gen⟩ K
def J3(A:AP)(v:AV)(t:Nat)(os:List aj)(T:aw)(H:ah)(lo gen:Nat)(K:AS->Prop):Prop :=
 bf v.drop.cells fun cs=>WO A false os ⟨T.put t (.lbox gen (cs.map AV.drop)),H,lo,gen+1⟩ K
def BC(A:AP)(d:Bool)(r:Option (AV × Option fQ))(t:Nat)(os:List aj)(T:aw)(H:ah)(lo gen:Nat)(K:AS->Prop):Prop :=
 bf (r.bind fun r=>match r.2 with
  | none=>cond (d&&(aO r.1).isSome) none (some r.1)
  | some _=>none) fun v=>WO A d os ⟨T.put t v,H,lo,gen⟩ K
section
variable {A:AP}{T:aw}{H:ah}{lo gen:Nat}{K:AS->Prop}{d:Bool}{os:List aj}{t:Nat}
theorem agH{c:NB}{x:an} : WO A d (⟨none,none,.jR c x⟩ :: os) ⟨T,H,lo,gen⟩ K=(fG c (x.addr A.aN T)=true/\WO A d os ⟨T,H,lo,gen⟩ K):=by
 rw[ft]
 simp only[bt,aq]
 refine propext ?_
 cases fG c (x.addr A.aN T) with
 | false=>simp[bf]
 | true=>simp[bf,aO,AS.bM]
theorem acK{g:Nat}{w:Bool}{c:NB}{x:an} : WO A d (⟨none,some (g,w),.jR c x⟩ :: os) ⟨T,H,lo,gen⟩ K=tP A d (T g) w (fG c (x.addr A.aN T)) os T H lo gen K:=by
 rw[ft]
 simp only[tP]
 unfold bt
 simp only[aq]
 cases hT:T g with
 | bool b =>
  cases hb:(b==w) with
  | true =>
   refine propext ?_
   cases fG c (x.addr A.aN T) with
   | false=>simp[hb,bf]
   | true=>simp[hb,bf,aO,AS.bM]
  | false=>simp[hb,bf,AS.bM]
 | tuple l =>
  cases l with
  | nil=>simp[bf,AS.bM]
  | cons a l=>simp[bf]
 | _=>simp[bf]
theorem agJ{p:Bool} : tP A d (.bool true) true p os T H lo gen K=(p=true/\WO A d os ⟨T,H,lo,gen⟩ K):=by simp[tP,aB]
theorem agF{p:Bool} : tP A d (.bool false) false p os T H lo gen K=(p=true/\WO A d os ⟨T,H,lo,gen⟩ K):=by simp[tP,aB]
theorem agI{p:Bool} : tP A d (.bool true) false p os T H lo gen K=WO A d os ⟨T,H,lo,gen⟩ K:=by simp[tP,aB]
theorem agG{p:Bool} : tP A d (.bool false) true p os T H lo gen K=WO A d os ⟨T,H,lo,gen⟩ K:=by simp[tP,aB]
theorem agK{p w:Bool} : tP A d (.tuple []) w p os T H lo gen K=WO A d os ⟨T,H,lo,gen⟩ K:=by simp[tP,aB]
theorem acJ{b w:Bool} : tP A d (.bool b) w true os T H lo gen K=WO A d os ⟨T,H,lo,gen⟩ K:=by simp[tP,aB]
theorem acG{x:an} : WO A false (⟨some t,none,.boxL x⟩ :: os) ⟨T,H,lo,gen⟩ K=J3 A (x.eval A.aN T) t os T H lo gen K:=by
 rw[nJ rfl]
 simp only[aq,J3]
 cases (x.eval A.aN T).drop.cells with
 | none=>simp[bf]
 | some cs=>simp only[Option.map_some,aB];rfl
theorem Zy{cs:List AV} : J3 A (.agg cs) t os T H lo gen K=WO A false os ⟨T.put t (.lbox gen (cs.map AV.drop)),H,lo,gen+1⟩ K:=by
 simp only[J3,AV.drop,AV.cells];exact aB
theorem Xj{f:FuncId}{args:List an} : WO A d (⟨some t,none,.tJ (.fn f) args⟩ :: os) ⟨T,H,lo,gen⟩ K=(jN A.aN T args=true/\BC A d (aE A f (mw A.aN T args) H) t os T H lo gen K):=by
 rw[ft]
 simp only[bt,aq,an.eval,oF,qD,BC,apv,apR]
 refine propext ?_
 cases jN A.aN T args with
 | false=>simp[bf]
 | true =>
  simp only[cond_true,aq8]
  cases aE A f (mw A.aN T args) H with
  | none=>simp[bf]
  | some r =>
   obtain⟨v,c⟩:=r
   cases c with
   | none=>simp only[aoW];cases (d&&(aO v).isSome)<;>simp[bf,AS.bM,AS.br]
   | some c=>simp[bf]
theorem ac9{v:AV} : BC A false (some (v,none)) t os T H lo gen K=WO A false os ⟨T.put t v,H,lo,gen⟩ K:=by
 simp[BC,aB]
theorem XF{sz:Nat}{z:List (List AV)}{ps:List (Nat × an)} : WO A false (⟨some t,none,.lS sz z ps⟩ :: os) ⟨T,H,lo,gen⟩ K =
  bf ((cA sz z (l6 A.aN T ps)).bind fun E=>cond (cC E) (some E) none) fun E=>WO A false os ⟨T.put t (.sref H.length 0 E.length sz),H++[.box aJ E.flatten],cond (Nat.blt H.length lo) H.length lo,gen⟩ K:=by
 rw[nJ rfl]
 simp only[aq,u6]
 cases cA sz z (l6 A.aN T ps) with
 | none=>simp[bf]
 | some E =>
  simp only[aoW]
  cases cC E with
  | false=>simp[bf]
  | true=>simp only[cond_true,aB];rfl
end
section
variable {b g o l n z:Nat}{e:List (List AV)}{own:Bool}{cs:List AV}{s:List UInt8}
theorem aeE{b' : Nat} : fG (.frame b) (.lref b' g o)=Nat.beq b b':=rfl
theorem aeL:fG .heap (.ref l o)=true:=rfl
theorem aeI:fG .heap (.eptr cs)=true:=rfl
theorem aeM:fG .heap (.slice e own)=true:=rfl
theorem aeG:fG .heap (.sref l o n z)=true:=rfl
theorem aeJ:fG .heap (.mref l)=true:=rfl
theorem aeK:fG .heap .df=true:=rfl
theorem aeF:fG .heap .cI=true:=rfl
theorem aeN:fG .heap (.str s)=true:=rfl
theorem aeH:fG .heap (.agg cs)=true:=rfl
theorem aeO:fG .TA (.eptr cs)=true:=rfl
theorem aeP:fG .TA (.slice e own)=true:=rfl
end
section
variable {A:AP}{T:aw}{H:ah}{lo gen:Nat}{K:AS->Prop}{os:List aj}{t:Nat}
end
def DB(A:AP)(sz bytes i:Nat)(v y:AV)(t:Nat)(os:List aj)(T:aw)(H:ah)(lo gen:Nat)(K:AS->Prop):Prop:=match v with
 | .ae=>bf ((dQ sz y).bind fun f=>cond (cw sz bytes [] f) (some f) none) fun f=>WO A false os ⟨(T.put i .any).put t (.lsl gen f),H,lo,gen+1⟩ K
 | .slice e own=>bf ((dQ sz y).bind fun f=>cond (e.isEmpty&&own&&cw sz bytes [] f) (some f) none) fun f=>WO A false os ⟨(T.put i .any).put t (.lsl gen f),H,lo,gen+1⟩ K
 | .lsl _ e=>bf ((dQ sz y).bind fun f=>cond (cw sz bytes e f) (some (e++f)) none) fun f=>WO A false os ⟨(T.put i .any).put t (.lsl gen f),H,lo,gen+1⟩ K
 | _=>False
section
variable {A:AP}{T:aw}{H:ah}{lo gen:Nat}{K:AS->Prop}{os:List aj}{t:Nat}
theorem acA{b:Bool}{sz bytes i:Nat}{y:an} : WO A false (⟨some t,none,.append b true sz bytes (.tmp i) y⟩ :: os) ⟨T,H,lo,gen⟩ K=DB A sz bytes i (T i) (y.eval A.aN T) t os T H lo gen K:=by
 rw[ft]
 simp only[bt,aq,fe,DB]
 cases hT:T i with
 | ae =>
  simp only[cond_true]
  cases dQ sz (y.eval A.aN T) with
  | none=>simp[bf]
  | some f=>simp only[aoW];cases cw sz bytes [] f<;>simp[bf,AS.bM,AS.br]
 | lsl g e =>
  simp only[aql]
  cases dQ sz (y.eval A.aN T) with
  | none=>simp[bf]
  | some f=>simp only[aoW];cases cw sz bytes e f<;>simp[bf,AS.bM,AS.br]
 | slice e own =>
  simp only[cond_true]
  cases dQ sz (y.eval A.aN T) with
  | none=>simp[bf]
  | some f=>simp only[aoW];cases (e.isEmpty&&own&&cw sz bytes [] f)<;>simp[bf,AS.bM,AS.br]
 | _=>simp[bf]
theorem Zv{sz bytes i:Nat}{e:List (List AV)}{own:Bool} : DB A sz bytes i .ae (.slice e own) t os T H lo gen K=bf (cond (cw sz bytes [] e) (some e) none) fun f=>WO A false os ⟨(T.put i .any).put t (.lsl gen f),H,lo,gen+1⟩ K:=rfl
theorem aew{sz bytes i:Nat}{e f:List (List AV)}{o own:Bool} : DB A sz bytes i (.slice e o) (.slice f own) t os T H lo gen K=bf (cond (e.isEmpty&&o&&cw sz bytes [] f) (some f) none) fun f=>WO A false os ⟨(T.put i .any).put t (.lsl gen f),H,lo,gen+1⟩ K:=rfl
theorem Zu{sz bytes i g:Nat}{e f:List (List AV)}{own:Bool} : DB A sz bytes i (.lsl g e) (.slice f own) t os T H lo gen K=bf (cond (cw sz bytes e f) (some (e++f)) none) fun f=>WO A false os ⟨(T.put i .any).put t (.lsl gen f),H,lo,gen+1⟩ K:=rfl
end
section
variable {A:AP}{T:aw}{H:ah}{lo gen:Nat}{K:AS->Prop}{d:Bool}{os:List aj}{t:Nat}
theorem S6:cW A d (some AV.ae) t os T H lo gen K=WO A d os ⟨T.put t AV.ae,H,lo,gen⟩ K:=cB rfl
theorem Sd{take obj:Bool}{i:Nat} : jf A d take obj i AV.ae t os T H lo gen K=WO A d os ⟨T.put t AV.ae,H,lo,gen⟩ K:=aB
theorem Dx{s:Nat} : iC s AV.ae=.ae:=rfl
theorem FG:aO AV.ae=none:=rfl
theorem Je{T:aw} : zL T .sl .ae=some (.int .i64 0):=rfl
theorem zk{base:Nat} : AV.aG base .ae=AV.plain .ae:=rfl
theorem zP{base:Nat} : AV.bn base .ae=AV.aG base .ae:=rfl
end
section
variable {o:Option (List (List AV))}{base:Nat}{A:AP}{T:aw}{H:ah}{lo gen:Nat}{K:AS->Prop}{d:Bool}{os:List aj}{t:Nat}
theorem MU:Jn AV.ae=true:=rfl
theorem Pl:aV base AV.ae=true:=rfl
theorem Cz:AV.leaves base AV.ae=true:=rfl
end
end
end Go.Abs
namespace Go.Abs
section
section
variable {A:AP}{T:aw}{H:ah}{lo gen:Nat}{K:AS->Prop}{d:Bool}{os:List aj}{t:Nat}
theorem lr{agg:Bool}{sz b:Nat}{x:an} : WO A d (⟨none,none,.same agg sz b x⟩ :: os) ⟨T,H,lo,gen⟩ K=(jK T H agg sz (x.addr A.aN T)=some (T b)/\WO A d os ⟨T,H,lo,gen⟩ K):=by
 have hl:cM ⟨T,H,lo,gen⟩ false agg sz (x.addr A.aN T)=(jK T H agg sz (x.addr A.aN T)).map (·,none):=by
  simp only[cM,jK,aqb,aoZ]
  cases x.addr A.aN T with
  | ref loc off=>cases hl:H[loc]? with
   | none=>simp only[hl,lI];rfl
   | some o=>cases o<;>simp only[hl,lI]<;>rfl
  | eref b g i z off =>
   simp only[oT]
   cases T b<;>try rfl
   rename_i g' e
   cases hb:Nat.beq g g'<;>simp only[hb,cond_true,aoZ,Option.map_none]
   cases he:e[i]?<;>simp only[he,aoW,Option.bind_none,rr,Option.map_none]
   rename_i r
   cases hr:Nat.beq r.length z<;>simp only[hr,cond_true,aoZ,Option.map_none]
  | lref b g off =>
   simp only[mT]
   cases T b<;>try rfl
   rename_i g' cs
   cases hb:Nat.beq g g'<;>simp only[hb,cond_true,aoZ,Option.map_none]
  | _=>rfl
 rw[ft]
 simp only[bt,aq,hl]
 refine propext ?_
 cases jK T H agg sz (x.addr A.aN T) with
 | none=>simp[bf]
 | some v =>
  simp only[Option.map_some]
  cases hq:nK v (T b) with
  | false =>
   have:v≠T b:=fun e=>by rw[e,xG] at hq;cases hq
   simp[bf,this]
  | true=>simp[bf,aO,AS.bM,u9 _ _ hq]
theorem aY{cs:List AV}{agg:Bool}{sz off:Nat} : lI (some (.ca cs)) agg sz off=ag false agg sz off cs:=rfl
end
end
end Go.Abs
namespace Go.Proofs.YthbncinhhdogpaaGreatDoor
open Go Go.Abs Go.Proofs
def evA:=And.intro (And.intro (And.intro (And.intro (And.intro (And.intro (And.intro (And.intro (And.intro (@Zh)
 (@Yp))
 (And.intro (@adF)
 (@Tn)))
 (And.intro (And.intro (@adL)
 (@ahn))
 (And.intro (@adH)
 (And.intro (@ahm)
 (@adK)))))
 (And.intro (And.intro (And.intro (@ahk)
 (@Tm))
 (And.intro (@adE)
 (@Yo)))
 (And.intro (And.intro (@Nx)
 (@adJ))
 (And.intro (@Tl)
 (And.intro (@ahl)
 (@adI))))))
 (And.intro (And.intro (And.intro (And.intro (@Tk)
 (@Yr))
 (And.intro (@adG)
 (@Yq)))
 (And.intro (And.intro (@JR)
 (@Nw))
 (And.intro (@aB)
 (And.intro (@HS)
 (@DY)))))
 (And.intro (And.intro (And.intro (@Xb)
 (@IZ))
 (And.intro (@IY)
 (And.intro (@Option.bind_some.{0,0})
 (@Option.bind_none.{0,0}))))
 (And.intro (And.intro (@Option.map_some.{0,0})
 (@Option.map_none.{0,0}))
 (And.intro (@Od)
 (And.intro (@beq_self_eq_true.{0})
 (@Bool.and_false)))))))
 (And.intro (And.intro (And.intro (And.intro (And.intro (@Bool.false_and)
 (@Bool.true_and))
 (And.intro (@Bool.and_true)
 (@Bool.or_true)))
 (And.intro (And.intro (@Bool.true_or)
 (@Bool.or_false))
 (And.intro (@Bool.false_or)
 (And.intro (@Bool.not_true)
 (@Bool.not_false)))))
 (And.intro (And.intro (And.intro (@decide_true)
 (@decide_false))
 (And.intro (@List.map_cons.{0,0})
 (@List.map_nil.{0,0})))
 (And.intro (And.intro (@List.all_cons.{0})
 (@List.all_nil.{0}))
 (And.intro (@List.length_cons.{0})
 (And.intro (@List.length_nil.{0})
 (@List.getElem?_cons_zero.{0}))))))
 (And.intro (And.intro (And.intro (And.intro (@List.getElem?_cons_succ.{0})
 (@List.nil_append.{0}))
 (And.intro (@List.append_nil.{0})
 (@List.cons_append.{0})))
 (And.intro (And.intro (@wrap64)
 (@uZ))
 (And.intro (@Li)
 (And.intro (@Lh)
 (@Option.some.injEq.{0})))))
 (And.intro (And.intro (And.intro (@Prod.mk.injEq.{0,0})
 (@Nat.zero_add))
 (And.intro (@List.drop_zero.{0})
 (And.intro (@J2)
 (@TK))))
 (And.intro (And.intro (@dle)
 (@dlt))
 (And.intro (@List.take_succ_cons.{0})
 (And.intro (@List.take_zero.{0})
 (@List.drop_succ_cons.{0}))))))))
 (And.intro (And.intro (And.intro (And.intro (And.intro (And.intro (@Int.natCast_add)
 (@Int.cast_ofNat_Int))
 (And.intro (@List.set_cons_zero.{0})
 (@List.set_cons_succ.{0})))
 (And.intro (And.intro (@TI)
 (@qC))
 (And.intro (@TH)
 (And.intro (@N6)
 (@N5)))))
 (And.intro (And.intro (And.intro (@Lf)
 (@xe))
 (And.intro (@wR)
 (@N7)))
 (And.intro (And.intro (@U1)
 (@Yh))
 (And.intro (@Zx)
 (And.intro (@tq)
 (@ab9))))))
 (And.intro (And.intro (And.intro (And.intro (@vM)
 (@Nt))
 (And.intro (@List.length_map.{0,0})
 (@Zw)))
 (And.intro (And.intro (@ge_iff_le.{0})
 (@gt_iff_lt.{0}))
 (And.intro (@AV.int.injEq)
 (And.intro (@AV.str.injEq)
 (@AV.bool.injEq)))))
 (And.intro (And.intro (And.intro (@AV.slice.injEq)
 (@true_and))
 (And.intro (@and_true)
 (And.intro (@and_self)
 (@LB))))
 (And.intro (And.intro (@OE)
 (@OI))
 (And.intro (@OD)
 (And.intro (@Fe)
 (@Fc)))))))
 (And.intro (And.intro (And.intro (And.intro (And.intro (@B5)
 (@zx))
 (And.intro (@HZ)
 (@LC)))
 (And.intro (And.intro (@OH)
 (@LI))
 (And.intro (@LJ)
 (And.intro (@OF)
 (@OG)))))
 (And.intro (And.intro (And.intro (@LD)
 (@LG))
 (And.intro (@HX)
 (@OC)))
 (And.intro (And.intro (@H2)
 (@BW))
 (And.intro (@D5)
 (And.intro (@Fa)
 (@D4))))))
 (And.intro (And.intro (And.intro (And.intro (@xA)
 (@xz))
 (And.intro (@wC)
 (@u5)))
 (And.intro (And.intro (@zu)
 (@BX))
 (And.intro (@D8)
 (And.intro (@B1)
 (@B2)))))
 (And.intro (And.intro (And.intro (@D6)
 (@D7))
 (And.intro (@BY)
 (And.intro (@B0)
 (@zr))))
 (And.intro (And.intro (@D3)
 (@zw))
 (And.intro (@Ui)
 (And.intro (@ZZ)
 (@Z3)))))))))
 (And.intro (And.intro (And.intro (And.intro (And.intro (And.intro (And.intro (@ZY)
 (@L0))
 (And.intro (@LZ)
 (@Io)))
 (And.intro (And.intro (@Fv)
 (@O9))
 (And.intro (@Uj)
 (And.intro (@Z2)
 (@Un)))))
 (And.intro (And.intro (And.intro (@Uo)
 (@Z0))
 (And.intro (@Z1)
 (@Uk)))
 (And.intro (And.intro (@Um)
 (@O7))
 (And.intro (@ZX)
 (And.intro (@O')
 (@It))))))
 (And.intro (And.intro (And.intro (And.intro (@L7)
 (@Ma))
 (And.intro (@L6)
 (@Ck)))
 (And.intro (And.intro (@Cj)
 (@zA))
 (And.intro (@xV)
 (And.intro (@FH)
 (@Iu)))))
 (And.intro (And.intro (And.intro (@L')
 (@Iy))
 (And.intro (@Iz)
 (And.intro (@L8)
 (@L9))))
 (And.intro (And.intro (@Iv)
 (@Ix))
 (And.intro (@FF)
 (And.intro (@L5)
 (@FI)))))))
 (And.intro (And.intro (And.intro (And.intro (And.intro (@HI)
 (@Lo))
 (And.intro (@Ls)
 (@Ln)))
 (And.intro (And.intro (@BQ)
 (@BP))
 (And.intro (@zn)
 (And.intro (@xp)
 (@DR)))))
 (And.intro (And.intro (And.intro (@HK)
 (@Lr))
 (And.intro (@HO)
 (@HP)))
 (And.intro (And.intro (@Lp)
 (@Lq))
 (And.intro (@HL)
 (And.intro (@HN)
 (@DO))))))
 (And.intro (And.intro (And.intro (And.intro (@Lm)
 (@DT))
 (And.intro (@Jt)
 (@M4)))
 (And.intro (And.intro (@M8)
 (@M3))
 (And.intro (@C4)
 (And.intro (@C3)
 (@zS)))))
 (And.intro (And.intro (And.intro (@yN)
 (@GP))
 (And.intro (@Ju)
 (And.intro (@M7)
 (@Jx))))
 (And.intro (And.intro (@Jy)
 (@M5))
 (And.intro (@M6)
 (And.intro (@Jv)
 (@M1))))))))
 (And.intro (And.intro (And.intro (And.intro (And.intro (And.intro (@GQ)
 (@BF))
 (And.intro (@DJ)
 (@DN)))
 (And.intro (And.intro (@DI)
 (@xn))
 (And.intro (@xl)
 (And.intro (@wB)
 (@u2)))))
 (And.intro (And.intro (And.intro (@zl)
 (@BG))
 (And.intro (@DM)
 (@BK)))
 (And.intro (And.intro (@BL)
 (@DK))
 (And.intro (@DL)
 (And.intro (@BH)
 (@BJ))))))
 (And.intro (And.intro (And.intro (And.intro (@zj)
 (@DH))
 (And.intro (@zm)
 (@CQ)))
 (And.intro (And.intro (@GF)
 (@GK))
 (And.intro (@GC)
 (And.intro (@yM)
 (@yL)))))
 (And.intro (And.intro (And.intro (@wK)
 (@vt))
 (And.intro (@zQ)
 (And.intro (@CT)
 (@GJ))))
 (And.intro (And.intro (@CX)
 (@CY))
 (And.intro (@GG)
 (And.intro (@GI)
 (@CU)))))))
 (And.intro (And.intro (And.intro (And.intro (And.intro (@CW)
 (@zO))
 (And.intro (@GB)
 (@zR)))
 (And.intro (And.intro (@F6)
 (@I'))
 (And.intro (@Jd)
 (And.intro (@I9)
 (@zK)))))
 (And.intro (And.intro (And.intro (@zJ)
 (@yp))
 (And.intro (@wH)
 (@CA)))
 (And.intro (And.intro (@F7)
 (@Jc))
 (And.intro (@Gb)
 (And.intro (@Gc)
 (@Ja))))))
 (And.intro (And.intro (And.intro (And.intro (@Jb)
 (@F8))
 (And.intro (@Ga)
 (@Cy)))
 (And.intro (And.intro (@I8)
 (@CB))
 (And.intro (@Hq)
 (And.intro (@K8)
 (@Lb)))))
 (And.intro (And.intro (And.intro (@K7)
 (@Br))
 (And.intro (@Bq)
 (And.intro (@zh)
 (@w9))))
 (And.intro (And.intro (@Dy)
 (@Hr))
 (And.intro (@La)
 (And.intro (@Hv)
 (@Hw))))))))))
 (And.intro (And.intro (And.intro (And.intro (And.intro (And.intro (And.intro (And.intro (@K9)
 (@K'))
 (And.intro (@Hs)
 (@Hu)))
 (And.intro (And.intro (@Dw)
 (@K6))
 (And.intro (@Dz)
 (And.intro (@X2)
 (@adt)))))
 (And.intro (And.intro (And.intro (@adw)
 (@ads))
 (And.intro (@Ns)
 (@Nr)))
 (And.intro (And.intro (@JO)
 (@G5))
 (And.intro (@S7)
 (And.intro (@X3)
 (@adv))))))
 (And.intro (And.intro (And.intro (And.intro (@X7)
 (@adu))
 (And.intro (@X4)
 (@X6)))
 (And.intro (And.intro (@S5)
 (@adr))
 (And.intro (@S8)
 (And.intro (@WH)
 (@ab0)))))
 (And.intro (And.intro (And.intro (@ab7)
 (@abZ))
 (And.intro (@MP)
 (And.intro (@MO)
 (@Jj))))
 (And.intro (And.intro (@Gk)
 (@WI))
 (And.intro (@ab3)
 (And.intro (@WM)
 (@WQ)))))))
 (And.intro (And.intro (And.intro (And.intro (And.intro (@ab1)
 (@WJ))
 (And.intro (@WL)
 (@Sc)))
 (And.intro (And.intro (@abY)
 (@Se))
 (And.intro (@XT)
 (And.intro (@adj)
 (@adm)))))
 (And.intro (And.intro (And.intro (@adi)
 (@Nj))
 (And.intro (@Ni)
 (@JJ)))
 (And.intro (And.intro (@G0)
 (@SV))
 (And.intro (@XU)
 (And.intro (@adl)
 (@adk))))))
 (And.intro (And.intro (And.intro (And.intro (@XW)
 (@SU))
 (And.intro (@adh)
 (@SW)))
 (And.intro (And.intro (@acy)
 (@ab5))
 (And.intro (@ab6)
 (And.intro (@ab4)
 (@WR)))))
 (And.intro (And.intro (And.intro (@WS)
 (@ag0))
 (And.intro (@acU)
 (And.intro (@acW)
 (@acV))))
 (And.intro (And.intro (@Xt)
 (@agT))
 (And.intro (@agQ)
 (And.intro (@agS)
 (@agR))))))))
 (And.intro (And.intro (And.intro (And.intro (And.intro (And.intro (@agU)
 (@ac0))
 (And.intro (@XI)
 (@XH)))
 (And.intro (And.intro (@Sz)
 (@Sy))
 (And.intro (@Xg)
 (And.intro (@Nc)
 (@akb)))))
 (And.intro (And.intro (And.intro (@Xx)
 (@XC))
 (And.intro (@acT)
 (@ade)))
 (And.intro (And.intro (@Xy)
 (@XA))
 (And.intro (@acE)
 (And.intro (@Xz)
 (@Xw))))))
 (And.intro (And.intro (And.intro (And.intro (@SD)
 (@SC))
 (And.intro (@agA)
 (@ake)))
 (And.intro (And.intro (@acL)
 (@XN))
 (And.intro (@agz)
 (And.intro (@agE)
 (@agy)))))
 (And.intro (And.intro (And.intro (@GV)
 (@agL))
 (And.intro (@agN)
 (And.intro (@agM)
 (@JD))))
 (And.intro (And.intro (@agO)
 (@Nb))
 (And.intro (@Xv)
 (And.intro (@SE)
 (@acO)))))))
 (And.intro (And.intro (And.intro (And.intro (And.intro (@agX)
 (@agV))
 (And.intro (@adf)
 (@Xu)))
 (And.intro (And.intro (@SF)
 (@JC))
 (And.intro (@Xh)
 (And.intro (@SB)
 (@Na)))))
 (And.intro (And.intro (And.intro (@Xs)
 (@agY))
 (And.intro (@acR)
 (@Da)))
 (And.intro (And.intro (@acP)
 (@acI))
 (And.intro (@Xk)
 (And.intro (@Xl)
 (@Xi))))))
 (And.intro (And.intro (And.intro (And.intro (@ag8)
 (@ada))
 (And.intro (@ac')
 (@adb)))
 (And.intro (And.intro (@XM)
 (@SA))
 (And.intro (@acz)
 (And.intro (@acD)
 (@XO)))))
 (And.intro (And.intro (And.intro (@XB)
 (@acF))
 (And.intro (@JE)
 (And.intro (@SH)
 (@Xc))))
 (And.intro (And.intro (@Xf)
 (@Xe))
 (And.intro (@aha)
 (And.intro (@ag9)
 (@ag')))))))))
 (And.intro (And.intro (And.intro (And.intro (And.intro (And.intro (And.intro (@Xn)
 (@Xp))
 (And.intro (@Xr)
 (@Xo)))
 (And.intro (And.intro (@Xq)
 (@agD))
 (And.intro (@agB)
 (And.intro (@agC)
 (@SK)))))
 (And.intro (And.intro (And.intro (@akd)
 (@ag1))
 (And.intro (@ag3)
 (@acY)))
 (And.intro (And.intro (@acZ)
 (@ag5))
 (And.intro (@ag7)
 (And.intro (@ag2)
 (@ag6))))))
 (And.intro (And.intro (And.intro (And.intro (@ag4)
 (@agP))
 (And.intro (@acN)
 (@ac2)))
 (And.intro (And.intro (@SJ)
 (@SG))
 (And.intro (@XJ)
 (And.intro (@ac1)
 (@ac3)))))
 (And.intro (And.intro (And.intro (@ac6)
 (@ac7))
 (And.intro (@Xm)
 (And.intro (@ac8)
 (@ac5))))
 (And.intro (And.intro (@XK)
 (@XL))
 (And.intro (@LL)
 (And.intro (@B4)
 (@Ur)))))))
 (And.intro (And.intro (And.intro (And.intro (And.intro (@IB)
 (@HR))
 (And.intro (@JA)
 (@BO)))
 (And.intro (And.intro (@C1)
 (@Ge))
 (And.intro (@Hy)
 (And.intro (@X9)
 (@WV)))))
 (And.intro (And.intro (And.intro (@XY)
 (@agW))
 (And.intro (@acQ)
 (@ac4)))
 (And.intro (And.intro (@LF)
 (@LK))
 (And.intro (@BZ)
 (And.intro (@B3)
 (@Ul))))))
 (And.intro (And.intro (And.intro (And.intro (@Uq)
 (@Iw))
 (And.intro (@IA)
 (@HM)))
 (And.intro (And.intro (@HQ)
 (@Jw))
 (And.intro (@Jz)
 (And.intro (@BI)
 (@BN)))))
 (And.intro (And.intro (And.intro (@CV)
 (@CZ))
 (And.intro (@F9)
 (And.intro (@Gd)
 (@Ht))))
 (And.intro (And.intro (@Hx)
 (@X5))
 (And.intro (@X8)
 (And.intro (@WK)
 (@WU))))))))
 (And.intro (And.intro (And.intro (And.intro (And.intro (And.intro (@XV)
 (@XX))
 (And.intro (@akc)
 (@agZ)))
 (And.intro (And.intro (@acC)
 (@XD))
 (And.intro (@XE)
 (And.intro (@acS)
 (@acX)))))
 (And.intro (And.intro (And.intro (@aaJ)
 (@aaK))
 (And.intro (@PE)
 (@UM)))
 (And.intro (And.intro (@PF)
 (@UN))
 (And.intro (@UO)
 (And.intro (@afS)
 (@aaL))))))
 (And.intro (And.intro (And.intro (And.intro (@ZA)
 (@ZB))
 (And.intro (@aag)
 (@UC)))
 (And.intro (And.intro (@aaj)
 (@Pm))
 (And.intro (@UD)
 (And.intro (@aai)
 (@aah)))))
 (And.intro (And.intro (And.intro (@agH)
 (@acK))
 (And.intro (@agJ)
 (And.intro (@agF)
 (@agI))))
 (And.intro (And.intro (@agG)
 (@agK))
 (And.intro (@acJ)
 (And.intro (@acG)
 (@Zy)))))))
 (And.intro (And.intro (And.intro (And.intro (And.intro (@Xj)
 (@ac9))
 (And.intro (@XF)
 (@aeE)))
 (And.intro (And.intro (@aeL)
 (@aeI))
 (And.intro (@aeM)
 (And.intro (@aeG)
 (@aeJ)))))
 (And.intro (And.intro (And.intro (@aeK)
 (@aeF))
 (And.intro (@aeN)
 (@aeH)))
 (And.intro (And.intro (@aeO)
 (@aeP))
 (And.intro (@HY)
 (And.intro (@zt)
 (@DQ))))))
 (And.intro (And.intro (And.intro (And.intro (@GO)
 (@O8))
 (And.intro (@acB)
 (@acA)))
 (And.intro (And.intro (@Zv)
 (@Zu))
 (And.intro (@S6)
 (And.intro (@Sd)
 (@Dx)))))
 (And.intro (And.intro (And.intro (@FG)
 (@Je))
 (And.intro (@zk)
 (And.intro (@zP)
 (@aew))))
 (And.intro (And.intro (@MU)
 (@Pl))
 (And.intro (@Cz)
 (And.intro (@XG)
 (@WT))))))))))
def Tp:=And.intro evA (And.intro (And.intro (And.intro (And.intro (And.intro (And.intro (@mw.eq_1)
 (And.intro (@mw.eq_2)
 (@jN.eq_1)))
 (And.intro (And.intro (@jN.eq_2)
 (@p4.eq_1))
 (And.intro (@p4.eq_2)
 (@l6.eq_1))))
 (And.intro (And.intro (And.intro (@l6.eq_2)
 (@Gx.eq_1))
 (And.intro (@Gx.eq_2)
 (@an.eval.eq_1)))
 (And.intro (And.intro (@an.eval.eq_2)
 (@an.eval.eq_3))
 (And.intro (@an.eval.eq_4)
 (@AS.bM.eq_1)))))
 (And.intro (And.intro (And.intro (@AS.bM.eq_2)
 (And.intro (@j3.eq_1)
 (@j3.eq_2)))
 (And.intro (And.intro (@j3.eq_3)
 (@j3.eq_4))
 (And.intro (@j3.eq_5)
 (@j3.eq_6))))
 (And.intro (And.intro (And.intro (@j3.eq_7)
 (@j3.eq_8))
 (And.intro (@za.eq_1)
 (@za.eq_2)))
 (And.intro (And.intro (@za.eq_3)
 (@kx.eq_1))
 (And.intro (@kx.eq_2)
 (@kx.eq_3))))))
 (And.intro (And.intro (And.intro (And.intro (@kx.eq_4)
 (And.intro (@kx.eq_5)
 (@kx.eq_6)))
 (And.intro (And.intro (@j6.eq_1)
 (@j6.eq_2))
 (And.intro (@j6.eq_3)
 (@j6.eq_4))))
 (And.intro (And.intro (And.intro (@ij.eq_1)
 (@ij.eq_2))
 (And.intro (@ij.eq_3)
 (@ij.eq_4)))
 (And.intro (And.intro (@ij.eq_5)
 (@bound.eq_1))
 (And.intro (@bound.eq_2)
 (@oR.eq_1)))))
 (And.intro (And.intro (And.intro (@oR.eq_2)
 (And.intro (@AS.bD.eq_1)
 (@AS.bD.eq_2)))
 (And.intro (And.intro (@bZ.eq_1)
 (@bZ.eq_2))
 (And.intro (@bZ.eq_3)
 (@bZ.eq_4))))
 (And.intro (And.intro (And.intro (@bZ.eq_5)
 (@gD.eq_1))
 (And.intro (@gD.eq_2)
 (@gD.eq_3)))
 (And.intro (And.intro (@gD.eq_4)
 (@gD.eq_5))
 (And.intro (@dQ.eq_1)
 (@dQ.eq_2)))))))
 (And.intro (And.intro (And.intro (And.intro (And.intro (@dQ.eq_3)
 (And.intro (@j9.eq_1)
 (@j9.eq_2)))
 (And.intro (And.intro (@j9.eq_3)
 (@putAt.eq_1))
 (And.intro (@bt.eq_1)
 (@aq.eq_1))))
 (And.intro (And.intro (And.intro (@aq.eq_2)
 (@aq.eq_3))
 (And.intro (@aq.eq_4)
 (@aq.eq_5)))
 (And.intro (And.intro (@aq.eq_6)
 (@aq.eq_7))
 (And.intro (@aq.eq_8)
 (@aq.eq_9)))))
 (And.intro (And.intro (And.intro (@aq.eq_10)
 (And.intro (@aq.eq_11)
 (@aq.eq_12)))
 (And.intro (And.intro (@aq.eq_13)
 (@aq.eq_14))
 (And.intro (@aq.eq_15)
 (@aq.eq_16))))
 (And.intro (And.intro (And.intro (@aq.eq_17)
 (@aq.eq_18))
 (And.intro (@aq.eq_19)
 (@aq.eq_20)))
 (And.intro (And.intro (@aq.eq_21)
 (@aq.eq_22))
 (And.intro (@aq.eq_23)
 (@aq.eq_24))))))
 (And.intro (And.intro (And.intro (And.intro (@aq.eq_25)
 (And.intro (@aq.eq_26)
 (@aq.eq_27)))
 (And.intro (And.intro (@aq.eq_28)
 (@aq.eq_29))
 (And.intro (@aq.eq_30)
 (@aq.eq_31))))
 (And.intro (And.intro (And.intro (@aq.eq_32)
 (@aq.eq_33))
 (And.intro (@aq.eq_34)
 (@aq.eq_35)))
 (And.intro (And.intro (@aq.eq_36)
 (@aq.eq_37))
 (And.intro (@aq.eq_38)
 (@aq.eq_39)))))
 (And.intro (And.intro (And.intro (And.intro (@aq.eq_40)
 (@aq.eq_41))
 (And.intro (@aq.eq_42)
 (@aq.eq_43)))
 (And.intro (And.intro (@aq.eq_44)
 (@aq.eq_45))
 (And.intro (@aq.eq_46)
 (@fe.eq_1))))
 (And.intro (And.intro (And.intro (@fe.eq_2)
 (@Option.isSome.eq_1.{0}))
 (And.intro (@Option.isSome.eq_2.{0})
 (@Option.isNone.eq_1.{0})))
 (And.intro (And.intro (@Option.isNone.eq_2.{0})
 (@cond_true.{1}))
 (And.intro (@cond_false.{1})
 (@eq_self.{1}))))))))
def YA:=And.intro Tp (And.intro (And.intro (And.intro (@KD)
 (@KC))
 (And.intro (@KB)
 (@KA)))
 (And.intro (And.intro (@Kz)
 (@Ky))
 (And.intro (@KF)
 (@KE))))
def ZP:=And.intro YA (And.intro (And.intro (@gl.eq_1)
 (@qE))
 (And.intro (@Int.toNat_natCast)
 (@Nat.add_zero)))
def aL:=And.intro ZP (And.intro (And.intro (@Yk) (@K2)) (And.intro (@lr) (@aY)))
end Go.Proofs.YthbncinhhdogpaaGreatDoor
namespace Go.Abs
section
section
variable {G:Nat->List AV}{cf:cu}
theorem qi:∀ (l:List aj) (s:AS) {Q Q' : AS->Prop},kZ G cf l s Q->(∀ s,Q s->Q' s)->kZ G cf l s Q'
 | [],_,_,_,h,hq=>hq _ h
 | o :: r,s,Q,Q',h,hq=>by
  unfold kZ at h ⊢
  cases hn:iX o with
  | none =>
   rw[hn] at h
   obtain⟨s',h1,h2⟩:=h
   exact⟨s',h1,qi r s' h2 hq⟩
  | some t =>
   rw[hn] at h
   obtain⟨g,kz,ka,va,cur,todo,h1,h2,h3⟩:=h
   exact⟨g,kz,ka,va,cur,todo,h1,fun e=>qi r _ (h2 e) hq,fun q rest hp=>qi r _ (h3 q rest hp) hq⟩
theorem zX{nt:Nat}{ops:List aj}{pre:List (List Nat)} : ∀ (n:Nat) (L:Array Bool) (s:AS) {Q Q' : AS->Prop},DA G cf nt ops pre n L s Q->(∀ s,Q s->Q' s)->DA G cf nt ops pre n L s Q'
 | 0,_,_,_,_,h,hq=>⟨h.1,hq _ h.2⟩
 | n+1,L,s,Q,Q',h,hq=>by
  refine⟨fun e=>hq _ (h.1 e),fun i hi=>?_⟩
  obtain⟨o,s',h1,h2,h3⟩:=h.2 i hi
  exact⟨o,s',h1,h2,zX n _ _ h3 hq⟩
theorem kF{P P' : AS->Prop}{Q Q' : bp->AS->Prop}(hp:∀ s,P s->P' s)(hq:∀ e s,Q e s->Q' e s):∀ e s,andThen P Q e s->andThen P' Q' e s
 | .normal,s,h=>hp s h
 | .ret,s,h=>hq _ s h
 | .exit i,s,h=>hq _ s h
theorem I7{i:Nat}{Q Q' : bp->AS->Prop}(hq:∀ e s,Q e s->Q' e s):∀ e s,leave i Q e s->leave i Q' e s:=by
 intro e s h
 cases e with
 | exit j =>
  unfold leave at h ⊢
  simp only at h ⊢
  first
   | exact hq _ _ h
   | (cases hb:Nat.beq j i<;>rw[hb] at h<;>exact hq _ _ h)
   | (split at h<;>rename_i hc<;>simp only[hc]<;>exact hq _ _ h)
 | _=>exact hq _ _ h
theorem yn{F:AS->(bp->AS->Prop)->Prop}(hF:∀ s Q Q',F s Q->(∀ e s,Q e s->Q' e s)->F s Q'):∀ (n:Nat) (s:AS) {Q Q' : bp->AS->Prop},wc F n s Q->(∀ e s,Q e s->Q' e s)->wc F n s Q'
 | 0,_,_,_,h,_=>h.elim
 | n+1,s,Q,Q',h,hq=>hF _ _ _ h (kF (fun s h=>yn hF n s h hq) hq)
theorem lz:∀ (c:bJ) (s:AS) {Q Q' : bp->AS->Prop},WN G cf c s Q->(∀ e s,Q e s->Q' e s)->WN G cf c s Q'
 | .skip,_,_,_,h,hq=>hq _ _ h
 | .region false ops,s,_,_,h,hq=>qi ops s h (hq .normal)
 | .region true ops,s,_,_,h,hq=>by obtain⟨s',h1,h2⟩:=h;exact⟨s',h1,hq _ _ h2⟩
 | .seq a b,s,_,_,h,hq=>lz a s h (kF (fun s h=>lz b s h hq) hq)
 | .cond c a b,s,_,_,h,hq=>by obtain⟨t,h1,h2,h3⟩:=h;exact⟨t,h1,fun e=>lz a s (h2 e) hq,fun e=>lz b s (h3 e) hq⟩
 | .block id a,s,_,_,h,hq=>lz a s h (I7 hq)
 | .loop a,s,_,_,h,hq=>by obtain⟨n,h⟩:=h;exact⟨n,yn (fun s Q Q' h hq=>lz a s h hq) n s h hq⟩
 | .exit id,_,_,_,h,hq=>hq _ _ h
 | .ret,_,_,_,h,hq=>hq _ _ h
 | .tG nt ops pre,s,_,_,h,hq=>zX _ _ _ h (hq .normal)
theorem Ym{a:bJ}{Q:bp->AS->Prop}(I:Nat->AS->Prop)(hI:∀ k s,I k s->WN G cf a s (andThen (fun s'=>∃ k',k=k' + 1/\I k' s') Q)):∀ k s,I k s->wc (WN G cf a) (k+1) s Q:=by
 intro k
 induction k with
 | zero =>
  intro s h
  refine lz a s (hI 0 s h) (kF (fun s' h=>?_) (fun _ _ h=>h))
  obtain⟨k',h,_⟩:=h
  omega
 | succ k ih =>
  intro s h
  refine lz a s (hI (k+1) s h) (kF (fun s' h=>?_) (fun _ _ h=>h))
  obtain⟨k',e,hk⟩:=h
  obtain rfl:k=k':=by omega
  exact ih s' hk
def oz:bJ->Bool
 | .region false ops=>ops.all fun o=>(iX o).isNone
 | .region true _=>true
 | .seq a b=>oz a&&oz b
 | .cond _ a b=>oz a&&oz b
 | .block _ a=>oz a
 | .loop _=>false
 | .tG ..=>false
 | .skip=>true
 | .exit _=>true
 | .ret=>true
theorem zc:∀ (l:List aj) (s:AS) {Q:AS->Prop},(l.all fun o=>(iX o).isNone)=true->(∃ s',bK G cf false l s=some s'/\Q s')->kZ G cf l s Q
 | [],s,Q,_,h=>by
  obtain⟨s',h1,h2⟩:=h
  simp only[bK,aoQ] at h1
  subst h1
  exact h2
 | o :: r,s,Q,hp,h=>by
  obtain⟨s',h1,h2⟩:=h
  simp only[List.all_cons,Bool.and_eq_true,aqj] at hp
  simp only[bK,aoP] at h1
  obtain⟨s1,h0,h1⟩:=h1
  unfold kZ
  rw[hp.1]
  exact⟨s1,h0,zc r s1 hp.2 ⟨s',h1,h2⟩⟩
end
section
variable {A:AP}
theorem od:∀ (c:bJ) (s:AS) {Q:bp->AS->Prop},oz c=true->W A c s Q->WN A.aN (aE A) c s Q
 | .skip,s,Q,_,h=>by rwa [N1] at h
 | .region false ops,s,Q,hp,h=>by
  rw[w8] at h
  exact zc ops s hp h
 | .region true ops,s,Q,_,h=>by
  rw[w8] at h
  exact h
 | .seq a b,s,Q,hp,h=>by
  simp only[oz,Bool.and_eq_true] at hp
  rw[JY] at h
  exact lz a s (od a s hp.1 h) (kF (fun s h=>od b s hp.2 h) (fun _ _ h=>h))
 | .cond c a b,s,Q,hp,h=>by
  simp only[oz,Bool.and_eq_true] at hp
  rw[NY] at h
  obtain⟨t,h1,h2,h3⟩:=h
  exact⟨t,h1,fun e=>od a s hp.1 (h2 e),fun e=>od b s hp.2 (h3 e)⟩
 | .block id a,s,Q,hp,h=>by
  rw[JV] at h
  exact od a s hp h
 | .loop _,_,_,hp,_=>by cases hp
 | .tG ..,_,_,hp,_=>by cases hp
 | .exit id,s,Q,_,h=>by rwa [NZ] at h
 | .ret,s,Q,_,h=>by rwa [Yt] at h
theorem adD{P:Program}(hA:mZ P A){f:FuncId}{fn:Func}(sq:P.funcs[f]?=some fn){bF locals muts:List Nat}{kK:ax}(hc:kU P bF locals muts fn=some kK){g:List AV->ah->Option (AV × Option fQ)}
  (hm:kK.muts.elem 777777=false) (Pn:∀ args H r c,g args H=some (r,c)->jI H c)
  (hg:∀ args H x,g args H=some x->args.length=kK.np/\WN A.aN (aE A) kK.body { T:=gn args,H,lo:=H.length,gen:=0 } (done H.length kK.results x)):jb P A.aN f g:=by
 refine ahi hA sq hc Pn fun args H x hx=>?_
 obtain⟨h1,h2⟩:=hg args H x hx
 refine⟨h1,lz _ _ h2 fun e s h=>?_⟩
 have key:∀ s,fin H.length kK.results s=some x->finish H.length kK s=some x:=fun s h=>by
  have:=s6 (fn:=kK) h
  rwa [nB hm] at this
 cases e with
 | exit i=>exact h.elim
 | normal=>exact key _ h
 | ret=>exact key _ h
end
end
end Go.Abs
namespace Go.Proofs.YthbncinhhdogpaaGreatDoor
open Go Go.Abs Go.Proofs
theorem Sv:∀ q∈oX,∃ w i j,q=[.str w,.int .i64 i,.int .i64 j]/\rz i=(w,j):=by
 intro q hq
 simp only[oX,ao8,apY,aqM] at hq
 rcases hq with rfl|rfl|rfl|rfl|rfl|rfl|rfl|rfl|rfl|rfl<;>exact⟨_,_,_,rfl,by decide⟩
theorem JK{n:Int}(h:∀ q∈oX,∀ w i j,q=[.str w,.int .i64 i,.int .i64 j]->i≠n):(n=9/\rz n=([110,111,116],7))\/(n=11/\rz n=([108,101,110],7))\/(n≠9/\n≠11/\rz n=([],7)):=by
 have hh:∀ w i j,[AV.str w,.int .i64 i,.int .i64 j]∈oX->i≠n:=fun w i j hm=>h _ hm _ _ _ rfl
 have h0:=hh [43] 0 5 (by simp[oX])
 have h1:=hh [45] 1 5 (by simp[oX])
 have h2:=hh [42] 2 6 (by simp[oX])
 have h3:=hh [47] 3 6 (by simp[oX])
 have h4:=hh [37] 4 6 (by simp[oX])
 have h5:=hh [60] 5 3 (by simp[oX])
 have h6:=hh [61,61] 6 3 (by simp[oX])
 have h7:=hh [97,110,100] 7 2 (by simp[oX])
 have h8:=hh [111,114] 8 1 (by simp[oX])
 have h10:=hh [106,111,105,110] 10 4 (by simp[oX])
 by_cases e9:n=9
 ·subst e9;exact .inl ⟨rfl,rfl⟩
 ·by_cases mE:n=11
  ·subst mE;exact .inr (.inl ⟨rfl,rfl⟩)
  ·refine .inr (.inr ⟨e9,mE,?_⟩)
   rw[rz,if_pos (by omega)]
theorem Yn{g:Nat}{kz:Nat}{ka va:Bool}{cur:List AV}{todo:List (List AV)}{T:aw}{H:ah}{lo gen:Nat}{t d:Nat}{r:List aj}{c:bJ}{Q:bp->AS->Prop}(h:T t=.iter g kz ka va cur todo)
  (hr:(r.all fun o=>(iX o).isNone)=true) (hc:oz c=true)
  (h1:todo=[]->W A0 (.region false r) ⟨T.put d (.tuple [.bool false]),H,lo,gen⟩ (andThen (fun s=>W A0 c s Q) Q))
  (h2:∀ q rest,todo.Perm (q :: rest)->W A0 (.region false r) ⟨(T.put t (.iter g kz ka va q rest)).put d (.tuple [.bool true,om ka (q.take kz),om va (q.drop kz)]),H,lo,gen⟩ (andThen (fun s=>W A0 c s Q) Q)) :
  WN A0.aN (aE A0) (.seq (.region false (⟨some d,none,.next (.tmp t)⟩ :: r)) c) ⟨T,H,lo,gen⟩ Q:=by
 have key:∀ s,W A0 (.region false r) s (andThen (fun s=>W A0 c s Q) Q)->kZ A0.aN (aE A0) r s (fun s'=>WN A0.aN (aE A0) c s' Q):=fun s h=>by
  rw[<- JY] at h
  exact od (.seq (.region false r) c) s (by simp only[oz,hr,hc,Bool.and_self]) h
 exact⟨g,kz,ka,va,cur,todo,h,fun e=>key _ (h1 e),fun q rest hp=>key _ (h2 q rest hp)⟩
def yd:bJ:=.seq (.region false [⟨some 20,none,.uA 1 false false⟩,⟨none,none,.wJ 1 false false 1 [CK.i] (.tmp 20) (.cg (.int .i64 9)) (.cg (.str [110,111,116]))⟩,⟨none,none,.wJ 1 false false 1 [CK.i] (.tmp 20) (.cg (.int .i64 11)) (.cg (.str [108,101,110]))⟩,⟨some 21,none,.mov false false (.tmp 20)⟩,⟨some 22,none,.mov false false (.tmp 0)⟩,⟨some 23,none,.look false 1 false false [CK.i] [.str []] (.tmp 21) (.tmp 22)⟩,⟨some 2,none,.mov true false (.tmp 23)⟩,⟨some 3,none,.mov true false (.cg (.int .i64 7))⟩]) .ret
theorem acM{g:Nat}{kz:Nat}{ka va:Bool}{cur:List AV}{todo:List (List AV)}{T:aw}{H:ah}{lo gen:Nat}{t u:Nat}{os:List aj}{K:AS->Prop}(h:T u=.iter g kz ka va cur todo)(hk:(Nat.ble kz cur.length&&!cur.isEmpty)=true) :
  WO A0 false (⟨some t,none,.T5 (.tmp u)⟩ :: os) ⟨T,H,lo,gen⟩ K=cW A0 false (some (.tuple [om ka (cur.take kz),om va (cur.drop kz)])) t os T H lo gen K:=ff (by simp only[aq,h,hk,cond_true,Option.map_some])
theorem tA{T:aw}{H:ah}{gen:Nat}{n:Int}{x:List UInt8}(q0:T 0=.int .i64 n)
  (hx:(fw [.i] [.int .i64 n] [[.int .i64 9,.str [110,111,116]],[.int .i64 11,.str [108,101,110]]]).map (oS false false [.str []] 1 [[.int .i64 9,.str [110,111,116]],[.int .i64 11,.str [108,101,110]]])=some (.str x)) :
  W A0 yd ⟨T,H,H.length,gen⟩ (done H.length [.tmp 2,.tmp 3] (.tuple [.str x,.int .i64 7],none)):=by
 have hp1:∀ x:cj,(H++[x])[H.length]?=some x:=fun x=>by simp
 have AL:∀ x y:cj,(H++[x]).set H.length y=H++[y]:=fun x y=>by simp
 have fe9:fw [.i] [.int .i64 9] []=some none:=rfl
 have aim:fw [.i] [.int .i64 11] [[.int .i64 9,.str [110,111,116]]]=some none:=rfl
 have ah' : ∀ (k:IntKind) (n:Int),(AV.int k n).isAgg=false:=fun _ _=>rfl
 have aia:∀ (s:List UInt8),(AV.str s).isAgg=false:=fun _=>rfl
 have ain:(false==false)=true:=rfl
 have Nl:∀ (es:List (List AV)) (r:List AV),tz es none r=es++[r]:=fun _ _=>rfl
 have aji:decide (H.length<H.length)=false:=by simp
 have hlx:AW (H++[.map 1 false false [[.int .i64 9,.str [110,111,116]],[.int .i64 11,.str [108,101,110]]]]) false 1 false false [.i] [.str []] (.mref H.length) (.int .i64 n)=some (.str x):=by
  simp only[AW,Wu,AV.drop,AV.cells,aoW,hp1]
  exact hx
 unfold yd
 simp(disch:=omega)only[evA,mw,jN,p4,l6,Gx,bt,aq,fe,an.eval,AS.bM,↓reduceIte,Nat.reduceEqDiff,Option.isSome,Option.isNone,cond_true,aoZ,Nat.reduceBEq,Nat.reduceAdd,Nat.reduceMul,aa,j3,eq_self,reduceCtorEq,za,kx,j6,ij,bound,oR,AS.bD,bZ,gD,dQ,Nat.reduceLeDiff,j9,putAt,Int.reduceEq,Int.reduceLT,Int.reduceLE,Int.reduceBEq,Int.reduceBNe,Int.reduceAdd,Int.reduceNeg,Int.reduceSub,Int.reduceMul,KD,KC,KB,KA,Kz,Ky,KF,KE,gl,qE,Int.toNat_natCast,ap6,nj,hp1,AL,fe9,aim,ah',aia,ain,Nl,aji,hlx,Bool.and_self,cond_true,apj,apv,Option.map_some,aoW,aB,cM,bP,apO,apP,ag,q0]
 done
theorem No(n:Int)(H:ah):WN A0.aN (aE A0) ye.body { T:=gn [.int .i64 n],H,lo:=H.length,gen:=0 } (done H.length ye.results (.tuple [.str (rz n).1,.int .i64 (rz n).2],none)):=by
 unfold ye
 simp only
 refine od (.region false _) _ rfl ?_
 simp(disch:=omega)only[ZP,aa,simprocAttr]
 generalize hR:done H.length [fZ.tmp 2,fZ.tmp 3] (AV.tuple [AV.str (rz n).1,AV.int .i64 (rz n).2],none)=R
 refine (show WN A0.aN (aE A0) (.seq _ (.block 0 (.loop _))) _ (andThen (fun s=>WN A0.aN (aE A0) yd s R) R) from ?_)
 refine (show WN A0.aN (aE A0) (.region false _) _ (andThen (fun s=>WN A0.aN (aE A0) (.block 0 (.loop _)) s _) _) from ?_)
 refine zc _ _ rfl ⟨⟨((((gn [AV.int .i64 n]).put 2 (AV.str [])).put 3 (AV.int .i64 0)).put 6 (.mF 1 false true oX)).put 7 (.iter 0 1 false true [] oX),H,H.length,1⟩,rfl,?_⟩
 refine (show WN A0.aN (aE A0) (.loop _) _ (leave 0 (andThen (fun s=>WN A0.aN (aE A0) yd s R) R)) from ?_)
 refine⟨_,Ym (fun k s=>∃ T cur todo gen,s=⟨T,H,H.length,gen⟩/\T 0=.int .i64 n/\T 7=.iter 0 1 false true cur todo/\todo.length=k/\(∀ q∈todo,q∈oX)/\∀ q∈oX,q∈todo\/∀ w i j,q=[.str w,.int .i64 i,.int .i64 j]->i≠n) ?_ 10 _ ⟨_,[],oX,1,rfl,rfl,rfl,rfl,fun q h=>h,fun q h=>.inl h⟩⟩
 rintro k s ⟨T,cur,todo,gen,rfl,q0,q7,hk,hin,dq⟩
 refine Yn q7 rfl rfl ?_ ?_
 ·intro e
  subst e
  have FV:=JK (n:=n) fun q hq=>(dq q hq).resolve_left (by simp)
  simp(disch:=omega)only[ZP,aa,simprocAttr]
  refine od yd _ rfl ?_
  rw[<- hR]
  rcases FV with ⟨e,hs⟩|⟨e,hs⟩|⟨e,e',hs⟩
  ·rw[hs];exact tA (n:=n) (by simp(disch:=omega)only[ZP,aa,simprocAttr,q0]) (by rw[e];rfl)
  ·rw[hs];exact tA (n:=n) (by simp(disch:=omega)only[ZP,aa,simprocAttr,q0]) (by rw[e];rfl)
  ·rw[hs]
   have e1:(n==(9:Int))=false:=by simp;omega
   have e2:(n==(11:Int))=false:=by simp;omega
   exact tA (n:=n) (by simp(disch:=omega)only[ZP,aa,simprocAttr,q0]) (by simp only[fw,bI,arz,cond_true,Option.map_some,aoW,Bool.and_true,aoZ,e1,e2,Option.map_none];rfl)
 ·intro q rest hp
  obtain⟨w,i,j,rfl,hs⟩:=Sv q (hin _ (hp.mem_iff.2 (ao9)))
  have afm:∀ (T:aw) (H:ah) (lo gen t u:Nat) (os:List aj) (K:AS->Prop),T u=.iter 0 1 false true [AV.str w,AV.int .i64 i,AV.int .i64 j] rest->WO A0 false (⟨some t,none,.T5 (.tmp u)⟩ :: os) ⟨T,H,lo,gen⟩ K=cW A0 false (some (.tuple [.str w,.agg [.int .i64 i,.int .i64 j]])) t os T H lo gen K:=fun T H lo gen t u os K h=>acM h rfl
  by_cases e:i=n
  ·subst e
   simp (disch:=first|omega|(simp(disch:=omega)only[YA,aa,Nat.reduceEqDiff,Nat.reduceBEq,Nat.reduceAdd,Nat.reduceMul,reduceCtorEq,↓reduceIte,Nat.reduceLeDiff,Int.reduceEq,Int.reduceLT,Int.reduceLE,Int.reduceBEq,Int.reduceBNe,Int.reduceAdd,Int.reduceNeg,Int.reduceSub,Int.reduceMul];done)) only[evA,mw,jN,p4,l6,Gx,bt,aq,fe,an.eval,AS.bM,↓reduceIte,Nat.reduceEqDiff,Option.isSome,Option.isNone,cond_true,aoZ,Nat.reduceBEq,Nat.reduceAdd,Nat.reduceMul,aa,j3,eq_self,reduceCtorEq,za,kx,j6,ij,bound,oR,AS.bD,bZ,gD,dQ,Nat.reduceLeDiff,j9,putAt,Int.reduceEq,Int.reduceLT,Int.reduceLE,Int.reduceBEq,Int.reduceBNe,Int.reduceAdd,Int.reduceNeg,Int.reduceSub,Int.reduceMul,KD,KC,KB,KA,Kz,Ky,KF,KE,gl,qE,Int.toNat_natCast,ap6,q0,afm,om,ap9,aqz,aqw,apN,apm,apz,List.headD_cons,AV.drop,cM,bP,apO,apP,ag]
   rw[<- hR,hs]
   simp(disch:=omega)only[ZP,aa,simprocAttr]
  ·simp (disch:=first|omega|(simp(disch:=omega)only[YA,aa,Nat.reduceEqDiff,Nat.reduceBEq,Nat.reduceAdd,Nat.reduceMul,reduceCtorEq,↓reduceIte,Nat.reduceLeDiff,Int.reduceEq,Int.reduceLT,Int.reduceLE,Int.reduceBEq,Int.reduceBNe,Int.reduceAdd,Int.reduceNeg,Int.reduceSub,Int.reduceMul];done)) only[evA,mw,jN,p4,l6,Gx,bt,aq,fe,an.eval,AS.bM,↓reduceIte,Nat.reduceEqDiff,Option.isSome,Option.isNone,cond_true,aoZ,Nat.reduceBEq,Nat.reduceAdd,Nat.reduceMul,aa,j3,eq_self,reduceCtorEq,za,kx,j6,ij,bound,oR,AS.bD,bZ,gD,dQ,Nat.reduceLeDiff,j9,putAt,Int.reduceEq,Int.reduceLT,Int.reduceLE,Int.reduceBEq,Int.reduceBNe,Int.reduceAdd,Int.reduceNeg,Int.reduceSub,Int.reduceMul,KD,KC,KB,KA,Kz,Ky,KF,KE,gl,qE,Int.toNat_natCast,ap6,q0,afm,om,ap9,aqz,aqw,apN,apm,apz,List.headD_cons,AV.drop,cM,bP,apO,apP,ag]
   have hl:=hp.length_eq
   rw[List.length_cons] at hl
   refine⟨rest.length,by omega,_,[AV.str w,.int .i64 i,.int .i64 j],rest,_,rfl,by simp(disch:=omega)only[YA,aa,simprocAttr,q0],by simp(disch:=omega)only[YA,aa,simprocAttr],rfl,fun q hq=>hin q (hp.mem_iff.2 (apd _ hq)),fun q hq=>?_⟩
   rcases dq q hq with h|h
   ·rcases ao8.1 (hp.mem_iff.1 h) with rfl|h
    ·refine .inr fun w' i' j' he=>?_
     simp only[aqd,AV.str.injEq,AV.int.injEq,aq8,aqe] at he
     rw[<- he.2.1]
     exact e
    ·exact .inl h
   ·exact .inr h
theorem Nn{P:Program}(hA:mZ P A0){fn:Func}(sq:P.funcs[131]?=some fn){bF locals muts:List Nat}(hc:kU P bF locals muts fn=some ye):jb P K1 131 rZ:=by
 refine adD (g:=rZ) hA sq hc rfl ?_ ?_
 ·intro args H r c h
  unfold rZ at h
  split at h
  ·injection h with h;injection h with h1 h2;subst h2;exact⟨aoU _,fun c h=>by cases h⟩
  ·cases h
 ·intro args H x h
  unfold rZ at h
  split at h
  ·injection h with h;subst h;exact⟨rfl,No _ _⟩
  ·cases h
end Go.Proofs.YthbncinhhdogpaaGreatDoor
