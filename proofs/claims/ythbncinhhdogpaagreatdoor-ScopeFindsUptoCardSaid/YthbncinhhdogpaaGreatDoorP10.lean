/-
  A part of the proof of ScopeFinds: AbsMemo, AbsLivesV, AbsRule, AbsEq, AbsEqS, AbsEvV, AbsSgnV, AbsSgnV2.
-/
import Derived.KernelRfl
import Derived.IntWalk
import Derived.Test.YthbncinhhdogpaaGreatDoorP09
set_option linter.unusedSimpArgs false
set_option linter.unusedVariables false
set_option linter.defProp false
set_option maxRecDepth 100000
namespace Go.Abs
structure afi where
 f:FuncId
 args:List AV
 heap:ag
 out:AV × Option gk
def Zw(f:FuncId)(args:List AV)(H:ag):List afi->Option (AV × Option gk)
 | []=>none
 | e :: r=>cond (Nat.beq e.f f&&CE e.args args&&Zs e.heap H) (some e.out) (Zw f args H r)
def amd(tb:List afi)(cf:cA):cA:=fun f args H=>match Zw f args H tb with
 | some r=>some r
 | none=>cf f args H
def isR(x:Option (AV × Option gk))(y:AV × Option gk):Bool:=match x with
 | some r=>eqR r y
 | none=>false
theorem acH{x:Option (AV × Option gk)}{y:AV × Option gk}(h:isR x y=true):x=some y:=by
 cases x with
 | none=>cases h
 | some r=>exact ar0 some (Pp h)
end Go.Abs
namespace Go.Proofs.YthbncinhhdogpaaGreatDoor
open Go Go.Abs Go.Proofs
theorem Nx:evN A1 60 12 [] []=some (.bool true,none):=acH (by kernel_rfl)
end Go.Proofs.YthbncinhhdogpaaGreatDoor
namespace Go.Abs
section
def iP(s:Nat):AV->AV
 | .lbox g _=>.lref s g 0
 | .lsl g _=>.lsr s g
 | .iter ..=>.any
 | v=>v
theorem adp{G:Nat->List AV}{T:ax}{s:Nat} : ar.addr G T (.tmp s)=iP s (T s):=by
 simp only[ar.addr,iP]
 split<;>simp_all
section
theorem Mm{b:Bool} : AV.drop (AV.bool b)=(.bool b):=rfl
theorem Pe{k:IntKind}{n:Int} : AV.drop (AV.int k n)=(.int k n):=rfl
theorem Pj{l:List UInt8} : AV.drop (AV.str l)=(.str l):=rfl
theorem Pd:AV.drop AV.any=.any:=rfl
theorem FM:AV.drop AV.dh=.dh:=rfl
theorem FL:AV.drop AV.cN=.cN:=rfl
theorem Mp{kz:Nat}{ka va:Bool}{es:List (List AV)} : AV.drop (AV.dR kz ka va es)=(.dR kz ka va es):=rfl
theorem IL:AV.drop AV.ae=.ae:=rfl
theorem z8:AV.aX AV.ae=.ae:=rfl
theorem Fs:AV.cells AV.ae=some [.ae]:=rfl
theorem Hs:AV.plain AV.ae=true:=rfl
theorem PK:aq AV.ae=true:=rfl
theorem Cz:AV.drop AV.cz=.cz:=rfl
theorem Ac:AV.drop AV.bV=.bV:=rfl
theorem IM{e:List (List AV)}{own:Bool} : AV.drop (AV.slice e own)=.slice e false:=rfl
theorem Mn{cs:List AV} : AV.drop (AV.eptr cs)=(.eptr cs):=rfl
theorem Ph{loc off:Nat} : AV.drop (AV.ref loc off)=(.ref loc off):=rfl
theorem Mv{loc off n z:Nat} : AV.drop (AV.sref loc off n z)=(.sref loc off n z):=rfl
theorem Mu{loc:Nat} : AV.drop (AV.mref loc)=(.mref loc):=rfl
theorem Ms{g:Nat}{cs:List AV} : AV.drop (AV.lbox g cs)=(.lbox g cs):=rfl
theorem Mt{s g off:Nat} : AV.drop (AV.lref s g off)=(.lref s g off):=rfl
theorem Pf{g:Nat}{e:List (List AV)} : AV.drop (AV.lsl g e)=(.lsl g e):=rfl
theorem Pg{s g:Nat} : AV.drop (AV.lsr s g)=(.lsr s g):=rfl
theorem Mo{s g i z off:Nat} : AV.drop (AV.eref s g i z off)=(.eref s g i z off):=rfl
theorem Mq{f:Fn}{fs cs:List AV} : AV.drop (AV.func f fs cs)=(.func f fs cs):=rfl
theorem IK{t:TypeId}{v:AV} : AV.drop (AV.iface t v)=(.iface t v):=rfl
theorem Pc{cs:List AV} : AV.drop (AV.agg cs)=(.agg cs):=rfl
theorem IN{vs:List AV} : AV.drop (AV.tuple vs)=(.tuple vs):=rfl
theorem Cp{b:Bool} : AV.aX (AV.bool b)=(.bool b):=rfl
theorem FF{k:IntKind}{n:Int} : AV.aX (AV.int k n)=(.int k n):=rfl
theorem FJ{l:List UInt8} : AV.aX (AV.str l)=(.str l):=rfl
theorem FE:AV.aX AV.any=.any:=rfl
theorem xZ:AV.aX AV.dh=.dh:=rfl
theorem xY:AV.aX AV.cN=.cN:=rfl
theorem Cs{kz:Nat}{ka va:Bool}{es:List (List AV)} : AV.aX (AV.dR kz ka va es)=(.dR kz ka va es):=rfl
theorem w6:AV.aX AV.cz=.cz:=rfl
theorem vw:AV.aX AV.bV=.bV:=rfl
theorem Aa{e:List (List AV)}{own:Bool} : AV.aX (AV.slice e own)=.slice e false:=rfl
theorem Cq{cs:List AV} : AV.aX (AV.eptr cs)=(.eptr cs):=rfl
theorem FI{loc off:Nat} : AV.aX (AV.ref loc off)=(.ref loc off):=rfl
theorem Cy{loc off n z:Nat} : AV.aX (AV.sref loc off n z)=(.sref loc off n z):=rfl
theorem Cw{loc:Nat} : AV.aX (AV.mref loc)=(.mref loc):=rfl
theorem Cu{g:Nat}{cs:List AV} : AV.aX (AV.lbox g cs)=(.lbox g cs):=rfl
theorem Cv{s g off:Nat} : AV.aX (AV.lref s g off)=(.lref s g off):=rfl
theorem FG{g:Nat}{e:List (List AV)} : AV.aX (AV.lsl g e)=(.lsl g e):=rfl
theorem FH{s g:Nat} : AV.aX (AV.lsr s g)=(.lsr s g):=rfl
theorem Cr{s g i z off:Nat} : AV.aX (AV.eref s g i z off)=(.eref s g i z off):=rfl
theorem Ct{f:Fn}{fs cs:List AV} : AV.aX (AV.func f fs cs)=(.func f fs cs):=rfl
theorem z7{t:TypeId}{v:AV} : AV.aX (AV.iface t v)=(.iface t v):=rfl
theorem FD{cs:List AV} : AV.aX (AV.agg cs)=.agg (cs.map AV.drop):=rfl
theorem Ab{vs:List AV} : AV.aX (AV.tuple vs)=(.tuple vs):=rfl
theorem U9{b:Bool} : aq (AV.bool b)=true:=rfl
theorem aaR{k:IntKind}{n:Int} : aq (AV.int k n)=true:=rfl
theorem aaV{l:List UInt8} : aq (AV.str l)=true:=rfl
theorem aaQ:aq AV.any=true:=rfl
theorem MK:aq AV.dh=true:=rfl
theorem MJ:aq AV.cN=true:=rfl
theorem Vc{kz:Nat}{ka va:Bool}{es:List (List AV)} : aq (AV.dR kz ka va es)=true:=rfl
theorem I7:aq AV.cz=true:=rfl
theorem F2:aq AV.bV=true:=rfl
theorem PL{e:List (List AV)}{own:Bool} : aq (AV.slice e own)=true:=rfl
theorem Va{cs:List AV} : aq (AV.eptr cs)=true:=rfl
theorem aaU{loc off:Nat} : aq (AV.ref loc off)=true:=rfl
theorem Vh{loc off n z:Nat} : aq (AV.sref loc off n z)=true:=rfl
theorem Vg{loc:Nat} : aq (AV.mref loc)=true:=rfl
theorem Ve{g:Nat}{cs:List AV} : aq (AV.lbox g cs)=false:=rfl
theorem Vf{s g off:Nat} : aq (AV.lref s g off)=false:=rfl
theorem aaS{g:Nat}{e:List (List AV)} : aq (AV.lsl g e)=false:=rfl
theorem aaT{s g:Nat} : aq (AV.lsr s g)=false:=rfl
theorem Vb{s g i z off:Nat} : aq (AV.eref s g i z off)=false:=rfl
theorem Vd{f:Fn}{fs cs:List AV} : aq (AV.func f fs cs)=true:=rfl
theorem PJ{t:TypeId}{v:AV} : aq (AV.iface t v)=true:=rfl
theorem aaP{cs:List AV} : aq (AV.agg cs)=true:=rfl
theorem PM{vs:List AV} : aq (AV.tuple vs)=true:=rfl
theorem Jb{b:Bool} : aP (AV.bool b)=none:=rfl
theorem MQ{k:IntKind}{n:Int} : aP (AV.int k n)=none:=rfl
theorem MU{l:List UInt8} : aP (AV.str l)=none:=rfl
theorem MP:aP AV.any=none:=rfl
theorem CW:aP AV.dh=none:=rfl
theorem CV:aP AV.cN=none:=rfl
theorem Je{kz:Nat}{ka va:Bool}{es:List (List AV)} : aP (AV.dR kz ka va es)=none:=rfl
theorem Ae:aP AV.cz=none:=rfl
theorem yA:aP AV.bV=none:=rfl
theorem Gg{e:List (List AV)}{own:Bool} : aP (AV.slice e own)=none:=rfl
theorem Jc{cs:List AV} : aP (AV.eptr cs)=none:=rfl
theorem MT{loc off:Nat} : aP (AV.ref loc off)=none:=rfl
theorem Jj{loc off n z:Nat} : aP (AV.sref loc off n z)=none:=rfl
theorem Ji{loc:Nat} : aP (AV.mref loc)=none:=rfl
theorem Jg{g:Nat}{cs:List AV} : aP (AV.lbox g cs)=some g:=rfl
theorem Jh{s g off:Nat} : aP (AV.lref s g off)=none:=rfl
theorem MR{g:Nat}{e:List (List AV)} : aP (AV.lsl g e)=some g:=rfl
theorem MS{s g:Nat} : aP (AV.lsr s g)=none:=rfl
theorem Jd{s g i z off:Nat} : aP (AV.eref s g i z off)=none:=rfl
theorem Jf{f:Fn}{fs cs:List AV} : aP (AV.func f fs cs)=none:=rfl
theorem Ge{t:TypeId}{v:AV} : aP (AV.iface t v)=none:=rfl
theorem MO{cs:List AV} : aP (AV.agg cs)=none:=rfl
theorem Gi{vs:List AV} : aP (AV.tuple vs)=none:=rfl
theorem Iu{b:Bool} : AV.cells (AV.bool b)=some [(.bool b)]:=rfl
theorem L7{k:IntKind}{n:Int} : AV.cells (AV.int k n)=some [(.int k n)]:=rfl
theorem Ma{l:List UInt8} : AV.cells (AV.str l)=some [(.str l)]:=rfl
theorem L6:AV.cells AV.any=none:=rfl
theorem Cj:AV.cells AV.dh=some [.dh]:=rfl
theorem Ci:AV.cells AV.cN=some [.cN]:=rfl
theorem Iy{kz:Nat}{ka va:Bool}{es:List (List AV)} : AV.cells (AV.dR kz ka va es)=some [(.dR kz ka va es)]:=rfl
theorem zX:AV.cells AV.cz=some [.cz]:=rfl
theorem xP:AV.cells AV.bV=some [.bV]:=rfl
theorem Ft{e:List (List AV)}{own:Bool} : AV.cells (AV.slice e own)=some [(.slice e own)]:=rfl
theorem Iw{cs:List AV} : AV.cells (AV.eptr cs)=some [(.eptr cs)]:=rfl
theorem L'{loc off:Nat} : AV.cells (AV.ref loc off)=some [(.ref loc off)]:=rfl
theorem ID{loc off n z:Nat} : AV.cells (AV.sref loc off n z)=some [(.sref loc off n z)]:=rfl
theorem IC{loc:Nat} : AV.cells (AV.mref loc)=some [(.mref loc)]:=rfl
theorem IA{g:Nat}{cs:List AV} : AV.cells (AV.lbox g cs)=none:=rfl
theorem IB{s g off:Nat} : AV.cells (AV.lref s g off)=none:=rfl
theorem L8{g:Nat}{e:List (List AV)} : AV.cells (AV.lsl g e)=none:=rfl
theorem L9{s g:Nat} : AV.cells (AV.lsr s g)=none:=rfl
theorem Ix{s g i z off:Nat} : AV.cells (AV.eref s g i z off)=none:=rfl
theorem Iz{f:Fn}{fs cs:List AV} : AV.cells (AV.func f fs cs)=some [(.func f fs cs)]:=rfl
theorem Fq{t:TypeId}{v:AV} : AV.cells (AV.iface t v)=some [(.iface t v)]:=rfl
theorem L5{cs:List AV} : AV.cells (AV.agg cs)=some cs:=rfl
theorem Fu{vs:List AV} : AV.cells (AV.tuple vs)=none:=rfl
theorem J7{b:Bool} : AV.plain (AV.bool b)=true:=rfl
theorem NP{k:IntKind}{n:Int} : AV.plain (AV.int k n)=true:=rfl
theorem NT{l:List UInt8} : AV.plain (AV.str l)=true:=rfl
theorem NO:AV.plain AV.any=true:=rfl
theorem DA:AV.plain AV.dh=true:=rfl
theorem Dz:AV.plain AV.cN=true:=rfl
theorem J'{kz:Nat}{ka va:Bool}{es:List (List AV)} : AV.plain (AV.dR kz ka va es)=true:=rfl
theorem As:AV.plain AV.cz=true:=rfl
theorem zl:AV.plain AV.bV=true:=rfl
theorem Ht{e:List (List AV)}{own:Bool} : AV.plain (AV.slice e own)=!own:=rfl
theorem J8{cs:List AV} : AV.plain (AV.eptr cs)=true:=rfl
theorem NS{loc off:Nat} : AV.plain (AV.ref loc off)=false:=rfl
theorem Kd{loc off n z:Nat} : AV.plain (AV.sref loc off n z)=false:=rfl
theorem Kc{loc:Nat} : AV.plain (AV.mref loc)=false:=rfl
theorem Ka{g:Nat}{cs:List AV} : AV.plain (AV.lbox g cs)=false:=rfl
theorem Kb{s g off:Nat} : AV.plain (AV.lref s g off)=false:=rfl
theorem NQ{g:Nat}{e:List (List AV)} : AV.plain (AV.lsl g e)=false:=rfl
theorem NR{s g:Nat} : AV.plain (AV.lsr s g)=false:=rfl
theorem J9{s g i z off:Nat} : AV.plain (AV.eref s g i z off)=false:=rfl
theorem NM{cs:List AV} : AV.plain (AV.agg cs)=false:=rfl
theorem Hu{vs:List AV} : AV.plain (AV.tuple vs)=false:=rfl
theorem B7{base:Nat}{b:Bool} : AV.aJ base (AV.bool b)=AV.plain (.bool b):=rfl
theorem Fk{base:Nat}{k:IntKind}{n:Int} : AV.aJ base (AV.int k n)=AV.plain (.int k n):=rfl
theorem Fp{base:Nat}{l:List UInt8} : AV.aJ base (AV.str l)=AV.plain (.str l):=rfl
theorem Fj{base:Nat} : AV.aJ base AV.any=AV.plain .any:=rfl
theorem xO{base:Nat} : AV.aJ base AV.dh=AV.plain .dh:=rfl
theorem xN{base:Nat} : AV.aJ base AV.cN=AV.plain .cN:=rfl
theorem Ca{kz:Nat}{ka va:Bool}{es:List (List AV)}{base:Nat} : AV.aJ base (AV.dR kz ka va es)=AV.plain (.dR kz ka va es):=rfl
theorem w5{base:Nat} : AV.aJ base AV.cz=AV.plain .cz:=rfl
theorem vq{base:Nat} : AV.aJ base AV.bV=AV.plain .bV:=rfl
theorem zV{base:Nat}{e:List (List AV)}{own:Bool} : AV.aJ base (AV.slice e own)=AV.plain (.slice e own):=rfl
theorem B9{base:Nat}{cs:List AV} : AV.aJ base (AV.eptr cs)=AV.plain (.eptr cs):=rfl
theorem Fo{base:Nat}{loc off:Nat} : AV.aJ base (AV.ref loc off)=Nat.blt loc base:=rfl
theorem Ch{base:Nat}{loc off n z:Nat} : AV.aJ base (AV.sref loc off n z)=Nat.blt loc base:=rfl
theorem Cg{base:Nat}{loc:Nat} : AV.aJ base (AV.mref loc)=Nat.blt loc base:=rfl
theorem Cd{base:Nat}{g:Nat}{cs:List AV} : AV.aJ base (AV.lbox g cs)=AV.plain (.lbox g cs):=rfl
theorem Ce{base:Nat}{s g off:Nat} : AV.aJ base (AV.lref s g off)=AV.plain (.lref s g off):=rfl
theorem Fl{base:Nat}{g:Nat}{e:List (List AV)} : AV.aJ base (AV.lsl g e)=AV.plain (.lsl g e):=rfl
theorem Fm{base:Nat}{s g:Nat} : AV.aJ base (AV.lsr s g)=AV.plain (.lsr s g):=rfl
theorem B'{base:Nat}{s g i z off:Nat} : AV.aJ base (AV.eref s g i z off)=AV.plain (.eref s g i z off):=rfl
theorem Cc{base:Nat}{f:Fn}{fs cs:List AV} : AV.aJ base (AV.func f fs cs)=AV.plain (.func f fs cs):=rfl
theorem zT{base:Nat}{t:TypeId}{v:AV} : AV.aJ base (AV.iface t v)=AV.plain (.iface t v):=rfl
theorem Fi{base:Nat}{cs:List AV} : AV.aJ base (AV.agg cs)=AV.plain (.agg cs):=rfl
theorem zW{base:Nat}{vs:List AV} : AV.aJ base (AV.tuple vs)=AV.plain (.tuple vs):=rfl
theorem Dq{base:Nat}{b:Bool} : AV.bp base (AV.bool b)=AV.aJ base (.bool b):=rfl
theorem Hk{base:Nat}{k:IntKind}{n:Int} : AV.bp base (AV.int k n)=AV.aJ base (.int k n):=rfl
theorem Ho{base:Nat}{l:List UInt8} : AV.bp base (AV.str l)=AV.aJ base (.str l):=rfl
theorem Hj{base:Nat} : AV.bp base AV.any=AV.aJ base .any:=rfl
theorem zk{base:Nat} : AV.bp base AV.dh=AV.aJ base .dh:=rfl
theorem zj{base:Nat} : AV.bp base AV.cN=AV.aJ base .cN:=rfl
theorem Dt{kz:Nat}{ka va:Bool}{es:List (List AV)}{base:Nat} : AV.bp base (AV.dR kz ka va es)=AV.aJ base (.dR kz ka va es):=rfl
theorem xf{base:Nat} : AV.bp base AV.cz=AV.aJ base .cz:=rfl
theorem vT{base:Nat} : AV.bp base AV.bV=AV.aJ base .bV:=rfl
theorem Aq{base:Nat}{e:List (List AV)}{own:Bool} : AV.bp base (AV.slice e own)=AV.aJ base (.slice e own):=rfl
theorem Dr{base:Nat}{cs:List AV} : AV.bp base (AV.eptr cs)=AV.aJ base (.eptr cs):=rfl
theorem Hn{base:Nat}{loc off:Nat} : AV.bp base (AV.ref loc off)=AV.aJ base (.ref loc off):=rfl
theorem Dy{base:Nat}{loc off n z:Nat} : AV.bp base (AV.sref loc off n z)=AV.aJ base (.sref loc off n z):=rfl
theorem Dx{base:Nat}{loc:Nat} : AV.bp base (AV.mref loc)=AV.aJ base (.mref loc):=rfl
theorem Dv{base:Nat}{g:Nat}{cs:List AV} : AV.bp base (AV.lbox g cs)=AV.aJ base (.lbox g cs):=rfl
theorem Dw{base:Nat}{s g off:Nat} : AV.bp base (AV.lref s g off)=AV.aJ base (.lref s g off):=rfl
theorem Hl{base:Nat}{g:Nat}{e:List (List AV)} : AV.bp base (AV.lsl g e)=AV.aJ base (.lsl g e):=rfl
theorem Hm{base:Nat}{s g:Nat} : AV.bp base (AV.lsr s g)=AV.aJ base (.lsr s g):=rfl
theorem Ds{base:Nat}{s g i z off:Nat} : AV.bp base (AV.eref s g i z off)=AV.aJ base (.eref s g i z off):=rfl
theorem Du{base:Nat}{f:Fn}{fs cs:List AV} : AV.bp base (AV.func f fs cs)=AV.aJ base (.func f fs cs):=rfl
theorem Ao{base:Nat}{t:TypeId}{v:AV} : AV.bp base (AV.iface t v)=AV.aJ base (.iface t v):=rfl
theorem Hi{base:Nat}{cs:List AV} : AV.bp base (AV.agg cs)=cs.all (AV.aJ base):=rfl
theorem Ar{base:Nat}{vs:List AV} : AV.bp base (AV.tuple vs)=AV.aJ base (.tuple vs):=rfl
theorem GM{base:Nat}{b:Bool} : AV.leaves base (AV.bool b)=AV.bp base (.bool b):=rfl
theorem JN{base:Nat}{k:IntKind}{n:Int} : AV.leaves base (AV.int k n)=AV.bp base (.int k n):=rfl
theorem JR{base:Nat}{l:List UInt8} : AV.leaves base (AV.str l)=AV.bp base (.str l):=rfl
theorem JM{base:Nat} : AV.leaves base AV.any=AV.bp base .any:=rfl
theorem Am{base:Nat} : AV.leaves base AV.dh=AV.bp base .dh:=rfl
theorem Al{base:Nat} : AV.leaves base AV.cN=AV.bp base .cN:=rfl
theorem GP{kz:Nat}{ka va:Bool}{es:List (List AV)}{base:Nat} : AV.leaves base (AV.dR kz ka va es)=AV.bp base (.dR kz ka va es):=rfl
theorem yX{base:Nat} : AV.leaves base AV.cz=AV.bp base .cz:=rfl
theorem xd{base:Nat} : AV.leaves base AV.bV=AV.bp base .bV:=rfl
theorem De{base:Nat}{e:List (List AV)}{own:Bool} : AV.leaves base (AV.slice e own)=true:=rfl
theorem GN{base:Nat}{cs:List AV} : AV.leaves base (AV.eptr cs)=AV.bp base (.eptr cs):=rfl
theorem JQ{base:Nat}{loc off:Nat} : AV.leaves base (AV.ref loc off)=AV.bp base (.ref loc off):=rfl
theorem GV{base:Nat}{loc off n z:Nat} : AV.leaves base (AV.sref loc off n z)=AV.bp base (.sref loc off n z):=rfl
theorem GU{base:Nat}{loc:Nat} : AV.leaves base (AV.mref loc)=AV.bp base (.mref loc):=rfl
theorem GR{base:Nat}{g:Nat}{cs:List AV} : AV.leaves base (AV.lbox g cs)=AV.bp base (.lbox g cs):=rfl
theorem GS{base:Nat}{s g off:Nat} : AV.leaves base (AV.lref s g off)=AV.bp base (.lref s g off):=rfl
theorem JO{base:Nat}{g:Nat}{e:List (List AV)} : AV.leaves base (AV.lsl g e)=AV.bp base (.lsl g e):=rfl
theorem JP{base:Nat}{s g:Nat} : AV.leaves base (AV.lsr s g)=AV.bp base (.lsr s g):=rfl
theorem GO{base:Nat}{s g i z off:Nat} : AV.leaves base (AV.eref s g i z off)=AV.bp base (.eref s g i z off):=rfl
theorem GQ{base:Nat}{f:Fn}{fs cs:List AV} : AV.leaves base (AV.func f fs cs)=(fs.all (AV.aJ base)&&cs.all (AV.aJ base)):=rfl
theorem Dc{base:Nat}{t:TypeId}{v:AV} : AV.leaves base (AV.iface t v)=v.aJ base:=rfl
theorem JL{base:Nat}{cs:List AV} : AV.leaves base (AV.agg cs)=AV.bp base (.agg cs):=rfl
theorem Df{base:Nat}{vs:List AV} : AV.leaves base (AV.tuple vs)=vs.all (AV.bp base):=rfl
theorem H8{s:Nat}{b:Bool} : iP s (AV.bool b)=(.bool b):=rfl
theorem LQ{s:Nat}{k:IntKind}{n:Int} : iP s (AV.int k n)=(.int k n):=rfl
theorem LV{s:Nat}{l:List UInt8} : iP s (AV.str l)=(.str l):=rfl
theorem LP{s:Nat} : iP s AV.any=.any:=rfl
theorem BX{s:Nat} : iP s AV.dh=.dh:=rfl
theorem BW{s:Nat} : iP s AV.cN=.cN:=rfl
theorem Ib{kz:Nat}{ka va:Bool}{es:List (List AV)}{s:Nat} : iP s (AV.dR kz ka va es)=(.dR kz ka va es):=rfl
theorem zR{s:Nat} : iP s AV.cz=.cz:=rfl
theorem xD{s:Nat} : iP s AV.bV=.bV:=rfl
theorem D7{s:Nat}{e:List (List AV)}{own:Bool} : iP s (AV.slice e own)=(.slice e own):=rfl
theorem H9{s:Nat}{cs:List AV} : iP s (AV.eptr cs)=(.eptr cs):=rfl
theorem LU{s:Nat}{loc off:Nat} : iP s (AV.ref loc off)=(.ref loc off):=rfl
theorem Ii{s:Nat}{loc off n z:Nat} : iP s (AV.sref loc off n z)=(.sref loc off n z):=rfl
theorem Ih{s:Nat}{loc:Nat} : iP s (AV.mref loc)=(.mref loc):=rfl
theorem Ie{s:Nat}{g:Nat}{cs:List AV} : iP s (AV.lbox g cs)=.lref s g 0:=rfl
theorem Ig{s:Nat}{r g off:Nat} : iP s (AV.lref r g off)=(.lref r g off):=rfl
theorem LR{s:Nat}{g:Nat}{e:List (List AV)} : iP s (AV.lsl g e)=.lsr s g:=rfl
theorem LS{s:Nat}{r g:Nat} : iP s (AV.lsr r g)=(.lsr r g):=rfl
theorem Ia{s:Nat}{r g i z off:Nat} : iP s (AV.eref r g i z off)=(.eref r g i z off):=rfl
theorem Ic{s:Nat}{f:Fn}{fs cs:List AV} : iP s (AV.func f fs cs)=(.func f fs cs):=rfl
theorem D5{s:Nat}{t:TypeId}{v:AV} : iP s (AV.iface t v)=(.iface t v):=rfl
theorem LO{s:Nat}{cs:List AV} : iP s (AV.agg cs)=(.agg cs):=rfl
theorem D8{s:Nat}{vs:List AV} : iP s (AV.tuple vs)=(.tuple vs):=rfl
end
def cZ(A:AP)(d:Bool)(o:Option AV)(t:Nat)(os:List aj)(T:ax)(H:ag)(lo gen:Nat)(K:AS->Prop):Prop :=
 bj (o.bind fun z=>cond (d&&(aP z).isSome) none (some z)) fun z=>WO A d os ⟨T.put t z,H,lo,gen⟩ K
def jo(A:AP)(d take obj:Bool)(i:Nat)(v:AV)(t:Nat)(os:List aj)(T:ax)(H:ag)(lo gen:Nat)(K:AS->Prop):Prop :=
 bj (match v with
  | .lbox g _=>some (AV.lref i g 0,(⟨T,H,lo,gen⟩:AS))
  | .lsl g e=>cond take (cond d none (cond obj (some (.lsl gen e,⟨T.put i .any,H,lo,gen+1⟩)) (cond (jh e) (some (.slice e true,⟨T.put i (.slice e false),H,lo,gen⟩)) none))) (some (.lsr i g,⟨T,H,lo,gen⟩))
  | .slice e own=>cond (take&&own) (cond d none (some (.slice e true,⟨T.put i (.slice e false),H,lo,gen⟩))) (some (.slice e false,⟨T,H,lo,gen⟩))
  | .iter ..=>none
  | v=>some (v,⟨T,H,lo,gen⟩)) fun r=>WO A d os (r.2.bu t r.1) K
def mH(A:AP)(d:Bool)(v:AV)(w:Bool)(t:Nat)(op:fq)(os:List aj)(T:ax)(H:ag)(lo gen:Nat)(K:AS->Prop):Prop :=
 bj (match v with|.bool b=>some (b==w)|.tuple []=>some false|_=>none) fun b =>
  (b=true->WO A d (⟨some t,none,op⟩ :: os) ⟨T,H,lo,gen⟩ K)/\(b=false->WO A d os ⟨T.put t .undef,H,lo,gen⟩ K)
def rf(A:AP)(d:Bool)(r:Option (AV × Option gk))(t:Nat)(os:List aj)(T:ax)(H:ag)(lo gen:Nat)(K:AS->Prop):Prop :=
 bj (r.bind fun r=>match r.2 with
  | none=>cond (d&&(aP r.1).isSome) none (some (r.1,(⟨T,H,lo,gen⟩:AS)))
  | some c=>cond d none (some (r.1,AS.fC ⟨T,H,lo,gen⟩ c))) fun r=>WO A d os (r.2.bu t r.1) K
def mP(G:Nat->List AV)(T:ax):List ar->List AV
 | []=>[]
 | a :: r=>(a.addr G T).aX :: mP G T r
def j0(G:Nat->List AV)(T:ax):List ar->Bool
 | []=>true
 | a :: r=>aq (a.addr G T)&&j0 G T r
theorem rb{G:Nat->List AV}{T:ax} : ∀ l:List ar,l.map (fun a=>(a.addr G T).aX)=mP G T l
 | []=>rfl
 | a :: r=>by simp[mP,rb r]
theorem pg{G:Nat->List AV}{T:ax} : ∀ l:List ar,(l.map fun a=>a.addr G T).all aq=j0 G T l
 | []=>rfl
 | a :: r=>by simp only[apZ,List.all_cons,j0,pg r]
def qz(G:Nat->List AV)(T:ax):List (Nat × Nat × ar)->List (Nat × Nat × AV)
 | []=>[]
 | (o,z,a) :: r=>(o,z,(a.eval G T).drop) :: qz G T r
theorem BF{G:Nat->List AV}{T:ax} : ∀ l:List (Nat × Nat × ar),l.map (fun p=>(p.1,p.2.1,(p.2.2.eval G T).drop))=qz G T l
 | []=>rfl
 | a :: r=>by simp[qz,BF r]
def mD(G:Nat->List AV)(T:ax):List (Nat × ar)->List (Nat × AV)
 | []=>[]
 | (i,a) :: r=>(i,(a.eval G T).drop) :: mD G T r
theorem vx{G:Nat->List AV}{T:ax} : ∀ l:List (Nat × ar),l.map (fun p=>(p.1,(p.2.eval G T).drop))=mD G T l
 | []=>rfl
 | a :: r=>by simp[mD,vx r]
def He(G:Nat->List AV)(T:ax):Option ar->Option AV
 | none=>none
 | some a=>some (a.eval G T)
def Lz(c a b:AV):Option AV:=match c with
 | .bool t=>some (cond t a.drop b.drop)
 | _=>none
def S9(b:Bool)(o:Option (List (List AV))):Option AV:=o.bind fun E=>cond (nY b E) (some (.slice E true)) none
def lY(o:Option ct)(agg:Bool)(sz off:Nat):Option AV:=match o with
 | some (.box _ cs)=>ah false agg sz off cs
 | some (.I6 cs)=>ah false agg sz off cs
 | some (.cj cs)=>ah false agg sz off cs
 | _=>none
def nw(v:AV)(g:Nat)(agg:Bool)(sz off:Nat):Option AV:=match v with
 | .lbox g' cs=>cond (Nat.beq g g') (ah false agg sz off cs) none
 | _=>none
def rU(o:Option (List AV))(z:Nat)(agg:Bool)(sz off:Nat):Option AV:=o.bind fun r=>cond (Nat.beq r.length z) (ah false agg sz off r) none
def pz(v:AV)(g i z:Nat)(agg:Bool)(sz off:Nat):Option AV:=match v with
 | .lsl g' e=>cond (Nat.beq g g') (rU (e[i]?) z agg sz off) none
 | _=>none
def jX(T:ax)(H:ag)(agg:Bool)(sz:Nat)(x:AV):Option AV:=match x with
 | .eptr cs=>ah false agg sz 0 cs
 | .ref loc off=>lY H[loc]? agg sz off
 | .lref b g off=>nw (T b) g agg sz off
 | .eref b g i z off=>pz (T b) g i z agg sz off
 | _=>none
def nS(v:AV)(g:Nat)(r:AV):Option AV:=match v with
 | .lbox g' _=>cond (Nat.beq g g') (some r) none
 | _=>none
def qt(v:AV)(g i:Nat)(r:AV):Option AV:=match v with
 | .lsl g' e=>cond (Nat.beq g g'&&Nat.blt i e.length) (some r) none
 | _=>none
def Zv(T:ax)(off:Nat)(x:AV):Option AV:=match x with
 | .ref l o=>some (.ref l (o+off))
 | .eptr cs=>some (.eptr (cs.drop off))
 | .lref b g o=>nS (T b) g (.lref b g (o+off))
 | .eref b g i z o=>qt (T b) g i (.eref b g i z (o+off))
 | _=>none
def aaW(x:AV)(agg:Bool)(sz off:Nat):Option AV:=match x with
 | .agg cs=>ah false agg sz off cs
 | _=>none
def Kj(sz:Nat)(r:Option (List AV))(f:List AV->AV):Option AV:=r.bind fun r=>cond (Nat.beq r.length sz) (some (f r)) none
def ixV(T:ax)(sz:Nat)(x:AV)(n:Option Nat):Option AV:=match x with
 | .slice e _=>n.bind fun n=>Kj sz (e[n]?) .eptr
 | .sref l o m _=>n.bind fun n=>cond (Nat.blt n m) (some (.ref l (o+n*sz))) none
 | .lsr t g=>match T t with
  | .lsl g' e=>cond (Nat.beq g g') (n.bind fun n=>Kj sz (e[n]?) fun _=>.eref t g n sz 0) none
  | _=>none
 | _=>none
def Jz(agg:Bool)(n sz:Nat)(x:AV)(i:Option Nat):Option AV:=match x with
 | .agg cs=>i.bind fun k=>cond (Nat.blt k n) (ah false agg sz (k*sz) cs) none
 | _=>none
def It(o:Option UInt8):Option AV:=o.map fun (b:UInt8)=>AV.int .u8 b.toNat
def OV(x:AV)(i:Option Nat):Option AV:=match x with
 | .str l=>i.bind fun n=>It (l[n]?)
 | _=>none
def PI(x:AV)(i:Nat):Option AV:=match x with
 | .tuple vs=>(vs[i]?).map AV.aX
 | _=>none
def yY(T:ax)(k:lO)(x:AV):Option AV:=match x with
 | .lsr t g=>match T t with
  | .lsl g' e=>cond (Nat.beq g g') (kJ k (.slice e false)) none
  | _=>none
 | v=>kJ k v
def AB(A:AP)(d:Bool)(r:Option (AV × Option gk))(os:List aj)(T:ax)(H:ag)(lo gen:Nat)(K:AS->Prop):Prop :=
 bj (r.bind fun r=>match r.2 with
  | none=>cond (d&&(aP r.1).isSome) none (some (⟨T,H,lo,gen⟩:AS))
  | some c=>cond d none (some (AS.fC ⟨T,H,lo,gen⟩ c))) fun s=>WO A d os s K
def OX(A:AP)(d:Bool)(f:AV)(vs:List AV)(t:Nat)(os:List aj)(T:ax)(H:ag)(lo gen:Nat)(K:AS->Prop):Prop:=match f with
 | .func (.func n) fs cs=>rf A d (az A n (fs++vs++cs) H) t os T H lo gen K
 | _=>False
def UC(A:AP)(b:Bool)(sz bytes i:Nat)(x y:AV)(t:Nat)(os:List aj)(T:ax)(H:ag)(lo gen:Nat)(K:AS->Prop):Prop:=match x with
 | .slice e own=>bj (bt b sz bytes (.slice e own) y) fun z=>WO A false os ⟨(T.put i (.slice e false)).put t z,H,lo,gen⟩ K
 | .ae=>bj (bt b sz bytes (.slice [] true) y) fun z=>WO A false os ⟨T.put t z,H,lo,gen⟩ K
 | _=>False
section
variable {A:AP}{T:ax}{H:ag}{lo gen:Nat}{K:AS->Prop}{d:Bool}{os:List aj}{t:Nat}
theorem cG{z:AV}(h:aP z=none):cZ A d (some z) t os T H lo gen K=WO A d os ⟨T.put t z,H,lo,gen⟩ K:=by
 simp[cZ,h,aD]
theorem YU{b:Bool} : cZ A d (some (AV.bool b)) t os T H lo gen K=WO A d os ⟨T.put t (AV.bool b),H,lo,gen⟩ K:=cG rfl
theorem aej{k:IntKind}{n:Int} : cZ A d (some (AV.int k n)) t os T H lo gen K=WO A d os ⟨T.put t (AV.int k n),H,lo,gen⟩ K:=cG rfl
theorem aem{l:List UInt8} : cZ A d (some (AV.str l)) t os T H lo gen K=WO A d os ⟨T.put t (AV.str l),H,lo,gen⟩ K:=cG rfl
theorem aei:cZ A d (some AV.any) t os T H lo gen K=WO A d os ⟨T.put t AV.any,H,lo,gen⟩ K:=cG rfl
theorem N' : cZ A d (some AV.dh) t os T H lo gen K=WO A d os ⟨T.put t AV.dh,H,lo,gen⟩ K:=cG rfl
theorem N9:cZ A d (some AV.cN) t os T H lo gen K=WO A d os ⟨T.put t AV.cN,H,lo,gen⟩ K:=cG rfl
theorem YX{kz:Nat}{ka va:Bool}{es:List (List AV)} : cZ A d (some (AV.dR kz ka va es)) t os T H lo gen K=WO A d os ⟨T.put t (AV.dR kz ka va es),H,lo,gen⟩ K:=cG rfl
theorem Kr:cZ A d (some AV.cz) t os T H lo gen K=WO A d os ⟨T.put t AV.cz,H,lo,gen⟩ K:=cG rfl
theorem HI:cZ A d (some AV.bV) t os T H lo gen K=WO A d os ⟨T.put t AV.bV,H,lo,gen⟩ K:=cG rfl
theorem TY{e:List (List AV)}{own:Bool} : cZ A d (some (AV.slice e own)) t os T H lo gen K=WO A d os ⟨T.put t (AV.slice e own),H,lo,gen⟩ K:=cG rfl
theorem YV{cs:List AV} : cZ A d (some (AV.eptr cs)) t os T H lo gen K=WO A d os ⟨T.put t (AV.eptr cs),H,lo,gen⟩ K:=cG rfl
theorem ael{loc off:Nat} : cZ A d (some (AV.ref loc off)) t os T H lo gen K=WO A d os ⟨T.put t (AV.ref loc off),H,lo,gen⟩ K:=cG rfl
theorem Y1{loc off n z:Nat} : cZ A d (some (AV.sref loc off n z)) t os T H lo gen K=WO A d os ⟨T.put t (AV.sref loc off n z),H,lo,gen⟩ K:=cG rfl
theorem Y0{loc:Nat} : cZ A d (some (AV.mref loc)) t os T H lo gen K=WO A d os ⟨T.put t (AV.mref loc),H,lo,gen⟩ K:=cG rfl
theorem YZ{r g off:Nat} : cZ A d (some (AV.lref r g off)) t os T H lo gen K=WO A d os ⟨T.put t (AV.lref r g off),H,lo,gen⟩ K:=cG rfl
theorem aek{r g:Nat} : cZ A d (some (AV.lsr r g)) t os T H lo gen K=WO A d os ⟨T.put t (AV.lsr r g),H,lo,gen⟩ K:=cG rfl
theorem YW{r g i z off:Nat} : cZ A d (some (AV.eref r g i z off)) t os T H lo gen K=WO A d os ⟨T.put t (AV.eref r g i z off),H,lo,gen⟩ K:=cG rfl
theorem YY{fn:Fn}{fs cs:List AV} : cZ A d (some (AV.func fn fs cs)) t os T H lo gen K=WO A d os ⟨T.put t (AV.func fn fs cs),H,lo,gen⟩ K:=cG rfl
theorem TW{u:TypeId}{v:AV} : cZ A d (some (AV.iface u v)) t os T H lo gen K=WO A d os ⟨T.put t (AV.iface u v),H,lo,gen⟩ K:=cG rfl
theorem aeh{cs:List AV} : cZ A d (some (AV.agg cs)) t os T H lo gen K=WO A d os ⟨T.put t (AV.agg cs),H,lo,gen⟩ K:=cG rfl
theorem TZ{vs:List AV} : cZ A d (some (AV.tuple vs)) t os T H lo gen K=WO A d os ⟨T.put t (AV.tuple vs),H,lo,gen⟩ K:=cG rfl
theorem fy{op:fq}{o:Option AV}(h:au A.aO (az A) ⟨T,H,lo,gen⟩ op=o.map (·,none)):WO A d (⟨some t,none,op⟩ :: os) ⟨T,H,lo,gen⟩ K=cZ A d o t os T H lo gen K:=by
 rw[fE]
 cases o with
 | none=>simp[cZ,bA,h,bj]
 | some z =>
  simp only[cZ,bA,h,Option.map_some,apB]
  cases hb:(d&&(aP z).isSome) with
  | true=>simp[bj]
  | false=>simp only[apE,aD];rfl
section
variable {take obj:Bool}{i:Nat}
theorem XB{b:Bool} : jo A d take obj i (AV.bool b) t os T H lo gen K=WO A d os ⟨T.put t (AV.bool b),H,lo,gen⟩ K:=aD
theorem acR{k:IntKind}{n:Int} : jo A d take obj i (AV.int k n) t os T H lo gen K=WO A d os ⟨T.put t (AV.int k n),H,lo,gen⟩ K:=aD
theorem acY{l:List UInt8} : jo A d take obj i (AV.str l) t os T H lo gen K=WO A d os ⟨T.put t (AV.str l),H,lo,gen⟩ K:=aD
theorem acQ:jo A d take obj i AV.any t os T H lo gen K=WO A d os ⟨T.put t AV.any,H,lo,gen⟩ K:=aD
theorem NA:jo A d take obj i AV.dh t os T H lo gen K=WO A d os ⟨T.put t AV.dh,H,lo,gen⟩ K:=aD
theorem Nz:jo A d take obj i AV.cN t os T H lo gen K=WO A d os ⟨T.put t AV.cN,H,lo,gen⟩ K:=aD
theorem XE{kz:Nat}{ka va:Bool}{es:List (List AV)} : jo A d take obj i (AV.dR kz ka va es) t os T H lo gen K=WO A d os ⟨T.put t (AV.dR kz ka va es),H,lo,gen⟩ K:=aD
theorem JX:jo A d take obj i AV.cz t os T H lo gen K=WO A d os ⟨T.put t AV.cz,H,lo,gen⟩ K:=aD
theorem G0:jo A d take obj i AV.bV t os T H lo gen K=WO A d os ⟨T.put t AV.bV,H,lo,gen⟩ K:=aD
theorem XC{cs:List AV} : jo A d take obj i (AV.eptr cs) t os T H lo gen K=WO A d os ⟨T.put t (AV.eptr cs),H,lo,gen⟩ K:=aD
theorem acU{loc off:Nat} : jo A d take obj i (AV.ref loc off) t os T H lo gen K=WO A d os ⟨T.put t (AV.ref loc off),H,lo,gen⟩ K:=aD
theorem XM{loc off n z:Nat} : jo A d take obj i (AV.sref loc off n z) t os T H lo gen K=WO A d os ⟨T.put t (AV.sref loc off n z),H,lo,gen⟩ K:=aD
theorem XL{loc:Nat} : jo A d take obj i (AV.mref loc) t os T H lo gen K=WO A d os ⟨T.put t (AV.mref loc),H,lo,gen⟩ K:=aD
theorem XG{g:Nat}{cs:List AV} : jo A d take obj i (AV.lbox g cs) t os T H lo gen K=WO A d os ⟨T.put t (AV.lref i g 0),H,lo,gen⟩ K:=aD
theorem XH{r g off:Nat} : jo A d take obj i (AV.lref r g off) t os T H lo gen K=WO A d os ⟨T.put t (AV.lref r g off),H,lo,gen⟩ K:=aD
theorem acS{r g:Nat} : jo A d take obj i (AV.lsr r g) t os T H lo gen K=WO A d os ⟨T.put t (AV.lsr r g),H,lo,gen⟩ K:=aD
theorem XD{r g j z off:Nat} : jo A d take obj i (AV.eref r g j z off) t os T H lo gen K=WO A d os ⟨T.put t (AV.eref r g j z off),H,lo,gen⟩ K:=aD
theorem XF{fn:Fn}{fs cs:List AV} : jo A d take obj i (AV.func fn fs cs) t os T H lo gen K=WO A d os ⟨T.put t (AV.func fn fs cs),H,lo,gen⟩ K:=aD
theorem S6{u:TypeId}{v:AV} : jo A d take obj i (AV.iface u v) t os T H lo gen K=WO A d os ⟨T.put t (AV.iface u v),H,lo,gen⟩ K:=aD
theorem acP{cs:List AV} : jo A d take obj i (AV.agg cs) t os T H lo gen K=WO A d os ⟨T.put t (AV.agg cs),H,lo,gen⟩ K:=aD
theorem S8{vs:List AV} : jo A d take obj i (AV.tuple vs) t os T H lo gen K=WO A d os ⟨T.put t (AV.tuple vs),H,lo,gen⟩ K:=aD
theorem acW{e:List (List AV)} : jo A d take obj i (.slice e false) t os T H lo gen K=WO A d os ⟨T.put t (.slice e false),H,lo,gen⟩ K:=by
 simp[jo,aD,AS.bu]
theorem acX{e:List (List AV)} : jo A false true obj i (.slice e true) t os T H lo gen K=WO A false os ⟨(T.put i (.slice e false)).put t (.slice e true),H,lo,gen⟩ K:=by
 simp[jo,aD,AS.bu]
theorem acV{e:List (List AV)}{own:Bool} : jo A d false obj i (.slice e own) t os T H lo gen K=WO A d os ⟨T.put t (.slice e false),H,lo,gen⟩ K:=by
 simp[jo,aD,AS.bu]
theorem XI{g:Nat}{e:List (List AV)} : jo A d false obj i (.lsl g e) t os T H lo gen K=WO A d os ⟨T.put t (.lsr i g),H,lo,gen⟩ K:=by
 simp[jo,aD,AS.bu]
theorem XK{g:Nat}{e:List (List AV)}(hn:jh e=true):jo A false true false i (.lsl g e) t os T H lo gen K=WO A false os ⟨(T.put i (.slice e false)).put t (.slice e true),H,lo,gen⟩ K:=by
 simp[jo,aD,AS.bu,hn]
theorem XJ{g:Nat}{e:List (List AV)} : jo A false true true i (.lsl g e) t os T H lo gen K=WO A false os ⟨(T.put i .any).put t (.lsl gen e),H,lo,gen+1⟩ K:=by
 simp[jo,aD,AS.bu]
end
theorem ahP{take obj:Bool}{i:Nat} : WO A d (⟨some t,none,.mov take obj (.tmp i)⟩ :: os) ⟨T,H,lo,gen⟩ K=jo A d take obj i (T i) t os T H lo gen K:=by
 rw[fE]
 simp only[jo,bA,au,lu]
 cases hT:T i with
 | slice e own=>cases take<;>cases own<;>cases d<;>simp[bj,AS.bR,AS.bu,aP]
 | lbox g cs=>simp[bj,AS.bR,AS.bu,aP]
 | lsl g e=>cases take<;>cases obj<;>cases d<;>cases hn:jh e<;>simp[bj,AS.bR,AS.bu,aP,hn]
 | _=>simp[bj,AS.bR,AS.bu,aP]
theorem adL{take obj:Bool}{v:AV} : WO A d (⟨some t,none,.mov take obj (.cr v)⟩ :: os) ⟨T,H,lo,gen⟩ K=cZ A d (some v) t os T H lo gen K:=fy rfl
theorem adN{take obj:Bool}{g:Nat} : WO A d (⟨some t,none,.mov take obj (.aO g)⟩ :: os) ⟨T,H,lo,gen⟩ K=cZ A d (some (.eptr (A.aO g))) t os T H lo gen K:=fy rfl
theorem adM{take obj:Bool}{f:FuncId} : WO A d (⟨some t,none,.mov take obj (.fn f)⟩ :: os) ⟨T,H,lo,gen⟩ K=cZ A d (some (.func (.func f) [] [])) t os T H lo gen K:=fy rfl
theorem Yl{g:Nat}{w:Bool}{op:fq} : WO A d (⟨some t,some (g,w),op⟩ :: os) ⟨T,H,lo,gen⟩ K=mH A d (T g) w t op os T H lo gen K:=by
 rw[fE]
 simp only[mH,fE]
 unfold bA
 simp only
 cases hT:T g with
 | bool b =>
  cases hb:(b==w) with
  | true=>simp only[hb,aD,cond_true,forall_const,Bool.true_eq_false,false_implies,aqU,eq_self]
  | false=>simp only[hb,aD,apE,forall_const,aqf,false_implies,arP,eq_self,AS.bR,AS.bu]
 | tuple l =>
  cases l with
  | nil=>simp only[aD,forall_const,aqf,false_implies,arP,eq_self,AS.bR,AS.bu]
  | cons a l=>simp[bj]
 | _=>simp[bj]
theorem ahI{op:fq} : mH A d (.bool true) true t op os T H lo gen K=WO A d (⟨some t,none,op⟩ :: os) ⟨T,H,lo,gen⟩ K:=by simp[mH,aD]
theorem ahF{op:fq} : mH A d (.bool false) false t op os T H lo gen K=WO A d (⟨some t,none,op⟩ :: os) ⟨T,H,lo,gen⟩ K:=by simp[mH,aD]
theorem ahH{op:fq} : mH A d (.bool true) false t op os T H lo gen K=WO A d os ⟨T.put t .undef,H,lo,gen⟩ K:=by simp[mH,aD]
theorem ahG{op:fq} : mH A d (.bool false) true t op os T H lo gen K=WO A d os ⟨T.put t .undef,H,lo,gen⟩ K:=by simp[mH,aD]
theorem ahJ{op:fq}{w:Bool} : mH A d (.tuple []) w t op os T H lo gen K=WO A d os ⟨T.put t .undef,H,lo,gen⟩ K:=by simp[mH,aD]
theorem adR{c a b:ar} : WO A d (⟨some t,none,.pick c a b⟩ :: os) ⟨T,H,lo,gen⟩ K=cZ A d (Lz (c.eval A.aO T) (a.addr A.aO T) (b.addr A.aO T)) t os T H lo gen K:=by
 refine fy ?_
 simp only[au,Lz]
 cases c.eval A.aO T<;>rfl
theorem YA{x y:AV} : Lz (.bool true) x y=some x.drop:=rfl
theorem Yz{x y:AV} : Lz (.bool false) x y=some y.drop:=rfl
theorem Tu{z:List AV} : WO A false (⟨some t,none,.allocL z⟩ :: os) ⟨T,H,lo,gen⟩ K=WO A false os ⟨T.put t (.lbox gen z),H,lo,gen+1⟩ K:=by
 rw[fE];simp only[bA,au,apB,apE,aD];rfl
theorem Tt{ty:TypeId}{z:List AV} : WO A false (⟨some t,none,.tp ty z⟩ :: os) ⟨T,H,lo,gen⟩ K=WO A false os ⟨T.put t (.ref H.length 0),H++[.box ty z],cond (Nat.blt H.length lo) H.length lo,gen⟩ K:=by
 rw[fE];simp only[bA,au,apB,apE,aD];rfl
theorem X7{z:List AV}{ps:List (Nat × Nat × ar)} : WO A d (⟨some t,none,.build z ps⟩ :: os) ⟨T,H,lo,gen⟩ K=cZ A d ((fK z (qz A.aO T ps)).map .agg) t os T H lo gen K:=by
 refine fy ?_
 simp only[au,BF,arl];rfl
theorem NX{b:Bool}{sz:Nat}{z:List (List AV)}{ps:List (Nat × ar)} : WO A d (⟨some t,none,.mkslice b sz z ps⟩ :: os) ⟨T,H,lo,gen⟩ K=cZ A d (S9 b (cF sz z (mD A.aO T ps))) t os T H lo gen K:=by
 refine fy ?_
 simp only[au,vx,S9]
 cases cF sz z (mD A.aO T ps) with
 | none=>rfl
 | some E=>simp only[apB];cases nY b E<;>rfl
theorem ak0{b:Bool}{E:List (List AV)} : S9 b (some E)=cond (nY b E) (some (.slice E true)) none:=rfl
theorem Yp{agg:Bool}{sz:Nat}{x:ar} : WO A d (⟨some t,none,.load false agg sz x⟩ :: os) ⟨T,H,lo,gen⟩ K=cZ A d (jX T H agg sz (x.addr A.aO T)) t os T H lo gen K:=by
 refine fy ?_
 simp only[au,cQ,jX,aqW,apE]
 cases x.addr A.aO T with
 | ref loc off=>cases hl:H[loc]? with
  | none=>simp only[hl,lY];rfl
  | some o=>cases o<;>simp only[hl,lY]<;>rfl
 | lref b g off =>
  cases hb:T b with
  | lbox g' cs=>simp only[hb,nw];cases Nat.beq g g'<;>rfl
  | _=>simp only[hb,nw];rfl
 | eref b g i z off =>
  cases hb:T b with
  | lsl g' e =>
   simp only[hb,pz,rU]
   cases Nat.beq g g' with
   | false=>rfl
   | true =>
    simp only[cond_true]
    cases e[i]? with
    | none=>rfl
    | some r=>simp only[apB];cases Nat.beq r.length z<;>rfl
  | _=>simp only[hb,pz];rfl
 | _=>rfl
theorem Yu{agg:Bool}{sz b g i z off:Nat} : jX T H agg sz (.eref b g i z off)=pz (T b) g i z agg sz off:=rfl
theorem adK{g g' i z:Nat}{e:List (List AV)}{agg:Bool}{sz off:Nat} : pz (.lsl g e) g' i z agg sz off=cond (Nat.beq g' g) (rU (e[i]?) z agg sz off) none:=rfl
theorem ad4{r:List AV}{z:Nat}{agg:Bool}{sz off:Nat} : rU (some r) z agg sz off=cond (Nat.beq r.length z) (ah false agg sz off r) none:=rfl
theorem Yq{agg:Bool}{sz:Nat}{cs:List AV} : jX T H agg sz (.eptr cs)=ah false agg sz 0 cs:=rfl
theorem Ys{agg:Bool}{sz loc off:Nat} : jX T H agg sz (.ref loc off)=lY H[loc]? agg sz off:=rfl
theorem adv{ty:TypeId}{cs:List AV}{agg:Bool}{sz off:Nat} : lY (some (.box ty cs)) agg sz off=ah false agg sz off cs:=rfl
theorem Yr{agg:Bool}{sz b g off:Nat} : jX T H agg sz (.lref b g off)=nw (T b) g agg sz off:=rfl
theorem Yo{g g' : Nat}{cs:List AV}{agg:Bool}{sz off:Nat} : nw (.lbox g cs) g' agg sz off=cond (Nat.beq g' g) (ah false agg sz off cs) none:=rfl
theorem Ty{sz off:Nat}{cs:List AV} : ah false true sz off cs=cond (Nat.ble (off+sz) cs.length) (some (.agg (((cs.drop off).take sz).map AV.drop))) none:=rfl
theorem Tx{sz off:Nat}{cs:List AV} : ah false false sz off cs=(cs[off]?).map AV.drop:=by
 simp only[ah,apE]
theorem ahp{op:BinOp}{q:vi}{x y:ar} : WO A d (⟨some t,none,.bin op q x y⟩ :: os) ⟨T,H,lo,gen⟩ K=cZ A d (wj op q (px x || px y) (x.eval A.aO T) (y.eval A.aO T)) t os T H lo gen K:=fy rfl
theorem ak1{mx:Bool}{x y:ar} : WO A d (⟨some t,none,.mm mx x y⟩ :: os) ⟨T,H,lo,gen⟩ K=cZ A d (Ta mx (x.eval A.aO T) (y.eval A.aO T)) t os T H lo gen K:=fy rfl
theorem ahO{k j:IntKind}{mx:Bool}{a b:Int} : Ta mx (.int k a) (.int j b)=cond (decide (k=j)) (some (.int k (cond mx (if b>a then b else a) (if b<a then b else a)))) none:=rfl
theorem ak3{op:UnOp}{x:ar} : WO A d (⟨some t,none,.un op x⟩ :: os) ⟨T,H,lo,gen⟩ K=cZ A d (zJ op (x.eval A.aO T)) t os T H lo gen K:=fy rfl
theorem adC{c:xA}{x:ar} : WO A d (⟨some t,none,.conv c x⟩ :: os) ⟨T,H,lo,gen⟩ K=cZ A d (ko c (x.eval A.aO T)) t os T H lo gen K:=fy rfl
theorem YF{k:vl}{x:ar}{l h m:Option ar} : WO A d (⟨some t,none,.slice k x l h m⟩ :: os) ⟨T,H,lo,gen⟩ K=cZ A d (iC k (x.eval A.aO T) (He A.aO T l) (He A.aO T h) (He A.aO T m)) t os T H lo gen K:=by
 refine fy ?_
 cases l<;>cases h<;>cases m<;>rfl
theorem aho{op:BinOp}{q:vi}{c:Bool}{j k:IntKind}{a b:Int} : wj op q c (.int j a) (.int k b)=cond (decide (j=k)) (aa op j a b) none:=rfl
theorem aht{op:BinOp}{q:vi}{c:Bool}{a b:List UInt8} : wj op q c (.str a) (.str b)=ki op a b:=rfl
theorem ahn{op:BinOp}{c:Bool}{a b:Bool} : wj op .bool c (.bool a) (.bool b)=kx op (a==b):=rfl
theorem Hy{off:Nat}{x:ar} : WO A d (⟨some t,none,.fieldAddr off x⟩ :: os) ⟨T,H,lo,gen⟩ K=cZ A d (Zv T off (x.addr A.aO T)) t os T H lo gen K:=by
 refine fy ?_
 simp only[au,Zv]
 cases x.addr A.aO T with
 | lref b g o =>
  cases hb:T b with
  | lbox g' cs=>simp only[hb,cg,gQ,nS];cases Nat.beq g g'<;>rfl
  | _=>simp only[hb,cg,nS];rfl
 | eref b g i z o =>
  cases hb:T b with
  | lsl g' e=>simp only[hb,cg,gQ,qt];cases (Nat.beq g g'&&Nat.blt i e.length)<;>rfl
  | _=>simp only[hb,cg,qt];rfl
 | _=>rfl
theorem ahA{off:Nat}{cs:List AV} : Zv T off (.eptr cs)=some (.eptr (cs.drop off)):=rfl
theorem ahC{off l o:Nat} : Zv T off (.ref l o)=some (.ref l (o+off)):=rfl
theorem ahB{off b g o:Nat} : Zv T off (.lref b g o)=nS (T b) g (.lref b g (o+off)):=rfl
theorem Kg{g g' : Nat}{cs:List AV}{r:AV} : nS (.lbox g cs) g' r=cond (Nat.beq g' g) (some r) none:=rfl
theorem ahD{off b g i z o:Nat} : Zv T off (.eref b g i z o)=qt (T b) g i (.eref b g i z (o+off)):=rfl
theorem NW{g g' i:Nat}{e:List (List AV)}{r:AV} : qt (.lsl g e) g' i r=cond (Nat.beq g' g&&Nat.blt i e.length) (some r) none:=rfl
theorem Yn{n sz:Nat}{x i:ar} : WO A d (⟨some t,none,.ixArr n sz x i⟩ :: os) ⟨T,H,lo,gen⟩ K=cZ A d ((asNat (i.eval A.aO T)).bind fun k=>cond (Nat.blt k n) (Zv T (k*sz) (x.addr A.aO T)) none) t os T H lo gen K:=by
 refine fy ?_
 simp only[au]
 cases asNat (i.eval A.aO T) with
 | none=>rfl
 | some k =>
  simp only[apB]
  cases Nat.blt k n with
  | false=>rfl
  | true =>
   simp only[aq6,cond_true,Zv]
   cases x.addr A.aO T with
   | lref b g o =>
    cases hb:T b with
    | lbox g' cs=>simp only[hb,cg,gQ,nS];cases Nat.beq g g'<;>rfl
    | _=>simp only[hb,cg,nS];rfl
   | eref b g i z o =>
    cases hb:T b with
    | lsl g' e=>simp only[hb,cg,gQ,qt];cases (Nat.beq g g'&&Nat.blt i e.length)<;>rfl
    | _=>simp only[hb,cg,qt];rfl
   | _=>rfl
theorem Tz{agg:Bool}{off sz:Nat}{cs:List AV} : aaW (.agg cs) agg sz off=ah false agg sz off cs:=rfl
theorem adF{sz:Nat}{x i:ar} : WO A d (⟨some t,none,.ixSl sz x i⟩ :: os) ⟨T,H,lo,gen⟩ K=cZ A d (ixV T sz (x.addr A.aO T) (asNat (i.eval A.aO T))) t os T H lo gen K:=by
 refine fy ?_
 simp only[au,ixV]
 cases x.addr A.aO T with
 | slice e own =>
  cases asNat (i.eval A.aO T) with
  | none=>rfl
  | some n =>
   simp only[apB,Kj]
   cases e[n]? with
   | none=>rfl
   | some r=>simp only[apB];cases Nat.beq r.length sz<;>rfl
 | sref l o m z =>
  cases asNat (i.eval A.aO T) with
  | none=>rfl
  | some n=>simp only[apB];cases Nat.blt n m<;>rfl
 | lsr s g =>
  cases hs:T s with
  | lsl g' e =>
   simp only[hs]
   cases Nat.beq g g' with
   | false=>rfl
   | true =>
    simp only[cond_true]
    cases asNat (i.eval A.aO T) with
    | none=>rfl
    | some n =>
     simp only[apB,Kj]
     cases e[n]? with
     | none=>rfl
     | some r=>simp only[apB];cases Nat.beq r.length sz<;>rfl
  | _=>simp[hs]
 | _=>rfl
theorem ahM{sz n:Nat}{e:List (List AV)}{own:Bool} : ixV T sz (.slice e own) (some n)=Kj sz (e[n]?) .eptr:=rfl
theorem ahL{sz n l o m z:Nat} : ixV T sz (.sref l o m z) (some n)=cond (Nat.blt n m) (some (.ref l (o+n*sz))) none:=rfl
theorem ahK{sz n s g:Nat} : ixV T sz (.lsr s g) (some n)=(match T s with|.lsl g' e=>cond (Nat.beq g g') (Kj sz (e[n]?) fun _=>.eref s g n sz 0) none|_=>none):=rfl
theorem ad5{sz:Nat}{r:List AV}{f:List AV->AV} : Kj sz (some r) f=cond (Nat.beq r.length sz) (some (f r)) none:=rfl
theorem Ym{agg:Bool}{n sz:Nat}{x i:ar} : WO A d (⟨some t,none,.index agg n sz x i⟩ :: os) ⟨T,H,lo,gen⟩ K=cZ A d (Jz agg n sz (x.eval A.aO T) (asNat (i.eval A.aO T))) t os T H lo gen K:=by
 refine fy ?_
 simp only[au,Jz]
 cases asNat (i.eval A.aO T) with
 | none=>cases x.eval A.aO T<;>rfl
 | some k =>
  simp only[apB]
  cases Nat.blt k n with
  | false=>cases x.eval A.aO T<;>rfl
  | true=>cases x.eval A.aO T<;>rfl
theorem TA{agg:Bool}{n sz k:Nat}{cs:List AV} : Jz agg n sz (.agg cs) (some k)=cond (Nat.blt k n) (ah false agg sz (k*sz) cs) none:=rfl
theorem Kf{x i:ar} : WO A d (⟨some t,none,.indexStr x i⟩ :: os) ⟨T,H,lo,gen⟩ K=cZ A d (OV (x.eval A.aO T) (asNat (i.eval A.aO T))) t os T H lo gen K:=by
 refine fy ?_
 simp only[au,OV]
 cases x.eval A.aO T with
 | str l =>
  cases asNat (i.eval A.aO T) with
  | none=>rfl
  | some n=>simp only[apB];cases l[n]?<;>rfl
 | _=>rfl
theorem X8{l:List UInt8}{n:Nat} : OV (.str l) (some n)=It (l[n]?):=rfl
theorem Tw{b:UInt8} : It (some b)=some (.int .u8 b.toNat):=rfl
theorem NV{x:ar}{i:Nat} : WO A d (⟨some t,none,.extract x i⟩ :: os) ⟨T,H,lo,gen⟩ K=cZ A d (PI (x.eval A.aO T) i) t os T H lo gen K:=by
 refine fy ?_
 simp only[au,PI]
 cases x.eval A.aO T with
 | tuple vs=>simp only;cases vs[i]?<;>rfl
 | _=>rfl
theorem Yk{vs:List AV}{i:Nat} : PI (.tuple vs) i=(vs[i]?).map AV.aX:=rfl
theorem ahN{k:lO}{x:ar} : WO A d (⟨some t,none,.len k x⟩ :: os) ⟨T,H,lo,gen⟩ K=cZ A d (yY T k (x.addr A.aO T)) t os T H lo gen K:=by
 refine fy ?_
 simp only[au,yY]
 cases x.addr A.aO T with
 | lsr s g =>
  cases hs:T s with
  | lsl g' e=>simp only[hs];cases Nat.beq g g'<;>rfl
  | _=>simp[hs]
 | _=>rfl
theorem adI{l:List UInt8} : yY T .str (.str l)=some (.int .i64 l.length):=rfl
theorem DF{e:List (List AV)}{own:Bool} : yY T .sl (.slice e own)=some (.int .i64 e.length):=rfl
theorem adH{l o m z:Nat} : yY T .sl (.sref l o m z)=some (.int .i64 m):=rfl
theorem adG{k:lO}{s g:Nat} : yY T k (.lsr s g)=(match T s with|.lsl g' e=>cond (Nat.beq g g') (kJ k (.slice e false)) none|_=>none):=rfl
theorem adz{f:FuncId}{args:List ar} : WO A d (⟨some t,none,.call (.fn f) args⟩ :: os) ⟨T,H,lo,gen⟩ K=(j0 A.aO T args=true/\rf A d (az A f (mP A.aO T args) H) t os T H lo gen K):=by
 rw[fE]
 simp only[bA,au,ar.eval,pg,rb,rf,aqa,aqt]
 refine propext ?_
 cases j0 A.aO T args with
 | false=>simp[bj]
 | true =>
  simp only[cond_true,arP]
  cases az A f (mP A.aO T args) H with
  | none=>simp[bj]
  | some r =>
   obtain⟨v,c⟩:=r
   cases c with
   | none=>simp only[Option.map_some,Option.map_none,apB];cases (d&&(aP v).isSome)<;>simp[bj,AS.bR]
   | some c=>simp only[Option.map_some,apB];cases d<;>simp[bj,AS.bR]
theorem Yb{f:FuncId}{args:List ar} : WO A d (⟨none,none,.call (.fn f) args⟩ :: os) ⟨T,H,lo,gen⟩ K=(j0 A.aO T args=true/\AB A d (az A f (mP A.aO T args) H) os T H lo gen K):=by
 rw[fE]
 simp only[bA,au,ar.eval,pg,rb,AB,aqa,aqt]
 refine propext ?_
 cases j0 A.aO T args with
 | false=>simp[bj]
 | true =>
  simp only[cond_true,arP]
  cases az A f (mP A.aO T args) H with
  | none=>simp[bj]
  | some r =>
   obtain⟨v,c⟩:=r
   cases c with
   | none=>simp only[Option.map_some,Option.map_none,apB];cases (d&&(aP v).isSome)<;>simp[bj,AS.bR]
   | some c=>simp only[Option.map_some,apB];cases d<;>simp[bj,AS.bR]
theorem Yc{i:Nat}{args:List ar} : WO A d (⟨some t,none,.call (.tmp i) args⟩ :: os) ⟨T,H,lo,gen⟩ K=(j0 A.aO T args=true/\OX A d (T i) (mP A.aO T args) t os T H lo gen K):=by
 rw[fE]
 simp only[bA,au,ar.eval,pg,rb,OX,rf]
 refine propext ?_
 cases hT:T i with
 | func fn fs cs =>
  cases fn with
  | func n =>
   cases j0 A.aO T args with
   | false=>simp[bj]
   | true =>
    simp only[cond_true,arP]
    cases az A n (fs++mP A.aO T args++cs) H with
    | none=>simp[bj]
    | some r =>
     obtain⟨v,c⟩:=r
     cases c with
     | none=>simp only[Option.map_some,Option.map_none,apB];cases (d&&(aP v).isSome)<;>simp[bj,AS.bR]
     | some c=>simp only[Option.map_some,apB];cases d<;>simp[bj,AS.bR]
  | _=>simp[bj]
 | _=>simp[bj]
theorem X9{n:FuncId}{fs vs cs:List AV} : OX A d (.func (.func n) fs cs) vs t os T H lo gen K=rf A d (az A n (fs++vs++cs) H) t os T H lo gen K:=rfl
theorem ahX{v:AV} : rf A false (some (v,none)) t os T H lo gen K=WO A false os ⟨T.put t v,H,lo,gen⟩ K:=by
 simp[rf,aD,AS.bu]
theorem ad2{v:AV} : rf A true (some (v,none)) t os T H lo gen K=cZ A true (some v) t os T H lo gen K:=by
 simp only[rf,cZ,apB]
 cases (aP v).isSome<;>simp[bj,AS.bu]
theorem ad1{v:AV}{h:ag}{l:Nat} : rf A false (some (v,some ⟨h,l⟩)) t os T H lo gen K=WO A false os ⟨T.put t v,h,cond (Nat.blt l lo) l lo,gen⟩ K:=by
 simp[rf,aD,AS.bu,AS.fC]
theorem ad3{v:AV} : AB A false (some (v,none)) os T H lo gen K=WO A false os ⟨T,H,lo,gen⟩ K:=by
 simp[AB,aD]
theorem YE{v:AV}{h:ag}{l:Nat} : AB A false (some (v,some ⟨h,l⟩)) os T H lo gen K=WO A false os ⟨T,h,cond (Nat.blt l lo) l lo,gen⟩ K:=by
 simp[AB,aD,AS.fC]
theorem Tv{b:Bool}{sz bytes i:Nat}{y:ar} : WO A false (⟨some t,none,.append b false sz bytes (.tmp i) y⟩ :: os) ⟨T,H,lo,gen⟩ K=UC A b sz bytes i (T i) (y.eval A.aO T) t os T H lo gen K:=by
 rw[fE]
 simp only[bA,au,ft,UC]
 cases hT:T i with
 | slice e own =>
  simp only[apE,Option.map_eq_map]
  cases bt b sz bytes (.slice e own) (y.eval A.aO T) with
  | none=>simp[bj]
  | some z=>simp[bj,AS.bR,AS.bu]
 | lsl g e =>
  simp only[aqW,apE]
  cases dW sz (y.eval A.aO T)<;>simp[bj]
 | ae =>
  simp only[apE]
  cases bt b sz bytes (.slice [] true) (y.eval A.aO T) with
  | none=>simp[bj]
  | some z=>simp[bj,AS.bR,AS.bu]
 | _=>simp[bj]
theorem ads{b:Bool}{sz bytes i:Nat}{y:AV} : UC A b sz bytes i .ae y t os T H lo gen K=bj (bt b sz bytes (.slice [] true) y) fun z=>WO A false os ⟨T.put t z,H,lo,gen⟩ K:=rfl
theorem adq{b:Bool}{sz bytes i:Nat}{e:List (List AV)}{own:Bool}{y:AV} : UC A b sz bytes i (.slice e own) y t os T H lo gen K=bj (bt b sz bytes (.slice e own) y) fun z=>WO A false os ⟨(T.put i (.slice e false)).put t z,H,lo,gen⟩ K:=rfl
theorem adu{b:Bool}{sz bytes:Nat}{v:AV}{y:ar} : WO A false (⟨some t,none,.append b false sz bytes (.cr v) y⟩ :: os) ⟨T,H,lo,gen⟩ K=cZ A false (bt b sz bytes v (y.eval A.aO T)) t os T H lo gen K:=by
 refine fy ?_
 simp only[au,ft,apE,ar.eval]
theorem YG{dst:Option Nat}{sz:Nat}{a v:ar} : WO A d (⟨dst,none,.store sz a v⟩ :: os) ⟨T,H,lo,gen⟩ K=bj (bA A.aO (az A) d ⟨T,H,lo,gen⟩ ⟨dst,none,.store sz a v⟩) fun s'=>WO A d os s' K:=fE
theorem Yt{dst:Option Nat}{agg:Bool}{sz:Nat}{x:ar} : WO A d (⟨dst,none,.load true agg sz x⟩ :: os) ⟨T,H,lo,gen⟩ K=bj (bA A.aO (az A) d ⟨T,H,lo,gen⟩ ⟨dst,none,.load true agg sz x⟩) fun s'=>WO A d os s' K:=fE
theorem Kh{dst:Option Nat}{x:ar} : WO A d (⟨dst,none,.nilCheck x⟩ :: os) ⟨T,H,lo,gen⟩ K=bj (bA A.aO (az A) d ⟨T,H,lo,gen⟩ ⟨dst,none,.nilCheck x⟩) fun s'=>WO A d os s' K:=fE
theorem TC{dst:Option Nat}{f:Fn}{a b:List ar} : WO A d (⟨dst,none,.mkfunc f a b⟩ :: os) ⟨T,H,lo,gen⟩ K=bj (bA A.aO (az A) d ⟨T,H,lo,gen⟩ ⟨dst,none,.mkfunc f a b⟩) fun s'=>WO A d os s' K:=fE
end
theorem X4{G:Nat->List AV}{T:ax}{v:AV} : ar.addr G T (.cr v)=v:=rfl
theorem X6{G:Nat->List AV}{T:ax}{g:Nat} : ar.addr G T (.aO g)=.eptr (G g):=rfl
theorem X5{G:Nat->List AV}{T:ax}{f:FuncId} : ar.addr G T (.fn f)=.func (.func f) [] []:=rfl
def spK(sz:Nat)(es:List (List AV))(i:Nat)(o:Option (List AV))(r:List (Nat × AV)):Option (List (List AV)):=match o with
 | none=>none
 | some cs=>cond (Nat.blt i es.length) (cF sz (es.set i cs) r) none
theorem ah0{sz:Nat}{es:List (List AV)} : cF sz es []=some es:=rfl
theorem ahY{sz i:Nat}{es:List (List AV)}{v:AV}{r:List (Nat × AV)} : cF sz es ((i,v) :: r)=spK sz es i (v.elem sz) r:=by
 simp only[cF,spK]
 cases v.elem sz<;>rfl
theorem ahZ{sz i:Nat}{es:List (List AV)}{cs:List AV}{r:List (Nat × AV)} : spK sz es i (some cs) r=cond (Nat.blt i es.length) (cF sz (es.set i cs) r) none:=rfl
theorem Yf{sz:Nat}{cs:List AV} : AV.elem sz (.agg cs)=cond (Nat.beq (cs.map AV.drop).length sz&&(cs.map AV.drop).all AV.plain) (some (cs.map AV.drop)) none:=rfl
theorem Yh{k:IntKind}{n:Int} : AV.elem 1 (.int k n)=some [.int k n]:=rfl
theorem Yj{l:List UInt8} : AV.elem 1 (.str l)=some [.str l]:=rfl
theorem Yg{b:Bool} : AV.elem 1 (.bool b)=some [.bool b]:=rfl
theorem Yi{e:List (List AV)}{o:Bool} : AV.elem 1 (.slice e o)=some [.slice e false]:=rfl
def bpK(cells:List AV)(off sz:Nat)(o:Option (List AV))(r:List (Nat × Nat × AV)):Option (List AV):=match o with
 | none=>none
 | some cs=>cond (Nat.beq cs.length sz&&Nat.ble (off+cs.length) cells.length) (fK (putAt cells off (cs.map AV.drop)) r) none
theorem ahs{cells:List AV} : fK cells []=some cells:=rfl
theorem ahq{cells:List AV}{off sz:Nat}{v:AV}{r:List (Nat × Nat × AV)} : fK cells ((off,sz,v) :: r)=bpK cells off sz v.cells r:=by
 simp only[fK,bpK]
 cases v.cells<;>rfl
theorem ahr{cells cs:List AV}{off sz:Nat}{r:List (Nat × Nat × AV)} : bpK cells off sz (some cs) r=cond (Nat.beq cs.length sz&&Nat.ble (off+cs.length) cells.length) (fK (putAt cells off (cs.map AV.drop)) r) none:=rfl
def J1:AV->Bool
 | .int .u8 _=>false
 | .any=>false
 | _=>true
def NG:List AV->Bool
 | []=>true
 | x :: r=>J1 x&&NG r
def nb:List (List AV)->Bool
 | []=>true
 | r :: e=>NG r&&nb e
theorem Th:∀ r:List AV,(r.all fun|.int .u8 _=>false|.any=>false|_=>true)=NG r
 | []=>rfl
 | x :: r=>by
  rw[List.all_cons,NG,<- Th r]
  congr 1
theorem Ti:∀ e:List (List AV),jh e=nb e
 | []=>rfl
 | r :: e=>by
  have:=Ti e
  simp only[jh] at this
  simp only[jh,List.all_cons,nb,this]
  rw[<- Th];rfl
theorem TF{E:List (List AV)} : nY false E=nb E:=by simp only[nY,apE,Ti]
theorem ak2{E:List (List AV)} : jh E=nb E:=Ti E
theorem ahQ:nb []=true:=rfl
theorem ahS{r:List AV}{e:List (List AV)} : nb (r :: e)=(NG r&&nb e):=rfl
theorem adP:NG []=true:=rfl
theorem adQ{x:AV}{r:List AV} : NG (x :: r)=(J1 x&&NG r):=rfl
theorem ahU{n:Int} : J1 (.int .i64 n)=true:=rfl
theorem ahW{l:List UInt8} : J1 (.str l)=true:=rfl
theorem ahR{b:Bool} : J1 (.bool b)=true:=rfl
theorem ahV{e:List (List AV)}{o:Bool} : J1 (.slice e o)=true:=rfl
theorem ahT{cs:List AV} : J1 (.agg cs)=true:=rfl
theorem Dk{E:List (List AV)}(h:∀ r∈E,NG r=true):nb E=true:=by
 induction E with
 | nil=>rfl
 | cons r E ih=>rw[nb,h r (apP ..),ih fun r hr=>h r (apU _ hr)];rfl
theorem Bw:∀ {e f:List (List AV)},nb (e++f)=(nb e&&nb f)
 | [],f=>by simp[nb]
 | r :: e,f=>by simp only[ap2,nb,Bw,Bool.and_assoc]
def Aw(sz:Nat)(e:List (List AV)):Prop:=(∀ r∈e,r.length=sz)/\nb e=true
theorem su{sz:Nat}{e:List (List AV)}(h:∀ r∈e,r.length=sz):fM sz e=true:=by
 cases e with
 | nil=>rfl
 | cons r e=>simp[fM,h r (apP ..)]
theorem BZ{sz bytes:Nat}{e f:List (List AV)}{o:Bool}(h1:Aw sz e)(h2:Aw sz f)(hb:(e.length+f.length)*bytes<=70368744177664)(hl:e.length+f.length<=70368744177664) :
  bt false sz bytes (.slice e true) (.slice f o)=some (.slice (e++f) true):=by
 simp only[bt,dW,apB]
 cases f with
 | nil=>simp
 | cons r f =>
  have hr:nY false (e++r :: f)=true:=by rw[TF,Bw,h1.2,h2.2];rfl
  have hf:cC sz bytes e (r :: f)=true:=by
   simp only[cC,su h1.1,su h2.1,aqk hb,aqk hl,Bool.and_self]
  simp only[hr,hf,Bool.and_self,cond_true]
theorem UE{b:Bool}{sz bytes:Nat}{e:List (List AV)}{o o' : Bool} : bt b sz bytes (.slice e o) (.slice [] o')=some (.slice e o):=rfl
def y6(v:AV)(g:Nat):Option AV:=match v with
 | .lsl g' e=>cond (Nat.beq g g') (cond (jh e) (some (.slice e true)) none) none
 | _=>none
def og(T:ax)(t:Nat)(v:AV):Option AV:=match v with
 | .lsl _ e=>cond (jh e) (some (.slice e true)) none
 | .lsr b g=>y6 (T b) g
 | .lbox ..|.lref ..|.eref ..|.iter ..=>none
 | v=>some v
def afP(base lo:Nat)(H:ag)(o:Option AV):Option (AV × Option gk):=o.bind fun r=>cond (r.leaves base) (some (r,cond (Nat.beq lo base) none (some ⟨H.take base,lo⟩))) none
def zq(o:Option ct)(agg:Bool)(sz:Nat):Option AV:=match o with
 | some (.box _ cs)=>ah false agg sz 0 cs
 | _=>none
def LB(v:AV)(H:ag)(agg:Bool)(sz:Nat):Option AV:=match v with
 | .lbox _ cs=>ah false agg sz 0 cs
 | .ref loc 0=>zq H[loc]? agg sz
 | _=>none
def Zp(o:Option AV)(l:Option (List AV)):Option (List AV):=o.bind fun v=>l.map (v.aX :: ·)
section
variable {T:ax}{H:ag}{lo gen base t:Nat}{rs:List gu}
def j9(base lo:Nat)(H:ag):Bool:=cond (Nat.beq lo base) true (((H.take base).drop lo).all fun o=>match o with|.cj cs=>cs.all (AV.aJ base)|_=>true)
theorem Yy{n:Nat}{H:ag} : j9 n n H=true:=by simp[j9]
theorem ahE:fin base rs ⟨T,H,lo,gen⟩=cond (j9 base lo H) (afP base lo H (lg ⟨T,H,lo,gen⟩ rs)) none:=rfl
theorem adE{v:AV} : afP base lo H (some v)=cond (v.leaves base) (some (v,cond (Nat.beq lo base) none (some ⟨H.take base,lo⟩))) none:=rfl
theorem adT:lg ⟨T,H,lo,gen⟩ [.tmp t]=og T t (T t):=by
 simp only[lg,mN,og]
 cases hT:T t with
 | lsl g e=>simp only[hT]
 | lsr b g =>
  cases hb:T b with
  | lsl g' e =>
   simp only[hb,y6]
   cases Nat.beq g g' with
   | false=>simp only[apE,iZ,hT];rfl
   | true=>simp only[cond_true,hb]
  | _=>simp only[hb,y6,iZ,hT];rfl
 | _=>simp only[iZ,hT];rfl
theorem TE{b g:Nat} : og T t (.lsr b g)=y6 (T b) g:=rfl
theorem TB{g g' : Nat}{e:List (List AV)} : y6 (.lsl g e) g'=cond (Nat.beq g' g) (cond (jh e) (some (.slice e true)) none) none:=rfl
theorem YB{a sz:Nat}{agg:Bool} : lg ⟨T,H,lo,gen⟩ [.cell a agg sz]=iZ ⟨T,H,lo,gen⟩ (.cell a agg sz):=rfl
theorem adS:lg ⟨T,H,lo,gen⟩ []=some (.tuple []):=rfl
theorem adU{r1 r2:gu}{rs:List gu} : lg ⟨T,H,lo,gen⟩ (r1 :: r2 :: rs)=(mM ⟨T,H,lo,gen⟩ (r1 :: r2 :: rs)).map .tuple:=rfl
theorem adX:mM ⟨T,H,lo,gen⟩ []=some []:=rfl
theorem adY{r:gu}{rs:List gu} : mM ⟨T,H,lo,gen⟩ (r :: rs)=Zp (iZ ⟨T,H,lo,gen⟩ r) (mM ⟨T,H,lo,gen⟩ rs):=rfl
theorem Ye{v:AV}{l:List AV} : Zp (some v) (some l)=some (v.aX :: l):=rfl
theorem adZ:iZ ⟨T,H,lo,gen⟩ (.tmp t)=cond (aq (T t)) (some (T t)) none:=rfl
theorem adW{a sz:Nat}{agg:Bool} : iZ ⟨T,H,lo,gen⟩ (.cell a agg sz)=LB (T a) H agg sz:=by
 simp only[iZ,LB]
 cases T a with
 | ref loc off =>
  cases off with
  | zero=>cases hl:H[loc]? with
   | none=>simp only[hl,zq]
   | some o=>cases o<;>simp only[hl,zq]
  | succ n=>rfl
 | _=>rfl
theorem YC{g sz:Nat}{cs:List AV}{agg:Bool} : LB (.lbox g cs) H agg sz=ah false agg sz 0 cs:=rfl
theorem YD{loc sz:Nat}{agg:Bool} : LB (.ref loc 0) H agg sz=zq H[loc]? agg sz:=rfl
theorem adV{ty:TypeId}{cs:List AV}{sz:Nat}{agg:Bool} : zq (some (.box ty cs)) agg sz=ah false agg sz 0 cs:=rfl
theorem YL{b:Bool} : og T t (AV.bool b)=some (AV.bool b):=rfl
theorem ad9{k:IntKind}{n:Int} : og T t (AV.int k n)=some (AV.int k n):=rfl
theorem aec{l:List UInt8} : og T t (AV.str l)=some (AV.str l):=rfl
theorem ad8:og T t AV.any=some AV.any:=rfl
theorem N3:og T t AV.dh=some AV.dh:=rfl
theorem N2:og T t AV.cN=some AV.cN:=rfl
theorem YN{kz:Nat}{ka va:Bool}{es:List (List AV)} : og T t (AV.dR kz ka va es)=some (AV.dR kz ka va es):=rfl
theorem Km:og T t AV.cz=some AV.cz:=rfl
theorem HD:og T t AV.bV=some AV.bV:=rfl
theorem TO{e:List (List AV)}{own:Bool} : og T t (AV.slice e own)=some (AV.slice e own):=rfl
theorem YM{cs:List AV} : og T t (AV.eptr cs)=some (AV.eptr cs):=rfl
theorem aeb{loc off:Nat} : og T t (AV.ref loc off)=some (AV.ref loc off):=rfl
theorem YQ{loc off n z:Nat} : og T t (AV.sref loc off n z)=some (AV.sref loc off n z):=rfl
theorem YP{loc:Nat} : og T t (AV.mref loc)=some (AV.mref loc):=rfl
theorem aea{g:Nat}{e:List (List AV)} : og T t (AV.lsl g e)=cond (jh e) (some (.slice e true)) none:=rfl
theorem YO{fn:Fn}{fs cs:List AV} : og T t (AV.func fn fs cs)=some (AV.func fn fs cs):=rfl
theorem TN{u:TypeId}{v:AV} : og T t (AV.iface u v)=some (AV.iface u v):=rfl
theorem ad7{cs:List AV} : og T t (AV.agg cs)=some (AV.agg cs):=rfl
theorem TP{vs:List AV} : og T t (AV.tuple vs)=some (AV.tuple vs):=rfl
end
def BY(A:AP)(sz bytes:Nat)(x y:AV)(t:Nat)(os:List aj)(T:ax)(H:ag)(lo gen:Nat)(K:AS->Prop):Prop :=
 bj (iF ⟨T,H,lo,gen⟩ sz bytes x y) fun r=>match r.2 with
  | some s'=>WO A false os (s'.bu t r.1) K
  | none=>WO A false os ⟨T.put t r.1,H,lo,gen⟩ K
def Xp(k:AV)(kz:Nat)(ka:Bool):Option (List AV):=k.drop.cells.bind fun kc=>cond (Nat.beq kc.length kz&&ka==k.drop.isAgg) (some kc) none
def Bs(H:ag)(ok:Bool)(kz:Nat)(ka va:Bool)(ks:List CK)(zero:List AV)(m k:AV):Option AV :=
 (Xp k kz ka).bind fun kc=>match m with
  | .cN=>some (y4 ok va zero false)
  | .mX me mb mU es=>cond (Nat.beq kz me&&ka==mb&&va==mU&&tq es&&Xn ks kc) ((fH ks kc es).map (py ok va zero kz es)) none
  | .dR me mb mU es=>cond (Nat.beq kz me&&ka==mb&&va==mU) ((fH ks kc es).map (py ok va zero kz es)) none
  | .mref l=>match H[l]? with
   | some (.map me mb mU es)=>cond (Nat.beq kz me&&ka==mb&&va==mU) ((fH ks kc es).map (py ok va zero kz es)) none
   | some (.dR me mb mU es)=>cond (Nat.beq kz me&&ka==mb&&va==mU) ((fH ks kc es).map (py ok va zero kz es)) none
   | _=>none
  | _=>none
section
variable {A:AP}{T:ax}{H:ag}{lo gen:Nat}{K:AS->Prop}{d:Bool}{os:List aj}{t:Nat}
theorem n5{op:fq}{x:Option (AV × Option AS)}(h:au A.aO (az A) ⟨T,H,lo,gen⟩ op=x):WO A false (⟨some t,none,op⟩ :: os) ⟨T,H,lo,gen⟩ K=bj x fun r=>match r.2 with
  | some s'=>WO A false os (s'.bu t r.1) K
  | none=>WO A false os ⟨T.put t r.1,H,lo,gen⟩ K:=by
 rw[fE]
 simp only[bA,h]
 cases x with
 | none=>simp[bj]
 | some r =>
  obtain⟨z,s'⟩:=r
  cases s' with
  | none=>simp only[apB,aqW,apE,aD];rfl
  | some s'=>simp only[apB,apE,aD];rfl
theorem adt{sz bytes:Nat}{x y:ar} : WO A false (⟨some t,none,.appendO sz bytes x y⟩ :: os) ⟨T,H,lo,gen⟩ K=BY A sz bytes (x.addr A.aO T) (y.eval A.aO T) t os T H lo gen K:=n5 rfl
theorem Ij{sz bytes:Nat}{r:List AV}{f:List (List AV)}{own:Bool}(h1:cC sz bytes [] (r :: f)=true)(h2:cH (r :: f)=true) :
  BY A sz bytes (.slice [] true) (.slice (r :: f) own) t os T H lo gen K=WO A false os ⟨T.put t (.sref H.length 0 (f.length+1) sz),H++[.box aL (r :: f).flatten],cond (Nat.blt H.length lo) H.length lo,gen⟩ K:=by
 simp only[BY,iF,G6,ik,dW,apB,List.isEmpty_cons,aq2,aq6,h1,h2,cond_true,aD,List.length_cons]
 rfl
theorem aal{sz bytes:Nat}{r:List AV}{f:List (List AV)}{own:Bool}(h1:cC sz bytes [] (r :: f)=true)(h2:cH (r :: f)=true) :
  BY A sz bytes .ae (.slice (r :: f) own) t os T H lo gen K=WO A false os ⟨T.put t (.sref H.length 0 (f.length+1) sz),H++[.box aL (r :: f).flatten],cond (Nat.blt H.length lo) H.length lo,gen⟩ K:=by
 simp only[BY,iF,G6,ik,dW,apB,List.isEmpty_cons,aq2,aq6,h1,h2,cond_true,aD,List.length_cons]
 rfl
theorem xn{sz bytes n l:Nat}{ty:TypeId}{cs:List AV}{f:List (List AV)}{own:Bool}(hl:H[l]?=some (.box ty cs))(hc:cs.length=n*sz)(h1:(n+f.length)*bytes<=70368744177664)(h2:n+f.length<=70368744177664)
  (h3:fM sz f=true) (h4:cH f=true) :
  BY A sz bytes (.sref l 0 n sz) (.slice f own) t os T H lo gen K=WO A false os ⟨T.put t (.sref H.length 0 (n+f.length) sz),H.set l .dead++[.box aL (cs++f.flatten)],cond (Nat.blt l lo) l lo,gen⟩ K:=by
 have e1:Nat.beq cs.length (n*sz)=true:=by rw[hc];exact Nat.beq_refl _
 simp only[BY,iF,G6,ik,dW,apB,hl,e1,h3,h4,Nat.beq_refl,Bool.and_true,aqk h1,aqk h2,cond_true,aD]
 rfl
theorem Yv{sz bytes:Nat}{zero:List AV}{n:ar} : WO A false (⟨some t,none,.y9 sz bytes zero n⟩ :: os) ⟨T,H,lo,gen⟩ K =
  bj ((asNat (n.eval A.aO T)).bind fun k=>cond (Nat.ble (k*bytes) 70368744177664&&Nat.ble k 70368744177664) (some k) none) fun k=>WO A false os ⟨T.put t (.sref H.length 0 k sz),H++[.box aL (List.replicate k zero).flatten],cond (Nat.blt H.length lo) H.length lo,gen⟩ K:=by
 rw[n5 rfl]
 simp only[au,qf]
 cases asNat (n.eval A.aO T) with
 | none=>simp[bj]
 | some k =>
  simp only[apB]
  cases (Nat.ble (k*bytes) 70368744177664&&Nat.ble k 70368744177664) with
  | false=>simp[bj]
  | true=>simp only[cond_true,aD];rfl
theorem Yw{kz:Nat}{ka va:Bool} : WO A false (⟨some t,none,.uX kz ka va⟩ :: os) ⟨T,H,lo,gen⟩ K=WO A false os ⟨T.put t (.mref H.length),H++[.map kz ka va []],cond (Nat.blt H.length lo) H.length lo,gen⟩ K:=by
 rw[n5 rfl];simp only[au,aD];rfl
theorem adJ{ok:Bool}{kz:Nat}{ka va:Bool}{ks:List CK}{zero:List AV}{m k:ar} : WO A d (⟨some t,none,.look ok kz ka va ks zero m k⟩ :: os) ⟨T,H,lo,gen⟩ K=cZ A d (Bs H ok kz ka va ks zero (m.addr A.aO T) (k.eval A.aO T)) t os T H lo gen K:=by
 refine fy ?_
 simp only[au,tA,Bs,Xp]
 cases (k.eval A.aO T).drop.cells with
 | none=>rfl
 | some kc =>
  simp only[apB]
  cases (Nat.beq kc.length kz&&ka==(k.eval A.aO T).drop.isAgg) with
  | false=>rfl
  | true =>
   simp only[cond_true,apB]
   cases m.addr A.aO T with
   | cN=>rfl
   | mX me mb mU es =>
    simp only[]
    cases (Nat.beq kz me&&ka==mb&&va==mU&&tq es&&Xn ks kc) with
    | false=>rfl
    | true=>simp only[cond_true,arl];rfl
   | dR me mb mU es =>
    simp only[uV]
    cases (Nat.beq kz me&&ka==mb&&va==mU) with
    | false=>rfl
    | true=>simp only[cond_true,apB,arl];rfl
   | mref l =>
    simp only[uV]
    cases hl:H[l]? with
    | none=>rfl
    | some o =>
     cases o with
     | map me mb mU es =>
      simp only[hl]
      cases (Nat.beq kz me&&ka==mb&&va==mU) with
      | false=>rfl
      | true=>simp only[cond_true,apB,arl];rfl
     | dR me mb mU es =>
      simp only[hl]
      cases (Nat.beq kz me&&ka==mb&&va==mU) with
      | false=>rfl
      | true=>simp only[cond_true,apB,arl];rfl
     | _=>simp only[hl];rfl
   | _=>rfl
theorem adO{kz vz:Nat}{ka va:Bool}{ks:List CK}{m k v:ar} : WO A false (⟨none,none,.xe kz ka va vz ks m k v⟩ :: os) ⟨T,H,lo,gen⟩ K =
  bj (nK ⟨T,H,lo,gen⟩ kz ka va vz ks (m.addr A.aO T) (k.eval A.aO T) (v.eval A.aO T)) fun s'=>WO A false os (s'.bH v) K:=by
 rw[fE]
 simp only[bA,au]
 cases nK ⟨T,H,lo,gen⟩ kz ka va vz ks (m.addr A.aO T) (k.eval A.aO T) (v.eval A.aO T) with
 | none=>simp[bj]
 | some s'=>simp only[Option.map_some,apB,apE,aD];rfl
end
end
end Go.Abs
namespace Go.Abs
open Go
section
abbrev pS(n:Int):Prop:=-9223372036854775808<=n/\n<=9223372036854775807
theorem wrap64{n:Int}(h:-9223372036854775808<=n/\n<=9223372036854775807):IntKind.i64.wrap n=n:=by
 exact IntWalk.i64_in _ h
theorem vn{k:IntKind}{n:Nat} : asNat (.int k n)=some n:=by simp[asNat]
theorem L1{k:IntKind}{n:Nat} : asNat (.int k (no_index (@OfNat.ofNat Int n instOfNat)))=some n:=by
 show asNat (.int k ((n:Nat):Int))=some n
 exact vn
theorem L0{k:IntKind}{a n:Nat} : asNat (.int k ((a:Int)+no_index (@OfNat.ofNat Int n instOfNat)))=some (a+n):=by
 show asNat (.int k ((a:Int)+((n:Nat):Int)))=some (a+n)
 rw[<- Int.natCast_add];exact vn
theorem re{k:IntKind}{n:Int}(h:0<=n):asNat (.int k n)=some n.toNat:=by simp[asNat,h]
theorem KG{a b:Nat} : Nat.ble a b=decide (a<=b):=by
 cases h:Nat.ble a b with
 | true=>simp[Nat.le_of_ble_eq_true h]
 | false=>simp[show ¬ a<=b from fun e=>by rw[aqk e] at h;cases h]
theorem UG{a b:Nat} : Nat.blt a b=decide (a<b):=by
 show Nat.ble (a+1) b=_
 rw[KG];rfl
theorem dle{a b:Nat}(h:a<=b):decide (a<=b)=true:=by simp[h]
theorem dlt{a b:Nat}(h:a<b):decide (a<b)=true:=by simp[h]
theorem Li{a b:Int}(h:a<b):decide (a<b)=true:=by simp[h]
theorem Lh{a b:Int}(h:b<=a):decide (a<b)=false:=by simp;omega
theorem Lg{a b:Int}(h:a<=b):decide (a<=b)=true:=by simp[h]
theorem Lf{a b:Int}(h:b<a):decide (a<=b)=false:=by simp;omega
theorem Ld{a b:Int}(h:a=b):(a==b)=true:=by simp[h]
theorem Lc{a b:Int}(h:a≠b):(a==b)=false:=by simp[h]
theorem Ll{a b:Int}(h:a≠b):(a != b)=true:=by simp[h]
theorem Lk{a b:Int}(h:a=b):(a != b)=false:=by simp[h]
theorem tQ{a b:Nat}(h:a≠b):Nat.beq a b=false:=by
 cases hb:Nat.beq a b with
 | false=>rfl
 | true=>exact absurd (aqw hb) h
theorem ac1{a b:Nat}(h:a=b):Nat.beq a b=true:=by rw[h];exact Nat.beq_refl b
theorem aap:(true==false)=false:=rfl
theorem aao:(false==true)=false:=rfl
def ints(l:List Int):List (List AV):=l.map fun n=>[.int .i64 n]
def strs(l:List (List UInt8)):List (List AV):=l.map fun n=>[.str n]
theorem ma{l:List Int} : (ints l).length=l.length:=by simp[ints]
theorem r8{l:List (List UInt8)} : (strs l).length=l.length:=by simp[strs]
theorem ints_at{l:List Int}{i:Nat}{n:Int}(h:l[i]?=some n):(ints l)[i]?=some [.int .i64 n]:=by simp[ints,h]
theorem QB{l:List Int}{i:Nat} : (ints l)[i]?=l[i]?.map fun n=>[.int .i64 n]:=by simp[ints]
theorem wo:∀ {l:List (List UInt8)} {n:Nat},n=l.length->chunks 1 n (l.map .str)=strs l
 | [],0,_=>rfl
 | a :: l,n+1,h=>by
  simp only[apZ,chunks,strs,aqR,are,arb,aqh]
  rw[wo (by simpa using h)];rfl
theorem Oa{l:List (List UInt8)}{n:Nat}(h:l.length<=n):(strs l).take n=strs l:=aqn (by rw[r8];exact h)
theorem vL{l:List Int} : Aw 1 (ints l):=⟨fun r hr=>by simp only[ints,ap9] at hr;obtain⟨n,_,rfl⟩:=hr;rfl,Dk fun r hr=>by simp only[ints,ap9] at hr;obtain⟨n,_,rfl⟩:=hr;rfl⟩
theorem kM{l:List (List UInt8)} : Aw 1 (strs l):=⟨fun r hr=>by simp only[strs,ap9] at hr;obtain⟨n,_,rfl⟩:=hr;rfl,Dk fun r hr=>by simp only[strs,ap9] at hr;obtain⟨n,_,rfl⟩:=hr;rfl⟩
theorem VS{l:List Int} : nb (ints l)=true:=vL.2
theorem Y8{l:List (List UInt8)} : nb (strs l)=true:=kM.2
theorem GI{l m:List Int} : ints l++ints m=ints (l++m):=by simp[ints]
theorem HK{l m:List (List UInt8)} : strs l++strs m=strs (l++m):=by simp[strs]
theorem ra{l m:List Int}{o:Bool}(h:l.length+m.length<=1099511627776):bt false 1 8 (.slice (ints l) true) (.slice (ints m) o)=some (.slice (ints (l++m)) true):=by
 rw[BZ vL vL (by rw[ma,ma];omega) (by rw[ma,ma];omega),GI]
theorem UD{l:List Int}{n:Int}{o:Bool}(h:l.length<=1099511627775):bt false 1 8 (.slice (ints l) true) (.slice [[.int .i64 n]] o)=some (.slice (ints (l++[n])) true):=ra (m:=[n]) (by simp;omega)
theorem OJ{m:List Int}{n:Int}{o:Bool}(h:m.length<=1099511627775):bt false 1 8 (.slice [[.int .i64 n]] true) (.slice (ints m) o)=some (.slice (ints (n :: m)) true):=ra (l:=[n]) (m:=m) (by simp;omega)
theorem OK{n:Int}{o:Bool} : bt false 1 8 (.slice [] true) (.slice [[.int .i64 n]] o)=some (.slice (ints [n]) true):=ra (l:=[]) (m:=[n]) (by simp)
theorem LY{m:List Int}{o:Bool}(h:m.length<=1099511627776):bt false 1 8 (.slice [] true) (.slice (ints m) o)=some (.slice (ints m) true):=ra (l:=[]) (by simpa using h)
theorem xH{l m:List (List UInt8)}{o:Bool}(h:l.length+m.length<=1099511627776):bt false 1 16 (.slice (strs l) true) (.slice (strs m) o)=some (.slice (strs (l++m)) true):=by
 rw[BZ kM kM (by rw[r8,r8];omega) (by rw[r8,r8];omega),HK]
theorem ud{l:List (List UInt8)}{n:List UInt8}{o:Bool}(h:l.length<=1099511627775):bt false 1 16 (.slice (strs l) true) (.slice [[.str n]] o)=some (.slice (strs (l++[n])) true):=xH (m:=[n]) (by simp;omega)
theorem OL{n:List UInt8}{o:Bool} : bt false 1 16 (.slice [] true) (.slice [[.str n]] o)=some (.slice (strs [n]) true):=xH (l:=[]) (m:=[n]) (by simp)
theorem abD{H l m:ag} : H++l++m=H++(l++m):=aqL ..
theorem abE{H l:ag} : List.length (H++l)=H.length+l.length:=apL
theorem Qp{H l:ag}{k:Nat} : (H++l)[H.length+k]?=l[k]?:=by rw[apM (by omega)];simp
theorem VE{H l:ag} : (H++l)[H.length]?=l[0]?:=Qp (k:=0)
theorem Qq{H l:ag}{k:Nat}{x:ct} : (H++l).set (H.length+k) x=H++l.set k x:=by rw[aqc _ _ (by omega)];simp
theorem VF{H l:ag}{x:ct} : (H++l).set H.length x=H++l.set 0 x:=Qq (k:=0)
theorem VG{H l:ag} : (H++l).take H.length=H:=by simp
theorem agF{n k:Nat} : decide (n+k<n)=false:=by simp
theorem abF{n:Nat} : decide (n<n)=false:=by simp
def OU(A:AP)(ty:TypeId)(v:AV)(t:Nat)(os:List aj)(T:ax)(H:ag)(lo gen:Nat)(K:AS->Prop):Prop :=
 bj (v.drop.cells.bind fun cs=>cond (cs.all (aV H.length)) (some (cs.map AV.drop)) none) fun cs=>WO A false os ⟨T.put t (.ref H.length 0),H++[.box ty cs],cond (Nat.blt H.length lo) H.length lo,gen⟩ K
section
variable {A:AP}{T:ax}{H:ag}{lo gen:Nat}{K:AS->Prop}{d:Bool}{os:List aj}{t:Nat}
theorem adw{ty:TypeId}{x:ar} : WO A false (⟨some t,none,.box ty x⟩ :: os) ⟨T,H,lo,gen⟩ K=OU A ty (x.eval A.aO T) t os T H lo gen K:=by
 rw[n5 rfl]
 simp only[au,OU]
 cases (x.eval A.aO T).drop.cells with
 | none=>simp[bj]
 | some cs =>
  simp only[apB]
  cases cs.all (aV H.length) with
  | false=>simp[bj]
  | true=>simp only[cond_true,aD];rfl
theorem aas{ty:TypeId}{cs:List AV} : OU A ty (.agg cs) t os T H lo gen K=bj (cond (cs.all (aV H.length)) (some (cs.map AV.drop)) none) fun cs=>WO A false os ⟨T.put t (.ref H.length 0),H++[.box ty cs],cond (Nat.blt H.length lo) H.length lo,gen⟩ K:=rfl
theorem aat{ty:TypeId}{k:IntKind}{n:Int} : OU A ty (.int k n) t os T H lo gen K=WO A false os ⟨T.put t (.ref H.length 0),H++[.box ty [.int k n]],cond (Nat.blt H.length lo) H.length lo,gen⟩ K:=by
 simp only[OU,AV.drop,AV.cells,apB];exact aD
end
theorem aa8{n:Nat}{k:IntKind}{m:Int} : aV n (.int k m)=true:=rfl
theorem Vu{n:Nat}{b:Bool} : aV n (.bool b)=true:=rfl
theorem aba{n:Nat}{s:List UInt8} : aV n (.str s)=true:=rfl
theorem P2{n:Nat}{e:List (List AV)}{o:Bool} : aV n (.slice e o)=true:=rfl
theorem Vv{n l o k z:Nat} : aV n (.sref l o k z)=Nat.ble l n:=rfl
theorem aa'{n l o:Nat} : aV n (.ref l o)=Nat.ble l n:=rfl
theorem aa9{n:Nat} : aV n .dh=true:=rfl
theorem Zb{a b:Int}(h:0<=a):a.tdiv b=a / b:=Int.tdiv_eq_ediv_of_nonneg h
theorem LJ{a b:Int}(h:0<=a):a.tmod b=a % b:=Int.tmod_eq_emod_of_nonneg h
def um(A:AP)(d:Bool)(v:AV)(w:Bool)(p:Bool)(os:List aj)(T:ax)(H:ag)(lo gen:Nat)(K:AS->Prop):Prop :=
 bj (match v with|.bool b=>some (b==w)|.tuple []=>some false|_=>none) fun b=>(b=true->p=true)/\WO A d os ⟨T,H,lo,gen⟩ K
def KH(A:AP)(v:AV)(t:Nat)(os:List aj)(T:ax)(H:ag)(lo gen:Nat)(K:AS->Prop):Prop :=
 bj v.drop.cells fun cs=>WO A false os ⟨T.put t (.lbox gen (cs.map AV.drop)),H,lo,gen+1⟩ K
def B6(A:AP)(d:Bool)(r:Option (AV × Option gk))(t:Nat)(os:List aj)(T:ax)(H:ag)(lo gen:Nat)(K:AS->Prop):Prop :=
 bj (r.bind fun r=>match r.2 with
  | none=>cond (d&&(aP r.1).isSome) none (some r.1)
  | some _=>none) fun v=>WO A d os ⟨T.put t v,H,lo,gen⟩ K
section
variable {A:AP}{T:ax}{H:ag}{lo gen:Nat}{K:AS->Prop}{d:Bool}{os:List aj}{t:Nat}
theorem ahw{c:Oh}{x:ar} : WO A d (⟨none,none,.j6 c x⟩ :: os) ⟨T,H,lo,gen⟩ K=(fS c (x.addr A.aO T)=true/\WO A d os ⟨T,H,lo,gen⟩ K):=by
 rw[fE]
 simp only[bA,au]
 refine propext ?_
 cases fS c (x.addr A.aO T) with
 | false=>simp[bj]
 | true=>simp[bj,aP,AS.bR]
theorem adB{g:Nat}{w:Bool}{c:Oh}{x:ar} : WO A d (⟨none,some (g,w),.j6 c x⟩ :: os) ⟨T,H,lo,gen⟩ K=um A d (T g) w (fS c (x.addr A.aO T)) os T H lo gen K:=by
 rw[fE]
 simp only[um]
 unfold bA
 simp only[au]
 cases hT:T g with
 | bool b =>
  cases hb:(b==w) with
  | true =>
   refine propext ?_
   cases fS c (x.addr A.aO T) with
   | false=>simp[hb,bj]
   | true=>simp[hb,bj,aP,AS.bR]
  | false=>simp[hb,bj,AS.bR]
 | tuple l =>
  cases l with
  | nil=>simp[bj,AS.bR]
  | cons a l=>simp[bj]
 | _=>simp[bj]
theorem ahy{p:Bool} : um A d (.bool true) true p os T H lo gen K=(p=true/\WO A d os ⟨T,H,lo,gen⟩ K):=by simp[um,aD]
theorem ahu{p:Bool} : um A d (.bool false) false p os T H lo gen K=(p=true/\WO A d os ⟨T,H,lo,gen⟩ K):=by simp[um,aD]
theorem ahx{p:Bool} : um A d (.bool true) false p os T H lo gen K=WO A d os ⟨T,H,lo,gen⟩ K:=by simp[um,aD]
theorem ahv{p:Bool} : um A d (.bool false) true p os T H lo gen K=WO A d os ⟨T,H,lo,gen⟩ K:=by simp[um,aD]
theorem ahz{p w:Bool} : um A d (.tuple []) w p os T H lo gen K=WO A d os ⟨T,H,lo,gen⟩ K:=by simp[um,aD]
theorem adA{b w:Bool} : um A d (.bool b) w true os T H lo gen K=WO A d os ⟨T,H,lo,gen⟩ K:=by simp[um,aD]
theorem adx{x:ar} : WO A false (⟨some t,none,.boxL x⟩ :: os) ⟨T,H,lo,gen⟩ K=KH A (x.eval A.aO T) t os T H lo gen K:=by
 rw[n5 rfl]
 simp only[au,KH]
 cases (x.eval A.aO T).drop.cells with
 | none=>simp[bj]
 | some cs=>simp only[Option.map_some,aD];rfl
theorem aaq{cs:List AV} : KH A (.agg cs) t os T H lo gen K=WO A false os ⟨T.put t (.lbox gen (cs.map AV.drop)),H,lo,gen+1⟩ K:=by
 simp only[KH,AV.drop,AV.cells];exact aD
theorem Ya{f:FuncId}{args:List ar} : WO A d (⟨some t,none,.uf (.fn f) args⟩ :: os) ⟨T,H,lo,gen⟩ K=(j0 A.aO T args=true/\B6 A d (az A f (mP A.aO T args) H) t os T H lo gen K):=by
 rw[fE]
 simp only[bA,au,ar.eval,pg,rb,B6,aqa,aqt]
 refine propext ?_
 cases j0 A.aO T args with
 | false=>simp[bj]
 | true =>
  simp only[cond_true,arP]
  cases az A f (mP A.aO T args) H with
  | none=>simp[bj]
  | some r =>
   obtain⟨v,c⟩:=r
   cases c with
   | none=>simp only[apB];cases (d&&(aP v).isSome)<;>simp[bj,AS.bR,AS.bu]
   | some c=>simp[bj]
theorem ad0{v:AV} : B6 A false (some (v,none)) t os T H lo gen K=WO A false os ⟨T.put t v,H,lo,gen⟩ K:=by
 simp[B6,aD]
theorem Yx{sz:Nat}{z:List (List AV)}{ps:List (Nat × ar)} : WO A false (⟨some t,none,.mf sz z ps⟩ :: os) ⟨T,H,lo,gen⟩ K =
  bj ((cF sz z (mD A.aO T ps)).bind fun E=>cond (cH E) (some E) none) fun E=>WO A false os ⟨T.put t (.sref H.length 0 E.length sz),H++[.box aL E.flatten],cond (Nat.blt H.length lo) H.length lo,gen⟩ K:=by
 rw[n5 rfl]
 simp only[au,vx]
 cases cF sz z (mD A.aO T ps) with
 | none=>simp[bj]
 | some E =>
  simp only[apB]
  cases cH E with
  | false=>simp[bj]
  | true=>simp only[cond_true,aD];rfl
end
section
variable {b g o l n z:Nat}{e:List (List AV)}{own:Bool}{cs:List AV}{s:List UInt8}
theorem afu{b' : Nat} : fS (.frame b) (.lref b' g o)=Nat.beq b b':=rfl
theorem afB:fS .heap (.ref l o)=true:=rfl
theorem afy:fS .heap (.eptr cs)=true:=rfl
theorem afC:fS .heap (.slice e own)=true:=rfl
theorem afw:fS .heap (.sref l o n z)=true:=rfl
theorem afz:fS .heap (.mref l)=true:=rfl
theorem afA:fS .heap .dh=true:=rfl
theorem afv:fS .heap .cN=true:=rfl
theorem afD:fS .heap (.str s)=true:=rfl
theorem afx:fS .heap (.agg cs)=true:=rfl
theorem afE:fS .Uw (.eptr cs)=true:=rfl
theorem afF:fS .Uw (.slice e own)=true:=rfl
end
section
variable {A:AP}{T:ax}{H:ag}{lo gen:Nat}{K:AS->Prop}{os:List aj}{t:Nat}
end
def Fb(A:AP)(sz bytes i:Nat)(v y:AV)(t:Nat)(os:List aj)(T:ax)(H:ag)(lo gen:Nat)(K:AS->Prop):Prop:=match v with
 | .ae=>bj ((dW sz y).bind fun f=>cond (cC sz bytes [] f) (some f) none) fun f=>WO A false os ⟨(T.put i .any).put t (.lsl gen f),H,lo,gen+1⟩ K
 | .slice e own=>bj ((dW sz y).bind fun f=>cond (e.isEmpty&&own&&cC sz bytes [] f) (some f) none) fun f=>WO A false os ⟨(T.put i .any).put t (.lsl gen f),H,lo,gen+1⟩ K
 | .lsl _ e=>bj ((dW sz y).bind fun f=>cond (cC sz bytes e f) (some (e++f)) none) fun f=>WO A false os ⟨(T.put i .any).put t (.lsl gen f),H,lo,gen+1⟩ K
 | _=>False
section
variable {A:AP}{T:ax}{H:ag}{lo gen:Nat}{K:AS->Prop}{os:List aj}{t:Nat}
theorem adr{b:Bool}{sz bytes i:Nat}{y:ar} : WO A false (⟨some t,none,.append b true sz bytes (.tmp i) y⟩ :: os) ⟨T,H,lo,gen⟩ K=Fb A sz bytes i (T i) (y.eval A.aO T) t os T H lo gen K:=by
 rw[fE]
 simp only[bA,au,ft,Fb]
 cases hT:T i with
 | ae =>
  simp only[cond_true]
  cases dW sz (y.eval A.aO T) with
  | none=>simp[bj]
  | some f=>simp only[apB];cases cC sz bytes [] f<;>simp[bj,AS.bR,AS.bu]
 | lsl g e =>
  simp only[aq6]
  cases dW sz (y.eval A.aO T) with
  | none=>simp[bj]
  | some f=>simp only[apB];cases cC sz bytes e f<;>simp[bj,AS.bR,AS.bu]
 | slice e own =>
  simp only[cond_true]
  cases dW sz (y.eval A.aO T) with
  | none=>simp[bj]
  | some f=>simp only[apB];cases (e.isEmpty&&own&&cC sz bytes [] f)<;>simp[bj,AS.bR,AS.bu]
 | _=>simp[bj]
theorem aan{sz bytes i:Nat}{e:List (List AV)}{own:Bool} : Fb A sz bytes i .ae (.slice e own) t os T H lo gen K=bj (cond (cC sz bytes [] e) (some e) none) fun f=>WO A false os ⟨(T.put i .any).put t (.lsl gen f),H,lo,gen+1⟩ K:=rfl
theorem afn{sz bytes i:Nat}{e f:List (List AV)}{o own:Bool} : Fb A sz bytes i (.slice e o) (.slice f own) t os T H lo gen K=bj (cond (e.isEmpty&&o&&cC sz bytes [] f) (some f) none) fun f=>WO A false os ⟨(T.put i .any).put t (.lsl gen f),H,lo,gen+1⟩ K:=rfl
theorem aam{sz bytes i g:Nat}{e f:List (List AV)}{own:Bool} : Fb A sz bytes i (.lsl g e) (.slice f own) t os T H lo gen K=bj (cond (cC sz bytes e f) (some (e++f)) none) fun f=>WO A false os ⟨(T.put i .any).put t (.lsl gen f),H,lo,gen+1⟩ K:=rfl
end
section
variable {A:AP}{T:ax}{H:ag}{lo gen:Nat}{K:AS->Prop}{d:Bool}{os:List aj}{t:Nat}
theorem TX:cZ A d (some AV.ae) t os T H lo gen K=WO A d os ⟨T.put t AV.ae,H,lo,gen⟩ K:=cG rfl
theorem S7{take obj:Bool}{i:Nat} : jo A d take obj i AV.ae t os T H lo gen K=WO A d os ⟨T.put t AV.ae,H,lo,gen⟩ K:=aD
theorem D6{s:Nat} : iP s AV.ae=.ae:=rfl
theorem Gf:aP AV.ae=none:=rfl
theorem JS{T:ax} : yY T .sl .ae=some (.int .i64 0):=rfl
theorem zU{base:Nat} : AV.aJ base .ae=AV.plain .ae:=rfl
theorem Ap{base:Nat} : AV.bp base .ae=AV.aJ base .ae:=rfl
end
section
variable {o:Option (List (List AV))}{base:Nat}{A:AP}{T:ax}{H:ag}{lo gen:Nat}{K:AS->Prop}{d:Bool}{os:List aj}{t:Nat}
theorem NF:J1 AV.ae=true:=rfl
theorem P1:aV base AV.ae=true:=rfl
theorem Dd:AV.leaves base AV.ae=true:=rfl
end
end
end Go.Abs
namespace Go.Abs
section
section
variable {A:AP}{T:ax}{H:ag}{lo gen:Nat}{K:AS->Prop}{d:Bool}{os:List aj}{t:Nat}
theorem lK{agg:Bool}{sz b:Nat}{x:ar} : WO A d (⟨none,none,.same agg sz b x⟩ :: os) ⟨T,H,lo,gen⟩ K=(jX T H agg sz (x.addr A.aO T)=some (T b)/\WO A d os ⟨T,H,lo,gen⟩ K):=by
 have hl:cQ ⟨T,H,lo,gen⟩ false agg sz (x.addr A.aO T)=(jX T H agg sz (x.addr A.aO T)).map (·,none):=by
  simp only[cQ,jX,aqW,apE]
  cases x.addr A.aO T with
  | ref loc off=>cases hl:H[loc]? with
   | none=>simp only[hl,lY];rfl
   | some o=>cases o<;>simp only[hl,lY]<;>rfl
  | eref b g i z off =>
   simp only[pz]
   cases T b<;>try rfl
   rename_i g' e
   cases hb:Nat.beq g g'<;>simp only[hb,cond_true,apE,Option.map_none]
   cases he:e[i]?<;>simp only[he,apB,Option.bind_none,rU,Option.map_none]
   rename_i r
   cases hr:Nat.beq r.length z<;>simp only[hr,cond_true,apE,Option.map_none]
  | lref b g off =>
   simp only[nw]
   cases T b<;>try rfl
   rename_i g' cs
   cases hb:Nat.beq g g'<;>simp only[hb,cond_true,apE,Option.map_none]
  | _=>rfl
 rw[fE]
 simp only[bA,au,hl]
 refine propext ?_
 cases jX T H agg sz (x.addr A.aO T) with
 | none=>simp[bj]
 | some v =>
  simp only[Option.map_some]
  cases hq:n6 v (T b) with
  | false =>
   have:v≠T b:=fun e=>by rw[e,x9] at hq;cases hq
   simp[bj,this]
  | true=>simp[bj,aP,AS.bR,vA _ _ hq]
theorem aY{cs:List AV}{agg:Bool}{sz off:Nat} : lY (some (.cj cs)) agg sz off=ah false agg sz off cs:=rfl
end
end
end Go.Abs
namespace Go.Proofs.YthbncinhhdogpaaGreatDoor
open Go Go.Abs Go.Proofs
def evA:=And.intro (And.intro (And.intro (And.intro (And.intro (And.intro (And.intro (And.intro (And.intro (@Z9)
 (@Zg))
 (And.intro (@aev)
 (@Uk)))
 (And.intro (And.intro (@aeB)
 (@aic))
 (And.intro (@aex)
 (And.intro (@aib)
 (@aeA)))))
 (And.intro (And.intro (And.intro (@ah')
 (@Uj))
 (And.intro (@aeu)
 (@Zf)))
 (And.intro (And.intro (@Od)
 (@aez))
 (And.intro (@Ui)
 (And.intro (@aia)
 (@aey))))))
 (And.intro (And.intro (And.intro (And.intro (@Uh)
 (@Zi))
 (And.intro (@aew)
 (@Zh)))
 (And.intro (And.intro (@Kv)
 (@Oc))
 (And.intro (@aD)
 (And.intro (@IE)
 (@Fz)))))
 (And.intro (And.intro (And.intro (@X3)
 (@JC))
 (And.intro (@JB)
 (And.intro (@Option.bind_some.{0,0})
 (@Option.bind_none.{0,0}))))
 (And.intro (And.intro (@Option.map_some.{0,0})
 (@Option.map_none.{0,0}))
 (And.intro (@OR)
 (And.intro (@beq_self_eq_true.{0})
 (@Bool.and_false)))))))
 (And.intro (And.intro (And.intro (And.intro (And.intro (@Bool.false_and)
 (@Bool.true_and))
 (And.intro (@Bool.and_true)
 (@Bool.or_true)))
 (And.intro (And.intro (@Bool.true_or)
 (@Bool.or_false))
 (And.intro (@Bool.false_or)
 (And.intro (@Bool.not_true)
 (@Bool.not_false)))))
 (And.intro (And.intro (And.intro (@decide_true)
 (@decide_false))
 (And.intro (@List.map_cons.{0,0})
 (@List.map_nil.{0,0})))
 (And.intro (And.intro (@List.all_cons.{0})
 (@List.all_nil.{0}))
 (And.intro (@List.length_cons.{0})
 (And.intro (@List.length_nil.{0})
 (@List.getElem?_cons_zero.{0}))))))
 (And.intro (And.intro (And.intro (And.intro (@List.getElem?_cons_succ.{0})
 (@List.nil_append.{0}))
 (And.intro (@List.append_nil.{0})
 (@List.cons_append.{0})))
 (And.intro (And.intro (@wrap64)
 (@vn))
 (And.intro (@L1)
 (And.intro (@L0)
 (@Option.some.injEq.{0})))))
 (And.intro (And.intro (And.intro (@Prod.mk.injEq.{0,0})
 (@Nat.zero_add))
 (And.intro (@List.drop_zero.{0})
 (And.intro (@KG)
 (@UG))))
 (And.intro (And.intro (@dle)
 (@dlt))
 (And.intro (@List.take_succ_cons.{0})
 (And.intro (@List.take_zero.{0})
 (@List.drop_succ_cons.{0}))))))))
 (And.intro (And.intro (And.intro (And.intro (And.intro (And.intro (@Int.natCast_add)
 (@Int.cast_ofNat_Int))
 (And.intro (@List.set_cons_zero.{0})
 (@List.set_cons_succ.{0})))
 (And.intro (And.intro (@UE)
 (@ra))
 (And.intro (@UD)
 (And.intro (@OK)
 (@OJ)))))
 (And.intro (And.intro (And.intro (@LY)
 (@xH))
 (And.intro (@ud)
 (@OL)))
 (And.intro (And.intro (@VS)
 (@Y8))
 (And.intro (@aap)
 (And.intro (@tQ)
 (@ac1))))))
 (And.intro (And.intro (And.intro (And.intro (@wo)
 (@Oa))
 (And.intro (@List.length_map.{0,0})
 (@aao)))
 (And.intro (And.intro (@ge_iff_le.{0})
 (@gt_iff_lt.{0}))
 (And.intro (@AV.int.injEq)
 (And.intro (@AV.str.injEq)
 (@AV.bool.injEq)))))
 (And.intro (And.intro (And.intro (@AV.slice.injEq)
 (@true_and))
 (And.intro (@and_true)
 (And.intro (@and_self)
 (@Mm))))
 (And.intro (And.intro (@Pe)
 (@Pj))
 (And.intro (@Pd)
 (And.intro (@FM)
 (@FL)))))))
 (And.intro (And.intro (And.intro (And.intro (And.intro (@Cz)
 (@Ac))
 (And.intro (@IM)
 (@Mn)))
 (And.intro (And.intro (@Ph)
 (@Ms))
 (And.intro (@Mt)
 (And.intro (@Pf)
 (@Pg)))))
 (And.intro (And.intro (And.intro (@Mo)
 (@Mq))
 (And.intro (@IK)
 (@Pc)))
 (And.intro (And.intro (@IN)
 (@Cp))
 (And.intro (@FF)
 (And.intro (@FJ)
 (@FE))))))
 (And.intro (And.intro (And.intro (And.intro (@xZ)
 (@xY))
 (And.intro (@w6)
 (@vw)))
 (And.intro (And.intro (@Aa)
 (@Cq))
 (And.intro (@FI)
 (And.intro (@Cu)
 (@Cv)))))
 (And.intro (And.intro (And.intro (@FG)
 (@FH))
 (And.intro (@Cr)
 (And.intro (@Ct)
 (@z7))))
 (And.intro (And.intro (@FD)
 (@Ab))
 (And.intro (@U9)
 (And.intro (@aaR)
 (@aaV)))))))))
 (And.intro (And.intro (And.intro (And.intro (And.intro (And.intro (And.intro (@aaQ)
 (@MK))
 (And.intro (@MJ)
 (@I7)))
 (And.intro (And.intro (@F2)
 (@PL))
 (And.intro (@Va)
 (And.intro (@aaU)
 (@Ve)))))
 (And.intro (And.intro (And.intro (@Vf)
 (@aaS))
 (And.intro (@aaT)
 (@Vb)))
 (And.intro (And.intro (@Vd)
 (@PJ))
 (And.intro (@aaP)
 (And.intro (@PM)
 (@Jb))))))
 (And.intro (And.intro (And.intro (And.intro (@MQ)
 (@MU))
 (And.intro (@MP)
 (@CW)))
 (And.intro (And.intro (@CV)
 (@Ae))
 (And.intro (@yA)
 (And.intro (@Gg)
 (@Jc)))))
 (And.intro (And.intro (And.intro (@MT)
 (@Jg))
 (And.intro (@Jh)
 (And.intro (@MR)
 (@MS))))
 (And.intro (And.intro (@Jd)
 (@Jf))
 (And.intro (@Ge)
 (And.intro (@MO)
 (@Gi)))))))
 (And.intro (And.intro (And.intro (And.intro (And.intro (@Iu)
 (@L7))
 (And.intro (@Ma)
 (@L6)))
 (And.intro (And.intro (@Cj)
 (@Ci))
 (And.intro (@zX)
 (And.intro (@xP)
 (@Ft)))))
 (And.intro (And.intro (And.intro (@Iw)
 (@L'))
 (And.intro (@IA)
 (@IB)))
 (And.intro (And.intro (@L8)
 (@L9))
 (And.intro (@Ix)
 (And.intro (@Iz)
 (@Fq))))))
 (And.intro (And.intro (And.intro (And.intro (@L5)
 (@Fu))
 (And.intro (@J7)
 (@NP)))
 (And.intro (And.intro (@NT)
 (@NO))
 (And.intro (@DA)
 (And.intro (@Dz)
 (@As)))))
 (And.intro (And.intro (And.intro (@zl)
 (@Ht))
 (And.intro (@J8)
 (And.intro (@NS)
 (@Ka))))
 (And.intro (And.intro (@Kb)
 (@NQ))
 (And.intro (@NR)
 (And.intro (@J9)
 (@NM))))))))
 (And.intro (And.intro (And.intro (And.intro (And.intro (And.intro (@Hu)
 (@B7))
 (And.intro (@Fk)
 (@Fp)))
 (And.intro (And.intro (@Fj)
 (@xO))
 (And.intro (@xN)
 (And.intro (@w5)
 (@vq)))))
 (And.intro (And.intro (And.intro (@zV)
 (@B9))
 (And.intro (@Fo)
 (@Cd)))
 (And.intro (And.intro (@Ce)
 (@Fl))
 (And.intro (@Fm)
 (And.intro (@B')
 (@Cc))))))
 (And.intro (And.intro (And.intro (And.intro (@zT)
 (@Fi))
 (And.intro (@zW)
 (@Dq)))
 (And.intro (And.intro (@Hk)
 (@Ho))
 (And.intro (@Hj)
 (And.intro (@zk)
 (@zj)))))
 (And.intro (And.intro (And.intro (@xf)
 (@vT))
 (And.intro (@Aq)
 (And.intro (@Dr)
 (@Hn))))
 (And.intro (And.intro (@Dv)
 (@Dw))
 (And.intro (@Hl)
 (And.intro (@Hm)
 (@Ds)))))))
 (And.intro (And.intro (And.intro (And.intro (And.intro (@Du)
 (@Ao))
 (And.intro (@Hi)
 (@Ar)))
 (And.intro (And.intro (@GM)
 (@JN))
 (And.intro (@JR)
 (And.intro (@JM)
 (@Am)))))
 (And.intro (And.intro (And.intro (@Al)
 (@yX))
 (And.intro (@xd)
 (@De)))
 (And.intro (And.intro (@GN)
 (@JQ))
 (And.intro (@GR)
 (And.intro (@GS)
 (@JO))))))
 (And.intro (And.intro (And.intro (And.intro (@JP)
 (@GO))
 (And.intro (@GQ)
 (@Dc)))
 (And.intro (And.intro (@JL)
 (@Df))
 (And.intro (@H8)
 (And.intro (@LQ)
 (@LV)))))
 (And.intro (And.intro (And.intro (@LP)
 (@BX))
 (And.intro (@BW)
 (And.intro (@zR)
 (@xD))))
 (And.intro (And.intro (@D7)
 (@H9))
 (And.intro (@LU)
 (And.intro (@Ie)
 (@Ig))))))))))
 (And.intro (And.intro (And.intro (And.intro (And.intro (And.intro (And.intro (And.intro (@LR)
 (@LS))
 (And.intro (@Ia)
 (@Ic)))
 (And.intro (And.intro (@D5)
 (@LO))
 (And.intro (@D8)
 (And.intro (@YU)
 (@aej)))))
 (And.intro (And.intro (And.intro (@aem)
 (@aei))
 (And.intro (@N')
 (@N9)))
 (And.intro (And.intro (@Kr)
 (@HI))
 (And.intro (@TY)
 (And.intro (@YV)
 (@ael))))))
 (And.intro (And.intro (And.intro (And.intro (@YZ)
 (@aek))
 (And.intro (@YW)
 (@YY)))
 (And.intro (And.intro (@TW)
 (@aeh))
 (And.intro (@TZ)
 (And.intro (@XB)
 (@acR)))))
 (And.intro (And.intro (And.intro (@acY)
 (@acQ))
 (And.intro (@NA)
 (And.intro (@Nz)
 (@JX))))
 (And.intro (And.intro (@G0)
 (@XC))
 (And.intro (@acU)
 (And.intro (@XG)
 (@XH)))))))
 (And.intro (And.intro (And.intro (And.intro (And.intro (@acS)
 (@XD))
 (And.intro (@XF)
 (@S6)))
 (And.intro (And.intro (@acP)
 (@S8))
 (And.intro (@YL)
 (And.intro (@ad9)
 (@aec)))))
 (And.intro (And.intro (And.intro (@ad8)
 (@N3))
 (And.intro (@N2)
 (@Km)))
 (And.intro (And.intro (@HD)
 (@TO))
 (And.intro (@YM)
 (And.intro (@aeb)
 (@aea))))))
 (And.intro (And.intro (And.intro (And.intro (@YO)
 (@TN))
 (And.intro (@ad7)
 (@TP)))
 (And.intro (And.intro (@adp)
 (@acW))
 (And.intro (@acX)
 (And.intro (@acV)
 (@XI)))))
 (And.intro (And.intro (And.intro (@XJ)
 (@ahP))
 (And.intro (@adL)
 (And.intro (@adN)
 (@adM))))
 (And.intro (And.intro (@Yl)
 (@ahI))
 (And.intro (@ahF)
 (And.intro (@ahH)
 (@ahG))))))))
 (And.intro (And.intro (And.intro (And.intro (And.intro (And.intro (@ahJ)
 (@adR))
 (And.intro (@YA)
 (@Yz)))
 (And.intro (And.intro (@Tu)
 (@Tt))
 (And.intro (@X7)
 (And.intro (@NX)
 (@ak0)))))
 (And.intro (And.intro (And.intro (@Yp)
 (@Yu))
 (And.intro (@adK)
 (@ad4)))
 (And.intro (And.intro (@Yq)
 (@Ys))
 (And.intro (@adv)
 (And.intro (@Yr)
 (@Yo))))))
 (And.intro (And.intro (And.intro (And.intro (@Ty)
 (@Tx))
 (And.intro (@ahp)
 (@ak3)))
 (And.intro (And.intro (@adC)
 (@YF))
 (And.intro (@aho)
 (And.intro (@aht)
 (@ahn)))))
 (And.intro (And.intro (And.intro (@Hy)
 (@ahA))
 (And.intro (@ahC)
 (And.intro (@ahB)
 (@Kg))))
 (And.intro (And.intro (@ahD)
 (@NW))
 (And.intro (@Yn)
 (And.intro (@Tz)
 (@adF)))))))
 (And.intro (And.intro (And.intro (And.intro (And.intro (@ahM)
 (@ahK))
 (And.intro (@ad5)
 (@Ym)))
 (And.intro (And.intro (@TA)
 (@Kf))
 (And.intro (@X8)
 (And.intro (@Tw)
 (@NV)))))
 (And.intro (And.intro (And.intro (@Yk)
 (@ahN))
 (And.intro (@adI)
 (@DF)))
 (And.intro (And.intro (@adG)
 (@adz))
 (And.intro (@Yb)
 (And.intro (@Yc)
 (@X9))))))
 (And.intro (And.intro (And.intro (And.intro (@ahX)
 (@ad2))
 (And.intro (@ad1)
 (@ad3)))
 (And.intro (And.intro (@YE)
 (@Tv))
 (And.intro (@adq)
 (And.intro (@adu)
 (@YG)))))
 (And.intro (And.intro (And.intro (@Yt)
 (@adw))
 (And.intro (@Kh)
 (And.intro (@TC)
 (@X4))))
 (And.intro (And.intro (@X6)
 (@X5))
 (And.intro (@ah0)
 (And.intro (@ahY)
 (@ahZ)))))))))
 (And.intro (And.intro (And.intro (And.intro (And.intro (And.intro (And.intro (@Yf)
 (@Yh))
 (And.intro (@Yj)
 (@Yg)))
 (And.intro (And.intro (@Yi)
 (@ahs))
 (And.intro (@ahq)
 (And.intro (@ahr)
 (@TF)))))
 (And.intro (And.intro (And.intro (@ak2)
 (@ahQ))
 (And.intro (@ahS)
 (@adP)))
 (And.intro (And.intro (@adQ)
 (@ahU))
 (And.intro (@ahW)
 (And.intro (@ahR)
 (@ahV))))))
 (And.intro (And.intro (And.intro (And.intro (@ahT)
 (@ahE))
 (And.intro (@adE)
 (@adT)))
 (And.intro (And.intro (@TE)
 (@TB))
 (And.intro (@YB)
 (And.intro (@adS)
 (@adU)))))
 (And.intro (And.intro (And.intro (@adX)
 (@adY))
 (And.intro (@Ye)
 (And.intro (@adZ)
 (@adW))))
 (And.intro (And.intro (@YC)
 (@YD))
 (And.intro (@Mv)
 (And.intro (@Cy)
 (@Vh)))))))
 (And.intro (And.intro (And.intro (And.intro (And.intro (@Jj)
 (@ID))
 (And.intro (@Kd)
 (@Ch)))
 (And.intro (And.intro (@Dy)
 (@GV))
 (And.intro (@Ii)
 (And.intro (@Y1)
 (@XM)))))
 (And.intro (And.intro (And.intro (@YQ)
 (@ahL))
 (And.intro (@adH)
 (@adV)))
 (And.intro (And.intro (@Mp)
 (@Mu))
 (And.intro (@Cs)
 (And.intro (@Cw)
 (@Vc))))))
 (And.intro (And.intro (And.intro (And.intro (@Vg)
 (@Je))
 (And.intro (@Ji)
 (@Iy)))
 (And.intro (And.intro (@IC)
 (@J'))
 (And.intro (@Kc)
 (And.intro (@Ca)
 (@Cg)))))
 (And.intro (And.intro (And.intro (@Dt)
 (@Dx))
 (And.intro (@GP)
 (And.intro (@GU)
 (@Ib))))
 (And.intro (And.intro (@Ih)
 (@YX))
 (And.intro (@Y0)
 (And.intro (@XE)
 (@XL))))))))
 (And.intro (And.intro (And.intro (And.intro (And.intro (And.intro (@YN)
 (@YP))
 (And.intro (@ak1)
 (@ahO)))
 (And.intro (And.intro (@adt)
 (@Yv))
 (And.intro (@Yw)
 (And.intro (@adJ)
 (@adO)))))
 (And.intro (And.intro (And.intro (@abD)
 (@abE))
 (And.intro (@Qp)
 (@VE)))
 (And.intro (And.intro (@Qq)
 (@VF))
 (And.intro (@VG)
 (And.intro (@agF)
 (@abF))))))
 (And.intro (And.intro (And.intro (And.intro (@aas)
 (@aat))
 (And.intro (@aa8)
 (@Vu)))
 (And.intro (And.intro (@aba)
 (@P2))
 (And.intro (@Vv)
 (And.intro (@aa')
 (@aa9)))))
 (And.intro (And.intro (And.intro (@ahw)
 (@adB))
 (And.intro (@ahy)
 (And.intro (@ahu)
 (@ahx))))
 (And.intro (And.intro (@ahv)
 (@ahz))
 (And.intro (@adA)
 (And.intro (@adx)
 (@aaq)))))))
 (And.intro (And.intro (And.intro (And.intro (And.intro (@Ya)
 (@ad0))
 (And.intro (@Yx)
 (@afu)))
 (And.intro (And.intro (@afB)
 (@afy))
 (And.intro (@afC)
 (And.intro (@afw)
 (@afz)))))
 (And.intro (And.intro (And.intro (@afA)
 (@afv))
 (And.intro (@afD)
 (@afx)))
 (And.intro (And.intro (@afE)
 (@afF))
 (And.intro (@IL)
 (And.intro (@z8)
 (@Fs))))))
 (And.intro (And.intro (And.intro (And.intro (@Hs)
 (@PK))
 (And.intro (@ads)
 (@adr)))
 (And.intro (And.intro (@aan)
 (@aam))
 (And.intro (@TX)
 (And.intro (@S7)
 (@D6)))))
 (And.intro (And.intro (And.intro (@Gf)
 (@JS))
 (And.intro (@zU)
 (And.intro (@Ap)
 (@afn))))
 (And.intro (And.intro (@NF)
 (@P1))
 (And.intro (@Dd)
 (And.intro (@Yy)
 (@XK))))))))))
def Um:=And.intro evA (And.intro (And.intro (And.intro (And.intro (And.intro (And.intro (@mP.eq_1)
 (And.intro (@mP.eq_2)
 (@j0.eq_1)))
 (And.intro (And.intro (@j0.eq_2)
 (@qz.eq_1))
 (And.intro (@qz.eq_2)
 (@mD.eq_1))))
 (And.intro (And.intro (And.intro (@mD.eq_2)
 (@He.eq_1))
 (And.intro (@He.eq_2)
 (@ar.eval.eq_1)))
 (And.intro (And.intro (@ar.eval.eq_2)
 (@ar.eval.eq_3))
 (And.intro (@ar.eval.eq_4)
 (@AS.bR.eq_1)))))
 (And.intro (And.intro (And.intro (@AS.bR.eq_2)
 (And.intro (@ki.eq_1)
 (@ki.eq_2)))
 (And.intro (And.intro (@ki.eq_3)
 (@ki.eq_4))
 (And.intro (@ki.eq_5)
 (@ki.eq_6))))
 (And.intro (And.intro (And.intro (@ki.eq_7)
 (@ki.eq_8))
 (And.intro (@zJ.eq_1)
 (@zJ.eq_2)))
 (And.intro (And.intro (@zJ.eq_3)
 (@kJ.eq_1))
 (And.intro (@kJ.eq_2)
 (@kJ.eq_3))))))
 (And.intro (And.intro (And.intro (And.intro (@kJ.eq_4)
 (And.intro (@kJ.eq_5)
 (@kJ.eq_6)))
 (And.intro (And.intro (@ko.eq_1)
 (@ko.eq_2))
 (And.intro (@ko.eq_3)
 (@ko.eq_4))))
 (And.intro (And.intro (And.intro (@iC.eq_1)
 (@iC.eq_2))
 (And.intro (@iC.eq_3)
 (@iC.eq_4)))
 (And.intro (And.intro (@iC.eq_5)
 (@bound.eq_1))
 (And.intro (@bound.eq_2)
 (@px.eq_1)))))
 (And.intro (And.intro (And.intro (@px.eq_2)
 (And.intro (@AS.bH.eq_1)
 (@AS.bH.eq_2)))
 (And.intro (And.intro (@cg.eq_1)
 (@cg.eq_2))
 (And.intro (@cg.eq_3)
 (@cg.eq_4))))
 (And.intro (And.intro (And.intro (@cg.eq_5)
 (@gQ.eq_1))
 (And.intro (@gQ.eq_2)
 (@gQ.eq_3)))
 (And.intro (And.intro (@gQ.eq_4)
 (@gQ.eq_5))
 (And.intro (@dW.eq_1)
 (@dW.eq_2)))))))
 (And.intro (And.intro (And.intro (And.intro (And.intro (@dW.eq_3)
 (And.intro (@kx.eq_1)
 (@kx.eq_2)))
 (And.intro (And.intro (@kx.eq_3)
 (@putAt.eq_1))
 (And.intro (@bA.eq_1)
 (@au.eq_1))))
 (And.intro (And.intro (And.intro (@au.eq_2)
 (@au.eq_3))
 (And.intro (@au.eq_4)
 (@au.eq_5)))
 (And.intro (And.intro (@au.eq_6)
 (@au.eq_7))
 (And.intro (@au.eq_8)
 (@au.eq_9)))))
 (And.intro (And.intro (And.intro (@au.eq_10)
 (And.intro (@au.eq_11)
 (@au.eq_12)))
 (And.intro (And.intro (@au.eq_13)
 (@au.eq_14))
 (And.intro (@au.eq_15)
 (@au.eq_16))))
 (And.intro (And.intro (And.intro (@au.eq_17)
 (@au.eq_18))
 (And.intro (@au.eq_19)
 (@au.eq_20)))
 (And.intro (And.intro (@au.eq_21)
 (@au.eq_22))
 (And.intro (@au.eq_23)
 (@au.eq_24))))))
 (And.intro (And.intro (And.intro (And.intro (@au.eq_25)
 (And.intro (@au.eq_26)
 (@au.eq_27)))
 (And.intro (And.intro (@au.eq_28)
 (@au.eq_29))
 (And.intro (@au.eq_30)
 (@au.eq_31))))
 (And.intro (And.intro (And.intro (@au.eq_32)
 (@au.eq_33))
 (And.intro (@au.eq_34)
 (@au.eq_35)))
 (And.intro (And.intro (@au.eq_36)
 (@au.eq_37))
 (And.intro (@au.eq_38)
 (@au.eq_39)))))
 (And.intro (And.intro (And.intro (And.intro (@au.eq_40)
 (@au.eq_41))
 (And.intro (@au.eq_42)
 (@au.eq_43)))
 (And.intro (And.intro (@au.eq_44)
 (@au.eq_45))
 (And.intro (@au.eq_46)
 (@ft.eq_1))))
 (And.intro (And.intro (And.intro (@ft.eq_2)
 (@Option.isSome.eq_1.{0}))
 (And.intro (@Option.isSome.eq_2.{0})
 (@Option.isNone.eq_1.{0})))
 (And.intro (And.intro (@Option.isNone.eq_2.{0})
 (@cond_true.{1}))
 (And.intro (@cond_false.{1})
 (@eq_self.{1}))))))))
def Zt:=And.intro Um (And.intro (And.intro (And.intro (@Li)
 (@Lh))
 (And.intro (@Lg)
 (@Lf)))
 (And.intro (And.intro (@Ld)
 (@Lc))
 (And.intro (@Ll)
 (@Lk))))
def evK:=And.intro Zt (And.intro (And.intro (@gA.eq_1)
 (@re))
 (And.intro (@Int.toNat_natCast)
 (@Nat.add_zero)))
def aG:=And.intro evK (And.intro (And.intro (@Zb) (@LJ)) (And.intro (@lK) (@aY)))
end Go.Proofs.YthbncinhhdogpaaGreatDoor
namespace Go.Abs
section
section
variable {G:Nat->List AV}{cf:cA}
theorem qJ:∀ (l:List aj) (s:AS) {Q Q' : AS->Prop},lz G cf l s Q->(∀ s,Q s->Q' s)->lz G cf l s Q'
 | [],_,_,_,h,hq=>hq _ h
 | o :: r,s,Q,Q',h,hq=>by
  unfold lz at h ⊢
  cases hn:jg o with
  | none =>
   rw[hn] at h
   obtain⟨s',h1,h2⟩:=h
   exact⟨s',h1,qJ r s' h2 hq⟩
  | some t =>
   rw[hn] at h
   obtain⟨g,kz,ka,va,cur,todo,h1,h2,h3⟩:=h
   exact⟨g,kz,ka,va,cur,todo,h1,fun e=>qJ r _ (h2 e) hq,fun q rest hp=>qJ r _ (h3 q rest hp) hq⟩
theorem Ax{nt:Nat}{ops:List aj}{pre:List (List Nat)} : ∀ (n:Nat) (L:Array Bool) (s:AS) {Q Q' : AS->Prop},Fa G cf nt ops pre n L s Q->(∀ s,Q s->Q' s)->Fa G cf nt ops pre n L s Q'
 | 0,_,_,_,_,h,hq=>⟨h.1,hq _ h.2⟩
 | n+1,L,s,Q,Q',h,hq=>by
  refine⟨fun e=>hq _ (h.1 e),fun i hi=>?_⟩
  obtain⟨o,s',h1,h2,h3⟩:=h.2 i hi
  exact⟨o,s',h1,h2,Ax n _ _ h3 hq⟩
theorem kS{P P' : AS->Prop}{Q Q' : bq->AS->Prop}(hp:∀ s,P s->P' s)(hq:∀ e s,Q e s->Q' e s):∀ e s,andThen P Q e s->andThen P' Q' e s
 | .normal,s,h=>hp s h
 | .ret,s,h=>hq _ s h
 | .exit i,s,h=>hq _ s h
theorem JK{i:Nat}{Q Q' : bq->AS->Prop}(hq:∀ e s,Q e s->Q' e s):∀ e s,leave i Q e s->leave i Q' e s:=by
 intro e s h
 cases e with
 | exit j =>
  unfold leave at h ⊢
  simp only at h ⊢
  first
   | exact hq _ _ h
   | (cases hb:Nat.beq j i<;>rw[hb] at h<;>exact hq _ _ h)
   | (split at h<;>rename_i hc<;>simp only[hc]<;>exact hq _ _ h)
 | _=>exact hq _ _ h
theorem yV{F:AS->(bq->AS->Prop)->Prop}(hF:∀ s Q Q',F s Q->(∀ e s,Q e s->Q' e s)->F s Q'):∀ (n:Nat) (s:AS) {Q Q' : bq->AS->Prop},wN F n s Q->(∀ e s,Q e s->Q' e s)->wN F n s Q'
 | 0,_,_,_,h,_=>h.elim
 | n+1,s,Q,Q',h,hq=>hF _ _ _ h (kS (fun s h=>yV hF n s h hq) hq)
theorem lP:∀ (c:bO) (s:AS) {Q Q' : bq->AS->Prop},WN G cf c s Q->(∀ e s,Q e s->Q' e s)->WN G cf c s Q'
 | .skip,_,_,_,h,hq=>hq _ _ h
 | .region false ops,s,_,_,h,hq=>qJ ops s h (hq .normal)
 | .region true ops,s,_,_,h,hq=>by obtain⟨s',h1,h2⟩:=h;exact⟨s',h1,hq _ _ h2⟩
 | .seq a b,s,_,_,h,hq=>lP a s h (kS (fun s h=>lP b s h hq) hq)
 | .cond c a b,s,_,_,h,hq=>by obtain⟨t,h1,h2,h3⟩:=h;exact⟨t,h1,fun e=>lP a s (h2 e) hq,fun e=>lP b s (h3 e) hq⟩
 | .block id a,s,_,_,h,hq=>lP a s h (JK hq)
 | .loop a,s,_,_,h,hq=>by obtain⟨n,h⟩:=h;exact⟨n,yV (fun s Q Q' h hq=>lP a s h hq) n s h hq⟩
 | .exit id,_,_,_,h,hq=>hq _ _ h
 | .ret,_,_,_,h,hq=>hq _ _ h
 | .ub nt ops pre,s,_,_,h,hq=>Ax _ _ _ h (hq .normal)
theorem Zd{a:bO}{Q:bq->AS->Prop}(I:Nat->AS->Prop)(hI:∀ k s,I k s->WN G cf a s (andThen (fun s'=>∃ k',k=k' + 1/\I k' s') Q)):∀ k s,I k s->wN (WN G cf a) (k+1) s Q:=by
 intro k
 induction k with
 | zero =>
  intro s h
  refine lP a s (hI 0 s h) (kS (fun s' h=>?_) (fun _ _ h=>h))
  obtain⟨k',h,_⟩:=h
  omega
 | succ k ih =>
  intro s h
  refine lP a s (hI (k+1) s h) (kS (fun s' h=>?_) (fun _ _ h=>h))
  obtain⟨k',e,hk⟩:=h
  obtain rfl:k=k':=by omega
  exact ih s' hk
def oW:bO->Bool
 | .region false ops=>ops.all fun o=>(jg o).isNone
 | .region true _=>true
 | .seq a b=>oW a&&oW b
 | .cond _ a b=>oW a&&oW b
 | .block _ a=>oW a
 | .loop _=>false
 | .ub ..=>false
 | .skip=>true
 | .exit _=>true
 | .ret=>true
theorem zL:∀ (l:List aj) (s:AS) {Q:AS->Prop},(l.all fun o=>(jg o).isNone)=true->(∃ s',bP G cf false l s=some s'/\Q s')->lz G cf l s Q
 | [],s,Q,_,h=>by
  obtain⟨s',h1,h2⟩:=h
  simp only[bP,apv] at h1
  subst h1
  exact h2
 | o :: r,s,Q,hp,h=>by
  obtain⟨s',h1,h2⟩:=h
  simp only[List.all_cons,Bool.and_eq_true,aq0] at hp
  simp only[bP,apu] at h1
  obtain⟨s1,h0,h1⟩:=h1
  unfold lz
  rw[hp.1]
  exact⟨s1,h0,zL r s1 hp.2 ⟨s',h1,h2⟩⟩
end
section
variable {A:AP}
theorem oH:∀ (c:bO) (s:AS) {Q:bq->AS->Prop},oW c=true->W A c s Q->WN A.aO (az A) c s Q
 | .skip,s,Q,_,h=>by rwa [OF] at h
 | .region false ops,s,Q,hp,h=>by
  rw[xC] at h
  exact zL ops s hp h
 | .region true ops,s,Q,_,h=>by
  rw[xC] at h
  exact h
 | .seq a b,s,Q,hp,h=>by
  simp only[oW,Bool.and_eq_true] at hp
  rw[KC] at h
  exact lP a s (oH a s hp.1 h) (kS (fun s h=>oH b s hp.2 h) (fun _ _ h=>h))
 | .cond c a b,s,Q,hp,h=>by
  simp only[oW,Bool.and_eq_true] at hp
  rw[OC] at h
  obtain⟨t,h1,h2,h3⟩:=h
  exact⟨t,h1,fun e=>oH a s hp.1 (h2 e),fun e=>oH b s hp.2 (h3 e)⟩
 | .block id a,s,Q,hp,h=>by
  rw[Kz] at h
  exact oH a s hp h
 | .loop _,_,_,hp,_=>by cases hp
 | .ub ..,_,_,hp,_=>by cases hp
 | .exit id,s,Q,_,h=>by rwa [OD] at h
 | .ret,s,Q,_,h=>by rwa [Zl] at h
theorem aet{P:Program}(hA:nD P A){f:FuncId}{fn:Func}(sQ:P.funcs[f]?=some fn){bJ locals muts:List Nat}{la:ay}(hc:lq P bJ locals muts fn=some la){g:List AV->ag->Option (AV × Option gk)}
  (hm:la.muts.elem 777777=false) (P3:∀ args H r c,g args H=some (r,c)->jW H c)
  (hg:∀ args H x,g args H=some x->args.length=la.np/\WN A.aO (az A) la.body { T:=gD args,H,lo:=H.length,gen:=0 } (done H.length la.results x)):jk P A.aO f g:=by
 refine ah8 hA sQ hc P3 fun args H x hx=>?_
 obtain⟨h1,h2⟩:=hg args H x hx
 refine⟨h1,lP _ _ h2 fun e s h=>?_⟩
 have key:∀ s,fin H.length la.results s=some x->finish H.length la s=some x:=fun s h=>by
  have:=tD (fn:=la) h
  rwa [nT hm] at this
 cases e with
 | exit i=>exact h.elim
 | normal=>exact key _ h
 | ret=>exact key _ h
end
end
end Go.Abs
namespace Go.Proofs.YthbncinhhdogpaaGreatDoor
open Go Go.Abs Go.Proofs
theorem Tq:∀ q∈pE,∃ w i j,q=[.str w,.int .i64 i,.int .i64 j]/\rX i=(w,j):=by
 intro q hq
 simp only[pE,apO,aqA,art] at hq
 rcases hq with rfl|rfl|rfl|rfl|rfl|rfl|rfl|rfl|rfl|rfl<;>exact⟨_,_,_,rfl,by decide⟩
theorem Kn{n:Int}(h:∀ q∈pE,∀ w i j,q=[.str w,.int .i64 i,.int .i64 j]->i≠n):(n=9/\rX n=([110,111,116],7))\/(n=11/\rX n=([108,101,110],7))\/(n≠9/\n≠11/\rX n=([],7)):=by
 have hh:∀ w i j,[AV.str w,.int .i64 i,.int .i64 j]∈pE->i≠n:=fun w i j hm=>h _ hm _ _ _ rfl
 have h0:=hh [43] 0 5 (by simp[pE])
 have h1:=hh [45] 1 5 (by simp[pE])
 have h2:=hh [42] 2 6 (by simp[pE])
 have h3:=hh [47] 3 6 (by simp[pE])
 have h4:=hh [37] 4 6 (by simp[pE])
 have h5:=hh [60] 5 3 (by simp[pE])
 have h6:=hh [61,61] 6 3 (by simp[pE])
 have h7:=hh [97,110,100] 7 2 (by simp[pE])
 have h8:=hh [111,114] 8 1 (by simp[pE])
 have h10:=hh [106,111,105,110] 10 4 (by simp[pE])
 by_cases e9:n=9
 ·subst e9;exact .inl ⟨rfl,rfl⟩
 ·by_cases mB:n=11
  ·subst mB;exact .inr (.inl ⟨rfl,rfl⟩)
  ·refine .inr (.inr ⟨e9,mB,?_⟩)
   rw[rX,if_pos (by omega)]
theorem Ze{g:Nat}{kz:Nat}{ka va:Bool}{cur:List AV}{todo:List (List AV)}{T:ax}{H:ag}{lo gen:Nat}{t d:Nat}{r:List aj}{c:bO}{Q:bq->AS->Prop}(h:T t=.iter g kz ka va cur todo)
  (hr:(r.all fun o=>(jg o).isNone)=true) (hc:oW c=true)
  (h1:todo=[]->W A0 (.region false r) ⟨T.put d (.tuple [.bool false]),H,lo,gen⟩ (andThen (fun s=>W A0 c s Q) Q))
  (h2:∀ q rest,todo.Perm (q :: rest)->W A0 (.region false r) ⟨(T.put t (.iter g kz ka va q rest)).put d (.tuple [.bool true,oM ka (q.take kz),oM va (q.drop kz)]),H,lo,gen⟩ (andThen (fun s=>W A0 c s Q) Q)) :
  WN A0.aO (az A0) (.seq (.region false (⟨some d,none,.next (.tmp t)⟩ :: r)) c) ⟨T,H,lo,gen⟩ Q:=by
 have key:∀ s,W A0 (.region false r) s (andThen (fun s=>W A0 c s Q) Q)->lz A0.aO (az A0) r s (fun s'=>WN A0.aO (az A0) c s' Q):=fun s h=>by
  rw[<- KC] at h
  exact oH (.seq (.region false r) c) s (by simp only[oW,hr,hc,Bool.and_self]) h
 exact⟨g,kz,ka,va,cur,todo,h,fun e=>key _ (h1 e),fun q rest hp=>key _ (h2 q rest hp)⟩
def yP:bO:=.seq (.region false [⟨some 20,none,.uX 1 false false⟩,⟨none,none,.xe 1 false false 1 [CK.i] (.tmp 20) (.cr (.int .i64 9)) (.cr (.str [110,111,116]))⟩,⟨none,none,.xe 1 false false 1 [CK.i] (.tmp 20) (.cr (.int .i64 11)) (.cr (.str [108,101,110]))⟩,⟨some 21,none,.mov false false (.tmp 20)⟩,⟨some 22,none,.mov false false (.tmp 0)⟩,⟨some 23,none,.look false 1 false false [CK.i] [.str []] (.tmp 21) (.tmp 22)⟩,⟨some 2,none,.mov true false (.tmp 23)⟩,⟨some 3,none,.mov true false (.cr (.int .i64 7))⟩]) .ret
theorem adD{g:Nat}{kz:Nat}{ka va:Bool}{cur:List AV}{todo:List (List AV)}{T:ax}{H:ag}{lo gen:Nat}{t u:Nat}{os:List aj}{K:AS->Prop}(h:T u=.iter g kz ka va cur todo)(hk:(Nat.ble kz cur.length&&!cur.isEmpty)=true) :
  WO A0 false (⟨some t,none,.UW (.tmp u)⟩ :: os) ⟨T,H,lo,gen⟩ K=cZ A0 false (some (.tuple [oM ka (cur.take kz),oM va (cur.drop kz)])) t os T H lo gen K:=fy (by simp only[au,h,hk,cond_true,Option.map_some])
theorem tV{T:ax}{H:ag}{gen:Nat}{n:Int}{x:List UInt8}(q0:T 0=.int .i64 n)
  (hx:(fH [.i] [.int .i64 n] [[.int .i64 9,.str [110,111,116]],[.int .i64 11,.str [108,101,110]]]).map (py false false [.str []] 1 [[.int .i64 9,.str [110,111,116]],[.int .i64 11,.str [108,101,110]]])=some (.str x)) :
  W A0 yP ⟨T,H,H.length,gen⟩ (done H.length [.tmp 2,.tmp 3] (.tuple [.str x,.int .i64 7],none)):=by
 have hp1:∀ x:ct,(H++[x])[H.length]?=some x:=fun x=>by simp
 have Bk:∀ x y:ct,(H++[x]).set H.length y=H++[y]:=fun x y=>by simp
 have fe9:fH [.i] [.int .i64 9] []=some none:=rfl
 have aja:fH [.i] [.int .i64 11] [[.int .i64 9,.str [110,111,116]]]=some none:=rfl
 have ai0:∀ (k:IntKind) (n:Int),(AV.int k n).isAgg=false:=fun _ _=>rfl
 have ai1:∀ (s:List UInt8),(AV.str s).isAgg=false:=fun _=>rfl
 have ajb:(false==false)=true:=rfl
 have N4:∀ (es:List (List AV)) (r:List AV),tU es none r=es++[r]:=fun _ _=>rfl
 have aka:decide (H.length<H.length)=false:=by simp
 have hlx:Bs (H++[.map 1 false false [[.int .i64 9,.str [110,111,116]],[.int .i64 11,.str [108,101,110]]]]) false 1 false false [.i] [.str []] (.mref H.length) (.int .i64 n)=some (.str x):=by
  simp only[Bs,Xp,AV.drop,AV.cells,apB,hp1]
  exact hx
 unfold yP
 simp(disch:=omega)only[evA,mP,j0,qz,mD,He,bA,au,ft,ar.eval,AS.bR,↓reduceIte,Nat.reduceEqDiff,Option.isSome,Option.isNone,cond_true,apE,Nat.reduceBEq,Nat.reduceAdd,Nat.reduceMul,aa,ki,eq_self,reduceCtorEq,zJ,kJ,ko,iC,bound,px,AS.bH,cg,gQ,dW,Nat.reduceLeDiff,kx,putAt,Int.reduceEq,Int.reduceLT,Int.reduceLE,Int.reduceBEq,Int.reduceBNe,Int.reduceAdd,Int.reduceNeg,Int.reduceSub,Int.reduceMul,Li,Lh,Lg,Lf,Ld,Lc,Ll,Lk,gA,re,Int.toNat_natCast,aqO,nK,hp1,Bk,fe9,aja,ai0,ai1,ajb,N4,aka,hlx,Bool.and_self,cond_true,ap2,aqa,Option.map_some,apB,aD,cQ,bU,aqu,aqv,ah,q0]
 done
theorem N6(n:Int)(H:ag):WN A0.aO (az A0) yQ.body { T:=gD [.int .i64 n],H,lo:=H.length,gen:=0 } (done H.length yQ.results (.tuple [.str (rX n).1,.int .i64 (rX n).2],none)):=by
 unfold yQ
 simp only
 refine oH (.region false _) _ rfl ?_
 simp(disch:=omega)only[evK,aa,simprocAttr]
 generalize hR:done H.length [gu.tmp 2,gu.tmp 3] (AV.tuple [AV.str (rX n).1,AV.int .i64 (rX n).2],none)=R
 refine (show WN A0.aO (az A0) (.seq _ (.block 0 (.loop _))) _ (andThen (fun s=>WN A0.aO (az A0) yP s R) R) from ?_)
 refine (show WN A0.aO (az A0) (.region false _) _ (andThen (fun s=>WN A0.aO (az A0) (.block 0 (.loop _)) s _) _) from ?_)
 refine zL _ _ rfl ⟨⟨((((gD [AV.int .i64 n]).put 2 (AV.str [])).put 3 (AV.int .i64 0)).put 6 (.mX 1 false true pE)).put 7 (.iter 0 1 false true [] pE),H,H.length,1⟩,rfl,?_⟩
 refine (show WN A0.aO (az A0) (.loop _) _ (leave 0 (andThen (fun s=>WN A0.aO (az A0) yP s R) R)) from ?_)
 refine⟨_,Zd (fun k s=>∃ T cur todo gen,s=⟨T,H,H.length,gen⟩/\T 0=.int .i64 n/\T 7=.iter 0 1 false true cur todo/\todo.length=k/\(∀ q∈todo,q∈pE)/\∀ q∈pE,q∈todo\/∀ w i j,q=[.str w,.int .i64 i,.int .i64 j]->i≠n) ?_ 10 _ ⟨_,[],pE,1,rfl,rfl,rfl,rfl,fun q h=>h,fun q h=>.inl h⟩⟩
 rintro k s ⟨T,cur,todo,gen,rfl,q0,q7,hk,hin,dy⟩
 refine Ze q7 rfl rfl ?_ ?_
 ·intro e
  subst e
  have Gw:=Kn (n:=n) fun q hq=>(dy q hq).resolve_left (by simp)
  simp(disch:=omega)only[evK,aa,simprocAttr]
  refine oH yP _ rfl ?_
  rw[<- hR]
  rcases Gw with ⟨e,hs⟩|⟨e,hs⟩|⟨e,e',hs⟩
  ·rw[hs];exact tV (n:=n) (by simp(disch:=omega)only[evK,aa,simprocAttr,q0]) (by rw[e];rfl)
  ·rw[hs];exact tV (n:=n) (by simp(disch:=omega)only[evK,aa,simprocAttr,q0]) (by rw[e];rfl)
  ·rw[hs]
   have e1:(n==(9:Int))=false:=by simp;omega
   have e2:(n==(11:Int))=false:=by simp;omega
   exact tV (n:=n) (by simp(disch:=omega)only[evK,aa,simprocAttr,q0]) (by simp only[fH,bN,asc,cond_true,Option.map_some,apB,Bool.and_true,apE,e1,e2,Option.map_none];rfl)
 ·intro q rest hp
  obtain⟨w,i,j,rfl,hs⟩:=Tq q (hin _ (hp.mem_iff.2 (apP)))
  have agd:∀ (T:ax) (H:ag) (lo gen t u:Nat) (os:List aj) (K:AS->Prop),T u=.iter 0 1 false true [AV.str w,AV.int .i64 i,AV.int .i64 j] rest->WO A0 false (⟨some t,none,.UW (.tmp u)⟩ :: os) ⟨T,H,lo,gen⟩ K=cZ A0 false (some (.tuple [.str w,.agg [.int .i64 i,.int .i64 j]])) t os T H lo gen K:=fun T H lo gen t u os K h=>adD h rfl
  by_cases e:i=n
  ·subst e
   simp (disch:=first|omega|(simp(disch:=omega)only[Zt,aa,Nat.reduceEqDiff,Nat.reduceBEq,Nat.reduceAdd,Nat.reduceMul,reduceCtorEq,↓reduceIte,Nat.reduceLeDiff,Int.reduceEq,Int.reduceLT,Int.reduceLE,Int.reduceBEq,Int.reduceBNe,Int.reduceAdd,Int.reduceNeg,Int.reduceSub,Int.reduceMul];done)) only[evA,mP,j0,qz,mD,He,bA,au,ft,ar.eval,AS.bR,↓reduceIte,Nat.reduceEqDiff,Option.isSome,Option.isNone,cond_true,apE,Nat.reduceBEq,Nat.reduceAdd,Nat.reduceMul,aa,ki,eq_self,reduceCtorEq,zJ,kJ,ko,iC,bound,px,AS.bH,cg,gQ,dW,Nat.reduceLeDiff,kx,putAt,Int.reduceEq,Int.reduceLT,Int.reduceLE,Int.reduceBEq,Int.reduceBNe,Int.reduceAdd,Int.reduceNeg,Int.reduceSub,Int.reduceMul,Li,Lh,Lg,Lf,Ld,Lc,Ll,Lk,gA,re,Int.toNat_natCast,aqO,q0,agd,oM,aqR,are,arb,aqh,apZ,aqe,List.headD_cons,AV.drop,cQ,bU,aqu,aqv,ah]
   rw[<- hR,hs]
   simp(disch:=omega)only[evK,aa,simprocAttr]
  ·simp (disch:=first|omega|(simp(disch:=omega)only[Zt,aa,Nat.reduceEqDiff,Nat.reduceBEq,Nat.reduceAdd,Nat.reduceMul,reduceCtorEq,↓reduceIte,Nat.reduceLeDiff,Int.reduceEq,Int.reduceLT,Int.reduceLE,Int.reduceBEq,Int.reduceBNe,Int.reduceAdd,Int.reduceNeg,Int.reduceSub,Int.reduceMul];done)) only[evA,mP,j0,qz,mD,He,bA,au,ft,ar.eval,AS.bR,↓reduceIte,Nat.reduceEqDiff,Option.isSome,Option.isNone,cond_true,apE,Nat.reduceBEq,Nat.reduceAdd,Nat.reduceMul,aa,ki,eq_self,reduceCtorEq,zJ,kJ,ko,iC,bound,px,AS.bH,cg,gQ,dW,Nat.reduceLeDiff,kx,putAt,Int.reduceEq,Int.reduceLT,Int.reduceLE,Int.reduceBEq,Int.reduceBNe,Int.reduceAdd,Int.reduceNeg,Int.reduceSub,Int.reduceMul,Li,Lh,Lg,Lf,Ld,Lc,Ll,Lk,gA,re,Int.toNat_natCast,aqO,q0,agd,oM,aqR,are,arb,aqh,apZ,aqe,List.headD_cons,AV.drop,cQ,bU,aqu,aqv,ah]
   have hl:=hp.length_eq
   rw[List.length_cons] at hl
   refine⟨rest.length,by omega,_,[AV.str w,.int .i64 i,.int .i64 j],rest,_,rfl,by simp(disch:=omega)only[Zt,aa,simprocAttr,q0],by simp(disch:=omega)only[Zt,aa,simprocAttr],rfl,fun q hq=>hin q (hp.mem_iff.2 (apU _ hq)),fun q hq=>?_⟩
   rcases dy q hq with h|h
   ·rcases apO.1 (hp.mem_iff.1 h) with rfl|h
    ·refine .inr fun w' i' j' he=>?_
     simp only[aqT,AV.str.injEq,AV.int.injEq,arP,aqU] at he
     rw[<- he.2.1]
     exact e
    ·exact .inl h
   ·exact .inr h
theorem N5{P:Program}(hA:nD P A0){fn:Func}(sQ:P.funcs[131]?=some fn){bJ locals muts:List Nat}(hc:lq P bJ locals muts fn=some yQ):jk P LI 131 sD:=by
 refine aet (g:=sD) hA sQ hc rfl ?_ ?_
 ·intro args H r c h
  unfold sD at h
  split at h
  ·injection h with h;injection h with h1 h2;subst h2;exact⟨apz _,fun c h=>by cases h⟩
  ·cases h
 ·intro args H x h
  unfold sD at h
  split at h
  ·injection h with h;subst h;exact⟨rfl,N6 _ _⟩
  ·cases h
end Go.Proofs.YthbncinhhdogpaaGreatDoor
