/-
  A part of the proof of SyntaxTokens: AbsLivesT, AbsRule, AbsEq, AbsEvT, AbsSgnT, AbsSgnT2.
-/
import Derived.IntWalk
import Derived.Test.YtbdhkgiakaegdaaGreatDoorP09
import Derived.Test.YtbdhkgiakaegdaaGreatDoorP10
import Derived.Test.YtbdhkgiakaegdaaGreatDoorP11
import Derived.Test.YtbdhkgiakaegdaaGreatDoorP12
import Derived.Test.YtbdhkgiakaegdaaGreatDoorP13
import Derived.Test.YtbdhkgiakaegdaaGreatDoorP14
import Derived.Test.YtbdhkgiakaegdaaGreatDoorP15
import Derived.Test.YtbdhkgiakaegdaaGreatDoorP16
import Derived.Test.YtbdhkgiakaegdaaGreatDoorP17
set_option linter.unusedSimpArgs false
set_option linter.unusedVariables false
set_option linter.defProp false
set_option maxRecDepth 100000
namespace Go.Proofs.YtbdhkgiakaegdaaGreatDoor
open Go Go.Abs Go.Proofs
theorem Nf:O7 AE 109 14 [] []=some (.bool true,none):=dr (e:=⟨14,[],[],(.bool true,none)⟩) (fn:=UF) (tb:=[en1,en2,en3,en4,en5,en6,en7,en8]) rfl rfl (jU ZW (jU ZX (jU ZY (jU ZZ (jU Z0 (jU Z1 (jU Z2 (jU Z3 kW)))))))) (by kernel_rfl)
end Go.Proofs.YtbdhkgiakaegdaaGreatDoor
namespace Go.Abs
section
def iY(s:Nat):AV->AV
 | .lbox g _=>.lref s g 0
 | .lsl g _=>.lsr s g
 | .iter ..=>.any
 | v=>v
theorem ab5{G:Nat->List AV}{T:aU}{s:Nat} : aC.addr G T (.tmp s)=iY s (T s):=by
 simp only[aC.addr,iY]
 split<;>simp_all
section
theorem Mj{b:Bool} : AV.drop (AV.bool b)=(.bool b):=rfl
theorem OQ{k:IntKind}{n:Int} : AV.drop (AV.int k n)=(.int k n):=rfl
theorem OU{l:List UInt8} : AV.drop (AV.str l)=(.str l):=rfl
theorem OP:AV.drop AV.any=.any:=rfl
theorem FU:AV.drop AV.dQ=.dQ:=rfl
theorem FT:AV.drop AV.dF=.dF:=rfl
theorem Mm{kz:Nat}{ka va:Bool}{es:List (List AV)} : AV.drop (AV.fJ kz ka va es)=(.fJ kz ka va es):=rfl
theorem I0:AV.drop AV.af=.af:=rfl
theorem Ay:AV.bU AV.af=.af:=rfl
theorem Fy:AV.cells AV.af=some [.af]:=rfl
theorem Hz:AV.plain AV.af=true:=rfl
theorem Pl:aH AV.af=true:=rfl
theorem CM:AV.drop AV.cW=.cW:=rfl
theorem AB:AV.drop AV.cx=.cx:=rfl
theorem I1{e:List (List AV)}{own:Bool} : AV.drop (AV.slice e own)=.slice e false:=rfl
theorem Mk{cs:List AV} : AV.drop (AV.eptr cs)=(.eptr cs):=rfl
theorem OT{loc off:Nat} : AV.drop (AV.ref loc off)=(.ref loc off):=rfl
theorem Mr{loc off n z:Nat} : AV.drop (AV.sref loc off n z)=(.sref loc off n z):=rfl
theorem Mq{loc:Nat} : AV.drop (AV.mref loc)=(.mref loc):=rfl
theorem Mo{g:Nat}{cs:List AV} : AV.drop (AV.lbox g cs)=(.lbox g cs):=rfl
theorem Mp{s g off:Nat} : AV.drop (AV.lref s g off)=(.lref s g off):=rfl
theorem OR{g:Nat}{e:List (List AV)} : AV.drop (AV.lsl g e)=(.lsl g e):=rfl
theorem OS{s g:Nat} : AV.drop (AV.lsr s g)=(.lsr s g):=rfl
theorem Ml{s g i z off:Nat} : AV.drop (AV.eref s g i z off)=(.eref s g i z off):=rfl
theorem Mn{f:Fn}{fs cs:List AV} : AV.drop (AV.func f fs cs)=(.func f fs cs):=rfl
theorem IZ{t:TypeId}{v:AV} : AV.drop (AV.iface t v)=(.iface t v):=rfl
theorem OO{cs:List AV} : AV.drop (AV.agg cs)=(.agg cs):=rfl
theorem I2{vs:List AV} : AV.drop (AV.tuple vs)=(.tuple vs):=rfl
theorem CB{b:Bool} : AV.bU (AV.bool b)=(.bool b):=rfl
theorem FM{k:IntKind}{n:Int} : AV.bU (AV.int k n)=(.int k n):=rfl
theorem FQ{l:List UInt8} : AV.bU (AV.str l)=(.str l):=rfl
theorem FL:AV.bU AV.any=.any:=rfl
theorem yE:AV.bU AV.dQ=.dQ:=rfl
theorem yD:AV.bU AV.dF=.dF:=rfl
theorem CE{kz:Nat}{ka va:Bool}{es:List (List AV)} : AV.bU (AV.fJ kz ka va es)=(.fJ kz ka va es):=rfl
theorem xl:AV.bU AV.cW=.cW:=rfl
theorem vG:AV.bU AV.cx=.cx:=rfl
theorem Az{e:List (List AV)}{own:Bool} : AV.bU (AV.slice e own)=.slice e false:=rfl
theorem CC{cs:List AV} : AV.bU (AV.eptr cs)=(.eptr cs):=rfl
theorem FP{loc off:Nat} : AV.bU (AV.ref loc off)=(.ref loc off):=rfl
theorem CL{loc off n z:Nat} : AV.bU (AV.sref loc off n z)=(.sref loc off n z):=rfl
theorem CJ{loc:Nat} : AV.bU (AV.mref loc)=(.mref loc):=rfl
theorem CG{g:Nat}{cs:List AV} : AV.bU (AV.lbox g cs)=(.lbox g cs):=rfl
theorem CI{s g off:Nat} : AV.bU (AV.lref s g off)=(.lref s g off):=rfl
theorem FN{g:Nat}{e:List (List AV)} : AV.bU (AV.lsl g e)=(.lsl g e):=rfl
theorem FO{s g:Nat} : AV.bU (AV.lsr s g)=(.lsr s g):=rfl
theorem CD{s g i z off:Nat} : AV.bU (AV.eref s g i z off)=(.eref s g i z off):=rfl
theorem CF{f:Fn}{fs cs:List AV} : AV.bU (AV.func f fs cs)=(.func f fs cs):=rfl
theorem Ax{t:TypeId}{v:AV} : AV.bU (AV.iface t v)=(.iface t v):=rfl
theorem FK{cs:List AV} : AV.bU (AV.agg cs)=.agg (cs.map AV.drop):=rfl
theorem AA{vs:List AV} : AV.bU (AV.tuple vs)=(.tuple vs):=rfl
theorem TV{b:Bool} : aH (AV.bool b)=true:=rfl
theorem aah{k:IntKind}{n:Int} : aH (AV.int k n)=true:=rfl
theorem aal{l:List UInt8} : aH (AV.str l)=true:=rfl
theorem aag:aH AV.any=true:=rfl
theorem MF:aH AV.dQ=true:=rfl
theorem ME:aH AV.dF=true:=rfl
theorem TY{kz:Nat}{ka va:Bool}{es:List (List AV)} : aH (AV.fJ kz ka va es)=true:=rfl
theorem Jj:aH AV.cW=true:=rfl
theorem Gn:aH AV.cx=true:=rfl
theorem Pm{e:List (List AV)}{own:Bool} : aH (AV.slice e own)=true:=rfl
theorem TW{cs:List AV} : aH (AV.eptr cs)=true:=rfl
theorem aak{loc off:Nat} : aH (AV.ref loc off)=true:=rfl
theorem T4{loc off n z:Nat} : aH (AV.sref loc off n z)=true:=rfl
theorem T3{loc:Nat} : aH (AV.mref loc)=true:=rfl
theorem T1{g:Nat}{cs:List AV} : aH (AV.lbox g cs)=false:=rfl
theorem T2{s g off:Nat} : aH (AV.lref s g off)=false:=rfl
theorem aai{g:Nat}{e:List (List AV)} : aH (AV.lsl g e)=false:=rfl
theorem aaj{s g:Nat} : aH (AV.lsr s g)=false:=rfl
theorem TX{s g i z off:Nat} : aH (AV.eref s g i z off)=false:=rfl
theorem TZ{f:Fn}{fs cs:List AV} : aH (AV.func f fs cs)=true:=rfl
theorem Pk{t:TypeId}{v:AV} : aH (AV.iface t v)=true:=rfl
theorem aaf{cs:List AV} : aH (AV.agg cs)=true:=rfl
theorem Pn{vs:List AV} : aH (AV.tuple vs)=true:=rfl
theorem Jn{b:Bool} : bB (AV.bool b)=none:=rfl
theorem MK{k:IntKind}{n:Int} : bB (AV.int k n)=none:=rfl
theorem MO{l:List UInt8} : bB (AV.str l)=none:=rfl
theorem MJ:bB AV.any=none:=rfl
theorem C5:bB AV.dQ=none:=rfl
theorem C4:bB AV.dF=none:=rfl
theorem Jq{kz:Nat}{ka va:Bool}{es:List (List AV)} : bB (AV.fJ kz ka va es)=none:=rfl
theorem AJ:bB AV.cW=none:=rfl
theorem y5:bB AV.cx=none:=rfl
theorem Gy{e:List (List AV)}{own:Bool} : bB (AV.slice e own)=none:=rfl
theorem Jo{cs:List AV} : bB (AV.eptr cs)=none:=rfl
theorem MN{loc off:Nat} : bB (AV.ref loc off)=none:=rfl
theorem Jv{loc off n z:Nat} : bB (AV.sref loc off n z)=none:=rfl
theorem Ju{loc:Nat} : bB (AV.mref loc)=none:=rfl
theorem Js{g:Nat}{cs:List AV} : bB (AV.lbox g cs)=some g:=rfl
theorem Jt{s g off:Nat} : bB (AV.lref s g off)=none:=rfl
theorem ML{g:Nat}{e:List (List AV)} : bB (AV.lsl g e)=some g:=rfl
theorem MM{s g:Nat} : bB (AV.lsr s g)=none:=rfl
theorem Jp{s g i z off:Nat} : bB (AV.eref s g i z off)=none:=rfl
theorem Jr{f:Fn}{fs cs:List AV} : bB (AV.func f fs cs)=none:=rfl
theorem Gw{t:TypeId}{v:AV} : bB (AV.iface t v)=none:=rfl
theorem MI{cs:List AV} : bB (AV.agg cs)=none:=rfl
theorem Gz{vs:List AV} : bB (AV.tuple vs)=none:=rfl
theorem II{b:Bool} : AV.cells (AV.bool b)=some [(.bool b)]:=rfl
theorem Me{k:IntKind}{n:Int} : AV.cells (AV.int k n)=some [(.int k n)]:=rfl
theorem Mi{l:List UInt8} : AV.cells (AV.str l)=some [(.str l)]:=rfl
theorem Md:AV.cells AV.any=none:=rfl
theorem Cy:AV.cells AV.dQ=some [.dQ]:=rfl
theorem Cx:AV.cells AV.dF=some [.dF]:=rfl
theorem IM{kz:Nat}{ka va:Bool}{es:List (List AV)} : AV.cells (AV.fJ kz ka va es)=some [(.fJ kz ka va es)]:=rfl
theorem Au:AV.cells AV.cW=some [.cW]:=rfl
theorem yp:AV.cells AV.cx=some [.cx]:=rfl
theorem Fz{e:List (List AV)}{own:Bool} : AV.cells (AV.slice e own)=some [(.slice e own)]:=rfl
theorem IK{cs:List AV} : AV.cells (AV.eptr cs)=some [(.eptr cs)]:=rfl
theorem Mh{loc off:Nat} : AV.cells (AV.ref loc off)=some [(.ref loc off)]:=rfl
theorem IT{loc off n z:Nat} : AV.cells (AV.sref loc off n z)=some [(.sref loc off n z)]:=rfl
theorem IS{loc:Nat} : AV.cells (AV.mref loc)=some [(.mref loc)]:=rfl
theorem IP{g:Nat}{cs:List AV} : AV.cells (AV.lbox g cs)=none:=rfl
theorem IQ{s g off:Nat} : AV.cells (AV.lref s g off)=none:=rfl
theorem Mf{g:Nat}{e:List (List AV)} : AV.cells (AV.lsl g e)=none:=rfl
theorem Mg{s g:Nat} : AV.cells (AV.lsr s g)=none:=rfl
theorem IL{s g i z off:Nat} : AV.cells (AV.eref s g i z off)=none:=rfl
theorem IN{f:Fn}{fs cs:List AV} : AV.cells (AV.func f fs cs)=some [(.func f fs cs)]:=rfl
theorem Fx{t:TypeId}{v:AV} : AV.cells (AV.iface t v)=some [(.iface t v)]:=rfl
theorem Mc{cs:List AV} : AV.cells (AV.agg cs)=some cs:=rfl
theorem FB{vs:List AV} : AV.cells (AV.tuple vs)=none:=rfl
theorem Kn{b:Bool} : AV.plain (AV.bool b)=true:=rfl
theorem Nq{k:IntKind}{n:Int} : AV.plain (AV.int k n)=true:=rfl
theorem Nv{l:List UInt8} : AV.plain (AV.str l)=true:=rfl
theorem Np:AV.plain AV.any=true:=rfl
theorem DF:AV.plain AV.dQ=true:=rfl
theorem DE:AV.plain AV.dF=true:=rfl
theorem Kq{kz:Nat}{ka va:Bool}{es:List (List AV)} : AV.plain (AV.fJ kz ka va es)=true:=rfl
theorem A5:AV.plain AV.cW=true:=rfl
theorem zL:AV.plain AV.cx=true:=rfl
theorem HA{e:List (List AV)}{own:Bool} : AV.plain (AV.slice e own)=!own:=rfl
theorem Ko{cs:List AV} : AV.plain (AV.eptr cs)=true:=rfl
theorem Nu{loc off:Nat} : AV.plain (AV.ref loc off)=false:=rfl
theorem Ku{loc off n z:Nat} : AV.plain (AV.sref loc off n z)=false:=rfl
theorem Kt{loc:Nat} : AV.plain (AV.mref loc)=false:=rfl
theorem Kr{g:Nat}{cs:List AV} : AV.plain (AV.lbox g cs)=false:=rfl
theorem Ks{s g off:Nat} : AV.plain (AV.lref s g off)=false:=rfl
theorem Nr{g:Nat}{e:List (List AV)} : AV.plain (AV.lsl g e)=false:=rfl
theorem Ns{s g:Nat} : AV.plain (AV.lsr s g)=false:=rfl
theorem Kp{s g i z off:Nat} : AV.plain (AV.eref s g i z off)=false:=rfl
theorem No{cs:List AV} : AV.plain (AV.agg cs)=false:=rfl
theorem HB{vs:List AV} : AV.plain (AV.tuple vs)=false:=rfl
theorem Co{base:Nat}{b:Bool} : AV.bd base (AV.bool b)=AV.plain (.bool b):=rfl
theorem Fs{base:Nat}{k:IntKind}{n:Int} : AV.bd base (AV.int k n)=AV.plain (.int k n):=rfl
theorem Fw{base:Nat}{l:List UInt8} : AV.bd base (AV.str l)=AV.plain (.str l):=rfl
theorem Fq{base:Nat} : AV.bd base AV.any=AV.plain .any:=rfl
theorem yo{base:Nat} : AV.bd base AV.dQ=AV.plain .dQ:=rfl
theorem yn{base:Nat} : AV.bd base AV.dF=AV.plain .dF:=rfl
theorem Cr{kz:Nat}{ka va:Bool}{es:List (List AV)}{base:Nat} : AV.bd base (AV.fJ kz ka va es)=AV.plain (.fJ kz ka va es):=rfl
theorem xj{base:Nat} : AV.bd base AV.cW=AV.plain .cW:=rfl
theorem vD{base:Nat} : AV.bd base AV.cx=AV.plain .cx:=rfl
theorem As{base:Nat}{e:List (List AV)}{own:Bool} : AV.bd base (AV.slice e own)=AV.plain (.slice e own):=rfl
theorem Cp{base:Nat}{cs:List AV} : AV.bd base (AV.eptr cs)=AV.plain (.eptr cs):=rfl
theorem Fv{base:Nat}{loc off:Nat} : AV.bd base (AV.ref loc off)=Nat.blt loc base:=rfl
theorem Cw{base:Nat}{loc off n z:Nat} : AV.bd base (AV.sref loc off n z)=Nat.blt loc base:=rfl
theorem Cv{base:Nat}{loc:Nat} : AV.bd base (AV.mref loc)=Nat.blt loc base:=rfl
theorem Ct{base:Nat}{g:Nat}{cs:List AV} : AV.bd base (AV.lbox g cs)=AV.plain (.lbox g cs):=rfl
theorem Cu{base:Nat}{s g off:Nat} : AV.bd base (AV.lref s g off)=AV.plain (.lref s g off):=rfl
theorem Ft{base:Nat}{g:Nat}{e:List (List AV)} : AV.bd base (AV.lsl g e)=AV.plain (.lsl g e):=rfl
theorem Fu{base:Nat}{s g:Nat} : AV.bd base (AV.lsr s g)=AV.plain (.lsr s g):=rfl
theorem Cq{base:Nat}{s g i z off:Nat} : AV.bd base (AV.eref s g i z off)=AV.plain (.eref s g i z off):=rfl
theorem Cs{base:Nat}{f:Fn}{fs cs:List AV} : AV.bd base (AV.func f fs cs)=AV.plain (.func f fs cs):=rfl
theorem Aq{base:Nat}{t:TypeId}{v:AV} : AV.bd base (AV.iface t v)=AV.plain (.iface t v):=rfl
theorem Fp{base:Nat}{cs:List AV} : AV.bd base (AV.agg cs)=AV.plain (.agg cs):=rfl
theorem At{base:Nat}{vs:List AV} : AV.bd base (AV.tuple vs)=AV.plain (.tuple vs):=rfl
theorem Du{base:Nat}{b:Bool} : AV.bN base (AV.bool b)=AV.bd base (.bool b):=rfl
theorem Ht{base:Nat}{k:IntKind}{n:Int} : AV.bN base (AV.int k n)=AV.bd base (.int k n):=rfl
theorem Hx{base:Nat}{l:List UInt8} : AV.bN base (AV.str l)=AV.bd base (.str l):=rfl
theorem Hs{base:Nat} : AV.bN base AV.any=AV.bd base .any:=rfl
theorem zK{base:Nat} : AV.bN base AV.dQ=AV.bd base .dQ:=rfl
theorem zJ{base:Nat} : AV.bN base AV.dF=AV.bd base .dF:=rfl
theorem Dx{kz:Nat}{ka va:Bool}{es:List (List AV)}{base:Nat} : AV.bN base (AV.fJ kz ka va es)=AV.bd base (.fJ kz ka va es):=rfl
theorem xC{base:Nat} : AV.bN base AV.cW=AV.bd base .cW:=rfl
theorem we{base:Nat} : AV.bN base AV.cx=AV.bd base .cx:=rfl
theorem A3{base:Nat}{e:List (List AV)}{own:Bool} : AV.bN base (AV.slice e own)=AV.bd base (.slice e own):=rfl
theorem Dv{base:Nat}{cs:List AV} : AV.bN base (AV.eptr cs)=AV.bd base (.eptr cs):=rfl
theorem Hw{base:Nat}{loc off:Nat} : AV.bN base (AV.ref loc off)=AV.bd base (.ref loc off):=rfl
theorem DC{base:Nat}{loc off n z:Nat} : AV.bN base (AV.sref loc off n z)=AV.bd base (.sref loc off n z):=rfl
theorem DB{base:Nat}{loc:Nat} : AV.bN base (AV.mref loc)=AV.bd base (.mref loc):=rfl
theorem Dz{base:Nat}{g:Nat}{cs:List AV} : AV.bN base (AV.lbox g cs)=AV.bd base (.lbox g cs):=rfl
theorem DA{base:Nat}{s g off:Nat} : AV.bN base (AV.lref s g off)=AV.bd base (.lref s g off):=rfl
theorem Hu{base:Nat}{g:Nat}{e:List (List AV)} : AV.bN base (AV.lsl g e)=AV.bd base (.lsl g e):=rfl
theorem Hv{base:Nat}{s g:Nat} : AV.bN base (AV.lsr s g)=AV.bd base (.lsr s g):=rfl
theorem Dw{base:Nat}{s g i z off:Nat} : AV.bN base (AV.eref s g i z off)=AV.bd base (.eref s g i z off):=rfl
theorem Dy{base:Nat}{f:Fn}{fs cs:List AV} : AV.bN base (AV.func f fs cs)=AV.bd base (.func f fs cs):=rfl
theorem A1{base:Nat}{t:TypeId}{v:AV} : AV.bN base (AV.iface t v)=AV.bd base (.iface t v):=rfl
theorem Hr{base:Nat}{cs:List AV} : AV.bN base (AV.agg cs)=cs.all (AV.bd base):=rfl
theorem A4{base:Nat}{vs:List AV} : AV.bN base (AV.tuple vs)=AV.bd base (.tuple vs):=rfl
theorem G4{base:Nat}{b:Bool} : AV.leaves base (AV.bool b)=AV.bN base (.bool b):=rfl
theorem J8{base:Nat}{k:IntKind}{n:Int} : AV.leaves base (AV.int k n)=AV.bN base (.int k n):=rfl
theorem Kb{base:Nat}{l:List UInt8} : AV.leaves base (AV.str l)=AV.bN base (.str l):=rfl
theorem J7{base:Nat} : AV.leaves base AV.any=AV.bN base .any:=rfl
theorem AX{base:Nat} : AV.leaves base AV.dQ=AV.bN base .dQ:=rfl
theorem AW{base:Nat} : AV.leaves base AV.dF=AV.bN base .dF:=rfl
theorem G7{kz:Nat}{ka va:Bool}{es:List (List AV)}{base:Nat} : AV.leaves base (AV.fJ kz ka va es)=AV.bN base (.fJ kz ka va es):=rfl
theorem zq{base:Nat} : AV.leaves base AV.cW=AV.bN base .cW:=rfl
theorem xA{base:Nat} : AV.leaves base AV.cx=AV.bN base .cx:=rfl
theorem Dm{base:Nat}{e:List (List AV)}{own:Bool} : AV.leaves base (AV.slice e own)=true:=rfl
theorem G5{base:Nat}{cs:List AV} : AV.leaves base (AV.eptr cs)=AV.bN base (.eptr cs):=rfl
theorem Ka{base:Nat}{loc off:Nat} : AV.leaves base (AV.ref loc off)=AV.bN base (.ref loc off):=rfl
theorem Hc{base:Nat}{loc off n z:Nat} : AV.leaves base (AV.sref loc off n z)=AV.bN base (.sref loc off n z):=rfl
theorem Hb{base:Nat}{loc:Nat} : AV.leaves base (AV.mref loc)=AV.bN base (.mref loc):=rfl
theorem G9{base:Nat}{g:Nat}{cs:List AV} : AV.leaves base (AV.lbox g cs)=AV.bN base (.lbox g cs):=rfl
theorem Ha{base:Nat}{s g off:Nat} : AV.leaves base (AV.lref s g off)=AV.bN base (.lref s g off):=rfl
theorem J9{base:Nat}{g:Nat}{e:List (List AV)} : AV.leaves base (AV.lsl g e)=AV.bN base (.lsl g e):=rfl
theorem J'{base:Nat}{s g:Nat} : AV.leaves base (AV.lsr s g)=AV.bN base (.lsr s g):=rfl
theorem G6{base:Nat}{s g i z off:Nat} : AV.leaves base (AV.eref s g i z off)=AV.bN base (.eref s g i z off):=rfl
theorem G8{base:Nat}{f:Fn}{fs cs:List AV} : AV.leaves base (AV.func f fs cs)=(fs.all (AV.bd base)&&cs.all (AV.bd base)):=rfl
theorem Dk{base:Nat}{t:TypeId}{v:AV} : AV.leaves base (AV.iface t v)=v.bd base:=rfl
theorem J6{base:Nat}{cs:List AV} : AV.leaves base (AV.agg cs)=AV.bN base (.agg cs):=rfl
theorem Dn{base:Nat}{vs:List AV} : AV.leaves base (AV.tuple vs)=vs.all (AV.bN base):=rfl
theorem Im{s:Nat}{b:Bool} : iY s (AV.bool b)=(.bool b):=rfl
theorem LZ{s:Nat}{k:IntKind}{n:Int} : iY s (AV.int k n)=(.int k n):=rfl
theorem L3{s:Nat}{l:List UInt8} : iY s (AV.str l)=(.str l):=rfl
theorem LY{s:Nat} : iY s AV.any=.any:=rfl
theorem Cf{s:Nat} : iY s AV.dQ=.dQ:=rfl
theorem Ce{s:Nat} : iY s AV.dF=.dF:=rfl
theorem Iq{kz:Nat}{ka va:Bool}{es:List (List AV)}{s:Nat} : iY s (AV.fJ kz ka va es)=(.fJ kz ka va es):=rfl
theorem Ao{s:Nat} : iY s AV.cW=.cW:=rfl
theorem x9{s:Nat} : iY s AV.cx=.cx:=rfl
theorem Fh{s:Nat}{e:List (List AV)}{own:Bool} : iY s (AV.slice e own)=(.slice e own):=rfl
theorem Io{s:Nat}{cs:List AV} : iY s (AV.eptr cs)=(.eptr cs):=rfl
theorem L2{s:Nat}{loc off:Nat} : iY s (AV.ref loc off)=(.ref loc off):=rfl
theorem Iv{s:Nat}{loc off n z:Nat} : iY s (AV.sref loc off n z)=(.sref loc off n z):=rfl
theorem Iu{s:Nat}{loc:Nat} : iY s (AV.mref loc)=(.mref loc):=rfl
theorem Is{s:Nat}{g:Nat}{cs:List AV} : iY s (AV.lbox g cs)=.lref s g 0:=rfl
theorem It{s:Nat}{r g off:Nat} : iY s (AV.lref r g off)=(.lref r g off):=rfl
theorem L0{s:Nat}{g:Nat}{e:List (List AV)} : iY s (AV.lsl g e)=.lsr s g:=rfl
theorem L1{s:Nat}{r g:Nat} : iY s (AV.lsr r g)=(.lsr r g):=rfl
theorem Ip{s:Nat}{r g i z off:Nat} : iY s (AV.eref r g i z off)=(.eref r g i z off):=rfl
theorem Ir{s:Nat}{f:Fn}{fs cs:List AV} : iY s (AV.func f fs cs)=(.func f fs cs):=rfl
theorem Ff{s:Nat}{t:TypeId}{v:AV} : iY s (AV.iface t v)=(.iface t v):=rfl
theorem LX{s:Nat}{cs:List AV} : iY s (AV.agg cs)=(.agg cs):=rfl
theorem Fi{s:Nat}{vs:List AV} : iY s (AV.tuple vs)=(.tuple vs):=rfl
end
def dT(A:AP)(d:Bool)(o:Option AV)(t:Nat)(os:List aO)(T:aU)(H:ai)(lo gen:Nat)(K:AS->Prop):Prop :=
 bS (o.bind fun z=>cond (d&&(bB z).isSome) none (some z)) fun z=>WO A d os ⟨T.put t z,H,lo,gen⟩ K
def jB(A:AP)(d take obj:Bool)(i:Nat)(v:AV)(t:Nat)(os:List aO)(T:aU)(H:ai)(lo gen:Nat)(K:AS->Prop):Prop :=
 bS (match v with
  | .lbox g _=>some (AV.lref i g 0,(⟨T,H,lo,gen⟩:AS))
  | .lsl g e=>cond take (cond d none (cond obj (some (.lsl gen e,⟨T.put i .any,H,lo,gen+1⟩)) (cond (js e) (some (.slice e true,⟨T.put i (.slice e false),H,lo,gen⟩)) none))) (some (.lsr i g,⟨T,H,lo,gen⟩))
  | .slice e own=>cond (take&&own) (cond d none (some (.slice e true,⟨T.put i (.slice e false),H,lo,gen⟩))) (some (.slice e false,⟨T,H,lo,gen⟩))
  | .iter ..=>none
  | v=>some (v,⟨T,H,lo,gen⟩)) fun r=>WO A d os (r.2.cy t r.1) K
def ml(A:AP)(d:Bool)(v:AV)(w:Bool)(t:Nat)(op:gA)(os:List aO)(T:aU)(H:ai)(lo gen:Nat)(K:AS->Prop):Prop :=
 bS (match v with|.bool b=>some (b==w)|.tuple []=>some false|_=>none) fun b =>
  (b=true->WO A d (⟨some t,none,op⟩ :: os) ⟨T,H,lo,gen⟩ K)/\(b=false->WO A d os ⟨T.put t .undef,H,lo,gen⟩ K)
def qB(A:AP)(d:Bool)(r:Option (AV × Option gS))(t:Nat)(os:List aO)(T:aU)(H:ai)(lo gen:Nat)(K:AS->Prop):Prop :=
 bS (r.bind fun r=>match r.2 with
  | none=>cond (d&&(bB r.1).isSome) none (some (r.1,(⟨T,H,lo,gen⟩:AS)))
  | some c=>cond d none (some (r.1,AS.gL ⟨T,H,lo,gen⟩ c))) fun r=>WO A d os (r.2.cy t r.1) K
def cZ(G:Nat->List AV)(T:aU):List aC->List AV
 | []=>[]
 | a :: r=>(a.addr G T).bU :: cZ G T r
def ca(G:Nat->List AV)(T:aU):List aC->Bool
 | []=>true
 | a :: r=>aH (a.addr G T)&&ca G T r
theorem qx{G:Nat->List AV}{T:aU} : ∀ l:List aC,l.map (fun a=>(a.addr G T).bU)=cZ G T l
 | []=>rfl
 | a :: r=>by simp[cZ,qx r]
theorem oL{G:Nat->List AV}{T:aU} : ∀ l:List aC,(l.map fun a=>a.addr G T).all aH=ca G T l
 | []=>rfl
 | a :: r=>by simp only[aoc,aoV,ca,oL r]
def cA(G:Nat->List AV)(T:aU):List (Nat × Nat × aC)->List (Nat × Nat × AV)
 | []=>[]
 | (o,z,a) :: r=>(o,z,(a.eval G T).drop) :: cA G T r
theorem BW{G:Nat->List AV}{T:aU} : ∀ l:List (Nat × Nat × aC),l.map (fun p=>(p.1,p.2.1,(p.2.2.eval G T).drop))=cA G T l
 | []=>rfl
 | a :: r=>by simp[cA,BW r]
def cu(G:Nat->List AV)(T:aU):List (Nat × aC)->List (Nat × AV)
 | []=>[]
 | (i,a) :: r=>(i,(a.eval G T).drop) :: cu G T r
theorem vI{G:Nat->List AV}{T:aU} : ∀ l:List (Nat × aC),l.map (fun p=>(p.1,(p.2.eval G T).drop))=cu G T l
 | []=>rfl
 | a :: r=>by simp[cu,vI r]
def gr(G:Nat->List AV)(T:aU):Option aC->Option AV
 | none=>none
 | some a=>some (a.eval G T)
def LH(c a b:AV):Option AV:=match c with
 | .bool t=>some (cond t a.drop b.drop)
 | _=>none
def RL(b:Bool)(o:Option (List (List AV))):Option AV:=o.bind fun E=>cond (lO b E) (some (.slice E true)) none
def oS(o:Option cJ)(agg:Bool)(sz off:Nat):Option AV:=match o with
 | some (.box _ cs)=>ab false agg sz off cs
 | some (.Ji cs)=>ab false agg sz off cs
 | some (.ba cs)=>ab false agg sz off cs
 | _=>none
def o7(v:AV)(g:Nat)(agg:Bool)(sz off:Nat):Option AV:=match v with
 | .lbox g' cs=>cond (Nat.beq g g') (ab false agg sz off cs) none
 | _=>none
def vf(o:Option (List AV))(z:Nat)(agg:Bool)(sz off:Nat):Option AV:=o.bind fun r=>cond (Nat.beq r.length z) (ab false agg sz off r) none
def ri(v:AV)(g i z:Nat)(agg:Bool)(sz off:Nat):Option AV:=match v with
 | .lsl g' e=>cond (Nat.beq g g') (vf (e[i]?) z agg sz off) none
 | _=>none
def BM(T:aU)(H:ai)(agg:Bool)(sz:Nat)(x:AV):Option AV:=match x with
 | .eptr cs=>ab false agg sz 0 cs
 | .ref loc off=>oS H[loc]? agg sz off
 | .lref b g off=>o7 (T b) g agg sz off
 | .eref b g i z off=>ri (T b) g i z agg sz off
 | _=>none
def nE(v:AV)(g:Nat)(r:AV):Option AV:=match v with
 | .lbox g' _=>cond (Nat.beq g g') (some r) none
 | _=>none
def pT(v:AV)(g i:Nat)(r:AV):Option AV:=match v with
 | .lsl g' e=>cond (Nat.beq g g'&&Nat.blt i e.length) (some r) none
 | _=>none
def YG(T:aU)(off:Nat)(x:AV):Option AV:=match x with
 | .ref l o=>some (.ref l (o+off))
 | .eptr cs=>some (.eptr (cs.drop off))
 | .lref b g o=>nE (T b) g (.lref b g (o+off))
 | .eref b g i z o=>pT (T b) g i (.eref b g i z (o+off))
 | _=>none
def aao(x:AV)(agg:Bool)(sz off:Nat):Option AV:=match x with
 | .agg cs=>ab false agg sz off cs
 | _=>none
def KB(sz:Nat)(r:Option (List AV))(f:List AV->AV):Option AV:=r.bind fun r=>cond (Nat.beq r.length sz) (some (f r)) none
def ixV(T:aU)(sz:Nat)(x:AV)(n:Option Nat):Option AV:=match x with
 | .slice e _=>n.bind fun n=>KB sz (e[n]?) .eptr
 | .sref l o m _=>n.bind fun n=>cond (Nat.blt n m) (some (.ref l (o+n*sz))) none
 | .lsr t g=>match T t with
  | .lsl g' e=>cond (Nat.beq g g') (n.bind fun n=>KB sz (e[n]?) fun _=>.eref t g n sz 0) none
  | _=>none
 | _=>none
def JN(agg:Bool)(n sz:Nat)(x:AV)(i:Option Nat):Option AV:=match x with
 | .agg cs=>i.bind fun k=>cond (Nat.blt k n) (ab false agg sz (k*sz) cs) none
 | _=>none
def IH(o:Option UInt8):Option AV:=o.map fun (b:UInt8)=>AV.int .u8 b.toNat
def OG(x:AV)(i:Option Nat):Option AV:=match x with
 | .str l=>i.bind fun n=>IH (l[n]?)
 | _=>none
def Pj(x:AV)(i:Nat):Option AV:=match x with
 | .tuple vs=>(vs[i]?).map AV.bU
 | _=>none
def Kc(T:aU)(k:lR)(x:AV):Option AV:=match x with
 | .lsr t g=>match T t with
  | .lsl g' e=>cond (Nat.beq g g') (cQ k (.slice e false)) none
  | _=>none
 | v=>cQ k v
def Bc(A:AP)(d:Bool)(r:Option (AV × Option gS))(os:List aO)(T:aU)(H:ai)(lo gen:Nat)(K:AS->Prop):Prop :=
 bS (r.bind fun r=>match r.2 with
  | none=>cond (d&&(bB r.1).isSome) none (some (⟨T,H,lo,gen⟩:AS))
  | some c=>cond d none (some (AS.gL ⟨T,H,lo,gen⟩ c))) fun s=>WO A d os s K
def OI(A:AP)(d:Bool)(f:AV)(vs:List AV)(t:Nat)(os:List aO)(T:aU)(H:ai)(lo gen:Nat)(K:AS->Prop):Prop:=match f with
 | .func (.func n) fs cs=>qB A d (aE A n (fs++vs++cs) H) t os T H lo gen K
 | _=>False
def Tt(A:AP)(b:Bool)(sz bytes i:Nat)(x y:AV)(t:Nat)(os:List aO)(T:aU)(H:ai)(lo gen:Nat)(K:AS->Prop):Prop:=match x with
 | .slice e own=>bS (aF b sz bytes (.slice e own) y) fun z=>WO A false os ⟨(T.put i (.slice e false)).put t z,H,lo,gen⟩ K
 | .af=>bS (aF b sz bytes (.slice [] true) y) fun z=>WO A false os ⟨T.put t z,H,lo,gen⟩ K
 | _=>False
section
variable {A:AP}{T:aU}{H:ai}{lo gen:Nat}{K:AS->Prop}{d:Bool}{os:List aO}{t:Nat}
theorem dc{z:AV}(h:bB z=none):dT A d (some z) t os T H lo gen K=WO A d os ⟨T.put t z,H,lo,gen⟩ K:=by
 simp[dT,h,aJ]
theorem XB{b:Bool} : dT A d (some (AV.bool b)) t os T H lo gen K=WO A d os ⟨T.put t (AV.bool b),H,lo,gen⟩ K:=dc rfl
theorem acV{k:IntKind}{n:Int} : dT A d (some (AV.int k n)) t os T H lo gen K=WO A d os ⟨T.put t (AV.int k n),H,lo,gen⟩ K:=dc rfl
theorem acY{l:List UInt8} : dT A d (some (AV.str l)) t os T H lo gen K=WO A d os ⟨T.put t (AV.str l),H,lo,gen⟩ K:=dc rfl
theorem acU:dT A d (some AV.any) t os T H lo gen K=WO A d os ⟨T.put t AV.any,H,lo,gen⟩ K:=dc rfl
theorem NK:dT A d (some AV.dQ) t os T H lo gen K=WO A d os ⟨T.put t AV.dQ,H,lo,gen⟩ K:=dc rfl
theorem NJ:dT A d (some AV.dF) t os T H lo gen K=WO A d os ⟨T.put t AV.dF,H,lo,gen⟩ K:=dc rfl
theorem XE{kz:Nat}{ka va:Bool}{es:List (List AV)} : dT A d (some (AV.fJ kz ka va es)) t os T H lo gen K=WO A d os ⟨T.put t (AV.fJ kz ka va es),H,lo,gen⟩ K:=dc rfl
theorem KH:dT A d (some AV.cW) t os T H lo gen K=WO A d os ⟨T.put t AV.cW,H,lo,gen⟩ K:=dc rfl
theorem HS:dT A d (some AV.cx) t os T H lo gen K=WO A d os ⟨T.put t AV.cx,H,lo,gen⟩ K:=dc rfl
theorem HU{e:List (List AV)}{own:Bool} : dT A d (some (AV.slice e own)) t os T H lo gen K=WO A d os ⟨T.put t (AV.slice e own),H,lo,gen⟩ K:=dc rfl
theorem XC{cs:List AV} : dT A d (some (AV.eptr cs)) t os T H lo gen K=WO A d os ⟨T.put t (AV.eptr cs),H,lo,gen⟩ K:=dc rfl
theorem acX{loc off:Nat} : dT A d (some (AV.ref loc off)) t os T H lo gen K=WO A d os ⟨T.put t (AV.ref loc off),H,lo,gen⟩ K:=dc rfl
theorem XI{loc off n z:Nat} : dT A d (some (AV.sref loc off n z)) t os T H lo gen K=WO A d os ⟨T.put t (AV.sref loc off n z),H,lo,gen⟩ K:=dc rfl
theorem XH{loc:Nat} : dT A d (some (AV.mref loc)) t os T H lo gen K=WO A d os ⟨T.put t (AV.mref loc),H,lo,gen⟩ K:=dc rfl
theorem XG{r g off:Nat} : dT A d (some (AV.lref r g off)) t os T H lo gen K=WO A d os ⟨T.put t (AV.lref r g off),H,lo,gen⟩ K:=dc rfl
theorem acW{r g:Nat} : dT A d (some (AV.lsr r g)) t os T H lo gen K=WO A d os ⟨T.put t (AV.lsr r g),H,lo,gen⟩ K:=dc rfl
theorem XD{r g i z off:Nat} : dT A d (some (AV.eref r g i z off)) t os T H lo gen K=WO A d os ⟨T.put t (AV.eref r g i z off),H,lo,gen⟩ K:=dc rfl
theorem XF{fn:Fn}{fs cs:List AV} : dT A d (some (AV.func fn fs cs)) t os T H lo gen K=WO A d os ⟨T.put t (AV.func fn fs cs),H,lo,gen⟩ K:=dc rfl
theorem SH{u:TypeId}{v:AV} : dT A d (some (AV.iface u v)) t os T H lo gen K=WO A d os ⟨T.put t (AV.iface u v),H,lo,gen⟩ K:=dc rfl
theorem acT{cs:List AV} : dT A d (some (AV.agg cs)) t os T H lo gen K=WO A d os ⟨T.put t (AV.agg cs),H,lo,gen⟩ K:=dc rfl
theorem SJ{vs:List AV} : dT A d (some (AV.tuple vs)) t os T H lo gen K=WO A d os ⟨T.put t (AV.tuple vs),H,lo,gen⟩ K:=dc rfl
theorem Zl{o:Option AV}(z:AV)(h:o=some z)(hg:bB z=none)(hK:WO A d os ⟨T.put t z,H,lo,gen⟩ K):dT A d o t os T H lo gen K:=by
 rw[h,dc hg];exact hK
theorem gn{op:gA}{o:Option AV}(h:aA A.aZ (aE A) ⟨T,H,lo,gen⟩ op=o.map (·,none)):WO A d (⟨some t,none,op⟩ :: os) ⟨T,H,lo,gen⟩ K=dT A d o t os T H lo gen K:=by
 rw[gM]
 cases o with
 | none=>simp[dT,bj,h,bS]
 | some z =>
  simp only[dT,bj,h,aoi,an8]
  cases hb:(d&&(bB z).isSome) with
  | true=>simp[bS]
  | false=>simp only[anZ,aJ];rfl
section
variable {take obj:Bool}{i:Nat}
theorem Wh{b:Bool} : jB A d take obj i (AV.bool b) t os T H lo gen K=WO A d os ⟨T.put t (AV.bool b),H,lo,gen⟩ K:=aJ
theorem abI{k:IntKind}{n:Int} : jB A d take obj i (AV.int k n) t os T H lo gen K=WO A d os ⟨T.put t (AV.int k n),H,lo,gen⟩ K:=aJ
theorem abO{l:List UInt8} : jB A d take obj i (AV.str l) t os T H lo gen K=WO A d os ⟨T.put t (AV.str l),H,lo,gen⟩ K:=aJ
theorem abH:jB A d take obj i AV.any t os T H lo gen K=WO A d os ⟨T.put t AV.any,H,lo,gen⟩ K:=aJ
theorem Ni:jB A d take obj i AV.dQ t os T H lo gen K=WO A d os ⟨T.put t AV.dQ,H,lo,gen⟩ K:=aJ
theorem Nh:jB A d take obj i AV.dF t os T H lo gen K=WO A d os ⟨T.put t AV.dF,H,lo,gen⟩ K:=aJ
theorem Wk{kz:Nat}{ka va:Bool}{es:List (List AV)} : jB A d take obj i (AV.fJ kz ka va es) t os T H lo gen K=WO A d os ⟨T.put t (AV.fJ kz ka va es),H,lo,gen⟩ K:=aJ
theorem Kf:jB A d take obj i AV.cW t os T H lo gen K=WO A d os ⟨T.put t AV.cW,H,lo,gen⟩ K:=aJ
theorem Hk:jB A d take obj i AV.cx t os T H lo gen K=WO A d os ⟨T.put t AV.cx,H,lo,gen⟩ K:=aJ
theorem Wi{cs:List AV} : jB A d take obj i (AV.eptr cs) t os T H lo gen K=WO A d os ⟨T.put t (AV.eptr cs),H,lo,gen⟩ K:=aJ
theorem abK{loc off:Nat} : jB A d take obj i (AV.ref loc off) t os T H lo gen K=WO A d os ⟨T.put t (AV.ref loc off),H,lo,gen⟩ K:=aJ
theorem Ws{loc off n z:Nat} : jB A d take obj i (AV.sref loc off n z) t os T H lo gen K=WO A d os ⟨T.put t (AV.sref loc off n z),H,lo,gen⟩ K:=aJ
theorem Wr{loc:Nat} : jB A d take obj i (AV.mref loc) t os T H lo gen K=WO A d os ⟨T.put t (AV.mref loc),H,lo,gen⟩ K:=aJ
theorem Wm{g:Nat}{cs:List AV} : jB A d take obj i (AV.lbox g cs) t os T H lo gen K=WO A d os ⟨T.put t (AV.lref i g 0),H,lo,gen⟩ K:=aJ
theorem Wn{r g off:Nat} : jB A d take obj i (AV.lref r g off) t os T H lo gen K=WO A d os ⟨T.put t (AV.lref r g off),H,lo,gen⟩ K:=aJ
theorem abJ{r g:Nat} : jB A d take obj i (AV.lsr r g) t os T H lo gen K=WO A d os ⟨T.put t (AV.lsr r g),H,lo,gen⟩ K:=aJ
theorem Wj{r g j z off:Nat} : jB A d take obj i (AV.eref r g j z off) t os T H lo gen K=WO A d os ⟨T.put t (AV.eref r g j z off),H,lo,gen⟩ K:=aJ
theorem Wl{fn:Fn}{fs cs:List AV} : jB A d take obj i (AV.func fn fs cs) t os T H lo gen K=WO A d os ⟨T.put t (AV.func fn fs cs),H,lo,gen⟩ K:=aJ
theorem RH{u:TypeId}{v:AV} : jB A d take obj i (AV.iface u v) t os T H lo gen K=WO A d os ⟨T.put t (AV.iface u v),H,lo,gen⟩ K:=aJ
theorem abG{cs:List AV} : jB A d take obj i (AV.agg cs) t os T H lo gen K=WO A d os ⟨T.put t (AV.agg cs),H,lo,gen⟩ K:=aJ
theorem RJ{vs:List AV} : jB A d take obj i (AV.tuple vs) t os T H lo gen K=WO A d os ⟨T.put t (AV.tuple vs),H,lo,gen⟩ K:=aJ
theorem abM{e:List (List AV)} : jB A d take obj i (.slice e false) t os T H lo gen K=WO A d os ⟨T.put t (.slice e false),H,lo,gen⟩ K:=by
 simp[jB,aJ,AS.cy]
theorem abN{e:List (List AV)} : jB A false true obj i (.slice e true) t os T H lo gen K=WO A false os ⟨(T.put i (.slice e false)).put t (.slice e true),H,lo,gen⟩ K:=by
 simp[jB,aJ,AS.cy]
theorem abL{e:List (List AV)}{own:Bool} : jB A d false obj i (.slice e own) t os T H lo gen K=WO A d os ⟨T.put t (.slice e false),H,lo,gen⟩ K:=by
 simp[jB,aJ,AS.cy]
theorem Wo{g:Nat}{e:List (List AV)} : jB A d false obj i (.lsl g e) t os T H lo gen K=WO A d os ⟨T.put t (.lsr i g),H,lo,gen⟩ K:=by
 simp[jB,aJ,AS.cy]
theorem Wq{g:Nat}{e:List (List AV)}(hn:js e=true):jB A false true false i (.lsl g e) t os T H lo gen K=WO A false os ⟨(T.put i (.slice e false)).put t (.slice e true),H,lo,gen⟩ K:=by
 simp[jB,aJ,AS.cy,hn]
theorem Wp{g:Nat}{e:List (List AV)} : jB A false true true i (.lsl g e) t os T H lo gen K=WO A false os ⟨(T.put i .any).put t (.lsl gen e),H,lo,gen+1⟩ K:=by
 simp[jB,aJ,AS.cy]
end
theorem aga{take obj:Bool}{i:Nat} : WO A d (⟨some t,none,.mov take obj (.tmp i)⟩ :: os) ⟨T,H,lo,gen⟩ K=jB A d take obj i (T i) t os T H lo gen K:=by
 rw[gM]
 simp only[jB,bj,aA,mB]
 cases hT:T i with
 | slice e own=>cases take<;>cases own<;>cases d<;>simp[bS,AS.bW,AS.cy,bB]
 | lbox g cs=>simp[bS,AS.bW,AS.cy,bB]
 | lsl g e=>cases take<;>cases obj<;>cases d<;>cases hn:js e<;>simp[bS,AS.bW,AS.cy,bB,hn]
 | _=>simp[bS,AS.bW,AS.cy,bB]
theorem Sd{take obj:Bool}{v:AV} : WO A d (⟨some t,none,.mov take obj (.bC v)⟩ :: os) ⟨T,H,lo,gen⟩ K=dT A d (some v) t os T H lo gen K:=gn rfl
theorem acu{take obj:Bool}{g:Nat} : WO A d (⟨some t,none,.mov take obj (.aZ g)⟩ :: os) ⟨T,H,lo,gen⟩ K=dT A d (some (.eptr (A.aZ g))) t os T H lo gen K:=gn rfl
theorem acs{take obj:Bool}{f:FuncId} : WO A d (⟨some t,none,.mov take obj (.fn f)⟩ :: os) ⟨T,H,lo,gen⟩ K=dT A d (some (.func (.func f) [] [])) t os T H lo gen K:=gn rfl
theorem W0{g:Nat}{w:Bool}{op:gA} : WO A d (⟨some t,some (g,w),op⟩ :: os) ⟨T,H,lo,gen⟩ K=ml A d (T g) w t op os T H lo gen K:=by
 rw[gM]
 simp only[ml,gM]
 unfold bj
 simp only
 cases hT:T g with
 | bool b =>
  cases hb:(b==w) with
  | true=>simp only[hb,aJ,cond_true,forall_const,Bool.true_eq_false,false_implies,apt,eq_self]
  | false=>simp only[hb,aJ,anZ,forall_const,apo,false_implies,aqu,eq_self,AS.bW,AS.cy]
 | tuple l =>
  cases l with
  | nil=>simp only[aJ,forall_const,apo,false_implies,aqu,eq_self,AS.bW,AS.cy]
  | cons a l=>simp[bS]
 | _=>simp[bS]
theorem af4{op:gA} : ml A d (.bool true) true t op os T H lo gen K=WO A d (⟨some t,none,op⟩ :: os) ⟨T,H,lo,gen⟩ K:=by simp[ml,aJ]
theorem af1{op:gA} : ml A d (.bool false) false t op os T H lo gen K=WO A d (⟨some t,none,op⟩ :: os) ⟨T,H,lo,gen⟩ K:=by simp[ml,aJ]
theorem af3{op:gA} : ml A d (.bool true) false t op os T H lo gen K=WO A d os ⟨T.put t .undef,H,lo,gen⟩ K:=by simp[ml,aJ]
theorem af2{op:gA} : ml A d (.bool false) true t op os T H lo gen K=WO A d os ⟨T.put t .undef,H,lo,gen⟩ K:=by simp[ml,aJ]
theorem af5{op:gA}{w:Bool} : ml A d (.tuple []) w t op os T H lo gen K=WO A d os ⟨T.put t .undef,H,lo,gen⟩ K:=by simp[ml,aJ]
theorem acw{c a b:aC} : WO A d (⟨some t,none,.pick c a b⟩ :: os) ⟨T,H,lo,gen⟩ K=dT A d (LH (c.eval A.aZ T) (a.addr A.aZ T) (b.addr A.aZ T)) t os T H lo gen K:=by
 refine gn ?_
 simp only[aA,LH]
 cases c.eval A.aZ T<;>rfl
theorem Xg{x y:AV} : LH (.bool true) x y=some x.drop:=rfl
theorem Xf{x y:AV} : LH (.bool false) x y=some y.drop:=rfl
theorem R5{z:List AV} : WO A false (⟨some t,none,.allocL z⟩ :: os) ⟨T,H,lo,gen⟩ K=WO A false os ⟨T.put t (.lbox gen z),H,lo,gen+1⟩ K:=by
 rw[gM];simp only[bj,aA,an8,anZ,aJ];rfl
theorem R4{ty:TypeId}{z:List AV} : WO A false (⟨some t,none,.oz ty z⟩ :: os) ⟨T,H,lo,gen⟩ K=WO A false os ⟨T.put t (.ref H.length 0),H++[.box ty z],cond (Nat.blt H.length lo) H.length lo,gen⟩ K:=by
 rw[gM];simp only[bj,aA,an8,anZ,aJ];rfl
theorem WJ{z:List AV}{ps:List (Nat × Nat × aC)} : WO A d (⟨some t,none,.build z ps⟩ :: os) ⟨T,H,lo,gen⟩ K=dT A d ((cF z (cA A.aZ T ps)).map .agg) t os T H lo gen K:=by
 refine gn ?_
 simp only[aA,BW,apV];rfl
theorem BY{b:Bool}{sz:Nat}{z:List (List AV)}{ps:List (Nat × aC)} : WO A d (⟨some t,none,.mkslice b sz z ps⟩ :: os) ⟨T,H,lo,gen⟩ K=dT A d (RL b (dp sz z (cu A.aZ T ps))) t os T H lo gen K:=by
 refine gn ?_
 simp only[aA,vI,RL]
 cases dp sz z (cu A.aZ T ps) with
 | none=>rfl
 | some E=>simp only[an8];cases lO b E<;>rfl
theorem ai6{b:Bool}{E:List (List AV)} : RL b (some E)=cond (lO b E) (some (.slice E true)) none:=rfl
theorem W4{agg:Bool}{sz:Nat}{x:aC} : WO A d (⟨some t,none,.load false agg sz x⟩ :: os) ⟨T,H,lo,gen⟩ K=dT A d (BM T H agg sz (x.addr A.aZ T)) t os T H lo gen K:=by
 refine gn ?_
 simp only[aA,ay,BM,aoj,anZ]
 cases x.addr A.aZ T with
 | ref loc off=>cases hl:H[loc]? with
  | none=>simp only[hl,oS];rfl
  | some o=>cases o<;>simp only[hl,oS]<;>rfl
 | lref b g off =>
  cases hb:T b with
  | lbox g' cs=>simp only[hb,o7];cases Nat.beq g g'<;>rfl
  | _=>simp only[hb,o7];rfl
 | eref b g i z off =>
  cases hb:T b with
  | lsl g' e =>
   simp only[hb,ri,vf]
   cases Nat.beq g g' with
   | false=>rfl
   | true =>
    simp only[cond_true]
    cases e[i]? with
    | none=>rfl
    | some r=>simp only[an8];cases Nat.beq r.length z<;>rfl
  | _=>simp only[hb,ri];rfl
 | _=>rfl
theorem W9{agg:Bool}{sz b g i z off:Nat} : BM T H agg sz (.eref b g i z off)=ri (T b) g i z agg sz off:=rfl
theorem acr{g g' i z:Nat}{e:List (List AV)}{agg:Bool}{sz off:Nat} : ri (.lsl g e) g' i z agg sz off=cond (Nat.beq g' g) (vf (e[i]?) z agg sz off) none:=rfl
theorem acJ{r:List AV}{z:Nat}{agg:Bool}{sz off:Nat} : vf (some r) z agg sz off=cond (Nat.beq r.length z) (ab false agg sz off r) none:=rfl
theorem W5{agg:Bool}{sz:Nat}{cs:List AV} : BM T H agg sz (.eptr cs)=ab false agg sz 0 cs:=rfl
theorem W7{agg:Bool}{sz loc off:Nat} : BM T H agg sz (.ref loc off)=oS H[loc]? agg sz off:=rfl
theorem aca{ty:TypeId}{cs:List AV}{agg:Bool}{sz off:Nat} : oS (some (.box ty cs)) agg sz off=ab false agg sz off cs:=rfl
theorem W6{agg:Bool}{sz b g off:Nat} : BM T H agg sz (.lref b g off)=o7 (T b) g agg sz off:=rfl
theorem W3{g g' : Nat}{cs:List AV}{agg:Bool}{sz off:Nat} : o7 (.lbox g cs) g' agg sz off=cond (Nat.beq g' g) (ab false agg sz off cs) none:=rfl
theorem R9{sz off:Nat}{cs:List AV} : ab false true sz off cs=cond (Nat.ble (off+sz) cs.length) (some (.agg (((cs.drop off).take sz).map AV.drop))) none:=rfl
theorem R8{sz off:Nat}{cs:List AV} : ab false false sz off cs=(cs[off]?).map AV.drop:=by
 simp only[ab,anZ]
theorem afL{op:BinOp}{q:vp}{x y:aC} : WO A d (⟨some t,none,.bin op q x y⟩ :: os) ⟨T,H,lo,gen⟩ K=dT A d (yh op q (dj x || dj y) (x.eval A.aZ T) (y.eval A.aZ T)) t os T H lo gen K:=gn rfl
theorem ai7{mx:Bool}{x y:aC} : WO A d (⟨some t,none,.mm mx x y⟩ :: os) ⟨T,H,lo,gen⟩ K=dT A d (RM mx (x.eval A.aZ T) (y.eval A.aZ T)) t os T H lo gen K:=gn rfl
theorem af'{k j:IntKind}{mx:Bool}{a b:Int} : RM mx (.int k a) (.int j b)=cond (decide (k=j)) (some (.int k (cond mx (if b>a then b else a) (if b<a then b else a)))) none:=rfl
theorem ai9{op:UnOp}{x:aC} : WO A d (⟨some t,none,.un op x⟩ :: os) ⟨T,H,lo,gen⟩ K=dT A d (gk op (x.eval A.aZ T)) t os T H lo gen K:=gn rfl
theorem ach{c:xZ}{x:aC} : WO A d (⟨some t,none,.conv c x⟩ :: os) ⟨T,H,lo,gen⟩ K=dT A d (cm c (x.eval A.aZ T)) t os T H lo gen K:=gn rfl
theorem Xl{k:vu}{x:aC}{l h m:Option aC} : WO A d (⟨some t,none,.slice k x l h m⟩ :: os) ⟨T,H,lo,gen⟩ K=dT A d (bH k (x.eval A.aZ T) (gr A.aZ T l) (gr A.aZ T h) (gr A.aZ T m)) t os T H lo gen K:=by
 refine gn ?_
 cases l<;>cases h<;>cases m<;>rfl
theorem afK{op:BinOp}{q:vp}{c:Bool}{j k:IntKind}{a b:Int} : yh op q c (.int j a) (.int k b)=cond (decide (j=k)) (aa op j a b) none:=rfl
theorem afP{op:BinOp}{q:vp}{c:Bool}{a b:List UInt8} : yh op q c (.str a) (.str b)=cj op a b:=rfl
theorem afJ{op:BinOp}{c:Bool}{a b:Bool} : yh op .bool c (.bool a) (.bool b)=cn op (a==b):=rfl
theorem HG{off:Nat}{x:aC} : WO A d (⟨some t,none,.fieldAddr off x⟩ :: os) ⟨T,H,lo,gen⟩ K=dT A d (YG T off (x.addr A.aZ T)) t os T H lo gen K:=by
 refine gn ?_
 simp only[aA,YG]
 cases x.addr A.aZ T with
 | lref b g o =>
  cases hb:T b with
  | lbox g' cs=>simp only[hb,aQ,bF,nE];cases Nat.beq g g'<;>rfl
  | _=>simp only[hb,aQ,nE];rfl
 | eref b g i z o =>
  cases hb:T b with
  | lsl g' e=>simp only[hb,aQ,bF,pT];cases (Nat.beq g g'&&Nat.blt i e.length)<;>rfl
  | _=>simp only[hb,aQ,pT];rfl
 | _=>rfl
theorem afW{off:Nat}{cs:List AV} : YG T off (.eptr cs)=some (.eptr (cs.drop off)):=rfl
theorem afY{off l o:Nat} : YG T off (.ref l o)=some (.ref l (o+off)):=rfl
theorem afX{off b g o:Nat} : YG T off (.lref b g o)=nE (T b) g (.lref b g (o+off)):=rfl
theorem Ky{g g' : Nat}{cs:List AV}{r:AV} : nE (.lbox g cs) g' r=cond (Nat.beq g' g) (some r) none:=rfl
theorem afZ{off b g i z o:Nat} : YG T off (.eref b g i z o)=pT (T b) g i (.eref b g i z (o+off)):=rfl
theorem Nz{g g' i:Nat}{e:List (List AV)}{r:AV} : pT (.lsl g e) g' i r=cond (Nat.beq g' g&&Nat.blt i e.length) (some r) none:=rfl
theorem W2{n sz:Nat}{x i:aC} : WO A d (⟨some t,none,.ixArr n sz x i⟩ :: os) ⟨T,H,lo,gen⟩ K=dT A d ((asNat (i.eval A.aZ T)).bind fun k=>cond (Nat.blt k n) (YG T (k*sz) (x.addr A.aZ T)) none) t os T H lo gen K:=by
 refine gn ?_
 simp only[aA]
 cases asNat (i.eval A.aZ T) with
 | none=>rfl
 | some k =>
  simp only[an8]
  cases Nat.blt k n with
  | false=>rfl
  | true =>
   simp only[aon,cond_true,YG]
   cases x.addr A.aZ T with
   | lref b g o =>
    cases hb:T b with
    | lbox g' cs=>simp only[hb,aQ,bF,nE];cases Nat.beq g g'<;>rfl
    | _=>simp only[hb,aQ,nE];rfl
   | eref b g i z o =>
    cases hb:T b with
    | lsl g' e=>simp only[hb,aQ,bF,pT];cases (Nat.beq g g'&&Nat.blt i e.length)<;>rfl
    | _=>simp only[hb,aQ,pT];rfl
   | _=>rfl
theorem R'{agg:Bool}{off sz:Nat}{cs:List AV} : aao (.agg cs) agg sz off=ab false agg sz off cs:=rfl
theorem ack{sz:Nat}{x i:aC} : WO A d (⟨some t,none,.ixSl sz x i⟩ :: os) ⟨T,H,lo,gen⟩ K=dT A d (ixV T sz (x.addr A.aZ T) (asNat (i.eval A.aZ T))) t os T H lo gen K:=by
 refine gn ?_
 simp only[aA,ixV]
 cases x.addr A.aZ T with
 | slice e own =>
  cases asNat (i.eval A.aZ T) with
  | none=>rfl
  | some n =>
   simp only[an8,KB]
   cases e[n]? with
   | none=>rfl
   | some r=>simp only[an8];cases Nat.beq r.length sz<;>rfl
 | sref l o m z =>
  cases asNat (i.eval A.aZ T) with
  | none=>rfl
  | some n=>simp only[an8];cases Nat.blt n m<;>rfl
 | lsr s g =>
  cases hs:T s with
  | lsl g' e =>
   simp only[hs]
   cases Nat.beq g g' with
   | false=>rfl
   | true =>
    simp only[cond_true]
    cases asNat (i.eval A.aZ T) with
    | none=>rfl
    | some n =>
     simp only[an8,KB]
     cases e[n]? with
     | none=>rfl
     | some r=>simp only[an8];cases Nat.beq r.length sz<;>rfl
  | _=>simp[hs]
 | _=>rfl
theorem af8{sz n:Nat}{e:List (List AV)}{own:Bool} : ixV T sz (.slice e own) (some n)=KB sz (e[n]?) .eptr:=rfl
theorem af7{sz n l o m z:Nat} : ixV T sz (.sref l o m z) (some n)=cond (Nat.blt n m) (some (.ref l (o+n*sz))) none:=rfl
theorem af6{sz n s g:Nat} : ixV T sz (.lsr s g) (some n)=(match T s with|.lsl g' e=>cond (Nat.beq g g') (KB sz (e[n]?) fun _=>.eref s g n sz 0) none|_=>none):=rfl
theorem acK{sz:Nat}{r:List AV}{f:List AV->AV} : KB sz (some r) f=cond (Nat.beq r.length sz) (some (f r)) none:=rfl
theorem W1{agg:Bool}{n sz:Nat}{x i:aC} : WO A d (⟨some t,none,.index agg n sz x i⟩ :: os) ⟨T,H,lo,gen⟩ K=dT A d (JN agg n sz (x.eval A.aZ T) (asNat (i.eval A.aZ T))) t os T H lo gen K:=by
 refine gn ?_
 simp only[aA,JN]
 cases asNat (i.eval A.aZ T) with
 | none=>cases x.eval A.aZ T<;>rfl
 | some k =>
  simp only[an8]
  cases Nat.blt k n with
  | false=>cases x.eval A.aZ T<;>rfl
  | true=>cases x.eval A.aZ T<;>rfl
theorem Sa{agg:Bool}{n sz k:Nat}{cs:List AV} : JN agg n sz (.agg cs) (some k)=cond (Nat.blt k n) (ab false agg sz (k*sz) cs) none:=rfl
theorem Kx{x i:aC} : WO A d (⟨some t,none,.indexStr x i⟩ :: os) ⟨T,H,lo,gen⟩ K=dT A d (OG (x.eval A.aZ T) (asNat (i.eval A.aZ T))) t os T H lo gen K:=by
 refine gn ?_
 simp only[aA,OG]
 cases x.eval A.aZ T with
 | str l =>
  cases asNat (i.eval A.aZ T) with
  | none=>rfl
  | some n=>simp only[an8];cases l[n]?<;>rfl
 | _=>rfl
theorem WL{l:List UInt8}{n:Nat} : OG (.str l) (some n)=IH (l[n]?):=rfl
theorem R7{b:UInt8} : IH (some b)=some (.int .u8 b.toNat):=rfl
theorem Ny{x:aC}{i:Nat} : WO A d (⟨some t,none,.extract x i⟩ :: os) ⟨T,H,lo,gen⟩ K=dT A d (Pj (x.eval A.aZ T) i) t os T H lo gen K:=by
 refine gn ?_
 simp only[aA,Pj]
 cases x.eval A.aZ T with
 | tuple vs=>simp only;cases vs[i]?<;>rfl
 | _=>rfl
theorem WZ{vs:List AV}{i:Nat} : Pj (.tuple vs) i=(vs[i]?).map AV.bU:=rfl
theorem af9{k:lR}{x:aC} : WO A d (⟨some t,none,.len k x⟩ :: os) ⟨T,H,lo,gen⟩ K=dT A d (Kc T k (x.addr A.aZ T)) t os T H lo gen K:=by
 refine gn ?_
 simp only[aA,Kc]
 cases x.addr A.aZ T with
 | lsr s g =>
  cases hs:T s with
  | lsl g' e=>simp only[hs];cases Nat.beq g g'<;>rfl
  | _=>simp[hs]
 | _=>rfl
theorem acp{l:List UInt8} : Kc T .str (.str l)=some (.int .i64 l.length):=rfl
theorem acm{e:List (List AV)}{own:Bool} : Kc T .sl (.slice e own)=some (.int .i64 e.length):=rfl
theorem aco{l o m z:Nat} : Kc T .sl (.sref l o m z)=some (.int .i64 m):=rfl
theorem acn{k:lR}{s g:Nat} : Kc T k (.lsr s g)=(match T s with|.lsl g' e=>cond (Nat.beq g g') (cQ k (.slice e false)) none|_=>none):=rfl
theorem ace{f:FuncId}{args:List aC} : WO A d (⟨some t,none,.call (.fn f) args⟩ :: os) ⟨T,H,lo,gen⟩ K=(ca A.aZ T args=true/\qB A d (aE A f (cZ A.aZ T args) H) t os T H lo gen K):=by
 rw[gM]
 simp only[bj,aA,aC.eval,oL,qx,qB,ao0,apl]
 refine propext ?_
 cases ca A.aZ T args with
 | false=>simp[bS]
 | true =>
  simp only[cond_true,aqu]
  cases aE A f (cZ A.aZ T args) H with
  | none=>simp[bS]
  | some r =>
   obtain⟨v,c⟩:=r
   cases c with
   | none=>simp only[aoi,ap1,an8];cases (d&&(bB v).isSome)<;>simp[bS,AS.bW]
   | some c=>simp only[aoi,an8];cases d<;>simp[bS,AS.bW]
theorem WR{f:FuncId}{args:List aC} : WO A d (⟨none,none,.call (.fn f) args⟩ :: os) ⟨T,H,lo,gen⟩ K=(ca A.aZ T args=true/\Bc A d (aE A f (cZ A.aZ T args) H) os T H lo gen K):=by
 rw[gM]
 simp only[bj,aA,aC.eval,oL,qx,Bc,ao0,apl]
 refine propext ?_
 cases ca A.aZ T args with
 | false=>simp[bS]
 | true =>
  simp only[cond_true,aqu]
  cases aE A f (cZ A.aZ T args) H with
  | none=>simp[bS]
  | some r =>
   obtain⟨v,c⟩:=r
   cases c with
   | none=>simp only[aoi,ap1,an8];cases (d&&(bB v).isSome)<;>simp[bS,AS.bW]
   | some c=>simp only[aoi,an8];cases d<;>simp[bS,AS.bW]
theorem WS{i:Nat}{args:List aC} : WO A d (⟨some t,none,.call (.tmp i) args⟩ :: os) ⟨T,H,lo,gen⟩ K=(ca A.aZ T args=true/\OI A d (T i) (cZ A.aZ T args) t os T H lo gen K):=by
 rw[gM]
 simp only[bj,aA,aC.eval,oL,qx,OI,qB]
 refine propext ?_
 cases hT:T i with
 | func fn fs cs =>
  cases fn with
  | func n =>
   cases ca A.aZ T args with
   | false=>simp[bS]
   | true =>
    simp only[cond_true,aqu]
    cases aE A n (fs++cZ A.aZ T args++cs) H with
    | none=>simp[bS]
    | some r =>
     obtain⟨v,c⟩:=r
     cases c with
     | none=>simp only[aoi,ap1,an8];cases (d&&(bB v).isSome)<;>simp[bS,AS.bW]
     | some c=>simp only[aoi,an8];cases d<;>simp[bS,AS.bW]
  | _=>simp[bS]
 | _=>simp[bS]
theorem WM{n:FuncId}{fs vs cs:List AV} : OI A d (.func (.func n) fs cs) vs t os T H lo gen K=qB A d (aE A n (fs++vs++cs) H) t os T H lo gen K:=rfl
theorem agf{v:AV} : qB A false (some (v,none)) t os T H lo gen K=WO A false os ⟨T.put t v,H,lo,gen⟩ K:=by
 simp[qB,aJ,AS.cy]
theorem acH{v:AV} : qB A true (some (v,none)) t os T H lo gen K=dT A true (some v) t os T H lo gen K:=by
 simp only[qB,dT,an8]
 cases (bB v).isSome<;>simp[bS,AS.cy]
theorem acG{v:AV}{h:ai}{l:Nat} : qB A false (some (v,some ⟨h,l⟩)) t os T H lo gen K=WO A false os ⟨T.put t v,h,cond (Nat.blt l lo) l lo,gen⟩ K:=by
 simp[qB,aJ,AS.cy,AS.gL]
theorem acI{v:AV} : Bc A false (some (v,none)) os T H lo gen K=WO A false os ⟨T,H,lo,gen⟩ K:=by
 simp[Bc,aJ]
theorem Xk{v:AV}{h:ai}{l:Nat} : Bc A false (some (v,some ⟨h,l⟩)) os T H lo gen K=WO A false os ⟨T,h,cond (Nat.blt l lo) l lo,gen⟩ K:=by
 simp[Bc,aJ,AS.gL]
theorem R6{b:Bool}{sz bytes i:Nat}{y:aC} : WO A false (⟨some t,none,.append b false sz bytes (.tmp i) y⟩ :: os) ⟨T,H,lo,gen⟩ K=Tt A b sz bytes i (T i) (y.eval A.aZ T) t os T H lo gen K:=by
 rw[gM]
 simp only[bj,aA,bf,Tt]
 cases hT:T i with
 | slice e own =>
  simp only[anZ,Option.map_eq_map]
  cases aF b sz bytes (.slice e own) (y.eval A.aZ T) with
  | none=>simp[bS]
  | some z=>simp[bS,AS.bW,AS.cy]
 | lsl g e =>
  simp only[aoj,anZ]
  cases bu sz (y.eval A.aZ T)<;>simp[bS]
 | af =>
  simp only[anZ]
  cases aF b sz bytes (.slice [] true) (y.eval A.aZ T) with
  | none=>simp[bS]
  | some z=>simp[bS,AS.bW,AS.cy]
 | _=>simp[bS]
theorem ab8{b:Bool}{sz bytes i:Nat}{y:AV} : Tt A b sz bytes i .af y t os T H lo gen K=bS (aF b sz bytes (.slice [] true) y) fun z=>WO A false os ⟨T.put t z,H,lo,gen⟩ K:=rfl
theorem ab6{b:Bool}{sz bytes i:Nat}{e:List (List AV)}{own:Bool}{y:AV} : Tt A b sz bytes i (.slice e own) y t os T H lo gen K=bS (aF b sz bytes (.slice e own) y) fun z=>WO A false os ⟨(T.put i (.slice e false)).put t z,H,lo,gen⟩ K:=rfl
theorem ab'{b:Bool}{sz bytes:Nat}{v:AV}{y:aC} : WO A false (⟨some t,none,.append b false sz bytes (.bC v) y⟩ :: os) ⟨T,H,lo,gen⟩ K=dT A false (aF b sz bytes v (y.eval A.aZ T)) t os T H lo gen K:=by
 refine gn ?_
 simp only[aA,bf,anZ,aC.eval]
theorem Xm{dst:Option Nat}{sz:Nat}{a v:aC} : WO A d (⟨dst,none,.store sz a v⟩ :: os) ⟨T,H,lo,gen⟩ K=bS (bj A.aZ (aE A) d ⟨T,H,lo,gen⟩ ⟨dst,none,.store sz a v⟩) fun s'=>WO A d os s' K:=gM
theorem W8{dst:Option Nat}{agg:Bool}{sz:Nat}{x:aC} : WO A d (⟨dst,none,.load true agg sz x⟩ :: os) ⟨T,H,lo,gen⟩ K=bS (bj A.aZ (aE A) d ⟨T,H,lo,gen⟩ ⟨dst,none,.load true agg sz x⟩) fun s'=>WO A d os s' K:=gM
theorem Kz{dst:Option Nat}{x:aC} : WO A d (⟨dst,none,.nilCheck x⟩ :: os) ⟨T,H,lo,gen⟩ K=bS (bj A.aZ (aE A) d ⟨T,H,lo,gen⟩ ⟨dst,none,.nilCheck x⟩) fun s'=>WO A d os s' K:=gM
theorem Sc{dst:Option Nat}{f:Fn}{a b:List aC} : WO A d (⟨dst,none,.mkfunc f a b⟩ :: os) ⟨T,H,lo,gen⟩ K=bS (bj A.aZ (aE A) d ⟨T,H,lo,gen⟩ ⟨dst,none,.mkfunc f a b⟩) fun s'=>WO A d os s' K:=gM
end
theorem WG{G:Nat->List AV}{T:aU}{v:AV} : aC.addr G T (.bC v)=v:=rfl
theorem WI{G:Nat->List AV}{T:aU}{g:Nat} : aC.addr G T (.aZ g)=.eptr (G g):=rfl
theorem WH{G:Nat->List AV}{T:aU}{f:FuncId} : aC.addr G T (.fn f)=.func (.func f) [] []:=rfl
def spK(sz:Nat)(es:List (List AV))(i:Nat)(o:Option (List AV))(r:List (Nat × AV)):Option (List (List AV)):=match o with
 | none=>none
 | some cs=>cond (Nat.blt i es.length) (dp sz (es.set i cs) r) none
theorem agj{sz:Nat}{es:List (List AV)} : dp sz es []=some es:=rfl
theorem agh{sz i:Nat}{es:List (List AV)}{v:AV}{r:List (Nat × AV)} : dp sz es ((i,v) :: r)=spK sz es i (v.elem sz) r:=by
 simp only[dp,spK]
 cases v.elem sz<;>rfl
theorem agi{sz i:Nat}{es:List (List AV)}{cs:List AV}{r:List (Nat × AV)} : spK sz es i (some cs) r=cond (Nat.blt i es.length) (dp sz (es.set i cs) r) none:=rfl
theorem WU{sz:Nat}{cs:List AV} : AV.elem sz (.agg cs)=cond (Nat.beq (cs.map AV.drop).length sz&&(cs.map AV.drop).all AV.plain) (some (cs.map AV.drop)) none:=rfl
theorem WW{k:IntKind}{n:Int} : AV.elem 1 (.int k n)=some [.int k n]:=rfl
theorem WY{l:List UInt8} : AV.elem 1 (.str l)=some [.str l]:=rfl
theorem WV{b:Bool} : AV.elem 1 (.bool b)=some [.bool b]:=rfl
theorem WX{e:List (List AV)}{o:Bool} : AV.elem 1 (.slice e o)=some [.slice e false]:=rfl
def bpK(cells:List AV)(off sz:Nat)(o:Option (List AV))(r:List (Nat × Nat × AV)):Option (List AV):=match o with
 | none=>none
 | some cs=>cond (Nat.beq cs.length sz&&Nat.ble (off+cs.length) cells.length) (cF (putAt cells off (cs.map AV.drop)) r) none
theorem afO{cells:List AV} : cF cells []=some cells:=rfl
theorem afM{cells:List AV}{off sz:Nat}{v:AV}{r:List (Nat × Nat × AV)} : cF cells ((off,sz,v) :: r)=bpK cells off sz v.cells r:=by
 simp only[cF,bpK]
 cases v.cells<;>rfl
theorem afN{cells cs:List AV}{off sz:Nat}{r:List (Nat × Nat × AV)} : bpK cells off sz (some cs) r=cond (Nat.beq cs.length sz&&Nat.ble (off+cs.length) cells.length) (cF (putAt cells off (cs.map AV.drop)) r) none:=rfl
def Y8:AV->Bool
 | .int .u8 _=>false
 | .any=>false
 | _=>true
def RO:List AV->Bool
 | []=>true
 | x :: r=>Y8 x&&RO r
def nb:List (List AV)->Bool
 | []=>true
 | r :: e=>RO r&&nb e
theorem RP:∀ r:List AV,(r.all fun|.int .u8 _=>false|.any=>false|_=>true)=RO r
 | []=>rfl
 | x :: r=>by
  rw[aoV,RO,<- RP r]
  congr 1
theorem RQ:∀ e:List (List AV),js e=nb e
 | []=>rfl
 | r :: e=>by
  have:=RQ e
  simp only[js] at this
  simp only[js,aoV,nb,this]
  rw[<- RP];rfl
theorem Sh{E:List (List AV)} : lO false E=nb E:=by simp only[lO,anZ,RQ]
theorem ai8{E:List (List AV)} : js E=nb E:=RQ E
theorem agb:nb []=true:=rfl
theorem agd{r:List AV}{e:List (List AV)} : nb (r :: e)=(RO r&&nb e):=rfl
theorem Se:RO []=true:=rfl
theorem Sf{x:AV}{r:List AV} : RO (x :: r)=(Y8 x&&RO r):=rfl
theorem Zg{n:Int} : Y8 (.int .i64 n)=true:=rfl
theorem Zi{l:List UInt8} : Y8 (.str l)=true:=rfl
theorem agc{b:Bool} : Y8 (.bool b)=true:=rfl
theorem Zh{e:List (List AV)}{o:Bool} : Y8 (.slice e o)=true:=rfl
theorem age{cs:List AV} : Y8 (.agg cs)=true:=rfl
theorem wa{E:List (List AV)}(h:∀ r∈E,RO r=true):nb E=true:=by
 induction E with
 | nil=>rfl
 | cons r E ih=>rw[nb,h r (aox ..),ih fun r hr=>h r (apb _ hr)];rfl
theorem BP:∀ {e f:List (List AV)},nb (e++f)=(nb e&&nb f)
 | [],f=>by simp[nb]
 | r :: e,f=>by simp only[apm,nb,BP,Bool.and_assoc]
def wC(sz:Nat)(e:List (List AV)):Prop:=(∀ r∈e,r.length=sz)/\nb e=true
theorem Bt{sz:Nat}{e:List (List AV)}(h:∀ r∈e,r.length=sz):iB sz e=true:=by
 cases e with
 | nil=>rfl
 | cons r e=>simp[iB,h r (aox ..)]
theorem vy{sz bytes:Nat}{e f:List (List AV)}{o:Bool}(h1:wC sz e)(h2:wC sz f)(hb:(e.length+f.length)*bytes<=70368744177664)(hl:e.length+f.length<=70368744177664) :
  aF false sz bytes (.slice e true) (.slice f o)=some (.slice (e++f) true):=by
 simp only[aF,bu,an8]
 cases f with
 | nil=>simp
 | cons r f =>
  have hr:lO false (e++r :: f)=true:=by rw[Sh,BP,h1.2,h2.2];rfl
  have hf:dE sz bytes e (r :: f)=true:=by
   simp only[dE,Bt h1.1,Bt h2.1,ao1 hb,ao1 hl,ao9]
  simp only[hr,hf,ao9,cond_true]
theorem Tv{b:Bool}{sz bytes:Nat}{e:List (List AV)}{o o' : Bool} : aF b sz bytes (.slice e o) (.slice [] o')=some (.slice e o):=rfl
def zB(v:AV)(g:Nat):Option AV:=match v with
 | .lsl g' e=>cond (Nat.beq g g') (cond (js e) (some (.slice e true)) none) none
 | _=>none
def nS(T:aU)(t:Nat)(v:AV):Option AV:=match v with
 | .lsl _ e=>cond (js e) (some (.slice e true)) none
 | .lsr b g=>zB (T b) g
 | .lbox ..|.lref ..|.eref ..|.iter ..=>none
 | v=>some v
def aeh(base lo:Nat)(H:ai)(o:Option AV):Option (AV × Option gS):=o.bind fun r=>cond (r.leaves base) (some (r,cond (Nat.beq lo base) none (some ⟨H.take base,lo⟩))) none
def zQ(o:Option cJ)(agg:Bool)(sz:Nat):Option AV:=match o with
 | some (.box _ cs)=>ab false agg sz 0 cs
 | _=>none
def LJ(v:AV)(H:ai)(agg:Bool)(sz:Nat):Option AV:=match v with
 | .lbox _ cs=>ab false agg sz 0 cs
 | .ref loc 0=>zQ H[loc]? agg sz
 | _=>none
def Yx(o:Option AV)(l:Option (List AV)):Option (List AV):=o.bind fun v=>l.map (v.bU :: ·)
section
variable {T:aU}{H:ai}{lo gen base t:Nat}{rs:List hJ}
def rm(base lo:Nat)(H:ai):Bool:=cond (Nat.beq lo base) true (((H.take base).drop lo).all fun o=>match o with|.ba cs=>cs.all (AV.bd base)|_=>true)
theorem Xe{n:Nat}{H:ai} : rm n n H=true:=by simp[rm]
theorem af0:fin base rs ⟨T,H,lo,gen⟩=cond (rm base lo H) (aeh base lo H (mw ⟨T,H,lo,gen⟩ rs)) none:=rfl
theorem acj{v:AV} : aeh base lo H (some v)=cond (v.leaves base) (some (v,cond (Nat.beq lo base) none (some ⟨H.take base,lo⟩))) none:=rfl
theorem acy:mw ⟨T,H,lo,gen⟩ [.tmp t]=nS T t (T t):=by
 simp only[mw,pY,nS]
 cases hT:T t with
 | lsl g e=>simp only[hT]
 | lsr b g =>
  cases hb:T b with
  | lsl g' e =>
   simp only[hb,zB]
   cases Nat.beq g g' with
   | false=>simp only[anZ,jy,hT];rfl
   | true=>simp only[cond_true,hb]
  | _=>simp only[hb,zB,jy,hT];rfl
 | _=>simp only[jy,hT];rfl
theorem Sg{b g:Nat} : nS T t (.lsr b g)=zB (T b) g:=rfl
theorem Sb{g g' : Nat}{e:List (List AV)} : zB (.lsl g e) g'=cond (Nat.beq g' g) (cond (js e) (some (.slice e true)) none) none:=rfl
theorem Xh{a sz:Nat}{agg:Bool} : mw ⟨T,H,lo,gen⟩ [.cell a agg sz]=jy ⟨T,H,lo,gen⟩ (.cell a agg sz):=rfl
theorem acx:mw ⟨T,H,lo,gen⟩ []=some (.tuple []):=rfl
theorem acz{r1 r2:hJ}{rs:List hJ} : mw ⟨T,H,lo,gen⟩ (r1 :: r2 :: rs)=(lj ⟨T,H,lo,gen⟩ (r1 :: r2 :: rs)).map .tuple:=rfl
theorem acC:lj ⟨T,H,lo,gen⟩ []=some []:=rfl
theorem acD{r:hJ}{rs:List hJ} : lj ⟨T,H,lo,gen⟩ (r :: rs)=Yx (jy ⟨T,H,lo,gen⟩ r) (lj ⟨T,H,lo,gen⟩ rs):=rfl
theorem WT{v:AV}{l:List AV} : Yx (some v) (some l)=some (v.bU :: l):=rfl
theorem acE:jy ⟨T,H,lo,gen⟩ (.tmp t)=cond (aH (T t)) (some (T t)) none:=rfl
theorem acB{a sz:Nat}{agg:Bool} : jy ⟨T,H,lo,gen⟩ (.cell a agg sz)=LJ (T a) H agg sz:=by
 simp only[jy,LJ]
 cases T a with
 | ref loc off =>
  cases off with
  | zero=>cases hl:H[loc]? with
   | none=>simp only[hl,zQ]
   | some o=>cases o<;>simp only[hl,zQ]
  | succ n=>rfl
 | _=>rfl
theorem Xi{g sz:Nat}{cs:List AV}{agg:Bool} : LJ (.lbox g cs) H agg sz=ab false agg sz 0 cs:=rfl
theorem Xj{loc sz:Nat}{agg:Bool} : LJ (.ref loc 0) H agg sz=zQ H[loc]? agg sz:=rfl
theorem acA{ty:TypeId}{cs:List AV}{sz:Nat}{agg:Bool} : zQ (some (.box ty cs)) agg sz=ab false agg sz 0 cs:=rfl
theorem Xr{b:Bool} : nS T t (AV.bool b)=some (AV.bool b):=rfl
theorem acN{k:IntKind}{n:Int} : nS T t (AV.int k n)=some (AV.int k n):=rfl
theorem acQ{l:List UInt8} : nS T t (AV.str l)=some (AV.str l):=rfl
theorem acM:nS T t AV.any=some AV.any:=rfl
theorem NG:nS T t AV.dQ=some AV.dQ:=rfl
theorem NF:nS T t AV.dF=some AV.dF:=rfl
theorem Xt{kz:Nat}{ka va:Bool}{es:List (List AV)} : nS T t (AV.fJ kz ka va es)=some (AV.fJ kz ka va es):=rfl
theorem KE:nS T t AV.cW=some AV.cW:=rfl
theorem HL:nS T t AV.cx=some AV.cx:=rfl
theorem Sr{e:List (List AV)}{own:Bool} : nS T t (AV.slice e own)=some (AV.slice e own):=rfl
theorem Xs{cs:List AV} : nS T t (AV.eptr cs)=some (AV.eptr cs):=rfl
theorem acP{loc off:Nat} : nS T t (AV.ref loc off)=some (AV.ref loc off):=rfl
theorem Xw{loc off n z:Nat} : nS T t (AV.sref loc off n z)=some (AV.sref loc off n z):=rfl
theorem Xv{loc:Nat} : nS T t (AV.mref loc)=some (AV.mref loc):=rfl
theorem acO{g:Nat}{e:List (List AV)} : nS T t (AV.lsl g e)=cond (js e) (some (.slice e true)) none:=rfl
theorem Xu{fn:Fn}{fs cs:List AV} : nS T t (AV.func fn fs cs)=some (AV.func fn fs cs):=rfl
theorem Sq{u:TypeId}{v:AV} : nS T t (AV.iface u v)=some (AV.iface u v):=rfl
theorem acL{cs:List AV} : nS T t (AV.agg cs)=some (AV.agg cs):=rfl
theorem Ss{vs:List AV} : nS T t (AV.tuple vs)=some (AV.tuple vs):=rfl
end
def ZA(A:AP)(sz bytes:Nat)(x y:AV)(t:Nat)(os:List aO)(T:aU)(H:ai)(lo gen:Nat)(K:AS->Prop):Prop :=
 bS (jo ⟨T,H,lo,gen⟩ sz bytes x y) fun r=>match r.2 with
  | some s'=>WO A false os (s'.cy t r.1) K
  | none=>WO A false os ⟨T.put t r.1,H,lo,gen⟩ K
def V6(k:AV)(kz:Nat)(ka:Bool):Option (List AV):=k.drop.cells.bind fun kc=>cond (Nat.beq kc.length kz&&ka==k.drop.isAgg) (some kc) none
def BN(H:ai)(ok:Bool)(kz:Nat)(ka va:Bool)(ks:List CK)(zero:List AV)(m k:AV):Option AV :=
 (V6 k kz ka).bind fun kc=>match m with
  | .dF=>some (zy ok va zero false)
  | .ny mi mh mF es=>cond (Nat.beq kz mi&&ka==mh&&va==mF&&sR es&&V2 ks kc) ((fg ks kc es).map (o9 ok va zero kz es)) none
  | .fJ mi mh mF es=>cond (Nat.beq kz mi&&ka==mh&&va==mF) ((fg ks kc es).map (o9 ok va zero kz es)) none
  | .mref l=>match H[l]? with
   | some (.map mi mh mF es)=>cond (Nat.beq kz mi&&ka==mh&&va==mF) ((fg ks kc es).map (o9 ok va zero kz es)) none
   | some (.fJ mi mh mF es)=>cond (Nat.beq kz mi&&ka==mh&&va==mF) ((fg ks kc es).map (o9 ok va zero kz es)) none
   | _=>none
  | _=>none
section
variable {A:AP}{T:aU}{H:ai}{lo gen:Nat}{K:AS->Prop}{d:Bool}{os:List aO}{t:Nat}
theorem nJ{op:gA}{x:Option (AV × Option AS)}(h:aA A.aZ (aE A) ⟨T,H,lo,gen⟩ op=x):WO A false (⟨some t,none,op⟩ :: os) ⟨T,H,lo,gen⟩ K=bS x fun r=>match r.2 with
  | some s'=>WO A false os (s'.cy t r.1) K
  | none=>WO A false os ⟨T.put t r.1,H,lo,gen⟩ K:=by
 rw[gM]
 simp only[bj,h]
 cases x with
 | none=>simp[bS]
 | some r =>
  obtain⟨z,s'⟩:=r
  cases s' with
  | none=>simp only[an8,aoj,anZ,aJ];rfl
  | some s'=>simp only[an8,anZ,aJ];rfl
theorem ab9{sz bytes:Nat}{x y:aC} : WO A false (⟨some t,none,.appendO sz bytes x y⟩ :: os) ⟨T,H,lo,gen⟩ K=ZA A sz bytes (x.addr A.aZ T) (y.eval A.aZ T) t os T H lo gen K:=nJ rfl
theorem KR{sz bytes:Nat}{x y v:AV}(h:zE x y=some v):ZA A sz bytes x y t os T H lo gen K=WO A false os ⟨T.put t v,H,lo,gen⟩ K:=by
 simp only[ZA,jo,h,aJ]
theorem Iw{sz bytes:Nat}{r:List AV}{f:List (List AV)}{own:Bool}(h1:dE sz bytes [] (r :: f)=true)(h2:fZ (r :: f)=true) :
  ZA A sz bytes .af (.slice (r :: f) own) t os T H lo gen K=WO A false os ⟨T.put t (.sref H.length 0 (f.length+1) sz),H++[.box dv (r :: f).flatten],cond (Nat.blt H.length lo) H.length lo,gen⟩ K:=by
 simp only[ZA,jo,zE,jH,bu,an8,List.isEmpty_cons,aoa,aon,h1,h2,cond_true,aJ,an0]
 rfl
theorem Ts{sz bytes n l:Nat}{ty:TypeId}{cs:List AV}{f:List (List AV)}{own:Bool}(hl:H[l]?=some (.box ty cs))(hc:cs.length=n*sz)(h1:(n+f.length)*bytes<=70368744177664)(h2:n+f.length<=70368744177664)
  (h3:iB sz f=true) (h4:fZ f=true) :
  ZA A sz bytes (.sref l 0 n sz) (.slice f own) t os T H lo gen K=WO A false os ⟨T.put t (.sref H.length 0 (n+f.length) sz),H.set l .dead++[.box dv (cs++f.flatten)],cond (Nat.blt l lo) l lo,gen⟩ K:=by
 have e1:Nat.beq cs.length (n*sz)=true:=by rw[hc];exact aqh _
 simp only[ZA,jo,zE,jH,bu,an8,hl,e1,h3,h4,aqh,Bool.and_true,ao1 h1,ao1 h2,cond_true,aJ]
 rfl
theorem Xa{sz bytes:Nat}{zero:List AV}{n:aC} : WO A false (⟨some t,none,.zD sz bytes zero n⟩ :: os) ⟨T,H,lo,gen⟩ K =
  bS ((asNat (n.eval A.aZ T)).bind fun k=>cond (Nat.ble (k*bytes) 70368744177664&&Nat.ble k 70368744177664) (some k) none) fun k=>WO A false os ⟨T.put t (.sref H.length 0 k sz),H++[.box dv (List.replicate k zero).flatten],cond (Nat.blt H.length lo) H.length lo,gen⟩ K:=by
 rw[nJ rfl]
 simp only[aA,rJ]
 cases asNat (n.eval A.aZ T) with
 | none=>simp[bS]
 | some k =>
  simp only[an8]
  cases (Nat.ble (k*bytes) 70368744177664&&Nat.ble k 70368744177664) with
  | false=>simp[bS]
  | true=>simp only[cond_true,aJ];rfl
theorem Xb{kz:Nat}{ka va:Bool} : WO A false (⟨some t,none,.sF kz ka va⟩ :: os) ⟨T,H,lo,gen⟩ K=WO A false os ⟨T.put t (.mref H.length),H++[.map kz ka va []],cond (Nat.blt H.length lo) H.length lo,gen⟩ K:=by
 rw[nJ rfl];simp only[aA,aJ];rfl
theorem acq{ok:Bool}{kz:Nat}{ka va:Bool}{ks:List CK}{zero:List AV}{m k:aC} : WO A d (⟨some t,none,.look ok kz ka va ks zero m k⟩ :: os) ⟨T,H,lo,gen⟩ K=dT A d (BN H ok kz ka va ks zero (m.addr A.aZ T) (k.eval A.aZ T)) t os T H lo gen K:=by
 refine gn ?_
 simp only[aA,vN,BN,V6]
 cases (k.eval A.aZ T).drop.cells with
 | none=>rfl
 | some kc =>
  simp only[an8]
  cases (Nat.beq kc.length kz&&ka==(k.eval A.aZ T).drop.isAgg) with
  | false=>rfl
  | true =>
   simp only[cond_true,an8]
   cases m.addr A.aZ T with
   | dF=>rfl
   | ny mi mh mF es =>
    simp only[]
    cases (Nat.beq kz mi&&ka==mh&&va==mF&&sR es&&V2 ks kc) with
    | false=>rfl
    | true=>simp only[cond_true,apV];rfl
   | fJ mi mh mF es =>
    simp only[u6]
    cases (Nat.beq kz mi&&ka==mh&&va==mF) with
    | false=>rfl
    | true=>simp only[cond_true,an8,apV];rfl
   | mref l =>
    simp only[u6]
    cases hl:H[l]? with
    | none=>rfl
    | some o =>
     cases o with
     | map mi mh mF es =>
      simp only[hl]
      cases (Nat.beq kz mi&&ka==mh&&va==mF) with
      | false=>rfl
      | true=>simp only[cond_true,an8,apV];rfl
     | fJ mi mh mF es =>
      simp only[hl]
      cases (Nat.beq kz mi&&ka==mh&&va==mF) with
      | false=>rfl
      | true=>simp only[cond_true,an8,apV];rfl
     | _=>simp only[hl];rfl
   | _=>rfl
theorem acv{kz vz:Nat}{ka va:Bool}{ks:List CK}{m k v:aC} : WO A false (⟨none,none,.mq kz ka va vz ks m k v⟩ :: os) ⟨T,H,lo,gen⟩ K =
  bS (qO ⟨T,H,lo,gen⟩ kz ka va vz ks (m.addr A.aZ T) (k.eval A.aZ T) (v.eval A.aZ T)) fun s'=>WO A false os (s'.bI v) K:=by
 rw[gM]
 simp only[bj,aA]
 cases qO ⟨T,H,lo,gen⟩ kz ka va vz ks (m.addr A.aZ T) (k.eval A.aZ T) (v.eval A.aZ T) with
 | none=>simp[bS]
 | some s'=>simp only[aoi,an8,anZ,aJ];rfl
end
end
end Go.Abs
namespace Go.Abs
open Go
section
abbrev D1(n:Int):Prop:=-9223372036854775808<=n/\n<=9223372036854775807
theorem wrap64{n:Int}(h:-9223372036854775808<=n/\n<=9223372036854775807):IntKind.i64.wrap n=n:=by
 exact IntWalk.i64_in _ h
theorem S9{n:Int}(h:0<=n/\n<=255):IntKind.u8.wrap n=n:=IntWalk.u8_in _ h
theorem vA{k:IntKind}{n:Nat} : asNat (.int k n)=some n:=by simp[asNat]
theorem L9{k:IntKind}{n:Nat} : asNat (.int k (no_index (@OfNat.ofNat Int n instOfNat)))=some n:=by
 show asNat (.int k ((n:Nat):Int))=some n
 exact vA
theorem L8{k:IntKind}{a n:Nat} : asNat (.int k ((a:Int)+no_index (@OfNat.ofNat Int n instOfNat)))=some (a+n):=by
 show asNat (.int k ((a:Int)+((n:Nat):Int)))=some (a+n)
 rw[<- Int.natCast_add];exact vA
theorem bO{k:IntKind}{n:Int}(h:0<=n):asNat (.int k n)=some n.toNat:=by simp[asNat,h]
theorem KT{a b:Nat} : Nat.ble a b=decide (a<=b):=by
 cases h:Nat.ble a b with
 | true=>simp[Nat.le_of_ble_eq_true h]
 | false=>simp[show ¬ a<=b from fun e=>by rw[ao1 e] at h;cases h]
theorem Ty{a b:Nat} : Nat.blt a b=decide (a<b):=by
 show Nat.ble (a+1) b=_
 rw[KT];rfl
theorem dle{a b:Nat}(h:a<=b):decide (a<=b)=true:=by simp[h]
theorem dlt{a b:Nat}(h:a<b):decide (a<b)=true:=by simp[h]
theorem dZ{a b:Int}(h:a<b):decide (a<b)=true:=by simp[h]
theorem dY{a b:Int}(h:b<=a):decide (a<b)=false:=by simp;omega
theorem dX{a b:Int}(h:a<=b):decide (a<=b)=true:=by simp[h]
theorem dW{a b:Int}(h:b<a):decide (a<=b)=false:=by simp;omega
theorem dV{a b:Int}(h:a=b):(a==b)=true:=by simp[h]
theorem dU{a b:Int}(h:a≠b):(a==b)=false:=by simp[h]
theorem fc{a b:Int}(h:a≠b):(a != b)=true:=by simp[h]
theorem fa{a b:Int}(h:a=b):(a != b)=false:=by simp[h]
theorem abR{a b:Nat}(h:a≠b):Nat.beq a b=false:=by
 cases hb:Nat.beq a b with
 | false=>rfl
 | true=>exact absurd (aph hb) h
theorem abS{a b:Nat}(h:a=b):Nat.beq a b=true:=by rw[h];exact aqh b
theorem ZL{n m:Nat}(h:n<=m):Nat.ble n m=true:=by simpa using h
theorem KS{a b:Int}{p:Prop}{_:Decidable p}(h:a=b↔p):(a==b)=decide p:=by
 by_cases hp:p
 ·rw[h.2 hp];simp[hp]
 ·simp[hp];exact fun e=>hp (h.1 e)
theorem ZJ:(true==false)=false:=rfl
theorem ZI:(false==true)=false:=rfl
def ints(l:List Int):List (List AV):=l.map fun n=>[.int .i64 n]
def strs(l:List (List UInt8)):List (List AV):=l.map fun n=>[.str n]
theorem nB{l:List Int} : (ints l).length=l.length:=by simp[ints]
theorem cg{l:List (List UInt8)} : (strs l).length=l.length:=by simp[strs]
theorem ints_at{l:List Int}{i:Nat}{n:Int}(h:l[i]?=some n):(ints l)[i]?=some [.int .i64 n]:=by simp[ints,h]
theorem lp{l:List (List UInt8)}{i:Nat}{n:List UInt8}(h:l[i]?=some n):(strs l)[i]?=some [.str n]:=by simp[strs,h]
theorem P2{l:List Int}{i:Nat} : (ints l)[i]?=l[i]?.map fun n=>[.int .i64 n]:=by simp[ints]
theorem nW:∀ {l:List (List UInt8)} {n:Nat},n=l.length->chunks 1 n (l.map .str)=strs l
 | [],0,_=>rfl
 | a :: l,n+1,h=>by
  simp only[aoc,chunks,strs,apj,aoQ,apF,ape]
  rw[nW (by simpa using h)];rfl
theorem NL{l:List (List UInt8)}{n:Nat}(h:l.length<=n):(strs l).take n=strs l:=aoJ (by rw[cg];exact h)
theorem vW{l:List Int} : wC 1 (ints l):=⟨fun r hr=>by simp only[ints,aoD] at hr;obtain⟨n,_,rfl⟩:=hr;rfl,wa fun r hr=>by simp only[ints,aoD] at hr;obtain⟨n,_,rfl⟩:=hr;rfl⟩
theorem wv{l:List (List UInt8)} : wC 1 (strs l):=⟨fun r hr=>by simp only[strs,aoD] at hr;obtain⟨n,_,rfl⟩:=hr;rfl,wa fun r hr=>by simp only[strs,aoD] at hr;obtain⟨n,_,rfl⟩:=hr;rfl⟩
theorem jT:strs []=[]:=rfl
theorem UA{l:List Int} : nb (ints l)=true:=vW.2
theorem XR{l:List (List UInt8)} : nb (strs l)=true:=wv.2
theorem GM{l m:List Int} : ints l++ints m=ints (l++m):=by simp[ints]
theorem HV{l m:List (List UInt8)} : strs l++strs m=strs (l++m):=by simp[strs]
theorem qw{l m:List Int}{o:Bool}(h:l.length+m.length<=1099511627776):aF false 1 8 (.slice (ints l) true) (.slice (ints m) o)=some (.slice (ints (l++m)) true):=by
 rw[vy vW vW (by rw[nB,nB];omega) (by rw[nB,nB];omega),GM]
theorem Tu{l:List Int}{n:Int}{o:Bool}(h:l.length<=1099511627775):aF false 1 8 (.slice (ints l) true) (.slice [[.int .i64 n]] o)=some (.slice (ints (l++[n])) true):=qw (m:=[n]) (by simp;omega)
theorem Ot{m:List Int}{n:Int}{o:Bool}(h:m.length<=1099511627775):aF false 1 8 (.slice [[.int .i64 n]] true) (.slice (ints m) o)=some (.slice (ints (n :: m)) true):=qw (l:=[n]) (m:=m) (by simp;omega)
theorem Ou{n:Int}{o:Bool} : aF false 1 8 (.slice [] true) (.slice [[.int .i64 n]] o)=some (.slice (ints [n]) true):=qw (l:=[]) (m:=[n]) (by simp)
theorem L6{m:List Int}{o:Bool}(h:m.length<=1099511627776):aF false 1 8 (.slice [] true) (.slice (ints m) o)=some (.slice (ints m) true):=qw (l:=[]) (by simpa using h)
theorem cD{l m:List (List UInt8)}{o:Bool}(h:l.length+m.length<=1099511627776):aF false 1 16 (.slice (strs l) true) (.slice (strs m) o)=some (.slice (strs (l++m)) true):=by
 rw[vy wv wv (by rw[cg,cg];omega) (by rw[cg,cg];omega),HV]
theorem fV{l:List (List UInt8)}{n:List UInt8}{o:Bool}(h:l.length<=1099511627775):aF false 1 16 (.slice (strs l) true) (.slice [[.str n]] o)=some (.slice (strs (l++[n])) true):=cD (m:=[n]) (by simp;omega)
theorem Ov{n:List UInt8}{o:Bool} : aF false 1 16 (.slice [] true) (.slice [[.str n]] o)=some (.slice (strs [n]) true):=cD (l:=[]) (m:=[n]) (by simp)
theorem aa7{H l m:ai} : H++l++m=H++(l++m):=apd ..
theorem aa8{H l:ai} : List.length (H++l)=H.length+l.length:=aod
theorem PS{H l:ai}{k:Nat} : (H++l)[H.length+k]?=l[k]?:=by rw[aou (by omega)];simp
theorem Un{H l:ai} : (H++l)[H.length]?=l[0]?:=PS (k:=0)
theorem PT{H l:ai}{k:Nat}{x:cJ} : (H++l).set (H.length+k) x=H++l.set k x:=by rw[ap6 _ _ (by omega)];simp
theorem Uo{H l:ai}{x:cJ} : (H++l).set H.length x=H++l.set 0 x:=PT (k:=0)
theorem Up{H l:ai} : (H++l).take H.length=H:=by simp
theorem ae3{n k:Nat} : decide (n+k<n)=false:=by simp
theorem aa9{n:Nat} : decide (n<n)=false:=by simp
def IG(A:AP)(ty:TypeId)(v:AV)(t:Nat)(os:List aO)(T:aU)(H:ai)(lo gen:Nat)(K:AS->Prop):Prop :=
 bS (v.drop.cells.bind fun cs=>cond (cs.all (bD H.length)) (some (cs.map AV.drop)) none) fun cs=>WO A false os ⟨T.put t (.ref H.length 0),H++[.box ty cs],cond (Nat.blt H.length lo) H.length lo,gen⟩ K
section
variable {A:AP}{T:aU}{H:ai}{lo gen:Nat}{K:AS->Prop}{d:Bool}{os:List aO}{t:Nat}
theorem acb{ty:TypeId}{x:aC} : WO A false (⟨some t,none,.box ty x⟩ :: os) ⟨T,H,lo,gen⟩ K=IG A ty (x.eval A.aZ T) t os T H lo gen K:=by
 rw[nJ rfl]
 simp only[aA,IG]
 cases (x.eval A.aZ T).drop.cells with
 | none=>simp[bS]
 | some cs =>
  simp only[an8]
  cases cs.all (bD H.length) with
  | false=>simp[bS]
  | true=>simp only[cond_true,aJ];rfl
theorem ZM{ty:TypeId}{cs:List AV} : IG A ty (.agg cs) t os T H lo gen K=bS (cond (cs.all (bD H.length)) (some (cs.map AV.drop)) none) fun cs=>WO A false os ⟨T.put t (.ref H.length 0),H++[.box ty cs],cond (Nat.blt H.length lo) H.length lo,gen⟩ K:=rfl
theorem ZN{ty:TypeId}{k:IntKind}{n:Int} : IG A ty (.int k n) t os T H lo gen K=WO A false os ⟨T.put t (.ref H.length 0),H++[.box ty [.int k n]],cond (Nat.blt H.length lo) H.length lo,gen⟩ K:=by
 simp only[IG,AV.drop,AV.cells,an8];exact aJ
end
theorem aaD{n:Nat}{k:IntKind}{m:Int} : bD n (.int k m)=true:=rfl
theorem Ug{n:Nat}{b:Bool} : bD n (.bool b)=true:=rfl
theorem aaG{n:Nat}{s:List UInt8} : bD n (.str s)=true:=rfl
theorem PB{n:Nat}{e:List (List AV)}{o:Bool} : bD n (.slice e o)=true:=rfl
theorem Uh{n l o k z:Nat} : bD n (.sref l o k z)=Nat.ble l n:=rfl
theorem aaF{n l o:Nat} : bD n (.ref l o)=Nat.ble l n:=rfl
theorem aaE{n:Nat} : bD n .dQ=true:=rfl
def ug(A:AP)(d:Bool)(v:AV)(w:Bool)(p:Bool)(os:List aO)(T:aU)(H:ai)(lo gen:Nat)(K:AS->Prop):Prop :=
 bS (match v with|.bool b=>some (b==w)|.tuple []=>some false|_=>none) fun b=>(b=true->p=true)/\WO A d os ⟨T,H,lo,gen⟩ K
def KU(A:AP)(v:AV)(t:Nat)(os:List aO)(T:aU)(H:ai)(lo gen:Nat)(K:AS->Prop):Prop :=
 bS v.drop.cells fun cs=>WO A false os ⟨T.put t (.lbox gen (cs.map AV.drop)),H,lo,gen+1⟩ K
def Cn(A:AP)(d:Bool)(r:Option (AV × Option gS))(t:Nat)(os:List aO)(T:aU)(H:ai)(lo gen:Nat)(K:AS->Prop):Prop :=
 bS (r.bind fun r=>match r.2 with
  | none=>cond (d&&(bB r.1).isSome) none (some r.1)
  | some _=>none) fun v=>WO A d os ⟨T.put t v,H,lo,gen⟩ K
section
variable {A:AP}{T:aU}{H:ai}{lo gen:Nat}{K:AS->Prop}{d:Bool}{os:List aO}{t:Nat}
theorem afS{c:N0}{x:aC} : WO A d (⟨none,none,.Af c x⟩ :: os) ⟨T,H,lo,gen⟩ K=(gC c (x.addr A.aZ T)=true/\WO A d os ⟨T,H,lo,gen⟩ K):=by
 rw[gM]
 simp only[bj,aA]
 refine propext ?_
 cases gC c (x.addr A.aZ T) with
 | false=>simp[bS]
 | true=>simp[bS,bB,AS.bW]
theorem acg{g:Nat}{w:Bool}{c:N0}{x:aC} : WO A d (⟨none,some (g,w),.Af c x⟩ :: os) ⟨T,H,lo,gen⟩ K=ug A d (T g) w (gC c (x.addr A.aZ T)) os T H lo gen K:=by
 rw[gM]
 simp only[ug]
 unfold bj
 simp only[aA]
 cases hT:T g with
 | bool b =>
  cases hb:(b==w) with
  | true =>
   refine propext ?_
   cases gC c (x.addr A.aZ T) with
   | false=>simp[hb,bS]
   | true=>simp[hb,bS,bB,AS.bW]
  | false=>simp[hb,bS,AS.bW]
 | tuple l =>
  cases l with
  | nil=>simp[bS,AS.bW]
  | cons a l=>simp[bS]
 | _=>simp[bS]
theorem afU{p:Bool} : ug A d (.bool true) true p os T H lo gen K=(p=true/\WO A d os ⟨T,H,lo,gen⟩ K):=by simp[ug,aJ]
theorem afQ{p:Bool} : ug A d (.bool false) false p os T H lo gen K=(p=true/\WO A d os ⟨T,H,lo,gen⟩ K):=by simp[ug,aJ]
theorem afT{p:Bool} : ug A d (.bool true) false p os T H lo gen K=WO A d os ⟨T,H,lo,gen⟩ K:=by simp[ug,aJ]
theorem afR{p:Bool} : ug A d (.bool false) true p os T H lo gen K=WO A d os ⟨T,H,lo,gen⟩ K:=by simp[ug,aJ]
theorem afV{p w:Bool} : ug A d (.tuple []) w p os T H lo gen K=WO A d os ⟨T,H,lo,gen⟩ K:=by simp[ug,aJ]
theorem acf{b w:Bool} : ug A d (.bool b) w true os T H lo gen K=WO A d os ⟨T,H,lo,gen⟩ K:=by simp[ug,aJ]
theorem acd{x:aC} : WO A false (⟨some t,none,.boxL x⟩ :: os) ⟨T,H,lo,gen⟩ K=KU A (x.eval A.aZ T) t os T H lo gen K:=by
 rw[nJ rfl]
 simp only[aA,KU]
 cases (x.eval A.aZ T).drop.cells with
 | none=>simp[bS]
 | some cs=>simp only[aoi,aJ];rfl
theorem ZK{cs:List AV} : KU A (.agg cs) t os T H lo gen K=WO A false os ⟨T.put t (.lbox gen (cs.map AV.drop)),H,lo,gen+1⟩ K:=by
 simp only[KU,AV.drop,AV.cells];exact aJ
theorem WQ{f:FuncId}{args:List aC} : WO A d (⟨some t,none,.jk (.fn f) args⟩ :: os) ⟨T,H,lo,gen⟩ K=(ca A.aZ T args=true/\Cn A d (aE A f (cZ A.aZ T args) H) t os T H lo gen K):=by
 rw[gM]
 simp only[bj,aA,aC.eval,oL,qx,Cn,ao0,apl]
 refine propext ?_
 cases ca A.aZ T args with
 | false=>simp[bS]
 | true =>
  simp only[cond_true,aqu]
  cases aE A f (cZ A.aZ T args) H with
  | none=>simp[bS]
  | some r =>
   obtain⟨v,c⟩:=r
   cases c with
   | none=>simp only[an8];cases (d&&(bB v).isSome)<;>simp[bS,AS.bW,AS.cy]
   | some c=>simp[bS]
theorem acF{v:AV} : Cn A false (some (v,none)) t os T H lo gen K=WO A false os ⟨T.put t v,H,lo,gen⟩ K:=by
 simp[Cn,aJ]
theorem Xc{sz:Nat}{z:List (List AV)}{ps:List (Nat × aC)} : WO A false (⟨some t,none,.mb sz z ps⟩ :: os) ⟨T,H,lo,gen⟩ K =
  bS ((dp sz z (cu A.aZ T ps)).bind fun E=>cond (fZ E) (some E) none) fun E=>WO A false os ⟨T.put t (.sref H.length 0 E.length sz),H++[.box dv E.flatten],cond (Nat.blt H.length lo) H.length lo,gen⟩ K:=by
 rw[nJ rfl]
 simp only[aA,vI]
 cases dp sz z (cu A.aZ T ps) with
 | none=>simp[bS]
 | some E =>
  simp only[an8]
  cases fZ E with
  | false=>simp[bS]
  | true=>simp only[cond_true,aJ];rfl
end
section
variable {b g o l n z:Nat}{e:List (List AV)}{own:Bool}{cs:List AV}{s:List UInt8}
theorem adV{b' : Nat} : gC (.frame b) (.lref b' g o)=Nat.beq b b':=rfl
theorem ad2:gC .heap (.ref l o)=true:=rfl
theorem adZ:gC .heap (.eptr cs)=true:=rfl
theorem ad3:gC .heap (.slice e own)=true:=rfl
theorem adX:gC .heap (.sref l o n z)=true:=rfl
theorem ad0:gC .heap (.mref l)=true:=rfl
theorem ad1:gC .heap .dQ=true:=rfl
theorem adW:gC .heap .dF=true:=rfl
theorem ad4:gC .heap (.str s)=true:=rfl
theorem adY:gC .heap (.agg cs)=true:=rfl
theorem ad5:gC .Uy (.eptr cs)=true:=rfl
theorem ad6:gC .Uy (.slice e own)=true:=rfl
end
section
variable {A:AP}{T:aU}{H:ai}{lo gen:Nat}{K:AS->Prop}{os:List aO}{t:Nat}
end
def Fj(A:AP)(sz bytes i:Nat)(v y:AV)(t:Nat)(os:List aO)(T:aU)(H:ai)(lo gen:Nat)(K:AS->Prop):Prop:=match v with
 | .af=>bS ((bu sz y).bind fun f=>cond (dE sz bytes [] f) (some f) none) fun f=>WO A false os ⟨(T.put i .any).put t (.lsl gen f),H,lo,gen+1⟩ K
 | .slice e own=>bS ((bu sz y).bind fun f=>cond (e.isEmpty&&own&&dE sz bytes [] f) (some f) none) fun f=>WO A false os ⟨(T.put i .any).put t (.lsl gen f),H,lo,gen+1⟩ K
 | .lsl _ e=>bS ((bu sz y).bind fun f=>cond (dE sz bytes e f) (some (e++f)) none) fun f=>WO A false os ⟨(T.put i .any).put t (.lsl gen f),H,lo,gen+1⟩ K
 | _=>False
section
variable {A:AP}{T:aU}{H:ai}{lo gen:Nat}{K:AS->Prop}{os:List aO}{t:Nat}
theorem ab7{b:Bool}{sz bytes i:Nat}{y:aC} : WO A false (⟨some t,none,.append b true sz bytes (.tmp i) y⟩ :: os) ⟨T,H,lo,gen⟩ K=Fj A sz bytes i (T i) (y.eval A.aZ T) t os T H lo gen K:=by
 rw[gM]
 simp only[bj,aA,bf,Fj]
 cases hT:T i with
 | af =>
  simp only[cond_true]
  cases bu sz (y.eval A.aZ T) with
  | none=>simp[bS]
  | some f=>simp only[an8];cases dE sz bytes [] f<;>simp[bS,AS.bW,AS.cy]
 | lsl g e =>
  simp only[aon]
  cases bu sz (y.eval A.aZ T) with
  | none=>simp[bS]
  | some f=>simp only[an8];cases dE sz bytes e f<;>simp[bS,AS.bW,AS.cy]
 | slice e own =>
  simp only[cond_true]
  cases bu sz (y.eval A.aZ T) with
  | none=>simp[bS]
  | some f=>simp only[an8];cases (e.isEmpty&&own&&dE sz bytes [] f)<;>simp[bS,AS.bW,AS.cy]
 | _=>simp[bS]
theorem ZC{sz bytes i:Nat}{e:List (List AV)}{own:Bool} : Fj A sz bytes i .af (.slice e own) t os T H lo gen K=bS (cond (dE sz bytes [] e) (some e) none) fun f=>WO A false os ⟨(T.put i .any).put t (.lsl gen f),H,lo,gen+1⟩ K:=rfl
theorem adS{sz bytes i:Nat}{e f:List (List AV)}{o own:Bool} : Fj A sz bytes i (.slice e o) (.slice f own) t os T H lo gen K=bS (cond (e.isEmpty&&o&&dE sz bytes [] f) (some f) none) fun f=>WO A false os ⟨(T.put i .any).put t (.lsl gen f),H,lo,gen+1⟩ K:=rfl
theorem ZB{sz bytes i g:Nat}{e f:List (List AV)}{own:Bool} : Fj A sz bytes i (.lsl g e) (.slice f own) t os T H lo gen K=bS (cond (dE sz bytes e f) (some (e++f)) none) fun f=>WO A false os ⟨(T.put i .any).put t (.lsl gen f),H,lo,gen+1⟩ K:=rfl
end
section
variable {A:AP}{T:aU}{H:ai}{lo gen:Nat}{K:AS->Prop}{d:Bool}{os:List aO}{t:Nat}
theorem SI:dT A d (some AV.af) t os T H lo gen K=WO A d os ⟨T.put t AV.af,H,lo,gen⟩ K:=dc rfl
theorem RI{take obj:Bool}{i:Nat} : jB A d take obj i AV.af t os T H lo gen K=WO A d os ⟨T.put t AV.af,H,lo,gen⟩ K:=aJ
theorem Fg{s:Nat} : iY s AV.af=.af:=rfl
theorem Gx:bB AV.af=none:=rfl
theorem Kd{T:aU} : Kc T .sl .af=some (.int .i64 0):=rfl
theorem Ar{base:Nat} : AV.bd base .af=AV.plain .af:=rfl
theorem A2{base:Nat} : AV.bN base .af=AV.bd base .af:=rfl
end
def bq.pre:Nat->bq->bq
 | 0,.seq a _=>a
 | n+1,.seq a b=>.seq a (bq.pre n b)
 | _,c=>c
def bq.post:Nat->bq->bq
 | 0,.seq _ b=>b
 | n+1,.seq _ b=>bq.post n b
 | _,_=>.skip
theorem iz{A:AP}(n:Nat){c:bq}{s:AS}{Q:cq->AS->Prop}(R:AS->Prop)(h1:W A (c.pre n) s (andThen R Q))(h2:∀ s',R s'->W A (c.post n) s' Q):W A c s Q:=by
 induction n generalizing c s with
 | zero =>
  cases c with
  | seq a b=>exact Oi R h1 h2
  | _ =>
   refine vw h1 (fun e s' h=>?_)
   cases e with
   | normal =>
    have:=h2 s' h
    obtain⟨n,e,s'',h3,h4⟩:=this
    simp only[bq.post,jq,anV,anY] at h3
    obtain⟨rfl,rfl⟩:=h3
    exact h4
   | _=>exact h
 | succ n ih =>
  cases c with
  | seq a b =>
   simp only[bq.pre,Fe] at h1 ⊢
   refine vw h1 (fun e s' h=>?_)
   cases e with
   | normal=>exact ih h h2
   | _=>exact h
  | _ =>
   refine vw h1 (fun e s' h=>?_)
   cases e with
   | normal =>
    have:=h2 s' h
    obtain⟨n,e,s'',h3,h4⟩:=this
    simp only[bq.post,jq,anV,anY] at h3
    obtain⟨rfl,rfl⟩:=h3
    exact h4
   | _=>exact h
section
variable {o:Option (List (List AV))}{base:Nat}{A:AP}{T:aU}{H:ai}{lo gen:Nat}{K:AS->Prop}{d:Bool}{os:List aO}{t:Nat}
theorem Nk:Y8 AV.af=true:=rfl
theorem PA:bD base AV.af=true:=rfl
theorem Dl:AV.leaves base AV.af=true:=rfl
end
end
end Go.Abs
namespace Go.Proofs.YtbdhkgiakaegdaaGreatDoor
open Go Go.Abs Go.Proofs
def mf:=And.intro (And.intro (And.intro (And.intro (And.intro (And.intro (And.intro (And.intro (And.intro (@Zs)
 (@Yj))
 (And.intro (@adi)
 (@H5)))
 (And.intro (And.intro (@ado)
 (@agL))
 (And.intro (@adk)
 (And.intro (@Zr)
 (@adn)))))
 (And.intro (And.intro (And.intro (@agJ)
 (@H4))
 (And.intro (@adh)
 (@Yi)))
 (And.intro (And.intro (@NX)
 (@adm))
 (And.intro (@Tb)
 (And.intro (@agK)
 (@adl))))))
 (And.intro (And.intro (And.intro (And.intro (@Ta)
 (@Yl))
 (And.intro (@adj)
 (@Yk)))
 (And.intro (And.intro (@KM)
 (@NW))
 (And.intro (@aJ)
 (And.intro (@IU)
 (@FD)))))
 (And.intro (And.intro (And.intro (@WC)
 (@JP))
 (And.intro (@JO)
 (And.intro (@Option.bind_some.{0,0})
 (@Option.bind_none.{0,0}))))
 (And.intro (And.intro (@Option.map_some.{0,0})
 (@Option.map_none.{0,0}))
 (And.intro (@OE)
 (And.intro (@beq_self_eq_true.{0})
 (@Bool.and_false)))))))
 (And.intro (And.intro (And.intro (And.intro (And.intro (@Bool.false_and)
 (@Bool.true_and))
 (And.intro (@Bool.and_true)
 (@Bool.or_true)))
 (And.intro (And.intro (@Bool.true_or)
 (@Bool.or_false))
 (And.intro (@Bool.false_or)
 (And.intro (@Bool.not_true)
 (@Bool.not_false)))))
 (And.intro (And.intro (And.intro (@decide_true)
 (@decide_false))
 (And.intro (@List.map_cons.{0,0})
 (@List.map_nil.{0,0})))
 (And.intro (And.intro (@List.all_cons.{0})
 (@List.all_nil.{0}))
 (And.intro (@List.length_cons.{0})
 (And.intro (@List.length_nil.{0})
 (@List.getElem?_cons_zero.{0}))))))
 (And.intro (And.intro (And.intro (And.intro (@List.getElem?_cons_succ.{0})
 (@List.nil_append.{0}))
 (And.intro (@List.append_nil.{0})
 (@List.cons_append.{0})))
 (And.intro (And.intro (@wrap64)
 (@vA))
 (And.intro (@L9)
 (And.intro (@L8)
 (@Option.some.injEq.{0})))))
 (And.intro (And.intro (And.intro (@Prod.mk.injEq.{0,0})
 (@Nat.zero_add))
 (And.intro (@List.drop_zero.{0})
 (And.intro (@KT)
 (@Ty))))
 (And.intro (And.intro (@dle)
 (@dlt))
 (And.intro (@List.take_succ_cons.{0})
 (And.intro (@List.take_zero.{0})
 (@List.drop_succ_cons.{0}))))))))
 (And.intro (And.intro (And.intro (And.intro (And.intro (And.intro (@Int.natCast_add)
 (@Int.cast_ofNat_Int))
 (And.intro (@List.set_cons_zero.{0})
 (@List.set_cons_succ.{0})))
 (And.intro (And.intro (@Tv)
 (@qw))
 (And.intro (@Tu)
 (And.intro (@Ou)
 (@Ot)))))
 (And.intro (And.intro (And.intro (@L6)
 (@cD))
 (And.intro (@fV)
 (@Ov)))
 (And.intro (And.intro (@UA)
 (@XR))
 (And.intro (@ZJ)
 (And.intro (@abR)
 (@abS))))))
 (And.intro (And.intro (And.intro (And.intro (@nW)
 (@NL))
 (And.intro (@List.length_map.{0,0})
 (@ZI)))
 (And.intro (And.intro (@ge_iff_le.{0})
 (@gt_iff_lt.{0}))
 (And.intro (@AV.int.injEq)
 (And.intro (@AV.str.injEq)
 (@AV.bool.injEq)))))
 (And.intro (And.intro (And.intro (@AV.slice.injEq)
 (@true_and))
 (And.intro (@and_true)
 (And.intro (@and_self)
 (@Mj))))
 (And.intro (And.intro (@OQ)
 (@OU))
 (And.intro (@OP)
 (And.intro (@FU)
 (@FT)))))))
 (And.intro (And.intro (And.intro (And.intro (And.intro (@CM)
 (@AB))
 (And.intro (@I1)
 (@Mk)))
 (And.intro (And.intro (@OT)
 (@Mo))
 (And.intro (@Mp)
 (And.intro (@OR)
 (@OS)))))
 (And.intro (And.intro (And.intro (@Ml)
 (@Mn))
 (And.intro (@IZ)
 (@OO)))
 (And.intro (And.intro (@I2)
 (@CB))
 (And.intro (@FM)
 (And.intro (@FQ)
 (@FL))))))
 (And.intro (And.intro (And.intro (And.intro (@yE)
 (@yD))
 (And.intro (@xl)
 (@vG)))
 (And.intro (And.intro (@Az)
 (@CC))
 (And.intro (@FP)
 (And.intro (@CG)
 (@CI)))))
 (And.intro (And.intro (And.intro (@FN)
 (@FO))
 (And.intro (@CD)
 (And.intro (@CF)
 (@Ax))))
 (And.intro (And.intro (@FK)
 (@AA))
 (And.intro (@TV)
 (And.intro (@aah)
 (@aal)))))))))
 (And.intro (And.intro (And.intro (And.intro (And.intro (And.intro (And.intro (@aag)
 (@MF))
 (And.intro (@ME)
 (@Jj)))
 (And.intro (And.intro (@Gn)
 (@Pm))
 (And.intro (@TW)
 (And.intro (@aak)
 (@T1)))))
 (And.intro (And.intro (And.intro (@T2)
 (@aai))
 (And.intro (@aaj)
 (@TX)))
 (And.intro (And.intro (@TZ)
 (@Pk))
 (And.intro (@aaf)
 (And.intro (@Pn)
 (@Jn))))))
 (And.intro (And.intro (And.intro (And.intro (@MK)
 (@MO))
 (And.intro (@MJ)
 (@C5)))
 (And.intro (And.intro (@C4)
 (@AJ))
 (And.intro (@y5)
 (And.intro (@Gy)
 (@Jo)))))
 (And.intro (And.intro (And.intro (@MN)
 (@Js))
 (And.intro (@Jt)
 (And.intro (@ML)
 (@MM))))
 (And.intro (And.intro (@Jp)
 (@Jr))
 (And.intro (@Gw)
 (And.intro (@MI)
 (@Gz)))))))
 (And.intro (And.intro (And.intro (And.intro (And.intro (@II)
 (@Me))
 (And.intro (@Mi)
 (@Md)))
 (And.intro (And.intro (@Cy)
 (@Cx))
 (And.intro (@Au)
 (And.intro (@yp)
 (@Fz)))))
 (And.intro (And.intro (And.intro (@IK)
 (@Mh))
 (And.intro (@IP)
 (@IQ)))
 (And.intro (And.intro (@Mf)
 (@Mg))
 (And.intro (@IL)
 (And.intro (@IN)
 (@Fx))))))
 (And.intro (And.intro (And.intro (And.intro (@Mc)
 (@FB))
 (And.intro (@Kn)
 (@Nq)))
 (And.intro (And.intro (@Nv)
 (@Np))
 (And.intro (@DF)
 (And.intro (@DE)
 (@A5)))))
 (And.intro (And.intro (And.intro (@zL)
 (@HA))
 (And.intro (@Ko)
 (And.intro (@Nu)
 (@Kr))))
 (And.intro (And.intro (@Ks)
 (@Nr))
 (And.intro (@Ns)
 (And.intro (@Kp)
 (@No))))))))
 (And.intro (And.intro (And.intro (And.intro (And.intro (And.intro (@HB)
 (@Co))
 (And.intro (@Fs)
 (@Fw)))
 (And.intro (And.intro (@Fq)
 (@yo))
 (And.intro (@yn)
 (And.intro (@xj)
 (@vD)))))
 (And.intro (And.intro (And.intro (@As)
 (@Cp))
 (And.intro (@Fv)
 (@Ct)))
 (And.intro (And.intro (@Cu)
 (@Ft))
 (And.intro (@Fu)
 (And.intro (@Cq)
 (@Cs))))))
 (And.intro (And.intro (And.intro (And.intro (@Aq)
 (@Fp))
 (And.intro (@At)
 (@Du)))
 (And.intro (And.intro (@Ht)
 (@Hx))
 (And.intro (@Hs)
 (And.intro (@zK)
 (@zJ)))))
 (And.intro (And.intro (And.intro (@xC)
 (@we))
 (And.intro (@A3)
 (And.intro (@Dv)
 (@Hw))))
 (And.intro (And.intro (@Dz)
 (@DA))
 (And.intro (@Hu)
 (And.intro (@Hv)
 (@Dw)))))))
 (And.intro (And.intro (And.intro (And.intro (And.intro (@Dy)
 (@A1))
 (And.intro (@Hr)
 (@A4)))
 (And.intro (And.intro (@G4)
 (@J8))
 (And.intro (@Kb)
 (And.intro (@J7)
 (@AX)))))
 (And.intro (And.intro (And.intro (@AW)
 (@zq))
 (And.intro (@xA)
 (@Dm)))
 (And.intro (And.intro (@G5)
 (@Ka))
 (And.intro (@G9)
 (And.intro (@Ha)
 (@J9))))))
 (And.intro (And.intro (And.intro (And.intro (@J')
 (@G6))
 (And.intro (@G8)
 (@Dk)))
 (And.intro (And.intro (@J6)
 (@Dn))
 (And.intro (@Im)
 (And.intro (@LZ)
 (@L3)))))
 (And.intro (And.intro (And.intro (@LY)
 (@Cf))
 (And.intro (@Ce)
 (And.intro (@Ao)
 (@x9))))
 (And.intro (And.intro (@Fh)
 (@Io))
 (And.intro (@L2)
 (And.intro (@Is)
 (@It))))))))))
 (And.intro (And.intro (And.intro (And.intro (And.intro (And.intro (And.intro (And.intro (@L0)
 (@L1))
 (And.intro (@Ip)
 (@Ir)))
 (And.intro (And.intro (@Ff)
 (@LX))
 (And.intro (@Fi)
 (And.intro (@XB)
 (@acV)))))
 (And.intro (And.intro (And.intro (@acY)
 (@acU))
 (And.intro (@NK)
 (@NJ)))
 (And.intro (And.intro (@KH)
 (@HS))
 (And.intro (@HU)
 (And.intro (@XC)
 (@acX))))))
 (And.intro (And.intro (And.intro (And.intro (@XG)
 (@acW))
 (And.intro (@XD)
 (@XF)))
 (And.intro (And.intro (@SH)
 (@acT))
 (And.intro (@SJ)
 (And.intro (@Wh)
 (@abI)))))
 (And.intro (And.intro (And.intro (@abO)
 (@abH))
 (And.intro (@Ni)
 (And.intro (@Nh)
 (@Kf))))
 (And.intro (And.intro (@Hk)
 (@Wi))
 (And.intro (@abK)
 (And.intro (@Wm)
 (@Wn)))))))
 (And.intro (And.intro (And.intro (And.intro (And.intro (@abJ)
 (@Wj))
 (And.intro (@Wl)
 (@RH)))
 (And.intro (And.intro (@abG)
 (@RJ))
 (And.intro (@Xr)
 (And.intro (@acN)
 (@acQ)))))
 (And.intro (And.intro (And.intro (@acM)
 (@NG))
 (And.intro (@NF)
 (@KE)))
 (And.intro (And.intro (@HL)
 (@Sr))
 (And.intro (@Xs)
 (And.intro (@acP)
 (@acO))))))
 (And.intro (And.intro (And.intro (And.intro (@Xu)
 (@Sq))
 (And.intro (@acL)
 (@Ss)))
 (And.intro (And.intro (@ab5)
 (@abM))
 (And.intro (@abN)
 (And.intro (@abL)
 (@Wo)))))
 (And.intro (And.intro (And.intro (@Wp)
 (@aga))
 (And.intro (@Sd)
 (And.intro (@acu)
 (@acs))))
 (And.intro (And.intro (@W0)
 (@af4))
 (And.intro (@af1)
 (And.intro (@af3)
 (@af2))))))))
 (And.intro (And.intro (And.intro (And.intro (And.intro (And.intro (@af5)
 (@acw))
 (And.intro (@Xg)
 (@Xf)))
 (And.intro (And.intro (@R5)
 (@R4))
 (And.intro (@WJ)
 (And.intro (@BY)
 (@ai6)))))
 (And.intro (And.intro (And.intro (@W4)
 (@W9))
 (And.intro (@acr)
 (@acJ)))
 (And.intro (And.intro (@W5)
 (@W7))
 (And.intro (@aca)
 (And.intro (@W6)
 (@W3))))))
 (And.intro (And.intro (And.intro (And.intro (@R9)
 (@R8))
 (And.intro (@afL)
 (@ai9)))
 (And.intro (And.intro (@ach)
 (@Xl))
 (And.intro (@afK)
 (And.intro (@afP)
 (@afJ)))))
 (And.intro (And.intro (And.intro (@HG)
 (@afW))
 (And.intro (@afY)
 (And.intro (@afX)
 (@Ky))))
 (And.intro (And.intro (@afZ)
 (@Nz))
 (And.intro (@W2)
 (And.intro (@R')
 (@ack)))))))
 (And.intro (And.intro (And.intro (And.intro (And.intro (@af8)
 (@af6))
 (And.intro (@acK)
 (@W1)))
 (And.intro (And.intro (@Sa)
 (@Kx))
 (And.intro (@WL)
 (And.intro (@R7)
 (@Ny)))))
 (And.intro (And.intro (And.intro (@WZ)
 (@af9))
 (And.intro (@acp)
 (@acm)))
 (And.intro (And.intro (@acn)
 (@ace))
 (And.intro (@WR)
 (And.intro (@WS)
 (@WM))))))
 (And.intro (And.intro (And.intro (And.intro (@agf)
 (@acH))
 (And.intro (@acG)
 (@acI)))
 (And.intro (And.intro (@Xk)
 (@R6))
 (And.intro (@ab6)
 (And.intro (@ab')
 (@Xm)))))
 (And.intro (And.intro (And.intro (@W8)
 (@acb))
 (And.intro (@Kz)
 (And.intro (@Sc)
 (@WG))))
 (And.intro (And.intro (@WI)
 (@WH))
 (And.intro (@agj)
 (And.intro (@agh)
 (@agi)))))))))
 (And.intro (And.intro (And.intro (And.intro (And.intro (And.intro (And.intro (@WU)
 (@WW))
 (And.intro (@WY)
 (@WV)))
 (And.intro (And.intro (@WX)
 (@afO))
 (And.intro (@afM)
 (And.intro (@afN)
 (@Sh)))))
 (And.intro (And.intro (And.intro (@ai8)
 (@agb))
 (And.intro (@agd)
 (@Se)))
 (And.intro (And.intro (@Sf)
 (@Zg))
 (And.intro (@Zi)
 (And.intro (@agc)
 (@Zh))))))
 (And.intro (And.intro (And.intro (And.intro (@age)
 (@af0))
 (And.intro (@acj)
 (@acy)))
 (And.intro (And.intro (@Sg)
 (@Sb))
 (And.intro (@Xh)
 (And.intro (@acx)
 (@acz)))))
 (And.intro (And.intro (And.intro (@acC)
 (@acD))
 (And.intro (@WT)
 (And.intro (@acE)
 (@acB))))
 (And.intro (And.intro (@Xi)
 (@Xj))
 (And.intro (@Mr)
 (And.intro (@CL)
 (@T4)))))))
 (And.intro (And.intro (And.intro (And.intro (And.intro (@Jv)
 (@IT))
 (And.intro (@Ku)
 (@Cw)))
 (And.intro (And.intro (@DC)
 (@Hc))
 (And.intro (@Iv)
 (And.intro (@XI)
 (@Ws)))))
 (And.intro (And.intro (And.intro (@Xw)
 (@af7))
 (And.intro (@aco)
 (@acA)))
 (And.intro (And.intro (@Mm)
 (@Mq))
 (And.intro (@CE)
 (And.intro (@CJ)
 (@TY))))))
 (And.intro (And.intro (And.intro (And.intro (@T3)
 (@Jq))
 (And.intro (@Ju)
 (@IM)))
 (And.intro (And.intro (@IS)
 (@Kq))
 (And.intro (@Kt)
 (And.intro (@Cr)
 (@Cv)))))
 (And.intro (And.intro (And.intro (@Dx)
 (@DB))
 (And.intro (@G7)
 (And.intro (@Hb)
 (@Iq))))
 (And.intro (And.intro (@Iu)
 (@XE))
 (And.intro (@XH)
 (And.intro (@Wk)
 (@Wr))))))))
 (And.intro (And.intro (And.intro (And.intro (And.intro (And.intro (@Xt)
 (@Xv))
 (And.intro (@ai7)
 (@af')))
 (And.intro (And.intro (@ab9)
 (@Xa))
 (And.intro (@Xb)
 (And.intro (@acq)
 (@acv)))))
 (And.intro (And.intro (And.intro (@aa7)
 (@aa8))
 (And.intro (@PS)
 (@Un)))
 (And.intro (And.intro (@PT)
 (@Uo))
 (And.intro (@Up)
 (And.intro (@ae3)
 (@aa9))))))
 (And.intro (And.intro (And.intro (And.intro (@ZM)
 (@ZN))
 (And.intro (@aaD)
 (@Ug)))
 (And.intro (And.intro (@aaG)
 (@PB))
 (And.intro (@Uh)
 (And.intro (@aaF)
 (@aaE)))))
 (And.intro (And.intro (And.intro (@afS)
 (@acg))
 (And.intro (@afU)
 (And.intro (@afQ)
 (@afT))))
 (And.intro (And.intro (@afR)
 (@afV))
 (And.intro (@acf)
 (And.intro (@acd)
 (@ZK)))))))
 (And.intro (And.intro (And.intro (And.intro (And.intro (@WQ)
 (@acF))
 (And.intro (@Xc)
 (@adV)))
 (And.intro (And.intro (@ad2)
 (@adZ))
 (And.intro (@ad3)
 (And.intro (@adX)
 (@ad0)))))
 (And.intro (And.intro (And.intro (@ad1)
 (@adW))
 (And.intro (@ad4)
 (@adY)))
 (And.intro (And.intro (@ad5)
 (@ad6))
 (And.intro (@I0)
 (And.intro (@Ay)
 (@Fy))))))
 (And.intro (And.intro (And.intro (And.intro (@Hz)
 (@Pl))
 (And.intro (@ab8)
 (@ab7)))
 (And.intro (And.intro (@ZC)
 (@ZB))
 (And.intro (@SI)
 (And.intro (@RI)
 (@Fg)))))
 (And.intro (And.intro (And.intro (@Gx)
 (@Kd))
 (And.intro (@Ar)
 (And.intro (@A2)
 (@adS))))
 (And.intro (And.intro (@Nk)
 (@PA))
 (And.intro (@Dl)
 (And.intro (@Xe)
 (@Wq))))))))))
def iX:=And.intro mf (And.intro (And.intro (And.intro (And.intro (And.intro (And.intro (@cZ.eq_1)
 (And.intro (@cZ.eq_2)
 (@ca.eq_1)))
 (And.intro (And.intro (@ca.eq_2)
 (@cA.eq_1))
 (And.intro (@cA.eq_2)
 (@cu.eq_1))))
 (And.intro (And.intro (And.intro (@cu.eq_2)
 (@gr.eq_1))
 (And.intro (@gr.eq_2)
 (@aC.eval.eq_1)))
 (And.intro (And.intro (@aC.eval.eq_2)
 (@aC.eval.eq_3))
 (And.intro (@aC.eval.eq_4)
 (@AS.bW.eq_1)))))
 (And.intro (And.intro (And.intro (@AS.bW.eq_2)
 (And.intro (@cj.eq_1)
 (@cj.eq_2)))
 (And.intro (And.intro (@cj.eq_3)
 (@cj.eq_4))
 (And.intro (@cj.eq_5)
 (@cj.eq_6))))
 (And.intro (And.intro (And.intro (@cj.eq_7)
 (@cj.eq_8))
 (And.intro (@gk.eq_1)
 (@gk.eq_2)))
 (And.intro (And.intro (@gk.eq_3)
 (@cQ.eq_1))
 (And.intro (@cQ.eq_2)
 (@cQ.eq_3))))))
 (And.intro (And.intro (And.intro (And.intro (@cQ.eq_4)
 (And.intro (@cQ.eq_5)
 (@cQ.eq_6)))
 (And.intro (And.intro (@cm.eq_1)
 (@cm.eq_2))
 (And.intro (@cm.eq_3)
 (@cm.eq_4))))
 (And.intro (And.intro (And.intro (@bH.eq_1)
 (@bH.eq_2))
 (And.intro (@bH.eq_3)
 (@bH.eq_4)))
 (And.intro (And.intro (@bH.eq_5)
 (@bound.eq_1))
 (And.intro (@bound.eq_2)
 (@dj.eq_1)))))
 (And.intro (And.intro (And.intro (@dj.eq_2)
 (And.intro (@AS.bI.eq_1)
 (@AS.bI.eq_2)))
 (And.intro (And.intro (@aQ.eq_1)
 (@aQ.eq_2))
 (And.intro (@aQ.eq_3)
 (@aQ.eq_4))))
 (And.intro (And.intro (And.intro (@aQ.eq_5)
 (@bF.eq_1))
 (And.intro (@bF.eq_2)
 (@bF.eq_3)))
 (And.intro (And.intro (@bF.eq_4)
 (@bF.eq_5))
 (And.intro (@bu.eq_1)
 (@bu.eq_2)))))))
 (And.intro (And.intro (And.intro (And.intro (And.intro (@bu.eq_3)
 (And.intro (@cn.eq_1)
 (@cn.eq_2)))
 (And.intro (And.intro (@cn.eq_3)
 (@putAt.eq_1))
 (And.intro (@bj.eq_1)
 (@aA.eq_1))))
 (And.intro (And.intro (And.intro (@aA.eq_2)
 (@aA.eq_3))
 (And.intro (@aA.eq_4)
 (@aA.eq_5)))
 (And.intro (And.intro (@aA.eq_6)
 (@aA.eq_7))
 (And.intro (@aA.eq_8)
 (@aA.eq_9)))))
 (And.intro (And.intro (And.intro (@aA.eq_10)
 (And.intro (@aA.eq_11)
 (@aA.eq_12)))
 (And.intro (And.intro (@aA.eq_13)
 (@aA.eq_14))
 (And.intro (@aA.eq_15)
 (@aA.eq_16))))
 (And.intro (And.intro (And.intro (@aA.eq_17)
 (@aA.eq_18))
 (And.intro (@aA.eq_19)
 (@aA.eq_20)))
 (And.intro (And.intro (@aA.eq_21)
 (@aA.eq_22))
 (And.intro (@aA.eq_23)
 (@aA.eq_24))))))
 (And.intro (And.intro (And.intro (And.intro (@aA.eq_25)
 (And.intro (@aA.eq_26)
 (@aA.eq_27)))
 (And.intro (And.intro (@aA.eq_28)
 (@aA.eq_29))
 (And.intro (@aA.eq_30)
 (@aA.eq_31))))
 (And.intro (And.intro (And.intro (@aA.eq_32)
 (@aA.eq_33))
 (And.intro (@aA.eq_34)
 (@aA.eq_35)))
 (And.intro (And.intro (@aA.eq_36)
 (@aA.eq_37))
 (And.intro (@aA.eq_38)
 (@aA.eq_39)))))
 (And.intro (And.intro (And.intro (And.intro (@aA.eq_40)
 (@aA.eq_41))
 (And.intro (@aA.eq_42)
 (@aA.eq_43)))
 (And.intro (And.intro (@aA.eq_44)
 (@aA.eq_45))
 (And.intro (@aA.eq_46)
 (@bf.eq_1))))
 (And.intro (And.intro (And.intro (@bf.eq_2)
 (@Option.isSome.eq_1.{0}))
 (And.intro (@Option.isSome.eq_2.{0})
 (@Option.isNone.eq_1.{0})))
 (And.intro (And.intro (@Option.isNone.eq_2.{0})
 (@cond_true.{1}))
 (And.intro (@cond_false.{1})
 (@eq_self.{1}))))))))
def aV:=And.intro iX (And.intro (And.intro (And.intro (@dZ)
 (@dY))
 (And.intro (@dX)
 (@dW)))
 (And.intro (And.intro (@dV)
 (@dU))
 (And.intro (@fc)
 (@fa))))
def aY:=And.intro aV (And.intro (And.intro (@aN.eq_1)
 (@bO))
 (And.intro (@Int.toNat_natCast)
 (@Nat.add_zero)))
end Go.Proofs.YtbdhkgiakaegdaaGreatDoor
namespace Go.Abs
section
section
variable {G:Nat->List AV}{cf:dK}
theorem qa:∀ (l:List aO) (s:AS) {Q Q' : AS->Prop},mG G cf l s Q->(∀ s,Q s->Q' s)->mG G cf l s Q'
 | [],_,_,_,h,hq=>hq _ h
 | o :: r,s,Q,Q',h,hq=>by
  unfold mG at h ⊢
  cases hn:k9 o with
  | none =>
   rw[hn] at h
   obtain⟨s',h1,h2⟩:=h
   exact⟨s',h1,qa r s' h2 hq⟩
  | some t =>
   rw[hn] at h
   obtain⟨g,kz,ka,va,cur,todo,h1,h2,h3⟩:=h
   exact⟨g,kz,ka,va,cur,todo,h1,fun e=>qa r _ (h2 e) hq,fun q rest hp=>qa r _ (h3 q rest hp) hq⟩
theorem A7{nt:Nat}{ops:List aO}{pre:List (List Nat)} : ∀ (n:Nat) (L:Array Bool) (s:AS) {Q Q' : AS->Prop},L5 G cf nt ops pre n L s Q->(∀ s,Q s->Q' s)->L5 G cf nt ops pre n L s Q'
 | 0,_,_,_,_,h,hq=>⟨h.1,hq _ h.2⟩
 | n+1,L,s,Q,Q',h,hq=>by
  refine⟨fun e=>hq _ (h.1 e),fun i hi=>?_⟩
  obtain⟨o,s',h1,h2,h3⟩:=h.2 i hi
  exact⟨o,s',h1,h2,A7 n _ _ h3 hq⟩
theorem kY{P P' : AS->Prop}{Q Q' : cq->AS->Prop}(hp:∀ s,P s->P' s)(hq:∀ e s,Q e s->Q' e s):∀ e s,andThen P Q e s->andThen P' Q' e s
 | .normal,s,h=>hp s h
 | .ret,s,h=>hq _ s h
 | .exit i,s,h=>hq _ s h
theorem J5{i:Nat}{Q Q' : cq->AS->Prop}(hq:∀ e s,Q e s->Q' e s):∀ e s,leave i Q e s->leave i Q' e s:=by
 intro e s h
 cases e with
 | exit j =>
  unfold leave at h ⊢
  simp only at h ⊢
  first
   | exact hq _ _ h
   | (cases hb:Nat.beq j i<;>rw[hb] at h<;>exact hq _ _ h)
   | (split at h<;>rename_i hc<;>simp only[hc]<;>exact hq _ _ h)
 | _=>exact hq _ _ h
theorem zn{F:AS->(cq->AS->Prop)->Prop}(hF:∀ s Q Q',F s Q->(∀ e s,Q e s->Q' e s)->F s Q'):∀ (n:Nat) (s:AS) {Q Q' : cq->AS->Prop},zm F n s Q->(∀ e s,Q e s->Q' e s)->zm F n s Q'
 | 0,_,_,_,h,_=>h.elim
 | n+1,s,Q,Q',h,hq=>hF _ _ _ h (kY (fun s h=>zn hF n s h hq) hq)
theorem lS:∀ (c:bq) (s:AS) {Q Q' : cq->AS->Prop},WN G cf c s Q->(∀ e s,Q e s->Q' e s)->WN G cf c s Q'
 | .skip,_,_,_,h,hq=>hq _ _ h
 | .region false ops,s,_,_,h,hq=>qa ops s h (hq .normal)
 | .region true ops,s,_,_,h,hq=>by obtain⟨s',h1,h2⟩:=h;exact⟨s',h1,hq _ _ h2⟩
 | .seq a b,s,_,_,h,hq=>lS a s h (kY (fun s h=>lS b s h hq) hq)
 | .cond c a b,s,_,_,h,hq=>by obtain⟨t,h1,h2,h3⟩:=h;exact⟨t,h1,fun e=>lS a s (h2 e) hq,fun e=>lS b s (h3 e) hq⟩
 | .block id a,s,_,_,h,hq=>lS a s h (J5 hq)
 | .loop a,s,_,_,h,hq=>by obtain⟨n,h⟩:=h;exact⟨n,zn (fun s Q Q' h hq=>lS a s h hq) n s h hq⟩
 | .exit id,_,_,_,h,hq=>hq _ _ h
 | .ret,_,_,_,h,hq=>hq _ _ h
 | .nf nt ops pre,s,_,_,h,hq=>A7 _ _ _ h (hq .normal)
theorem Ye{a:bq}{Q:cq->AS->Prop}(I:Nat->AS->Prop)(hI:∀ k s,I k s->WN G cf a s (andThen (fun s'=>∃ k',k=k' + 1/\I k' s') Q)):∀ k s,I k s->zm (WN G cf a) (k+1) s Q:=by
 intro k
 induction k with
 | zero =>
  intro s h
  refine lS a s (hI 0 s h) (kY (fun s' h=>?_) (fun _ _ h=>h))
  obtain⟨k',h,_⟩:=h
  omega
 | succ k ih =>
  intro s h
  refine lS a s (hI (k+1) s h) (kY (fun s' h=>?_) (fun _ _ h=>h))
  obtain⟨k',e,hk⟩:=h
  obtain rfl:k=k':=by omega
  exact ih s' hk
def oF:bq->Bool
 | .region false ops=>ops.all fun o=>(k9 o).isNone
 | .region true _=>true
 | .seq a b=>oF a&&oF b
 | .cond _ a b=>oF a&&oF b
 | .block _ a=>oF a
 | .loop _=>false
 | .nf ..=>false
 | .skip=>true
 | .exit _=>true
 | .ret=>true
theorem Ad:∀ (l:List aO) (s:AS) {Q:AS->Prop},(l.all fun o=>(k9 o).isNone)=true->(∃ s',fX G cf false l s=some s'/\Q s')->mG G cf l s Q
 | [],s,Q,_,h=>by
  obtain⟨s',h1,h2⟩:=h
  simp only[fX,anV] at h1
  subst h1
  exact h2
 | o :: r,s,Q,hp,h=>by
  obtain⟨s',h1,h2⟩:=h
  simp only[aoV,an7,apT] at hp
  simp only[fX,anU] at h1
  obtain⟨s1,h0,h1⟩:=h1
  unfold mG
  rw[hp.1]
  exact⟨s1,h0,Ad r s1 hp.2 ⟨s',h1,h2⟩⟩
end
section
variable {A:AP}
theorem ow:∀ (c:bq) (s:AS) {Q:cq->AS->Prop},oF c=true->W A c s Q->WN A.aZ (aE A) c s Q
 | .skip,s,Q,_,h=>by rwa [Ol] at h
 | .region false ops,s,Q,hp,h=>by
  rw[x8] at h
  exact Ad ops s hp h
 | .region true ops,s,Q,_,h=>by
  rw[x8] at h
  exact h
 | .seq a b,s,Q,hp,h=>by
  simp only[oF,an7] at hp
  rw[Fe] at h
  exact lS a s (ow a s hp.1 h) (kY (fun s h=>ow b s hp.2 h) (fun _ _ h=>h))
 | .cond c a b,s,Q,hp,h=>by
  simp only[oF,an7] at hp
  rw[Oh] at h
  obtain⟨t,h1,h2,h3⟩:=h
  exact⟨t,h1,fun e=>ow a s hp.1 (h2 e),fun e=>ow b s hp.2 (h3 e)⟩
 | .block id a,s,Q,hp,h=>by
  rw[Cd] at h
  exact ow a s hp h
 | .loop _,_,_,hp,_=>by cases hp
 | .nf ..,_,_,hp,_=>by cases hp
 | .exit id,s,Q,_,h=>by rwa [Oj] at h
 | .ret,s,Q,_,h=>by rwa [Yq] at h
theorem adg{P:Program}(hA:mj P A){f:FuncId}{fn:Func}(Ai:P.funcs[f]?=some fn){cz locals muts:List Nat}{lI:aP}(hc:mA P cz locals muts fn=some lI){g:List AV->ai->Option (AV × Option gS)}
  (hm:lI.muts.elem 777777=false) (PC:∀ args H r c,g args H=some (r,c)->kI H c)
  (hg:∀ args H x,g args H=some x->args.length=lI.np/\WN A.aZ (aE A) lI.body { T:=gY args,H,lo:=H.length,gen:=0 } (done H.length lI.results x)):jb P A.aZ f g:=by
 refine agH hA Ai hc PC fun args H x hx=>?_
 obtain⟨h1,h2⟩:=hg args H x hx
 refine⟨h1,lS _ _ h2 fun e s h=>?_⟩
 have key:∀ s,fin H.length lI.results s=some x->finish H.length lI s=some x:=fun s h=>by
  have:=tu (fn:=lI) h
  rwa [zF hm] at this
 cases e with
 | exit i=>exact h.elim
 | normal=>exact key _ h
 | ret=>exact key _ h
end
end
end Go.Abs
namespace Go.Proofs.YtbdhkgiakaegdaaGreatDoor
open Go Go.Abs Go.Proofs
theorem RS:∀ q∈pf,∃ w i j,q=[.str w,.int .i64 i,.int .i64 j]/\lk i=(w,j):=by
 intro q hq
 simp only[pf,aoH,apN,aqJ] at hq
 rcases hq with rfl|rfl|rfl|rfl|rfl|rfl|rfl|rfl|rfl|rfl<;>exact⟨_,_,_,rfl,by decide⟩
theorem KG{n:Int}(h:∀ q∈pf,∀ w i j,q=[.str w,.int .i64 i,.int .i64 j]->i≠n):(n=9/\lk n=([110,111,116],7))\/(n=11/\lk n=([108,101,110],7))\/(n≠9/\n≠11/\lk n=([],7)):=by
 have hh:∀ w i j,[AV.str w,.int .i64 i,.int .i64 j]∈pf->i≠n:=fun w i j hm=>h _ hm _ _ _ rfl
 have h0:=hh [43] 0 5 (by simp[pf])
 have h1:=hh [45] 1 5 (by simp[pf])
 have h2:=hh [42] 2 6 (by simp[pf])
 have h3:=hh [47] 3 6 (by simp[pf])
 have h4:=hh [37] 4 6 (by simp[pf])
 have h5:=hh [60] 5 3 (by simp[pf])
 have h6:=hh [61,61] 6 3 (by simp[pf])
 have h7:=hh [97,110,100] 7 2 (by simp[pf])
 have h8:=hh [111,114] 8 1 (by simp[pf])
 have h10:=hh [106,111,105,110] 10 4 (by simp[pf])
 by_cases e9:n=9
 ·subst e9;exact .inl ⟨rfl,rfl⟩
 ·by_cases ZU:n=11
  ·subst ZU;exact .inr (.inl ⟨rfl,rfl⟩)
  ·refine .inr (.inr ⟨e9,ZU,?_⟩)
   rw[lk,if_pos (by omega)]
theorem Yf{g:Nat}{kz:Nat}{ka va:Bool}{cur:List AV}{todo:List (List AV)}{T:aU}{H:ai}{lo gen:Nat}{t d:Nat}{r:List aO}{c:bq}{Q:cq->AS->Prop}(h:T t=.iter g kz ka va cur todo)
  (hr:(r.all fun o=>(k9 o).isNone)=true) (hc:oF c=true)
  (h1:todo=[]->W A0 (.region false r) ⟨T.put d (.tuple [.bool false]),H,lo,gen⟩ (andThen (fun s=>W A0 c s Q) Q))
  (h2:∀ q rest,todo.Perm (q :: rest)->W A0 (.region false r) ⟨(T.put t (.iter g kz ka va q rest)).put d (.tuple [.bool true,oB ka (q.take kz),oB va (q.drop kz)]),H,lo,gen⟩ (andThen (fun s=>W A0 c s Q) Q)) :
  WN A0.aZ (aE A0) (.seq (.region false (⟨some d,none,.next (.tmp t)⟩ :: r)) c) ⟨T,H,lo,gen⟩ Q:=by
 have key:∀ s,W A0 (.region false r) s (andThen (fun s=>W A0 c s Q) Q)->mG A0.aZ (aE A0) r s (fun s'=>WN A0.aZ (aE A0) c s' Q):=fun s h=>by
  rw[<- Fe] at h
  exact ow (.seq (.region false r) c) s (by simp only[oF,hr,hc,ao9]) h
 exact⟨g,kz,ka,va,cur,todo,h,fun e=>key _ (h1 e),fun q rest hp=>key _ (h2 q rest hp)⟩
def zh:bq:=.seq (.region false [⟨some 20,none,.sF 1 false false⟩,⟨none,none,.mq 1 false false 1 [CK.i] (.tmp 20) (.bC (.int .i64 9)) (.bC (.str [110,111,116]))⟩,⟨none,none,.mq 1 false false 1 [CK.i] (.tmp 20) (.bC (.int .i64 11)) (.bC (.str [108,101,110]))⟩,⟨some 21,none,.mov false false (.tmp 20)⟩,⟨some 22,none,.mov false false (.tmp 0)⟩,⟨some 23,none,.look false 1 false false [CK.i] [.str []] (.tmp 21) (.tmp 22)⟩,⟨some 2,none,.mov true false (.tmp 23)⟩,⟨some 3,none,.mov true false (.bC (.int .i64 7))⟩]) .ret
theorem aci{g:Nat}{kz:Nat}{ka va:Bool}{cur:List AV}{todo:List (List AV)}{T:aU}{H:ai}{lo gen:Nat}{t u:Nat}{os:List aO}{K:AS->Prop}(h:T u=.iter g kz ka va cur todo)(hk:(Nat.ble kz cur.length&&!cur.isEmpty)=true) :
  WO A0 false (⟨some t,none,.Tc (.tmp u)⟩ :: os) ⟨T,H,lo,gen⟩ K=dT A0 false (some (.tuple [oB ka (cur.take kz),oB va (cur.drop kz)])) t os T H lo gen K:=gn (by simp only[aA,h,hk,cond_true,aoi])
theorem tR{T:aU}{H:ai}{gen:Nat}{n:Int}{x:List UInt8}(q0:T 0=.int .i64 n)
  (hx:(fg [.i] [.int .i64 n] [[.int .i64 9,.str [110,111,116]],[.int .i64 11,.str [108,101,110]]]).map (o9 false false [.str []] 1 [[.int .i64 9,.str [110,111,116]],[.int .i64 11,.str [108,101,110]]])=some (.str x)) :
  W A0 zh ⟨T,H,H.length,gen⟩ (done H.length [.tmp 2,.tmp 3] (.tuple [.str x,.int .i64 7],none)):=by
 have hp1:∀ x:cJ,(H++[x])[H.length]?=some x:=fun x=>by simp
 have AQ:∀ x y:cJ,(H++[x]).set H.length y=H++[y]:=fun x y=>by simp
 have fe9:fg [.i] [.int .i64 9] []=some none:=rfl
 have aam:fg [.i] [.int .i64 11] [[.int .i64 9,.str [110,111,116]]]=some none:=rfl
 have Zy:∀ (k:IntKind) (n:Int),(AV.int k n).isAgg=false:=fun _ _=>rfl
 have Zz:∀ (s:List UInt8),(AV.str s).isAgg=false:=fun _=>rfl
 have aan:(false==false)=true:=rfl
 have wq:∀ (es:List (List AV)) (r:List AV),tQ es none r=es++[r]:=fun _ _=>rfl
 have o4:decide (H.length<H.length)=false:=by simp
 have hlx:BN (H++[.map 1 false false [[.int .i64 9,.str [110,111,116]],[.int .i64 11,.str [108,101,110]]]]) false 1 false false [.i] [.str []] (.mref H.length) (.int .i64 n)=some (.str x):=by
  simp only[BN,V6,AV.drop,AV.cells,an8,hp1]
  exact hx
 unfold zh
 simp(disch:=omega)only[mf,cZ,ca,cA,cu,gr,bj,aA,bf,aC.eval,AS.bW,↓reduceIte,Nat.reduceEqDiff,Option.isSome,Option.isNone,cond_true,anZ,Nat.reduceBEq,Nat.reduceAdd,Nat.reduceMul,aa,cj,eq_self,reduceCtorEq,gk,cQ,cm,bH,bound,dj,AS.bI,aQ,bF,bu,Nat.reduceLeDiff,cn,putAt,Int.reduceEq,Int.reduceLT,Int.reduceLE,Int.reduceBEq,Int.reduceBNe,Int.reduceAdd,Int.reduceNeg,Int.reduceSub,Int.reduceMul,dZ,dY,dX,dW,dV,dU,fc,fa,aN,bO,Int.toNat_natCast,aos,qO,hp1,AQ,fe9,aam,Zy,Zz,aan,wq,o4,hlx,ao9,cond_true,apm,ao0,aoi,an8,aJ,ay,an,anW,anX,ab,q0]
 done
theorem NI(n:Int)(H:ai):WN A0.aZ (aE A0) J1.body { T:=gY [.int .i64 n],H,lo:=H.length,gen:=0 } (done H.length J1.results (.tuple [.str (lk n).1,.int .i64 (lk n).2],none)):=by
 unfold J1
 simp only
 refine ow (.region false _) _ rfl ?_
 simp(disch:=omega)only[aY,aa,simprocAttr]
 generalize hR:done H.length [hJ.tmp 2,hJ.tmp 3] (AV.tuple [AV.str (lk n).1,AV.int .i64 (lk n).2],none)=R
 refine (show WN A0.aZ (aE A0) (.seq _ (.block 0 (.loop _))) _ (andThen (fun s=>WN A0.aZ (aE A0) zh s R) R) from ?_)
 refine (show WN A0.aZ (aE A0) (.region false _) _ (andThen (fun s=>WN A0.aZ (aE A0) (.block 0 (.loop _)) s _) _) from ?_)
 refine Ad _ _ rfl ⟨⟨((((gY [AV.int .i64 n]).put 2 (AV.str [])).put 3 (AV.int .i64 0)).put 6 (.ny 1 false true pf)).put 7 (.iter 0 1 false true [] pf),H,H.length,1⟩,rfl,?_⟩
 refine (show WN A0.aZ (aE A0) (.loop _) _ (leave 0 (andThen (fun s=>WN A0.aZ (aE A0) zh s R) R)) from ?_)
 refine⟨_,Ye (fun k s=>∃ T cur todo gen,s=⟨T,H,H.length,gen⟩/\T 0=.int .i64 n/\T 7=.iter 0 1 false true cur todo/\todo.length=k/\(∀ q∈todo,q∈pf)/\∀ q∈pf,q∈todo\/∀ w i j,q=[.str w,.int .i64 i,.int .i64 j]->i≠n) ?_ 10 _ ⟨_,[],pf,1,rfl,rfl,rfl,rfl,fun q h=>h,fun q h=>.inl h⟩⟩
 rintro k s ⟨T,cur,todo,gen,rfl,q0,q7,hk,hin,fH⟩
 refine Yf q7 rfl rfl ?_ ?_
 ·intro e
  subst e
  have PV:=KG (n:=n) fun q hq=>(fH q hq).resolve_left (by simp)
  simp(disch:=omega)only[aY,aa,simprocAttr]
  refine ow zh _ rfl ?_
  rw[<- hR]
  rcases PV with ⟨e,hs⟩|⟨e,hs⟩|⟨e,e',hs⟩
  ·rw[hs];exact tR (n:=n) (by simp(disch:=omega)only[aY,aa,simprocAttr,q0]) (by rw[e];rfl)
  ·rw[hs];exact tR (n:=n) (by simp(disch:=omega)only[aY,aa,simprocAttr,q0]) (by rw[e];rfl)
  ·rw[hs]
   have e1:(n==(9:Int))=false:=by simp;omega
   have e2:(n==(11:Int))=false:=by simp;omega
   exact tR (n:=n) (by simp(disch:=omega)only[aY,aa,simprocAttr,q0]) (by simp only[fg,cG,apB,cond_true,aoi,an8,Bool.and_true,anZ,e1,e2,ap1];rfl)
 ·intro q rest hp
  obtain⟨w,i,j,rfl,hs⟩:=RS q (hin _ (hp.mem_iff.2 (aox)))
  have aeG:∀ (T:aU) (H:ai) (lo gen t u:Nat) (os:List aO) (K:AS->Prop),T u=.iter 0 1 false true [AV.str w,AV.int .i64 i,AV.int .i64 j] rest->WO A0 false (⟨some t,none,.Tc (.tmp u)⟩ :: os) ⟨T,H,lo,gen⟩ K=dT A0 false (some (.tuple [.str w,.agg [.int .i64 i,.int .i64 j]])) t os T H lo gen K:=fun T H lo gen t u os K h=>aci h rfl
  by_cases e:i=n
  ·subst e
   simp (disch:=first|omega|(simp(disch:=omega)only[aV,aa,Nat.reduceEqDiff,Nat.reduceBEq,Nat.reduceAdd,Nat.reduceMul,reduceCtorEq,↓reduceIte,Nat.reduceLeDiff,Int.reduceEq,Int.reduceLT,Int.reduceLE,Int.reduceBEq,Int.reduceBNe,Int.reduceAdd,Int.reduceNeg,Int.reduceSub,Int.reduceMul];done)) only[mf,cZ,ca,cA,cu,gr,bj,aA,bf,aC.eval,AS.bW,↓reduceIte,Nat.reduceEqDiff,Option.isSome,Option.isNone,cond_true,anZ,Nat.reduceBEq,Nat.reduceAdd,Nat.reduceMul,aa,cj,eq_self,reduceCtorEq,gk,cQ,cm,bH,bound,dj,AS.bI,aQ,bF,bu,Nat.reduceLeDiff,cn,putAt,Int.reduceEq,Int.reduceLT,Int.reduceLE,Int.reduceBEq,Int.reduceBNe,Int.reduceAdd,Int.reduceNeg,Int.reduceSub,Int.reduceMul,dZ,dY,dX,dW,dV,dU,fc,fa,aN,bO,Int.toNat_natCast,aos,q0,aeG,oB,apj,aoQ,apF,ape,aoc,aof,List.headD_cons,AV.drop,ay,an,anW,anX,ab]
   rw[<- hR,hs]
   simp(disch:=omega)only[aY,aa,simprocAttr]
  ·simp (disch:=first|omega|(simp(disch:=omega)only[aV,aa,Nat.reduceEqDiff,Nat.reduceBEq,Nat.reduceAdd,Nat.reduceMul,reduceCtorEq,↓reduceIte,Nat.reduceLeDiff,Int.reduceEq,Int.reduceLT,Int.reduceLE,Int.reduceBEq,Int.reduceBNe,Int.reduceAdd,Int.reduceNeg,Int.reduceSub,Int.reduceMul];done)) only[mf,cZ,ca,cA,cu,gr,bj,aA,bf,aC.eval,AS.bW,↓reduceIte,Nat.reduceEqDiff,Option.isSome,Option.isNone,cond_true,anZ,Nat.reduceBEq,Nat.reduceAdd,Nat.reduceMul,aa,cj,eq_self,reduceCtorEq,gk,cQ,cm,bH,bound,dj,AS.bI,aQ,bF,bu,Nat.reduceLeDiff,cn,putAt,Int.reduceEq,Int.reduceLT,Int.reduceLE,Int.reduceBEq,Int.reduceBNe,Int.reduceAdd,Int.reduceNeg,Int.reduceSub,Int.reduceMul,dZ,dY,dX,dW,dV,dU,fc,fa,aN,bO,Int.toNat_natCast,aos,q0,aeG,oB,apj,aoQ,apF,ape,aoc,aof,List.headD_cons,AV.drop,ay,an,anW,anX,ab]
   have hl:=hp.length_eq
   rw[an0] at hl
   refine⟨rest.length,by omega,_,[AV.str w,.int .i64 i,.int .i64 j],rest,_,rfl,by simp(disch:=omega)only[aV,aa,simprocAttr,q0],by simp(disch:=omega)only[aV,aa,simprocAttr],rfl,fun q hq=>hin q (hp.mem_iff.2 (apb _ hq)),fun q hq=>?_⟩
   rcases fH q hq with h|h
   ·rcases aoH.1 (hp.mem_iff.1 h) with rfl|h
    ·refine .inr fun w' i' j' he=>?_
     simp only[apE,AV.str.injEq,AV.int.injEq,aqu,apt] at he
     rw[<- he.2.1]
     exact e
    ·exact .inl h
   ·exact .inr h
theorem NH{P:Program}(hA:mj P A0){fn:Func}(Ai:P.funcs[86]?=some fn){cz locals muts:List Nat}(hc:mA P cz locals muts fn=some J1):jb P D' 86 rU:=by
 refine adg (g:=rU) hA Ai hc rfl ?_ ?_
 ·intro args H r c h
  unfold rU at h
  split at h
  ·injection h with h;injection h with h1 h2;subst h2;exact⟨an4 _,fun c h=>by cases h⟩
  ·cases h
 ·intro args H x h
  unfold rU at h
  split at h
  ·injection h with h;subst h;exact⟨rfl,NI _ _⟩
  ·cases h
end Go.Proofs.YtbdhkgiakaegdaaGreatDoor
