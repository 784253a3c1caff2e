/-
  A part of the proof of PrintForms: AbsRule, AbsEq, AbsEvF, AbsSgn, AbsSgn2.
-/
import Derived.IntWalk
import Derived.Test.YtbdnnjjcdcacnaaGreatDoorP09
set_option linter.unusedSimpArgs false
set_option linter.unusedVariables false
set_option linter.defProp false
set_option maxRecDepth 100000
namespace Go.Abs
section
def iM(s:Nat):AV->AV
 | .lbox g _=>.lref s g 0
 | .lsl g _=>.lsr s g
 | .iter ..=>.any
 | v=>v
theorem abV{G:Nat->List AV}{T:aQ}{s:Nat} : aF.addr G T (.tmp s)=iM s (T s):=by
 simp only[aF.addr,iM]
 split<;>simp_all
section
theorem LO{b:Bool} : AV.drop (AV.bool b)=(.bool b):=rfl
theorem Oo{k:IntKind}{n:Int} : AV.drop (AV.int k n)=(.int k n):=rfl
theorem Ov{l:List UInt8} : AV.drop (AV.str l)=(.str l):=rfl
theorem On:AV.drop AV.any=.any:=rfl
theorem Ft:AV.drop AV.di=.di:=rfl
theorem Fs:AV.drop AV.de=.de:=rfl
theorem LR{kz:Nat}{ka va:Bool}{es:List (List AV)} : AV.drop (AV.fg kz ka va es)=(.fg kz ka va es):=rfl
theorem IL:AV.drop AV.aj=.aj:=rfl
theorem Ad:AV.bD AV.aj=.aj:=rfl
theorem D7:AV.cells AV.aj=some [.aj]:=rfl
theorem He:AV.plain AV.aj=true:=rfl
theorem OM:aG AV.aj=true:=rfl
theorem Co:AV.drop AV.cM=.cM:=rfl
theorem Ag:AV.drop AV.bR=.bR:=rfl
theorem IM{e:List (List AV)}{own:Bool} : AV.drop (AV.slice e own)=.slice e false:=rfl
theorem LP{cs:List AV} : AV.drop (AV.eptr cs)=(.eptr cs):=rfl
theorem Ou{loc off:Nat} : AV.drop (AV.ref loc off)=(.ref loc off):=rfl
theorem LX{loc off n z:Nat} : AV.drop (AV.sref loc off n z)=(.sref loc off n z):=rfl
theorem LW{loc:Nat} : AV.drop (AV.mref loc)=(.mref loc):=rfl
theorem LU{g:Nat}{cs:List AV} : AV.drop (AV.lbox g cs)=(.lbox g cs):=rfl
theorem LV{s g off:Nat} : AV.drop (AV.lref s g off)=(.lref s g off):=rfl
theorem Oq{g:Nat}{e:List (List AV)} : AV.drop (AV.lsl g e)=(.lsl g e):=rfl
theorem Ot{s g:Nat} : AV.drop (AV.lsr s g)=(.lsr s g):=rfl
theorem LQ{s g i z off:Nat} : AV.drop (AV.eref s g i z off)=(.eref s g i z off):=rfl
theorem LS{f:Fn}{fs cs:List AV} : AV.drop (AV.func f fs cs)=(.func f fs cs):=rfl
theorem IK{t:TypeId}{v:AV} : AV.drop (AV.iface t v)=(.iface t v):=rfl
theorem Om{cs:List AV} : AV.drop (AV.agg cs)=(.agg cs):=rfl
theorem IN{vs:List AV} : AV.drop (AV.tuple vs)=(.tuple vs):=rfl
theorem Cf{b:Bool} : AV.bD (AV.bool b)=(.bool b):=rfl
theorem Fk{k:IntKind}{n:Int} : AV.bD (AV.int k n)=(.int k n):=rfl
theorem Fq{l:List UInt8} : AV.bD (AV.str l)=(.str l):=rfl
theorem Fj:AV.bD AV.any=.any:=rfl
theorem yg:AV.bD AV.di=.di:=rfl
theorem ye:AV.bD AV.de=.de:=rfl
theorem Ci{kz:Nat}{ka va:Bool}{es:List (List AV)} : AV.bD (AV.fg kz ka va es)=(.fg kz ka va es):=rfl
theorem wU:AV.bD AV.cM=.cM:=rfl
theorem vy:AV.bD AV.bR=.bR:=rfl
theorem Ae{e:List (List AV)}{own:Bool} : AV.bD (AV.slice e own)=.slice e false:=rfl
theorem Cg{cs:List AV} : AV.bD (AV.eptr cs)=(.eptr cs):=rfl
theorem Fp{loc off:Nat} : AV.bD (AV.ref loc off)=(.ref loc off):=rfl
theorem Cn{loc off n z:Nat} : AV.bD (AV.sref loc off n z)=(.sref loc off n z):=rfl
theorem Cm{loc:Nat} : AV.bD (AV.mref loc)=(.mref loc):=rfl
theorem Ck{g:Nat}{cs:List AV} : AV.bD (AV.lbox g cs)=(.lbox g cs):=rfl
theorem Cl{s g off:Nat} : AV.bD (AV.lref s g off)=(.lref s g off):=rfl
theorem Fl{g:Nat}{e:List (List AV)} : AV.bD (AV.lsl g e)=(.lsl g e):=rfl
theorem Fo{s g:Nat} : AV.bD (AV.lsr s g)=(.lsr s g):=rfl
theorem Ch{s g i z off:Nat} : AV.bD (AV.eref s g i z off)=(.eref s g i z off):=rfl
theorem Cj{f:Fn}{fs cs:List AV} : AV.bD (AV.func f fs cs)=(.func f fs cs):=rfl
theorem Ac{t:TypeId}{v:AV} : AV.bD (AV.iface t v)=(.iface t v):=rfl
theorem Fi{cs:List AV} : AV.bD (AV.agg cs)=.agg (cs.map AV.drop):=rfl
theorem Af{vs:List AV} : AV.bD (AV.tuple vs)=(.tuple vs):=rfl
theorem TR{b:Bool} : aG (AV.bool b)=true:=rfl
theorem Z1{k:IntKind}{n:Int} : aG (AV.int k n)=true:=rfl
theorem Z5{l:List UInt8} : aG (AV.str l)=true:=rfl
theorem Z0:aG AV.any=true:=rfl
theorem L6:aG AV.di=true:=rfl
theorem L5:aG AV.de=true:=rfl
theorem TU{kz:Nat}{ka va:Bool}{es:List (List AV)} : aG (AV.fg kz ka va es)=true:=rfl
theorem I0:aG AV.cM=true:=rfl
theorem FL:aG AV.bR=true:=rfl
theorem ON{e:List (List AV)}{own:Bool} : aG (AV.slice e own)=true:=rfl
theorem TS{cs:List AV} : aG (AV.eptr cs)=true:=rfl
theorem Z4{loc off:Nat} : aG (AV.ref loc off)=true:=rfl
theorem TZ{loc off n z:Nat} : aG (AV.sref loc off n z)=true:=rfl
theorem TY{loc:Nat} : aG (AV.mref loc)=true:=rfl
theorem TW{g:Nat}{cs:List AV} : aG (AV.lbox g cs)=false:=rfl
theorem TX{s g off:Nat} : aG (AV.lref s g off)=false:=rfl
theorem Z2{g:Nat}{e:List (List AV)} : aG (AV.lsl g e)=false:=rfl
theorem Z3{s g:Nat} : aG (AV.lsr s g)=false:=rfl
theorem TT{s g i z off:Nat} : aG (AV.eref s g i z off)=false:=rfl
theorem TV{f:Fn}{fs cs:List AV} : aG (AV.func f fs cs)=true:=rfl
theorem OL{t:TypeId}{v:AV} : aG (AV.iface t v)=true:=rfl
theorem ZZ{cs:List AV} : aG (AV.agg cs)=true:=rfl
theorem OO{vs:List AV} : aG (AV.tuple vs)=true:=rfl
theorem I5{b:Bool} : bk (AV.bool b)=none:=rfl
theorem Md{k:IntKind}{n:Int} : bk (AV.int k n)=none:=rfl
theorem Mh{l:List UInt8} : bk (AV.str l)=none:=rfl
theorem Mc:bk AV.any=none:=rfl
theorem Cz:bk AV.di=none:=rfl
theorem Cy:bk AV.de=none:=rfl
theorem I8{kz:Nat}{ka va:Bool}{es:List (List AV)} : bk (AV.fg kz ka va es)=none:=rfl
theorem Ai:bk AV.cM=none:=rfl
theorem yA:bk AV.bR=none:=rfl
theorem FW{e:List (List AV)}{own:Bool} : bk (AV.slice e own)=none:=rfl
theorem I6{cs:List AV} : bk (AV.eptr cs)=none:=rfl
theorem Mg{loc off:Nat} : bk (AV.ref loc off)=none:=rfl
theorem Jc{loc off n z:Nat} : bk (AV.sref loc off n z)=none:=rfl
theorem Jb{loc:Nat} : bk (AV.mref loc)=none:=rfl
theorem I'{g:Nat}{cs:List AV} : bk (AV.lbox g cs)=some g:=rfl
theorem Ja{s g off:Nat} : bk (AV.lref s g off)=none:=rfl
theorem Me{g:Nat}{e:List (List AV)} : bk (AV.lsl g e)=some g:=rfl
theorem Mf{s g:Nat} : bk (AV.lsr s g)=none:=rfl
theorem I7{s g i z off:Nat} : bk (AV.eref s g i z off)=none:=rfl
theorem I9{f:Fn}{fs cs:List AV} : bk (AV.func f fs cs)=none:=rfl
theorem FU{t:TypeId}{v:AV} : bk (AV.iface t v)=none:=rfl
theorem Mb{cs:List AV} : bk (AV.agg cs)=none:=rfl
theorem FX{vs:List AV} : bk (AV.tuple vs)=none:=rfl
theorem Iu{b:Bool} : AV.cells (AV.bool b)=some [(.bool b)]:=rfl
theorem LI{k:IntKind}{n:Int} : AV.cells (AV.int k n)=some [(.int k n)]:=rfl
theorem LM{l:List UInt8} : AV.cells (AV.str l)=some [(.str l)]:=rfl
theorem LH:AV.cells AV.any=none:=rfl
theorem B' : AV.cells AV.di=some [.di]:=rfl
theorem B9:AV.cells AV.de=some [.de]:=rfl
theorem Iy{kz:Nat}{ka va:Bool}{es:List (List AV)} : AV.cells (AV.fg kz ka va es)=some [(.fg kz ka va es)]:=rfl
theorem z8:AV.cells AV.cM=some [.cM]:=rfl
theorem xV:AV.cells AV.bR=some [.bR]:=rfl
theorem D8{e:List (List AV)}{own:Bool} : AV.cells (AV.slice e own)=some [(.slice e own)]:=rfl
theorem Iw{cs:List AV} : AV.cells (AV.eptr cs)=some [(.eptr cs)]:=rfl
theorem LL{loc off:Nat} : AV.cells (AV.ref loc off)=some [(.ref loc off)]:=rfl
theorem ID{loc off n z:Nat} : AV.cells (AV.sref loc off n z)=some [(.sref loc off n z)]:=rfl
theorem IC{loc:Nat} : AV.cells (AV.mref loc)=some [(.mref loc)]:=rfl
theorem IA{g:Nat}{cs:List AV} : AV.cells (AV.lbox g cs)=none:=rfl
theorem IB{s g off:Nat} : AV.cells (AV.lref s g off)=none:=rfl
theorem LJ{g:Nat}{e:List (List AV)} : AV.cells (AV.lsl g e)=none:=rfl
theorem LK{s g:Nat} : AV.cells (AV.lsr s g)=none:=rfl
theorem Ix{s g i z off:Nat} : AV.cells (AV.eref s g i z off)=none:=rfl
theorem Iz{f:Fn}{fs cs:List AV} : AV.cells (AV.func f fs cs)=some [(.func f fs cs)]:=rfl
theorem D6{t:TypeId}{v:AV} : AV.cells (AV.iface t v)=some [(.iface t v)]:=rfl
theorem LG{cs:List AV} : AV.cells (AV.agg cs)=some cs:=rfl
theorem D9{vs:List AV} : AV.cells (AV.tuple vs)=none:=rfl
theorem JZ{b:Bool} : AV.plain (AV.bool b)=true:=rfl
theorem MY{k:IntKind}{n:Int} : AV.plain (AV.int k n)=true:=rfl
theorem M3{l:List UInt8} : AV.plain (AV.str l)=true:=rfl
theorem MX:AV.plain AV.any=true:=rfl
theorem Dj:AV.plain AV.di=true:=rfl
theorem Di:AV.plain AV.de=true:=rfl
theorem J2{kz:Nat}{ka va:Bool}{es:List (List AV)} : AV.plain (AV.fg kz ka va es)=true:=rfl
theorem Ay:AV.plain AV.cM=true:=rfl
theorem zg:AV.plain AV.bR=true:=rfl
theorem Hf{e:List (List AV)}{own:Bool} : AV.plain (AV.slice e own)=!own:=rfl
theorem J0{cs:List AV} : AV.plain (AV.eptr cs)=true:=rfl
theorem M1{loc off:Nat} : AV.plain (AV.ref loc off)=false:=rfl
theorem J6{loc off n z:Nat} : AV.plain (AV.sref loc off n z)=false:=rfl
theorem J5{loc:Nat} : AV.plain (AV.mref loc)=false:=rfl
theorem J3{g:Nat}{cs:List AV} : AV.plain (AV.lbox g cs)=false:=rfl
theorem J4{s g off:Nat} : AV.plain (AV.lref s g off)=false:=rfl
theorem MZ{g:Nat}{e:List (List AV)} : AV.plain (AV.lsl g e)=false:=rfl
theorem M0{s g:Nat} : AV.plain (AV.lsr s g)=false:=rfl
theorem J1{s g i z off:Nat} : AV.plain (AV.eref s g i z off)=false:=rfl
theorem MW{cs:List AV} : AV.plain (AV.agg cs)=false:=rfl
theorem Hg{vs:List AV} : AV.plain (AV.tuple vs)=false:=rfl
theorem B0{base:Nat}{b:Bool} : AV.aU base (AV.bool b)=AV.plain (.bool b):=rfl
theorem D1{base:Nat}{k:IntKind}{n:Int} : AV.aU base (AV.int k n)=AV.plain (.int k n):=rfl
theorem D5{base:Nat}{l:List UInt8} : AV.aU base (AV.str l)=AV.plain (.str l):=rfl
theorem DZ{base:Nat} : AV.aU base AV.any=AV.plain .any:=rfl
theorem xU{base:Nat} : AV.aU base AV.di=AV.plain .di:=rfl
theorem xT{base:Nat} : AV.aU base AV.de=AV.plain .de:=rfl
theorem B3{kz:Nat}{ka va:Bool}{es:List (List AV)}{base:Nat} : AV.aU base (AV.fg kz ka va es)=AV.plain (.fg kz ka va es):=rfl
theorem wT{base:Nat} : AV.aU base AV.cM=AV.plain .cM:=rfl
theorem vu{base:Nat} : AV.aU base AV.bR=AV.plain .bR:=rfl
theorem z6{base:Nat}{e:List (List AV)}{own:Bool} : AV.aU base (AV.slice e own)=AV.plain (.slice e own):=rfl
theorem B1{base:Nat}{cs:List AV} : AV.aU base (AV.eptr cs)=AV.plain (.eptr cs):=rfl
theorem D4{base:Nat}{loc off:Nat} : AV.aU base (AV.ref loc off)=Nat.blt loc base:=rfl
theorem B8{base:Nat}{loc off n z:Nat} : AV.aU base (AV.sref loc off n z)=Nat.blt loc base:=rfl
theorem B7{base:Nat}{loc:Nat} : AV.aU base (AV.mref loc)=Nat.blt loc base:=rfl
theorem B5{base:Nat}{g:Nat}{cs:List AV} : AV.aU base (AV.lbox g cs)=AV.plain (.lbox g cs):=rfl
theorem B6{base:Nat}{s g off:Nat} : AV.aU base (AV.lref s g off)=AV.plain (.lref s g off):=rfl
theorem D2{base:Nat}{g:Nat}{e:List (List AV)} : AV.aU base (AV.lsl g e)=AV.plain (.lsl g e):=rfl
theorem D3{base:Nat}{s g:Nat} : AV.aU base (AV.lsr s g)=AV.plain (.lsr s g):=rfl
theorem B2{base:Nat}{s g i z off:Nat} : AV.aU base (AV.eref s g i z off)=AV.plain (.eref s g i z off):=rfl
theorem B4{base:Nat}{f:Fn}{fs cs:List AV} : AV.aU base (AV.func f fs cs)=AV.plain (.func f fs cs):=rfl
theorem zY{base:Nat}{t:TypeId}{v:AV} : AV.aU base (AV.iface t v)=AV.plain (.iface t v):=rfl
theorem DY{base:Nat}{cs:List AV} : AV.aU base (AV.agg cs)=AV.plain (.agg cs):=rfl
theorem z7{base:Nat}{vs:List AV} : AV.aU base (AV.tuple vs)=AV.plain (.tuple vs):=rfl
theorem C8{base:Nat}{b:Bool} : AV.bu base (AV.bool b)=AV.aU base (.bool b):=rfl
theorem G6{base:Nat}{k:IntKind}{n:Int} : AV.bu base (AV.int k n)=AV.aU base (.int k n):=rfl
theorem Ha{base:Nat}{l:List UInt8} : AV.bu base (AV.str l)=AV.aU base (.str l):=rfl
theorem G5{base:Nat} : AV.bu base AV.any=AV.aU base .any:=rfl
theorem zf{base:Nat} : AV.bu base AV.di=AV.aU base .di:=rfl
theorem ze{base:Nat} : AV.bu base AV.de=AV.aU base .de:=rfl
theorem Db{kz:Nat}{ka va:Bool}{es:List (List AV)}{base:Nat} : AV.bu base (AV.fg kz ka va es)=AV.aU base (.fg kz ka va es):=rfl
theorem xd{base:Nat} : AV.bu base AV.cM=AV.aU base .cM:=rfl
theorem vS{base:Nat} : AV.bu base AV.bR=AV.aU base .bR:=rfl
theorem Aw{base:Nat}{e:List (List AV)}{own:Bool} : AV.bu base (AV.slice e own)=AV.aU base (.slice e own):=rfl
theorem C9{base:Nat}{cs:List AV} : AV.bu base (AV.eptr cs)=AV.aU base (.eptr cs):=rfl
theorem G9{base:Nat}{loc off:Nat} : AV.bu base (AV.ref loc off)=AV.aU base (.ref loc off):=rfl
theorem Dg{base:Nat}{loc off n z:Nat} : AV.bu base (AV.sref loc off n z)=AV.aU base (.sref loc off n z):=rfl
theorem Df{base:Nat}{loc:Nat} : AV.bu base (AV.mref loc)=AV.aU base (.mref loc):=rfl
theorem Dd{base:Nat}{g:Nat}{cs:List AV} : AV.bu base (AV.lbox g cs)=AV.aU base (.lbox g cs):=rfl
theorem De{base:Nat}{s g off:Nat} : AV.bu base (AV.lref s g off)=AV.aU base (.lref s g off):=rfl
theorem G7{base:Nat}{g:Nat}{e:List (List AV)} : AV.bu base (AV.lsl g e)=AV.aU base (.lsl g e):=rfl
theorem G8{base:Nat}{s g:Nat} : AV.bu base (AV.lsr s g)=AV.aU base (.lsr s g):=rfl
theorem Da{base:Nat}{s g i z off:Nat} : AV.bu base (AV.eref s g i z off)=AV.aU base (.eref s g i z off):=rfl
theorem Dc{base:Nat}{f:Fn}{fs cs:List AV} : AV.bu base (AV.func f fs cs)=AV.aU base (.func f fs cs):=rfl
theorem Au{base:Nat}{t:TypeId}{v:AV} : AV.bu base (AV.iface t v)=AV.aU base (.iface t v):=rfl
theorem G4{base:Nat}{cs:List AV} : AV.bu base (AV.agg cs)=cs.all (AV.aU base):=rfl
theorem Ax{base:Nat}{vs:List AV} : AV.bu base (AV.tuple vs)=AV.aU base (.tuple vs):=rfl
theorem GG{base:Nat}{b:Bool} : AV.leaves base (AV.bool b)=AV.bu base (.bool b):=rfl
theorem JJ{base:Nat}{k:IntKind}{n:Int} : AV.leaves base (AV.int k n)=AV.bu base (.int k n):=rfl
theorem JN{base:Nat}{l:List UInt8} : AV.leaves base (AV.str l)=AV.bu base (.str l):=rfl
theorem JI{base:Nat} : AV.leaves base AV.any=AV.bu base .any:=rfl
theorem Ar{base:Nat} : AV.leaves base AV.di=AV.bu base .di:=rfl
theorem Aq{base:Nat} : AV.leaves base AV.de=AV.bu base .de:=rfl
theorem GJ{kz:Nat}{ka va:Bool}{es:List (List AV)}{base:Nat} : AV.leaves base (AV.fg kz ka va es)=AV.bu base (.fg kz ka va es):=rfl
theorem yX{base:Nat} : AV.leaves base AV.cM=AV.bu base .cM:=rfl
theorem xb{base:Nat} : AV.leaves base AV.bR=AV.bu base .bR:=rfl
theorem CW{base:Nat}{e:List (List AV)}{own:Bool} : AV.leaves base (AV.slice e own)=true:=rfl
theorem GH{base:Nat}{cs:List AV} : AV.leaves base (AV.eptr cs)=AV.bu base (.eptr cs):=rfl
theorem JM{base:Nat}{loc off:Nat} : AV.leaves base (AV.ref loc off)=AV.bu base (.ref loc off):=rfl
theorem GO{base:Nat}{loc off n z:Nat} : AV.leaves base (AV.sref loc off n z)=AV.bu base (.sref loc off n z):=rfl
theorem GN{base:Nat}{loc:Nat} : AV.leaves base (AV.mref loc)=AV.bu base (.mref loc):=rfl
theorem GL{base:Nat}{g:Nat}{cs:List AV} : AV.leaves base (AV.lbox g cs)=AV.bu base (.lbox g cs):=rfl
theorem GM{base:Nat}{s g off:Nat} : AV.leaves base (AV.lref s g off)=AV.bu base (.lref s g off):=rfl
theorem JK{base:Nat}{g:Nat}{e:List (List AV)} : AV.leaves base (AV.lsl g e)=AV.bu base (.lsl g e):=rfl
theorem JL{base:Nat}{s g:Nat} : AV.leaves base (AV.lsr s g)=AV.bu base (.lsr s g):=rfl
theorem GI{base:Nat}{s g i z off:Nat} : AV.leaves base (AV.eref s g i z off)=AV.bu base (.eref s g i z off):=rfl
theorem GK{base:Nat}{f:Fn}{fs cs:List AV} : AV.leaves base (AV.func f fs cs)=(fs.all (AV.aU base)&&cs.all (AV.aU base)):=rfl
theorem CU{base:Nat}{t:TypeId}{v:AV} : AV.leaves base (AV.iface t v)=v.aU base:=rfl
theorem JG{base:Nat}{cs:List AV} : AV.leaves base (AV.agg cs)=AV.bu base (.agg cs):=rfl
theorem CX{base:Nat}{vs:List AV} : AV.leaves base (AV.tuple vs)=vs.all (AV.bu base):=rfl
theorem H6{s:Nat}{b:Bool} : iM s (AV.bool b)=(.bool b):=rfl
theorem Ls{s:Nat}{k:IntKind}{n:Int} : iM s (AV.int k n)=(.int k n):=rfl
theorem Lw{s:Nat}{l:List UInt8} : iM s (AV.str l)=(.str l):=rfl
theorem Lr{s:Nat} : iM s AV.any=.any:=rfl
theorem BP{s:Nat} : iM s AV.di=.di:=rfl
theorem BO{s:Nat} : iM s AV.de=.de:=rfl
theorem H9{kz:Nat}{ka va:Bool}{es:List (List AV)}{s:Nat} : iM s (AV.fg kz ka va es)=(.fg kz ka va es):=rfl
theorem zX{s:Nat} : iM s AV.cM=.cM:=rfl
theorem xK{s:Nat} : iM s AV.bR=.bR:=rfl
theorem DR{s:Nat}{e:List (List AV)}{own:Bool} : iM s (AV.slice e own)=(.slice e own):=rfl
theorem H7{s:Nat}{cs:List AV} : iM s (AV.eptr cs)=(.eptr cs):=rfl
theorem Lv{s:Nat}{loc off:Nat} : iM s (AV.ref loc off)=(.ref loc off):=rfl
theorem Ig{s:Nat}{loc off n z:Nat} : iM s (AV.sref loc off n z)=(.sref loc off n z):=rfl
theorem Ie{s:Nat}{loc:Nat} : iM s (AV.mref loc)=(.mref loc):=rfl
theorem Ib{s:Nat}{g:Nat}{cs:List AV} : iM s (AV.lbox g cs)=.lref s g 0:=rfl
theorem Ic{s:Nat}{r g off:Nat} : iM s (AV.lref r g off)=(.lref r g off):=rfl
theorem Lt{s:Nat}{g:Nat}{e:List (List AV)} : iM s (AV.lsl g e)=.lsr s g:=rfl
theorem Lu{s:Nat}{r g:Nat} : iM s (AV.lsr r g)=(.lsr r g):=rfl
theorem H8{s:Nat}{r g i z off:Nat} : iM s (AV.eref r g i z off)=(.eref r g i z off):=rfl
theorem Ia{s:Nat}{f:Fn}{fs cs:List AV} : iM s (AV.func f fs cs)=(.func f fs cs):=rfl
theorem DP{s:Nat}{t:TypeId}{v:AV} : iM s (AV.iface t v)=(.iface t v):=rfl
theorem Lq{s:Nat}{cs:List AV} : iM s (AV.agg cs)=(.agg cs):=rfl
theorem DS{s:Nat}{vs:List AV} : iM s (AV.tuple vs)=(.tuple vs):=rfl
end
def dE(A:AP)(d:Bool)(o:Option AV)(t:Nat)(os:List aM)(T:aQ)(H:ah)(lo gen:Nat)(K:AS->Prop):Prop :=
 bG (o.bind fun z=>cond (d&&(bk z).isSome) none (some z)) fun z=>WO A d os ⟨T.put t z,H,lo,gen⟩ K
def ju(A:AP)(d take obj:Bool)(i:Nat)(v:AV)(t:Nat)(os:List aM)(T:aQ)(H:ah)(lo gen:Nat)(K:AS->Prop):Prop :=
 bG (match v with
  | .lbox g _=>some (AV.lref i g 0,(⟨T,H,lo,gen⟩:AS))
  | .lsl g e=>cond take (cond d none (cond obj (some (.lsl gen e,⟨T.put i .any,H,lo,gen+1⟩)) (cond (jj e) (some (.slice e true,⟨T.put i .any,H,lo,gen⟩)) none))) (some (.lsr i g,⟨T,H,lo,gen⟩))
  | .slice e own=>cond (take&&own) (cond d none (some (.slice e true,⟨T.put i (.slice e false),H,lo,gen⟩))) (some (.slice e false,⟨T,H,lo,gen⟩))
  | .iter ..=>none
  | v=>some (v,⟨T,H,lo,gen⟩)) fun r=>WO A d os (r.2.cc t r.1) K
def mn(A:AP)(d:Bool)(v:AV)(w:Bool)(t:Nat)(op:fQ)(os:List aM)(T:aQ)(H:ah)(lo gen:Nat)(K:AS->Prop):Prop :=
 bG (match v with|.bool b=>some (b==w)|.tuple []=>some false|_=>none) fun b =>
  (b=true->WO A d (⟨some t,none,op⟩ :: os) ⟨T,H,lo,gen⟩ K)/\(b=false->WO A d os ⟨T.put t .undef,H,lo,gen⟩ K)
def qc(A:AP)(d:Bool)(r:Option (AV × Option gJ))(t:Nat)(os:List aM)(T:aQ)(H:ah)(lo gen:Nat)(K:AS->Prop):Prop :=
 bG (r.bind fun r=>match r.2 with
  | none=>cond (d&&(bk r.1).isSome) none (some (r.1,(⟨T,H,lo,gen⟩:AS)))
  | some c=>cond d none (some (r.1,AS.gk ⟨T,H,lo,gen⟩ c))) fun r=>WO A d os (r.2.cc t r.1) K
def jy(G:Nat->List AV)(T:aQ):List aF->List AV
 | []=>[]
 | a :: r=>(a.addr G T).bD :: jy G T r
def gF(G:Nat->List AV)(T:aQ):List aF->Bool
 | []=>true
 | a :: r=>aG (a.addr G T)&&gF G T r
theorem qx{G:Nat->List AV}{T:aQ} : ∀ l:List aF,l.map (fun a=>(a.addr G T).bD)=jy G T l
 | []=>rfl
 | a :: r=>by simp[jy,qx r]
theorem oR{G:Nat->List AV}{T:aQ} : ∀ l:List aF,(l.map fun a=>a.addr G T).all aG=gF G T l
 | []=>rfl
 | a :: r=>by simp only[aoh,ao6,gF,oR r]
def j0(G:Nat->List AV)(T:aQ):List (Nat × Nat × aF)->List (Nat × Nat × AV)
 | []=>[]
 | (o,z,a) :: r=>(o,z,(a.eval G T).drop) :: j0 G T r
theorem Bu{G:Nat->List AV}{T:aQ} : ∀ l:List (Nat × Nat × aF),l.map (fun p=>(p.1,p.2.1,(p.2.2.eval G T).drop))=j0 G T l
 | []=>rfl
 | a :: r=>by simp[j0,Bu r]
def iS(G:Nat->List AV)(T:aQ):List (Nat × aF)->List (Nat × AV)
 | []=>[]
 | (i,a) :: r=>(i,(a.eval G T).drop) :: iS G T r
theorem vB{G:Nat->List AV}{T:aQ} : ∀ l:List (Nat × aF),l.map (fun p=>(p.1,(p.2.eval G T).drop))=iS G T l
 | []=>rfl
 | a :: r=>by simp[iS,vB r]
def tG(G:Nat->List AV)(T:aQ):Option aF->Option AV
 | none=>none
 | some a=>some (a.eval G T)
def K'(c a b:AV):Option AV:=match c with
 | .bool t=>some (cond t a.drop b.drop)
 | _=>none
def RG(b:Bool)(o:Option (List (List AV))):Option AV:=o.bind fun E=>cond (kD b E) (some (.slice E true)) none
def oV(o:Option bZ)(agg:Bool)(sz off:Nat):Option AV:=match o with
 | some (.box _ cs)=>ab false agg sz off cs
 | some (.IZ cs)=>ab false agg sz off cs
 | some (.cS cs)=>ab false agg sz off cs
 | _=>none
def pa(v:AV)(g:Nat)(agg:Bool)(sz off:Nat):Option AV:=match v with
 | .lbox g' cs=>cond (Nat.beq g g') (ab false agg sz off cs) none
 | _=>none
def uW(o:Option (List AV))(z:Nat)(agg:Bool)(sz off:Nat):Option AV:=o.bind fun r=>cond (Nat.beq r.length z) (ab false agg sz off r) none
def ri(v:AV)(g i z:Nat)(agg:Bool)(sz off:Nat):Option AV:=match v with
 | .lsl g' e=>cond (Nat.beq g g') (uW (e[i]?) z agg sz off) none
 | _=>none
def Bj(T:aQ)(H:ah)(agg:Bool)(sz:Nat)(x:AV):Option AV:=match x with
 | .eptr cs=>ab false agg sz 0 cs
 | .ref loc off=>oV H[loc]? agg sz off
 | .lref b g off=>pa (T b) g agg sz off
 | .eref b g i z off=>ri (T b) g i z agg sz off
 | _=>none
def nO(v:AV)(g:Nat)(r:AV):Option AV:=match v with
 | .lbox g' _=>cond (Nat.beq g g') (some r) none
 | _=>none
def pW(v:AV)(g i:Nat)(r:AV):Option AV:=match v with
 | .lsl g' e=>cond (Nat.beq g g'&&Nat.blt i e.length) (some r) none
 | _=>none
def Yp(T:aQ)(off:Nat)(x:AV):Option AV:=match x with
 | .ref l o=>some (.ref l (o+off))
 | .eptr cs=>some (.eptr (cs.drop off))
 | .lref b g o=>nO (T b) g (.lref b g (o+off))
 | .eref b g i z o=>pW (T b) g i (.eref b g i z (o+off))
 | _=>none
def Z8(x:AV)(agg:Bool)(sz off:Nat):Option AV:=match x with
 | .agg cs=>ab false agg sz off cs
 | _=>none
def Kc(sz:Nat)(r:Option (List AV))(f:List AV->AV):Option AV:=r.bind fun r=>cond (Nat.beq r.length sz) (some (f r)) none
def ixV(T:aQ)(sz:Nat)(x:AV)(n:Option Nat):Option AV:=match x with
 | .slice e _=>n.bind fun n=>Kc sz (e[n]?) .eptr
 | .sref l o m _=>n.bind fun n=>cond (Nat.blt n m) (some (.ref l (o+n*sz))) none
 | .lsr t g=>match T t with
  | .lsl g' e=>cond (Nat.beq g g') (n.bind fun n=>Kc sz (e[n]?) fun _=>.eref t g n sz 0) none
  | _=>none
 | _=>none
def Jq(agg:Bool)(n sz:Nat)(x:AV)(i:Option Nat):Option AV:=match x with
 | .agg cs=>i.bind fun k=>cond (Nat.blt k n) (ab false agg sz (k*sz) cs) none
 | _=>none
def It(o:Option UInt8):Option AV:=o.map fun (b:UInt8)=>AV.int .u8 b.toNat
def Oa(x:AV)(i:Option Nat):Option AV:=match x with
 | .str l=>i.bind fun n=>It (l[n]?)
 | _=>none
def OJ(x:AV)(i:Nat):Option AV:=match x with
 | .tuple vs=>(vs[i]?).map AV.bD
 | _=>none
def JO(T:aQ)(k:lU)(x:AV):Option AV:=match x with
 | .lsr t g=>match T t with
  | .lsl g' e=>cond (Nat.beq g g') (iG k (.slice e false)) none
  | _=>none
 | v=>iG k v
def AJ(A:AP)(d:Bool)(r:Option (AV × Option gJ))(os:List aM)(T:aQ)(H:ah)(lo gen:Nat)(K:AS->Prop):Prop :=
 bG (r.bind fun r=>match r.2 with
  | none=>cond (d&&(bk r.1).isSome) none (some (⟨T,H,lo,gen⟩:AS))
  | some c=>cond d none (some (AS.gk ⟨T,H,lo,gen⟩ c))) fun s=>WO A d os s K
def Od(A:AP)(d:Bool)(f:AV)(vs:List AV)(t:Nat)(os:List aM)(T:aQ)(H:ah)(lo gen:Nat)(K:AS->Prop):Prop:=match f with
 | .func (.func n) fs cs=>qc A d (aD A n (fs++vs++cs) H) t os T H lo gen K
 | _=>False
def Tr(A:AP)(b:Bool)(sz bytes i:Nat)(x y:AV)(t:Nat)(os:List aM)(T:aQ)(H:ah)(lo gen:Nat)(K:AS->Prop):Prop:=match x with
 | .slice e own=>bG (aC b sz bytes (.slice e own) y) fun z=>WO A false os ⟨(T.put i (.slice e false)).put t z,H,lo,gen⟩ K
 | .aj=>bG (aC b sz bytes (.slice [] true) y) fun z=>WO A false os ⟨T.put t z,H,lo,gen⟩ K
 | _=>False
section
variable {A:AP}{T:aQ}{H:ah}{lo gen:Nat}{K:AS->Prop}{d:Bool}{os:List aM}{t:Nat}
theorem cQ{z:AV}(h:bk z=none):dE A d (some z) t os T H lo gen K=WO A d os ⟨T.put t z,H,lo,gen⟩ K:=by
 simp[dE,h,aH]
theorem Xp{b:Bool} : dE A d (some (AV.bool b)) t os T H lo gen K=WO A d os ⟨T.put t (AV.bool b),H,lo,gen⟩ K:=cQ rfl
theorem acN{k:IntKind}{n:Int} : dE A d (some (AV.int k n)) t os T H lo gen K=WO A d os ⟨T.put t (AV.int k n),H,lo,gen⟩ K:=cQ rfl
theorem acQ{l:List UInt8} : dE A d (some (AV.str l)) t os T H lo gen K=WO A d os ⟨T.put t (AV.str l),H,lo,gen⟩ K:=cQ rfl
theorem acM:dE A d (some AV.any) t os T H lo gen K=WO A d os ⟨T.put t AV.any,H,lo,gen⟩ K:=cQ rfl
theorem Ng:dE A d (some AV.di) t os T H lo gen K=WO A d os ⟨T.put t AV.di,H,lo,gen⟩ K:=cQ rfl
theorem Nf:dE A d (some AV.de) t os T H lo gen K=WO A d os ⟨T.put t AV.de,H,lo,gen⟩ K:=cQ rfl
theorem Xs{kz:Nat}{ka va:Bool}{es:List (List AV)} : dE A d (some (AV.fg kz ka va es)) t os T H lo gen K=WO A d os ⟨T.put t (AV.fg kz ka va es),H,lo,gen⟩ K:=cQ rfl
theorem Kj:dE A d (some AV.cM) t os T H lo gen K=WO A d os ⟨T.put t AV.cM,H,lo,gen⟩ K:=cQ rfl
theorem Hz:dE A d (some AV.bR) t os T H lo gen K=WO A d os ⟨T.put t AV.bR,H,lo,gen⟩ K:=cQ rfl
theorem HA{e:List (List AV)}{own:Bool} : dE A d (some (AV.slice e own)) t os T H lo gen K=WO A d os ⟨T.put t (AV.slice e own),H,lo,gen⟩ K:=cQ rfl
theorem Xq{cs:List AV} : dE A d (some (AV.eptr cs)) t os T H lo gen K=WO A d os ⟨T.put t (AV.eptr cs),H,lo,gen⟩ K:=cQ rfl
theorem acP{loc off:Nat} : dE A d (some (AV.ref loc off)) t os T H lo gen K=WO A d os ⟨T.put t (AV.ref loc off),H,lo,gen⟩ K:=cQ rfl
theorem Xw{loc off n z:Nat} : dE A d (some (AV.sref loc off n z)) t os T H lo gen K=WO A d os ⟨T.put t (AV.sref loc off n z),H,lo,gen⟩ K:=cQ rfl
theorem Xv{loc:Nat} : dE A d (some (AV.mref loc)) t os T H lo gen K=WO A d os ⟨T.put t (AV.mref loc),H,lo,gen⟩ K:=cQ rfl
theorem Xu{r g off:Nat} : dE A d (some (AV.lref r g off)) t os T H lo gen K=WO A d os ⟨T.put t (AV.lref r g off),H,lo,gen⟩ K:=cQ rfl
theorem acO{r g:Nat} : dE A d (some (AV.lsr r g)) t os T H lo gen K=WO A d os ⟨T.put t (AV.lsr r g),H,lo,gen⟩ K:=cQ rfl
theorem Xr{r g i z off:Nat} : dE A d (some (AV.eref r g i z off)) t os T H lo gen K=WO A d os ⟨T.put t (AV.eref r g i z off),H,lo,gen⟩ K:=cQ rfl
theorem Xt{fn:Fn}{fs cs:List AV} : dE A d (some (AV.func fn fs cs)) t os T H lo gen K=WO A d os ⟨T.put t (AV.func fn fs cs),H,lo,gen⟩ K:=cQ rfl
theorem SB{u:TypeId}{v:AV} : dE A d (some (AV.iface u v)) t os T H lo gen K=WO A d os ⟨T.put t (AV.iface u v),H,lo,gen⟩ K:=cQ rfl
theorem acL{cs:List AV} : dE A d (some (AV.agg cs)) t os T H lo gen K=WO A d os ⟨T.put t (AV.agg cs),H,lo,gen⟩ K:=cQ rfl
theorem SD{vs:List AV} : dE A d (some (AV.tuple vs)) t os T H lo gen K=WO A d os ⟨T.put t (AV.tuple vs),H,lo,gen⟩ K:=cQ rfl
theorem Y6{o:Option AV}(z:AV)(h:o=some z)(hg:bk z=none)(hK:WO A d os ⟨T.put t z,H,lo,gen⟩ K):dE A d o t os T H lo gen K:=by
 rw[h,cQ hg];exact hK
theorem fJ{op:fQ}{o:Option AV}(h:aE A.aZ (aD A) ⟨T,H,lo,gen⟩ op=o.map (·,none)):WO A d (⟨some t,none,op⟩ :: os) ⟨T,H,lo,gen⟩ K=dE A d o t os T H lo gen K:=by
 rw[gd]
 cases o with
 | none=>simp[dE,cd,h,bG]
 | some z =>
  simp only[dE,cd,h,aok,aoe]
  cases hb:(d&&(bk z).isSome) with
  | true=>simp[bG]
  | false=>simp only[an8,aH];rfl
section
variable {take obj:Bool}{i:Nat}
theorem Wa{b:Bool} : ju A d take obj i (AV.bool b) t os T H lo gen K=WO A d os ⟨T.put t (AV.bool b),H,lo,gen⟩ K:=aH
theorem aby{k:IntKind}{n:Int} : ju A d take obj i (AV.int k n) t os T H lo gen K=WO A d os ⟨T.put t (AV.int k n),H,lo,gen⟩ K:=aH
theorem abE{l:List UInt8} : ju A d take obj i (AV.str l) t os T H lo gen K=WO A d os ⟨T.put t (AV.str l),H,lo,gen⟩ K:=aH
theorem abx:ju A d take obj i AV.any t os T H lo gen K=WO A d os ⟨T.put t AV.any,H,lo,gen⟩ K:=aH
theorem MP:ju A d take obj i AV.di t os T H lo gen K=WO A d os ⟨T.put t AV.di,H,lo,gen⟩ K:=aH
theorem MO:ju A d take obj i AV.de t os T H lo gen K=WO A d os ⟨T.put t AV.de,H,lo,gen⟩ K:=aH
theorem We{kz:Nat}{ka va:Bool}{es:List (List AV)} : ju A d take obj i (AV.fg kz ka va es) t os T H lo gen K=WO A d os ⟨T.put t (AV.fg kz ka va es),H,lo,gen⟩ K:=aH
theorem JS:ju A d take obj i AV.cM t os T H lo gen K=WO A d os ⟨T.put t AV.cM,H,lo,gen⟩ K:=aH
theorem GX:ju A d take obj i AV.bR t os T H lo gen K=WO A d os ⟨T.put t AV.bR,H,lo,gen⟩ K:=aH
theorem Wb{cs:List AV} : ju A d take obj i (AV.eptr cs) t os T H lo gen K=WO A d os ⟨T.put t (AV.eptr cs),H,lo,gen⟩ K:=aH
theorem abA{loc off:Nat} : ju A d take obj i (AV.ref loc off) t os T H lo gen K=WO A d os ⟨T.put t (AV.ref loc off),H,lo,gen⟩ K:=aH
theorem Wm{loc off n z:Nat} : ju A d take obj i (AV.sref loc off n z) t os T H lo gen K=WO A d os ⟨T.put t (AV.sref loc off n z),H,lo,gen⟩ K:=aH
theorem Wl{loc:Nat} : ju A d take obj i (AV.mref loc) t os T H lo gen K=WO A d os ⟨T.put t (AV.mref loc),H,lo,gen⟩ K:=aH
theorem Wg{g:Nat}{cs:List AV} : ju A d take obj i (AV.lbox g cs) t os T H lo gen K=WO A d os ⟨T.put t (AV.lref i g 0),H,lo,gen⟩ K:=aH
theorem Wh{r g off:Nat} : ju A d take obj i (AV.lref r g off) t os T H lo gen K=WO A d os ⟨T.put t (AV.lref r g off),H,lo,gen⟩ K:=aH
theorem abz{r g:Nat} : ju A d take obj i (AV.lsr r g) t os T H lo gen K=WO A d os ⟨T.put t (AV.lsr r g),H,lo,gen⟩ K:=aH
theorem Wc{r g j z off:Nat} : ju A d take obj i (AV.eref r g j z off) t os T H lo gen K=WO A d os ⟨T.put t (AV.eref r g j z off),H,lo,gen⟩ K:=aH
theorem Wf{fn:Fn}{fs cs:List AV} : ju A d take obj i (AV.func fn fs cs) t os T H lo gen K=WO A d os ⟨T.put t (AV.func fn fs cs),H,lo,gen⟩ K:=aH
theorem RD{u:TypeId}{v:AV} : ju A d take obj i (AV.iface u v) t os T H lo gen K=WO A d os ⟨T.put t (AV.iface u v),H,lo,gen⟩ K:=aH
theorem abw{cs:List AV} : ju A d take obj i (AV.agg cs) t os T H lo gen K=WO A d os ⟨T.put t (AV.agg cs),H,lo,gen⟩ K:=aH
theorem RF{vs:List AV} : ju A d take obj i (AV.tuple vs) t os T H lo gen K=WO A d os ⟨T.put t (AV.tuple vs),H,lo,gen⟩ K:=aH
theorem abC{e:List (List AV)} : ju A d take obj i (.slice e false) t os T H lo gen K=WO A d os ⟨T.put t (.slice e false),H,lo,gen⟩ K:=by
 simp[ju,aH,AS.cc]
theorem abD{e:List (List AV)} : ju A false true obj i (.slice e true) t os T H lo gen K=WO A false os ⟨(T.put i (.slice e false)).put t (.slice e true),H,lo,gen⟩ K:=by
 simp[ju,aH,AS.cc]
theorem abB{e:List (List AV)}{own:Bool} : ju A d false obj i (.slice e own) t os T H lo gen K=WO A d os ⟨T.put t (.slice e false),H,lo,gen⟩ K:=by
 simp[ju,aH,AS.cc]
theorem Wi{g:Nat}{e:List (List AV)} : ju A d false obj i (.lsl g e) t os T H lo gen K=WO A d os ⟨T.put t (.lsr i g),H,lo,gen⟩ K:=by
 simp[ju,aH,AS.cc]
theorem Wk{g:Nat}{e:List (List AV)}(hn:jj e=true):ju A false true false i (.lsl g e) t os T H lo gen K=WO A false os ⟨(T.put i .any).put t (.slice e true),H,lo,gen⟩ K:=by
 simp[ju,aH,AS.cc,hn]
theorem Wj{g:Nat}{e:List (List AV)} : ju A false true true i (.lsl g e) t os T H lo gen K=WO A false os ⟨(T.put i .any).put t (.lsl gen e),H,lo,gen+1⟩ K:=by
 simp[ju,aH,AS.cc]
end
theorem agi{take obj:Bool}{i:Nat} : WO A d (⟨some t,none,.mov take obj (.tmp i)⟩ :: os) ⟨T,H,lo,gen⟩ K=ju A d take obj i (T i) t os T H lo gen K:=by
 rw[gd]
 simp only[ju,cd,aE,mz]
 cases hT:T i with
 | slice e own=>cases take<;>cases own<;>cases d<;>simp[bG,AS.cH,AS.cc,bk]
 | lbox g cs=>simp[bG,AS.cH,AS.cc,bk]
 | lsl g e=>cases take<;>cases obj<;>cases d<;>cases hn:jj e<;>simp[bG,AS.cH,AS.cc,bk,hn]
 | _=>simp[bG,AS.cH,AS.cc,bk]
theorem R9{take obj:Bool}{v:AV} : WO A d (⟨some t,none,.mov take obj (.bt v)⟩ :: os) ⟨T,H,lo,gen⟩ K=dE A d (some v) t os T H lo gen K:=fJ rfl
theorem aci{take obj:Bool}{g:Nat} : WO A d (⟨some t,none,.mov take obj (.aZ g)⟩ :: os) ⟨T,H,lo,gen⟩ K=dE A d (some (.eptr (A.aZ g))) t os T H lo gen K:=fJ rfl
theorem ach{take obj:Bool}{f:FuncId} : WO A d (⟨some t,none,.mov take obj (.fn f)⟩ :: os) ⟨T,H,lo,gen⟩ K=dE A d (some (.func (.func f) [] [])) t os T H lo gen K:=fJ rfl
theorem WL{g:Nat}{w:Bool}{op:fQ} : WO A d (⟨some t,some (g,w),op⟩ :: os) ⟨T,H,lo,gen⟩ K=mn A d (T g) w t op os T H lo gen K:=by
 rw[gd]
 simp only[mn,gd]
 unfold cd
 simp only
 cases hT:T g with
 | bool b =>
  cases hb:(b==w) with
  | true=>simp only[hb,aH,cond_true,forall_const,Bool.true_eq_false,false_implies,apD,eq_self]
  | false=>simp only[hb,aH,an8,forall_const,apy,false_implies,aqI,eq_self,AS.cH,AS.cc]
 | tuple l =>
  cases l with
  | nil=>simp only[aH,forall_const,apy,false_implies,aqI,eq_self,AS.cH,AS.cc]
  | cons a l=>simp[bG]
 | _=>simp[bG]
theorem aga{op:fQ} : mn A d (.bool true) true t op os T H lo gen K=WO A d (⟨some t,none,op⟩ :: os) ⟨T,H,lo,gen⟩ K:=by simp[mn,aH]
theorem af8{op:fQ} : mn A d (.bool false) false t op os T H lo gen K=WO A d (⟨some t,none,op⟩ :: os) ⟨T,H,lo,gen⟩ K:=by simp[mn,aH]
theorem af'{op:fQ} : mn A d (.bool true) false t op os T H lo gen K=WO A d os ⟨T.put t .undef,H,lo,gen⟩ K:=by simp[mn,aH]
theorem af9{op:fQ} : mn A d (.bool false) true t op os T H lo gen K=WO A d os ⟨T.put t .undef,H,lo,gen⟩ K:=by simp[mn,aH]
theorem agb{op:fQ}{w:Bool} : mn A d (.tuple []) w t op os T H lo gen K=WO A d os ⟨T.put t .undef,H,lo,gen⟩ K:=by simp[mn,aH]
theorem ack{c a b:aF} : WO A d (⟨some t,none,.pick c a b⟩ :: os) ⟨T,H,lo,gen⟩ K=dE A d (K' (c.eval A.aZ T) (a.addr A.aZ T) (b.addr A.aZ T)) t os T H lo gen K:=by
 refine fJ ?_
 simp only[aE,K']
 cases c.eval A.aZ T<;>rfl
theorem W4{x y:AV} : K' (.bool true) x y=some x.drop:=rfl
theorem W3{x y:AV} : K' (.bool false) x y=some y.drop:=rfl
theorem R0{z:List AV} : WO A false (⟨some t,none,.allocL z⟩ :: os) ⟨T,H,lo,gen⟩ K=WO A false os ⟨T.put t (.lbox gen z),H,lo,gen+1⟩ K:=by
 rw[gd];simp only[cd,aE,aoe,an8,aH];rfl
theorem RZ{ty:TypeId}{z:List AV} : WO A false (⟨some t,none,.pH ty z⟩ :: os) ⟨T,H,lo,gen⟩ K=WO A false os ⟨T.put t (.ref H.length 0),H++[.box ty z],cond (Nat.blt H.length lo) H.length lo,gen⟩ K:=by
 rw[gd];simp only[cd,aE,aoe,an8,aH];rfl
theorem Ww{z:List AV}{ps:List (Nat × Nat × aF)} : WO A d (⟨some t,none,.build z ps⟩ :: os) ⟨T,H,lo,gen⟩ K=dE A d ((cn z (j0 A.aZ T ps)).map .agg) t os T H lo gen K:=by
 refine fJ ?_
 simp only[aE,Bu,aqk];rfl
theorem By{b:Bool}{sz:Nat}{z:List (List AV)}{ps:List (Nat × aF)} : WO A d (⟨some t,none,.mkslice b sz z ps⟩ :: os) ⟨T,H,lo,gen⟩ K=dE A d (RG b (cY sz z (iS A.aZ T ps))) t os T H lo gen K:=by
 refine fJ ?_
 simp only[aE,vB,RG]
 cases cY sz z (iS A.aZ T ps) with
 | none=>rfl
 | some E=>simp only[aoe];cases kD b E<;>rfl
theorem ajl{b:Bool}{E:List (List AV)} : RG b (some E)=cond (kD b E) (some (.slice E true)) none:=rfl
theorem WS{agg:Bool}{sz:Nat}{x:aF} : WO A d (⟨some t,none,.load false agg sz x⟩ :: os) ⟨T,H,lo,gen⟩ K=dE A d (Bj T H agg sz (x.addr A.aZ T)) t os T H lo gen K:=by
 refine fJ ?_
 simp only[aE,aq,Bj,aoq,an8]
 cases x.addr A.aZ T with
 | ref loc off=>cases hl:H[loc]? with
  | none=>simp only[hl,oV];rfl
  | some o=>cases o<;>simp only[hl,oV]<;>rfl
 | lref b g off =>
  cases hb:T b with
  | lbox g' cs=>simp only[hb,pa];cases Nat.beq g g'<;>rfl
  | _=>simp only[hb,pa];rfl
 | eref b g i z off =>
  cases hb:T b with
  | lsl g' e =>
   simp only[hb,ri,uW]
   cases Nat.beq g g' with
   | false=>rfl
   | true =>
    simp only[cond_true]
    cases e[i]? with
    | none=>rfl
    | some r=>simp only[aoe];cases Nat.beq r.length z<;>rfl
  | _=>simp only[hb,ri];rfl
 | _=>rfl
theorem WX{agg:Bool}{sz b g i z off:Nat} : Bj T H agg sz (.eref b g i z off)=ri (T b) g i z agg sz off:=rfl
theorem acg{g g' i z:Nat}{e:List (List AV)}{agg:Bool}{sz off:Nat} : ri (.lsl g e) g' i z agg sz off=cond (Nat.beq g' g) (uW (e[i]?) z agg sz off) none:=rfl
theorem acz{r:List AV}{z:Nat}{agg:Bool}{sz off:Nat} : uW (some r) z agg sz off=cond (Nat.beq r.length z) (ab false agg sz off r) none:=rfl
theorem WT{agg:Bool}{sz:Nat}{cs:List AV} : Bj T H agg sz (.eptr cs)=ab false agg sz 0 cs:=rfl
theorem WV{agg:Bool}{sz loc off:Nat} : Bj T H agg sz (.ref loc off)=oV H[loc]? agg sz off:=rfl
theorem ab1{ty:TypeId}{cs:List AV}{agg:Bool}{sz off:Nat} : oV (some (.box ty cs)) agg sz off=ab false agg sz off cs:=rfl
theorem WU{agg:Bool}{sz b g off:Nat} : Bj T H agg sz (.lref b g off)=pa (T b) g agg sz off:=rfl
theorem WR{g g' : Nat}{cs:List AV}{agg:Bool}{sz off:Nat} : pa (.lbox g cs) g' agg sz off=cond (Nat.beq g' g) (ab false agg sz off cs) none:=rfl
theorem R4{sz off:Nat}{cs:List AV} : ab false true sz off cs=cond (Nat.ble (off+sz) cs.length) (some (.agg (((cs.drop off).take sz).map AV.drop))) none:=rfl
theorem R3{sz off:Nat}{cs:List AV} : ab false false sz off cs=(cs[off]?).map AV.drop:=by
 simp only[ab,an8]
theorem afS{op:BinOp}{q:vf}{x y:aF} : WO A d (⟨some t,none,.bin op q x y⟩ :: os) ⟨T,H,lo,gen⟩ K=dE A d (xN op q (kP x || kP y) (x.eval A.aZ T) (y.eval A.aZ T)) t os T H lo gen K:=fJ rfl
theorem ajm{mx:Bool}{x y:aF} : WO A d (⟨some t,none,.mm mx x y⟩ :: os) ⟨T,H,lo,gen⟩ K=dE A d (RH mx (x.eval A.aZ T) (y.eval A.aZ T)) t os T H lo gen K:=fJ rfl
theorem agh{k j:IntKind}{mx:Bool}{a b:Int} : RH mx (.int k a) (.int j b)=cond (decide (k=j)) (some (.int k (cond mx (if b>a then b else a) (if b<a then b else a)))) none:=rfl
theorem ajo{op:UnOp}{x:aF} : WO A d (⟨some t,none,.un op x⟩ :: os) ⟨T,H,lo,gen⟩ K=dE A d (rB op (x.eval A.aZ T)) t os T H lo gen K:=fJ rfl
theorem ab7{c:xH}{x:aF} : WO A d (⟨some t,none,.conv c x⟩ :: os) ⟨T,H,lo,gen⟩ K=dE A d (gQ c (x.eval A.aZ T)) t os T H lo gen K:=fJ rfl
theorem W9{k:vk}{x:aF}{l h m:Option aF} : WO A d (⟨some t,none,.slice k x l h m⟩ :: os) ⟨T,H,lo,gen⟩ K=dE A d (fD k (x.eval A.aZ T) (tG A.aZ T l) (tG A.aZ T h) (tG A.aZ T m)) t os T H lo gen K:=by
 refine fJ ?_
 cases l<;>cases h<;>cases m<;>rfl
theorem afR{op:BinOp}{q:vf}{c:Bool}{j k:IntKind}{a b:Int} : xN op q c (.int j a) (.int k b)=cond (decide (j=k)) (aa op j a b) none:=rfl
theorem afW{op:BinOp}{q:vf}{c:Bool}{a b:List UInt8} : xN op q c (.str a) (.str b)=gP op a b:=rfl
theorem afQ{op:BinOp}{c:Bool}{a b:Bool} : xN op .bool c (.bool a) (.bool b)=im op (a==b):=rfl
theorem Hn{off:Nat}{x:aF} : WO A d (⟨some t,none,.fieldAddr off x⟩ :: os) ⟨T,H,lo,gen⟩ K=dE A d (Yp T off (x.addr A.aZ T)) t os T H lo gen K:=by
 refine fJ ?_
 simp only[aE,Yp]
 cases x.addr A.aZ T with
 | lref b g o =>
  cases hb:T b with
  | lbox g' cs=>simp only[hb,bQ,fm,nO];cases Nat.beq g g'<;>rfl
  | _=>simp only[hb,bQ,nO];rfl
 | eref b g i z o =>
  cases hb:T b with
  | lsl g' e=>simp only[hb,bQ,fm,pW];cases (Nat.beq g g'&&Nat.blt i e.length)<;>rfl
  | _=>simp only[hb,bQ,pW];rfl
 | _=>rfl
theorem af3{off:Nat}{cs:List AV} : Yp T off (.eptr cs)=some (.eptr (cs.drop off)):=rfl
theorem af5{off l o:Nat} : Yp T off (.ref l o)=some (.ref l (o+off)):=rfl
theorem af4{off b g o:Nat} : Yp T off (.lref b g o)=nO (T b) g (.lref b g (o+off)):=rfl
theorem J'{g g' : Nat}{cs:List AV}{r:AV} : nO (.lbox g cs) g' r=cond (Nat.beq g' g) (some r) none:=rfl
theorem af6{off b g i z o:Nat} : Yp T off (.eref b g i z o)=pW (T b) g i (.eref b g i z (o+off)):=rfl
theorem M7{g g' i:Nat}{e:List (List AV)}{r:AV} : pW (.lsl g e) g' i r=cond (Nat.beq g' g&&Nat.blt i e.length) (some r) none:=rfl
theorem WQ{n sz:Nat}{x i:aF} : WO A d (⟨some t,none,.ixArr n sz x i⟩ :: os) ⟨T,H,lo,gen⟩ K=dE A d ((asNat (i.eval A.aZ T)).bind fun k=>cond (Nat.blt k n) (Yp T (k*sz) (x.addr A.aZ T)) none) t os T H lo gen K:=by
 refine fJ ?_
 simp only[aE]
 cases asNat (i.eval A.aZ T) with
 | none=>rfl
 | some k =>
  simp only[aoe]
  cases Nat.blt k n with
  | false=>rfl
  | true =>
   simp only[aou,cond_true,Yp]
   cases x.addr A.aZ T with
   | lref b g o =>
    cases hb:T b with
    | lbox g' cs=>simp only[hb,bQ,fm,nO];cases Nat.beq g g'<;>rfl
    | _=>simp only[hb,bQ,nO];rfl
   | eref b g i z o =>
    cases hb:T b with
    | lsl g' e=>simp only[hb,bQ,fm,pW];cases (Nat.beq g g'&&Nat.blt i e.length)<;>rfl
    | _=>simp only[hb,bQ,pW];rfl
   | _=>rfl
theorem R5{agg:Bool}{off sz:Nat}{cs:List AV} : Z8 (.agg cs) agg sz off=ab false agg sz off cs:=rfl
theorem ab'{sz:Nat}{x i:aF} : WO A d (⟨some t,none,.ixSl sz x i⟩ :: os) ⟨T,H,lo,gen⟩ K=dE A d (ixV T sz (x.addr A.aZ T) (asNat (i.eval A.aZ T))) t os T H lo gen K:=by
 refine fJ ?_
 simp only[aE,ixV]
 cases x.addr A.aZ T with
 | slice e own =>
  cases asNat (i.eval A.aZ T) with
  | none=>rfl
  | some n =>
   simp only[aoe,Kc]
   cases e[n]? with
   | none=>rfl
   | some r=>simp only[aoe];cases Nat.beq r.length sz<;>rfl
 | sref l o m z =>
  cases asNat (i.eval A.aZ T) with
  | none=>rfl
  | some n=>simp only[aoe];cases Nat.blt n m<;>rfl
 | lsr s g =>
  cases hs:T s with
  | lsl g' e =>
   simp only[hs]
   cases Nat.beq g g' with
   | false=>rfl
   | true =>
    simp only[cond_true]
    cases asNat (i.eval A.aZ T) with
    | none=>rfl
    | some n =>
     simp only[aoe,Kc]
     cases e[n]? with
     | none=>rfl
     | some r=>simp only[aoe];cases Nat.beq r.length sz<;>rfl
  | _=>simp[hs]
 | _=>rfl
theorem age{sz n:Nat}{e:List (List AV)}{own:Bool} : ixV T sz (.slice e own) (some n)=Kc sz (e[n]?) .eptr:=rfl
theorem agd{sz n l o m z:Nat} : ixV T sz (.sref l o m z) (some n)=cond (Nat.blt n m) (some (.ref l (o+n*sz))) none:=rfl
theorem agc{sz n s g:Nat} : ixV T sz (.lsr s g) (some n)=(match T s with|.lsl g' e=>cond (Nat.beq g g') (Kc sz (e[n]?) fun _=>.eref s g n sz 0) none|_=>none):=rfl
theorem acA{sz:Nat}{r:List AV}{f:List AV->AV} : Kc sz (some r) f=cond (Nat.beq r.length sz) (some (f r)) none:=rfl
theorem WM{agg:Bool}{n sz:Nat}{x i:aF} : WO A d (⟨some t,none,.index agg n sz x i⟩ :: os) ⟨T,H,lo,gen⟩ K=dE A d (Jq agg n sz (x.eval A.aZ T) (asNat (i.eval A.aZ T))) t os T H lo gen K:=by
 refine fJ ?_
 simp only[aE,Jq]
 cases asNat (i.eval A.aZ T) with
 | none=>cases x.eval A.aZ T<;>rfl
 | some k =>
  simp only[aoe]
  cases Nat.blt k n with
  | false=>cases x.eval A.aZ T<;>rfl
  | true=>cases x.eval A.aZ T<;>rfl
theorem R6{agg:Bool}{n sz k:Nat}{cs:List AV} : Jq agg n sz (.agg cs) (some k)=cond (Nat.blt k n) (ab false agg sz (k*sz) cs) none:=rfl
theorem J9{x i:aF} : WO A d (⟨some t,none,.indexStr x i⟩ :: os) ⟨T,H,lo,gen⟩ K=dE A d (Oa (x.eval A.aZ T) (asNat (i.eval A.aZ T))) t os T H lo gen K:=by
 refine fJ ?_
 simp only[aE,Oa]
 cases x.eval A.aZ T with
 | str l =>
  cases asNat (i.eval A.aZ T) with
  | none=>rfl
  | some n=>simp only[aoe];cases l[n]?<;>rfl
 | _=>rfl
theorem Wx{l:List UInt8}{n:Nat} : Oa (.str l) (some n)=It (l[n]?):=rfl
theorem R2{b:UInt8} : It (some b)=some (.int .u8 b.toNat):=rfl
theorem M6{x:aF}{i:Nat} : WO A d (⟨some t,none,.extract x i⟩ :: os) ⟨T,H,lo,gen⟩ K=dE A d (OJ (x.eval A.aZ T) i) t os T H lo gen K:=by
 refine fJ ?_
 simp only[aE,OJ]
 cases x.eval A.aZ T with
 | tuple vs=>simp only;cases vs[i]?<;>rfl
 | _=>rfl
theorem WJ{vs:List AV}{i:Nat} : OJ (.tuple vs) i=(vs[i]?).map AV.bD:=rfl
theorem agf{k:lU}{x:aF} : WO A d (⟨some t,none,.len k x⟩ :: os) ⟨T,H,lo,gen⟩ K=dE A d (JO T k (x.addr A.aZ T)) t os T H lo gen K:=by
 refine fJ ?_
 simp only[aE,JO]
 cases x.addr A.aZ T with
 | lsr s g =>
  cases hs:T s with
  | lsl g' e=>simp only[hs];cases Nat.beq g g'<;>rfl
  | _=>simp[hs]
 | _=>rfl
theorem ace{l:List UInt8} : JO T .str (.str l)=some (.int .i64 l.length):=rfl
theorem aca{e:List (List AV)}{own:Bool} : JO T .sl (.slice e own)=some (.int .i64 e.length):=rfl
theorem acd{l o m z:Nat} : JO T .sl (.sref l o m z)=some (.int .i64 m):=rfl
theorem acb{k:lU}{s g:Nat} : JO T k (.lsr s g)=(match T s with|.lsl g' e=>cond (Nat.beq g g') (iG k (.slice e false)) none|_=>none):=rfl
theorem ab4{f:FuncId}{args:List aF} : WO A d (⟨some t,none,.call (.fn f) args⟩ :: os) ⟨T,H,lo,gen⟩ K=(gF A.aZ T args=true/\qc A d (aD A f (jy A.aZ T args) H) t os T H lo gen K):=by
 rw[gd]
 simp only[cd,aE,aF.eval,oR,qx,qc,ao8,aoZ]
 refine propext ?_
 cases gF A.aZ T args with
 | false=>simp[bG]
 | true =>
  simp only[cond_true,aqI]
  cases aD A f (jy A.aZ T args) H with
  | none=>simp[bG]
  | some r =>
   obtain⟨v,c⟩:=r
   cases c with
   | none=>simp only[aok,aqf,aoe];cases (d&&(bk v).isSome)<;>simp[bG,AS.cH]
   | some c=>simp only[aok,aoe];cases d<;>simp[bG,AS.cH]
theorem WA{f:FuncId}{args:List aF} : WO A d (⟨none,none,.call (.fn f) args⟩ :: os) ⟨T,H,lo,gen⟩ K=(gF A.aZ T args=true/\AJ A d (aD A f (jy A.aZ T args) H) os T H lo gen K):=by
 rw[gd]
 simp only[cd,aE,aF.eval,oR,qx,AJ,ao8,aoZ]
 refine propext ?_
 cases gF A.aZ T args with
 | false=>simp[bG]
 | true =>
  simp only[cond_true,aqI]
  cases aD A f (jy A.aZ T args) H with
  | none=>simp[bG]
  | some r =>
   obtain⟨v,c⟩:=r
   cases c with
   | none=>simp only[aok,aqf,aoe];cases (d&&(bk v).isSome)<;>simp[bG,AS.cH]
   | some c=>simp only[aok,aoe];cases d<;>simp[bG,AS.cH]
theorem WB{i:Nat}{args:List aF} : WO A d (⟨some t,none,.call (.tmp i) args⟩ :: os) ⟨T,H,lo,gen⟩ K=(gF A.aZ T args=true/\Od A d (T i) (jy A.aZ T args) t os T H lo gen K):=by
 rw[gd]
 simp only[cd,aE,aF.eval,oR,qx,Od,qc]
 refine propext ?_
 cases hT:T i with
 | func fn fs cs =>
  cases fn with
  | func n =>
   cases gF A.aZ T args with
   | false=>simp[bG]
   | true =>
    simp only[cond_true,aqI]
    cases aD A n (fs++jy A.aZ T args++cs) H with
    | none=>simp[bG]
    | some r =>
     obtain⟨v,c⟩:=r
     cases c with
     | none=>simp only[aok,aqf,aoe];cases (d&&(bk v).isSome)<;>simp[bG,AS.cH]
     | some c=>simp only[aok,aoe];cases d<;>simp[bG,AS.cH]
  | _=>simp[bG]
 | _=>simp[bG]
theorem Wy{n:FuncId}{fs vs cs:List AV} : Od A d (.func (.func n) fs cs) vs t os T H lo gen K=qc A d (aD A n (fs++vs++cs) H) t os T H lo gen K:=rfl
theorem agn{v:AV} : qc A false (some (v,none)) t os T H lo gen K=WO A false os ⟨T.put t v,H,lo,gen⟩ K:=by
 simp[qc,aH,AS.cc]
theorem acx{v:AV} : qc A true (some (v,none)) t os T H lo gen K=dE A true (some v) t os T H lo gen K:=by
 simp only[qc,dE,aoe]
 cases (bk v).isSome<;>simp[bG,AS.cc]
theorem acw{v:AV}{h:ah}{l:Nat} : qc A false (some (v,some ⟨h,l⟩)) t os T H lo gen K=WO A false os ⟨T.put t v,h,cond (Nat.blt l lo) l lo,gen⟩ K:=by
 simp[qc,aH,AS.cc,AS.gk]
theorem acy{v:AV} : AJ A false (some (v,none)) os T H lo gen K=WO A false os ⟨T,H,lo,gen⟩ K:=by
 simp[AJ,aH]
theorem W8{v:AV}{h:ah}{l:Nat} : AJ A false (some (v,some ⟨h,l⟩)) os T H lo gen K=WO A false os ⟨T,h,cond (Nat.blt l lo) l lo,gen⟩ K:=by
 simp[AJ,aH,AS.gk]
theorem R1{b:Bool}{sz bytes i:Nat}{y:aF} : WO A false (⟨some t,none,.append b false sz bytes (.tmp i) y⟩ :: os) ⟨T,H,lo,gen⟩ K=Tr A b sz bytes i (T i) (y.eval A.aZ T) t os T H lo gen K:=by
 rw[gd]
 simp only[cd,aE,dG,Tr]
 cases hT:T i with
 | slice e own =>
  simp only[an8,Option.map_eq_map]
  cases aC b sz bytes (.slice e own) (y.eval A.aZ T) with
  | none=>simp[bG]
  | some z=>simp[bG,AS.cH,AS.cc]
 | lsl g e =>
  simp only[aoq,an8]
  cases dm sz (y.eval A.aZ T)<;>simp[bG]
 | aj =>
  simp only[an8]
  cases aC b sz bytes (.slice [] true) (y.eval A.aZ T) with
  | none=>simp[bG]
  | some z=>simp[bG,AS.cH,AS.cc]
 | _=>simp[bG]
theorem abY{b:Bool}{sz bytes i:Nat}{y:AV} : Tr A b sz bytes i .aj y t os T H lo gen K=bG (aC b sz bytes (.slice [] true) y) fun z=>WO A false os ⟨T.put t z,H,lo,gen⟩ K:=rfl
theorem abW{b:Bool}{sz bytes i:Nat}{e:List (List AV)}{own:Bool}{y:AV} : Tr A b sz bytes i (.slice e own) y t os T H lo gen K=bG (aC b sz bytes (.slice e own) y) fun z=>WO A false os ⟨(T.put i (.slice e false)).put t z,H,lo,gen⟩ K:=rfl
theorem ab0{b:Bool}{sz bytes:Nat}{v:AV}{y:aF} : WO A false (⟨some t,none,.append b false sz bytes (.bt v) y⟩ :: os) ⟨T,H,lo,gen⟩ K=dE A false (aC b sz bytes v (y.eval A.aZ T)) t os T H lo gen K:=by
 refine fJ ?_
 simp only[aE,dG,an8,aF.eval]
theorem Xa{dst:Option Nat}{sz:Nat}{a v:aF} : WO A d (⟨dst,none,.store sz a v⟩ :: os) ⟨T,H,lo,gen⟩ K=bG (cd A.aZ (aD A) d ⟨T,H,lo,gen⟩ ⟨dst,none,.store sz a v⟩) fun s'=>WO A d os s' K:=gd
theorem WW{dst:Option Nat}{agg:Bool}{sz:Nat}{x:aF} : WO A d (⟨dst,none,.load true agg sz x⟩ :: os) ⟨T,H,lo,gen⟩ K=bG (cd A.aZ (aD A) d ⟨T,H,lo,gen⟩ ⟨dst,none,.load true agg sz x⟩) fun s'=>WO A d os s' K:=gd
theorem Ka{dst:Option Nat}{x:aF} : WO A d (⟨dst,none,.nilCheck x⟩ :: os) ⟨T,H,lo,gen⟩ K=bG (cd A.aZ (aD A) d ⟨T,H,lo,gen⟩ ⟨dst,none,.nilCheck x⟩) fun s'=>WO A d os s' K:=gd
theorem R8{dst:Option Nat}{f:Fn}{a b:List aF} : WO A d (⟨dst,none,.mkfunc f a b⟩ :: os) ⟨T,H,lo,gen⟩ K=bG (cd A.aZ (aD A) d ⟨T,H,lo,gen⟩ ⟨dst,none,.mkfunc f a b⟩) fun s'=>WO A d os s' K:=gd
end
theorem Wt{G:Nat->List AV}{T:aQ}{v:AV} : aF.addr G T (.bt v)=v:=rfl
theorem Wv{G:Nat->List AV}{T:aQ}{g:Nat} : aF.addr G T (.aZ g)=.eptr (G g):=rfl
theorem Wu{G:Nat->List AV}{T:aQ}{f:FuncId} : aF.addr G T (.fn f)=.func (.func f) [] []:=rfl
def spK(sz:Nat)(es:List (List AV))(i:Nat)(o:Option (List AV))(r:List (Nat × AV)):Option (List (List AV)):=match o with
 | none=>none
 | some cs=>cond (Nat.blt i es.length) (cY sz (es.set i cs) r) none
theorem agq{sz:Nat}{es:List (List AV)} : cY sz es []=some es:=rfl
theorem ago{sz i:Nat}{es:List (List AV)}{v:AV}{r:List (Nat × AV)} : cY sz es ((i,v) :: r)=spK sz es i (v.elem sz) r:=by
 simp only[cY,spK]
 cases v.elem sz<;>rfl
theorem agp{sz i:Nat}{es:List (List AV)}{cs:List AV}{r:List (Nat × AV)} : spK sz es i (some cs) r=cond (Nat.blt i es.length) (cY sz (es.set i cs) r) none:=rfl
theorem WD{sz:Nat}{cs:List AV} : AV.elem sz (.agg cs)=cond (Nat.beq (cs.map AV.drop).length sz&&(cs.map AV.drop).all AV.plain) (some (cs.map AV.drop)) none:=rfl
theorem WG{k:IntKind}{n:Int} : AV.elem 1 (.int k n)=some [.int k n]:=rfl
theorem WI{l:List UInt8} : AV.elem 1 (.str l)=some [.str l]:=rfl
theorem WE{b:Bool} : AV.elem 1 (.bool b)=some [.bool b]:=rfl
theorem WH{e:List (List AV)}{o:Bool} : AV.elem 1 (.slice e o)=some [.slice e false]:=rfl
def bpK(cells:List AV)(off sz:Nat)(o:Option (List AV))(r:List (Nat × Nat × AV)):Option (List AV):=match o with
 | none=>none
 | some cs=>cond (Nat.beq cs.length sz&&Nat.ble (off+cs.length) cells.length) (cn (putAt cells off (cs.map AV.drop)) r) none
theorem afV{cells:List AV} : cn cells []=some cells:=rfl
theorem afT{cells:List AV}{off sz:Nat}{v:AV}{r:List (Nat × Nat × AV)} : cn cells ((off,sz,v) :: r)=bpK cells off sz v.cells r:=by
 simp only[cn,bpK]
 cases v.cells<;>rfl
theorem afU{cells cs:List AV}{off sz:Nat}{r:List (Nat × Nat × AV)} : bpK cells off sz (some cs) r=cond (Nat.beq cs.length sz&&Nat.ble (off+cs.length) cells.length) (cn (putAt cells off (cs.map AV.drop)) r) none:=rfl
def YU:AV->Bool
 | .int .u8 _=>false
 | .any=>false
 | _=>true
def RI:List AV->Bool
 | []=>true
 | x :: r=>YU x&&RI r
def nb:List (List AV)->Bool
 | []=>true
 | r :: e=>RI r&&nb e
theorem RJ:∀ r:List AV,(r.all fun|.int .u8 _=>false|.any=>false|_=>true)=RI r
 | []=>rfl
 | x :: r=>by
  rw[ao6,RI,<- RJ r]
  congr 1
theorem RL:∀ e:List (List AV),jj e=nb e
 | []=>rfl
 | r :: e=>by
  have:=RL e
  simp only[jj] at this
  simp only[jj,ao6,nb,this]
  rw[<- RJ];rfl
theorem Sc{E:List (List AV)} : kD false E=nb E:=by simp only[kD,an8,RL]
theorem ajn{E:List (List AV)} : jj E=nb E:=RL E
theorem agj:nb []=true:=rfl
theorem agl{r:List AV}{e:List (List AV)} : nb (r :: e)=(RI r&&nb e):=rfl
theorem R' : RI []=true:=rfl
theorem Sa{x:AV}{r:List AV} : RI (x :: r)=(YU x&&RI r):=rfl
theorem Y1{n:Int} : YU (.int .i64 n)=true:=rfl
theorem Y3{l:List UInt8} : YU (.str l)=true:=rfl
theorem agk{b:Bool} : YU (.bool b)=true:=rfl
theorem Y2{e:List (List AV)}{o:Bool} : YU (.slice e o)=true:=rfl
theorem agm{cs:List AV} : YU (.agg cs)=true:=rfl
theorem tF{E:List (List AV)}(h:∀ r∈E,RI r=true):nb E=true:=by
 induction E with
 | nil=>rfl
 | cons r E ih=>rw[nb,h r (aoF ..),ih fun r hr=>h r (apl _ hr)];rfl
theorem Bm:∀ {e f:List (List AV)},nb (e++f)=(nb e&&nb f)
 | [],f=>by simp[nb]
 | r :: e,f=>by simp only[apu,nb,Bm,Bool.and_assoc]
def we(sz:Nat)(e:List (List AV)):Prop:=(∀ r∈e,r.length=sz)/\nb e=true
theorem vH{sz:Nat}{e:List (List AV)}(h:∀ r∈e,r.length=sz):gG sz e=true:=by
 cases e with
 | nil=>rfl
 | cons r e=>simp[gG,h r (aoF ..)]
theorem vo{sz bytes:Nat}{e f:List (List AV)}{o:Bool}(h1:we sz e)(h2:we sz f)(hb:(e.length+f.length)*bytes<=70368744177664)(hl:e.length+f.length<=70368744177664) :
  aC false sz bytes (.slice e true) (.slice f o)=some (.slice (e++f) true):=by
 simp only[aC,dm,aoe]
 cases f with
 | nil=>simp
 | cons r f =>
  have hr:kD false (e++r :: f)=true:=by rw[Sc,Bm,h1.2,h2.2];rfl
  have hf:cF sz bytes e (r :: f)=true:=by
   simp only[cF,vH h1.1,vH h2.1,aoR hb,aoR hl,apb]
  simp only[hr,hf,apb,cond_true]
theorem Tt{b:Bool}{sz bytes:Nat}{e:List (List AV)}{o o' : Bool} : aC b sz bytes (.slice e o) (.slice [] o')=some (.slice e o):=rfl
def y8(v:AV)(g:Nat):Option AV:=match v with
 | .lsl g' e=>cond (Nat.beq g g') (cond (jj e) (some (.slice e true)) none) none
 | _=>none
def oe(T:aQ)(t:Nat)(v:AV):Option AV:=match v with
 | .lsl _ e=>cond (jj e) (some (.slice e true)) none
 | .lsr b g=>y8 (T b) g
 | .lbox ..|.lref ..|.eref ..|.iter ..=>none
 | v=>some v
def aea(base lo:Nat)(H:ah)(o:Option AV):Option (AV × Option gJ):=o.bind fun r=>cond (r.leaves base) (some (r,cond (Nat.beq lo base) none (some ⟨H.take base,lo⟩))) none
def zk(o:Option bZ)(agg:Bool)(sz:Nat):Option AV:=match o with
 | some (.box _ cs)=>ab false agg sz 0 cs
 | _=>none
def Ld(v:AV)(H:ah)(agg:Bool)(sz:Nat):Option AV:=match v with
 | .lbox _ cs=>ab false agg sz 0 cs
 | .ref loc 0=>zk H[loc]? agg sz
 | _=>none
def Ym(o:Option AV)(l:Option (List AV)):Option (List AV):=o.bind fun v=>l.map (v.bD :: ·)
section
variable {T:aQ}{H:ah}{lo gen base t:Nat}{rs:List gL}
def pg(base lo:Nat)(H:ah):Bool:=cond (Nat.beq lo base) true (((H.take base).drop lo).all fun o=>match o with|.cS cs=>cs.all (AV.aU base)|_=>true)
theorem W2{n:Nat}{H:ah} : pg n n H=true:=by simp[pg]
theorem af7:fin base rs ⟨T,H,lo,gen⟩=cond (pg base lo H) (aea base lo H (kC ⟨T,H,lo,gen⟩ rs)) none:=rfl
theorem ab9{v:AV} : aea base lo H (some v)=cond (v.leaves base) (some (v,cond (Nat.beq lo base) none (some ⟨H.take base,lo⟩))) none:=rfl
theorem acn:kC ⟨T,H,lo,gen⟩ [.tmp t]=oe T t (T t):=by
 simp only[kC,nT,oe]
 cases hT:T t with
 | lsl g e=>simp only[hT]
 | lsr b g =>
  cases hb:T b with
  | lsl g' e =>
   simp only[hb,y8]
   cases Nat.beq g g' with
   | false=>simp only[an8,hN,hT];rfl
   | true=>simp only[cond_true,hb]
  | _=>simp only[hb,y8,hN,hT];rfl
 | _=>simp only[hN,hT];rfl
theorem Sb{b g:Nat} : oe T t (.lsr b g)=y8 (T b) g:=rfl
theorem R7{g g' : Nat}{e:List (List AV)} : y8 (.lsl g e) g'=cond (Nat.beq g' g) (cond (jj e) (some (.slice e true)) none) none:=rfl
theorem W5{a sz:Nat}{agg:Bool} : kC ⟨T,H,lo,gen⟩ [.cell a agg sz]=hN ⟨T,H,lo,gen⟩ (.cell a agg sz):=rfl
theorem acm:kC ⟨T,H,lo,gen⟩ []=some (.tuple []):=rfl
theorem aco{r1 r2:gL}{rs:List gL} : kC ⟨T,H,lo,gen⟩ (r1 :: r2 :: rs)=(mu ⟨T,H,lo,gen⟩ (r1 :: r2 :: rs)).map .tuple:=rfl
theorem acr:mu ⟨T,H,lo,gen⟩ []=some []:=rfl
theorem acs{r:gL}{rs:List gL} : mu ⟨T,H,lo,gen⟩ (r :: rs)=Ym (hN ⟨T,H,lo,gen⟩ r) (mu ⟨T,H,lo,gen⟩ rs):=rfl
theorem WC{v:AV}{l:List AV} : Ym (some v) (some l)=some (v.bD :: l):=rfl
theorem acu:hN ⟨T,H,lo,gen⟩ (.tmp t)=cond (aG (T t)) (some (T t)) none:=rfl
theorem acq{a sz:Nat}{agg:Bool} : hN ⟨T,H,lo,gen⟩ (.cell a agg sz)=Ld (T a) H agg sz:=by
 simp only[hN,Ld]
 cases T a with
 | ref loc off =>
  cases off with
  | zero=>cases hl:H[loc]? with
   | none=>simp only[hl,zk]
   | some o=>cases o<;>simp only[hl,zk]
  | succ n=>rfl
 | _=>rfl
theorem W6{g sz:Nat}{cs:List AV}{agg:Bool} : Ld (.lbox g cs) H agg sz=ab false agg sz 0 cs:=rfl
theorem W7{loc sz:Nat}{agg:Bool} : Ld (.ref loc 0) H agg sz=zk H[loc]? agg sz:=rfl
theorem acp{ty:TypeId}{cs:List AV}{sz:Nat}{agg:Bool} : zk (some (.box ty cs)) agg sz=ab false agg sz 0 cs:=rfl
theorem Xf{b:Bool} : oe T t (AV.bool b)=some (AV.bool b):=rfl
theorem acE{k:IntKind}{n:Int} : oe T t (AV.int k n)=some (AV.int k n):=rfl
theorem acH{l:List UInt8} : oe T t (AV.str l)=some (AV.str l):=rfl
theorem acD:oe T t AV.any=some AV.any:=rfl
theorem Nb:oe T t AV.di=some AV.di:=rfl
theorem Na:oe T t AV.de=some AV.de:=rfl
theorem Xh{kz:Nat}{ka va:Bool}{es:List (List AV)} : oe T t (AV.fg kz ka va es)=some (AV.fg kz ka va es):=rfl
theorem Kf:oe T t AV.cM=some AV.cM:=rfl
theorem Hs:oe T t AV.bR=some AV.bR:=rfl
theorem Sm{e:List (List AV)}{own:Bool} : oe T t (AV.slice e own)=some (AV.slice e own):=rfl
theorem Xg{cs:List AV} : oe T t (AV.eptr cs)=some (AV.eptr cs):=rfl
theorem acG{loc off:Nat} : oe T t (AV.ref loc off)=some (AV.ref loc off):=rfl
theorem Xk{loc off n z:Nat} : oe T t (AV.sref loc off n z)=some (AV.sref loc off n z):=rfl
theorem Xj{loc:Nat} : oe T t (AV.mref loc)=some (AV.mref loc):=rfl
theorem acF{g:Nat}{e:List (List AV)} : oe T t (AV.lsl g e)=cond (jj e) (some (.slice e true)) none:=rfl
theorem Xi{fn:Fn}{fs cs:List AV} : oe T t (AV.func fn fs cs)=some (AV.func fn fs cs):=rfl
theorem Sl{u:TypeId}{v:AV} : oe T t (AV.iface u v)=some (AV.iface u v):=rfl
theorem acC{cs:List AV} : oe T t (AV.agg cs)=some (AV.agg cs):=rfl
theorem Sn{vs:List AV} : oe T t (AV.tuple vs)=some (AV.tuple vs):=rfl
end
def Tq(A:AP)(sz bytes:Nat)(x y:AV)(t:Nat)(os:List aM)(T:aQ)(H:ah)(lo gen:Nat)(K:AS->Prop):Prop :=
 bG (iD ⟨T,H,lo,gen⟩ sz bytes x y) fun r=>match r.2 with
  | some s'=>WO A false os (s'.cc t r.1) K
  | none=>WO A false os ⟨T.put t r.1,H,lo,gen⟩ K
def V0(k:AV)(kz:Nat)(ka:Bool):Option (List AV):=k.drop.cells.bind fun kc=>cond (Nat.beq kc.length kz&&ka==k.drop.isAgg) (some kc) none
def Bk(H:ah)(ok:Bool)(kz:Nat)(ka va:Bool)(ks:List CK)(zero:List AV)(m k:AV):Option AV :=
 (V0 k kz ka).bind fun kc=>match m with
  | .de=>some (y6 ok va zero false)
  | .nC ml mj mD es=>cond (Nat.beq kz ml&&ka==mj&&va==mD&&sR es&&VW ks kc) ((dH ks kc es).map (pf ok va zero kz es)) none
  | .fg ml mj mD es=>cond (Nat.beq kz ml&&ka==mj&&va==mD) ((dH ks kc es).map (pf ok va zero kz es)) none
  | .mref l=>match H[l]? with
   | some (.map ml mj mD es)=>cond (Nat.beq kz ml&&ka==mj&&va==mD) ((dH ks kc es).map (pf ok va zero kz es)) none
   | some (.fg ml mj mD es)=>cond (Nat.beq kz ml&&ka==mj&&va==mD) ((dH ks kc es).map (pf ok va zero kz es)) none
   | _=>none
  | _=>none
def aky(H:ah)(m:AV):Option AV:=match m with
 | .de=>some (.int .i64 0)
 | .fg _ _ _ es=>some (.int .i64 es.length)
 | .mref l=>match H[l]? with
  | some (.map _ _ _ es)=>some (.int .i64 es.length)
  | some (.fg _ _ _ es)=>some (.int .i64 es.length)
  | _=>none
 | _=>none
section
variable {A:AP}{T:aQ}{H:ah}{lo gen:Nat}{K:AS->Prop}{d:Bool}{os:List aM}{t:Nat}
theorem nZ{op:fQ}{x:Option (AV × Option AS)}(h:aE A.aZ (aD A) ⟨T,H,lo,gen⟩ op=x):WO A false (⟨some t,none,op⟩ :: os) ⟨T,H,lo,gen⟩ K=bG x fun r=>match r.2 with
  | some s'=>WO A false os (s'.cc t r.1) K
  | none=>WO A false os ⟨T.put t r.1,H,lo,gen⟩ K:=by
 rw[gd]
 simp only[cd,h]
 cases x with
 | none=>simp[bG]
 | some r =>
  obtain⟨z,s'⟩:=r
  cases s' with
  | none=>simp only[aoe,aoq,an8,aH];rfl
  | some s'=>simp only[aoe,an8,aH];rfl
theorem abZ{sz bytes:Nat}{x y:aF} : WO A false (⟨some t,none,.appendO sz bytes x y⟩ :: os) ⟨T,H,lo,gen⟩ K=Tq A sz bytes (x.addr A.aZ T) (y.eval A.aZ T) t os T H lo gen K:=nZ rfl
theorem Ku{sz bytes:Nat}{x y v:AV}(h:wL x y=some v):Tq A sz bytes x y t os T H lo gen K=WO A false os ⟨T.put t v,H,lo,gen⟩ K:=by
 simp only[Tq,iD,h,aH]
theorem Zk{sz bytes:Nat}{r:List AV}{f:List (List AV)}{own:Bool}(h1:cF sz bytes [] (r :: f)=true)(h2:dP (r :: f)=true) :
  Tq A sz bytes (.slice [] true) (.slice (r :: f) own) t os T H lo gen K=WO A false os ⟨T.put t (.sref H.length 0 (f.length+1) sz),H++[.box bV (r :: f).flatten],cond (Nat.blt H.length lo) H.length lo,gen⟩ K:=by
 simp only[Tq,iD,wL,iT,dm,aoe,List.isEmpty_cons,aoj,aou,h1,h2,cond_true,aH,an5]
 rfl
theorem Ih{sz bytes:Nat}{r:List AV}{f:List (List AV)}{own:Bool}(h1:cF sz bytes [] (r :: f)=true)(h2:dP (r :: f)=true) :
  Tq A sz bytes .aj (.slice (r :: f) own) t os T H lo gen K=WO A false os ⟨T.put t (.sref H.length 0 (f.length+1) sz),H++[.box bV (r :: f).flatten],cond (Nat.blt H.length lo) H.length lo,gen⟩ K:=by
 simp only[Tq,iD,wL,iT,dm,aoe,List.isEmpty_cons,aoj,aou,h1,h2,cond_true,aH,an5]
 rfl
theorem Kt{sz bytes n l:Nat}{ty:TypeId}{cs:List AV}{f:List (List AV)}{own:Bool}(hl:H[l]?=some (.box ty cs))(hc:cs.length=n*sz)(h1:(n+f.length)*bytes<=70368744177664)(h2:n+f.length<=70368744177664)
  (h3:gG sz f=true) (h4:dP f=true) :
  Tq A sz bytes (.sref l 0 n sz) (.slice f own) t os T H lo gen K=WO A false os ⟨T.put t (.sref H.length 0 (n+f.length) sz),H.set l .dead++[.box bV (cs++f.flatten)],cond (Nat.blt l lo) l lo,gen⟩ K:=by
 have e1:Nat.beq cs.length (n*sz)=true:=by rw[hc];exact apU _
 simp only[Tq,iD,wL,iT,dm,aoe,hl,e1,h3,h4,apU,Bool.and_true,aoR h1,aoR h2,cond_true,aH]
 rfl
theorem WY{sz bytes:Nat}{zero:List AV}{n:aF} : WO A false (⟨some t,none,.wJ sz bytes zero n⟩ :: os) ⟨T,H,lo,gen⟩ K =
  bG ((asNat (n.eval A.aZ T)).bind fun k=>cond (Nat.ble (k*bytes) 70368744177664&&Nat.ble k 70368744177664) (some k) none) fun k=>WO A false os ⟨T.put t (.sref H.length 0 k sz),H++[.box bV (List.replicate k zero).flatten],cond (Nat.blt H.length lo) H.length lo,gen⟩ K:=by
 rw[nZ rfl]
 simp only[aE,rK]
 cases asNat (n.eval A.aZ T) with
 | none=>simp[bG]
 | some k =>
  simp only[aoe]
  cases (Nat.ble (k*bytes) 70368744177664&&Nat.ble k 70368744177664) with
  | false=>simp[bG]
  | true=>simp only[cond_true,aH];rfl
theorem WZ{kz:Nat}{ka va:Bool} : WO A false (⟨some t,none,.uO kz ka va⟩ :: os) ⟨T,H,lo,gen⟩ K=WO A false os ⟨T.put t (.mref H.length),H++[.map kz ka va []],cond (Nat.blt H.length lo) H.length lo,gen⟩ K:=by
 rw[nZ rfl];simp only[aE,aH];rfl
theorem acf{ok:Bool}{kz:Nat}{ka va:Bool}{ks:List CK}{zero:List AV}{m k:aF} : WO A d (⟨some t,none,.look ok kz ka va ks zero m k⟩ :: os) ⟨T,H,lo,gen⟩ K=dE A d (Bk H ok kz ka va ks zero (m.addr A.aZ T) (k.eval A.aZ T)) t os T H lo gen K:=by
 refine fJ ?_
 simp only[aE,vD,Bk,V0]
 cases (k.eval A.aZ T).drop.cells with
 | none=>rfl
 | some kc =>
  simp only[aoe]
  cases (Nat.beq kc.length kz&&ka==(k.eval A.aZ T).drop.isAgg) with
  | false=>rfl
  | true =>
   simp only[cond_true,aoe]
   cases m.addr A.aZ T with
   | de=>rfl
   | nC ml mj mD es =>
    simp only[]
    cases (Nat.beq kz ml&&ka==mj&&va==mD&&sR es&&VW ks kc) with
    | false=>rfl
    | true=>simp only[cond_true,aqk];rfl
   | fg ml mj mD es =>
    simp only[uN]
    cases (Nat.beq kz ml&&ka==mj&&va==mD) with
    | false=>rfl
    | true=>simp only[cond_true,aoe,aqk];rfl
   | mref l =>
    simp only[uN]
    cases hl:H[l]? with
    | none=>rfl
    | some o =>
     cases o with
     | map ml mj mD es =>
      simp only[hl]
      cases (Nat.beq kz ml&&ka==mj&&va==mD) with
      | false=>rfl
      | true=>simp only[cond_true,aoe,aqk];rfl
     | fg ml mj mD es =>
      simp only[hl]
      cases (Nat.beq kz ml&&ka==mj&&va==mD) with
      | false=>rfl
      | true=>simp only[cond_true,aoe,aqk];rfl
     | _=>simp only[hl];rfl
   | _=>rfl
theorem acj{kz vz:Nat}{ka va:Bool}{ks:List CK}{m k v:aF} : WO A false (⟨none,none,.nQ kz ka va vz ks m k v⟩ :: os) ⟨T,H,lo,gen⟩ K =
  bG (qG ⟨T,H,lo,gen⟩ kz ka va vz ks (m.addr A.aZ T) (k.eval A.aZ T) (v.eval A.aZ T)) fun s'=>WO A false os (s'.cI v) K:=by
 rw[gd]
 simp only[cd,aE]
 cases qG ⟨T,H,lo,gen⟩ kz ka va vz ks (m.addr A.aZ T) (k.eval A.aZ T) (v.eval A.aZ T) with
 | none=>simp[bG]
 | some s'=>simp only[aok,aoe,an8,aH];rfl
end
end
end Go.Abs
namespace Go.Abs
open Go
section
abbrev zO(n:Int):Prop:=-9223372036854775808<=n/\n<=9223372036854775807
theorem wrap64{n:Int}(h:-9223372036854775808<=n/\n<=9223372036854775807):IntKind.i64.wrap n=n:=by
 exact IntWalk.i64_in _ h
theorem S7{n:Int}(h:0<=n/\n<=255):IntKind.u8.wrap n=n:=IntWalk.u8_in _ h
theorem vp{k:IntKind}{n:Nat} : asNat (.int k n)=some n:=by simp[asNat]
theorem LC{k:IntKind}{n:Nat} : asNat (.int k (no_index (@OfNat.ofNat Int n instOfNat)))=some n:=by
 show asNat (.int k ((n:Nat):Int))=some n
 exact vp
theorem LB{k:IntKind}{a n:Nat} : asNat (.int k ((a:Int)+no_index (@OfNat.ofNat Int n instOfNat)))=some (a+n):=by
 show asNat (.int k ((a:Int)+((n:Nat):Int)))=some (a+n)
 rw[<- Int.natCast_add];exact vp
theorem fX{k:IntKind}{n:Int}(h:0<=n):asNat (.int k n)=some n.toNat:=by simp[asNat,h]
theorem Kw{a b:Nat} : Nat.ble a b=decide (a<=b):=by
 cases h:Nat.ble a b with
 | true=>simp[Nat.le_of_ble_eq_true h]
 | false=>simp[show ¬ a<=b from fun e=>by rw[aoR e] at h;cases h]
theorem Tw{a b:Nat} : Nat.blt a b=decide (a<b):=by
 show Nat.ble (a+1) b=_
 rw[Kw];rfl
theorem dle{a b:Nat}(h:a<=b):decide (a<=b)=true:=by simp[h]
theorem dlt{a b:Nat}(h:a<b):decide (a<b)=true:=by simp[h]
theorem qW{a b:Int}(h:a<b):decide (a<b)=true:=by simp[h]
theorem qV{a b:Int}(h:b<=a):decide (a<b)=false:=by simp;omega
theorem qU{a b:Int}(h:a<=b):decide (a<=b)=true:=by simp[h]
theorem qT{a b:Int}(h:b<a):decide (a<=b)=false:=by simp;omega
theorem qS{a b:Int}(h:a=b):(a==b)=true:=by simp[h]
theorem qR{a b:Int}(h:a≠b):(a==b)=false:=by simp[h]
theorem qY{a b:Int}(h:a≠b):(a != b)=true:=by simp[h]
theorem qX{a b:Int}(h:a=b):(a != b)=false:=by simp[h]
theorem abH{a b:Nat}(h:a≠b):Nat.beq a b=false:=by
 cases hb:Nat.beq a b with
 | false=>rfl
 | true=>exact absurd (apo hb) h
theorem abI{a b:Nat}(h:a=b):Nat.beq a b=true:=by rw[h];exact apU b
theorem Zv{n m:Nat}(h:n<=m):Nat.ble n m=true:=by simpa using h
theorem Kv{a b:Int}{p:Prop}{_:Decidable p}(h:a=b↔p):(a==b)=decide p:=by
 by_cases hp:p
 ·rw[h.2 hp];simp[hp]
 ·simp[hp];exact fun e=>hp (h.1 e)
theorem Zt:(true==false)=false:=rfl
theorem Zs:(false==true)=false:=rfl
def ints(l:List Int):List (List AV):=l.map fun n=>[.int .i64 n]
def strs(l:List (List UInt8)):List (List AV):=l.map fun n=>[.str n]
theorem nJ{l:List Int} : (ints l).length=l.length:=by simp[ints]
theorem aW{l:List (List UInt8)} : (strs l).length=l.length:=by simp[strs]
theorem ints_at{l:List Int}{i:Nat}{n:Int}(h:l[i]?=some n):(ints l)[i]?=some [.int .i64 n]:=by simp[ints,h]
theorem fa{l:List (List UInt8)}{i:Nat}{n:List UInt8}(h:l[i]?=some n):(strs l)[i]?=some [.str n]:=by simp[strs,h]
theorem PC{l:List Int}{i:Nat} : (ints l)[i]?=l[i]?.map fun n=>[.int .i64 n]:=by simp[ints]
theorem me:∀ {l:List (List UInt8)} {n:Nat},n=l.length->chunks 1 n (l.map .str)=strs l
 | [],0,_=>rfl
 | a :: l,n+1,h=>by
  simp only[aoh,chunks,strs,apr,aoV,apO,apc]
  rw[me (by simpa using h)];rfl
theorem Ni{l:List (List UInt8)}{n:Nat}(h:l.length<=n):(strs l).take n=strs l:=aoJ (by rw[aW];exact h)
theorem vM{l:List Int} : we 1 (ints l):=⟨fun r hr=>by simp only[ints,aoy] at hr;obtain⟨n,_,rfl⟩:=hr;rfl,tF fun r hr=>by simp only[ints,aoy] at hr;obtain⟨n,_,rfl⟩:=hr;rfl⟩
theorem vY{l:List (List UInt8)} : we 1 (strs l):=⟨fun r hr=>by simp only[strs,aoy] at hr;obtain⟨n,_,rfl⟩:=hr;rfl,tF fun r hr=>by simp only[strs,aoy] at hr;obtain⟨n,_,rfl⟩:=hr;rfl⟩
theorem gv:strs []=[]:=rfl
theorem Uv{l:List Int} : nb (ints l)=true:=vM.2
theorem XF{l:List (List UInt8)} : nb (strs l)=true:=vY.2
theorem Ga{l m:List Int} : ints l++ints m=ints (l++m):=by simp[ints]
theorem HC{l m:List (List UInt8)} : strs l++strs m=strs (l++m):=by simp[strs]
theorem qw{l m:List Int}{o:Bool}(h:l.length+m.length<=1099511627776):aC false 1 8 (.slice (ints l) true) (.slice (ints m) o)=some (.slice (ints (l++m)) true):=by
 rw[vo vM vM (by rw[nJ,nJ];omega) (by rw[nJ,nJ];omega),Ga]
theorem Ts{l:List Int}{n:Int}{o:Bool}(h:l.length<=1099511627775):aC false 1 8 (.slice (ints l) true) (.slice [[.int .i64 n]] o)=some (.slice (ints (l++[n])) true):=qw (m:=[n]) (by simp;omega)
theorem NZ{m:List Int}{n:Int}{o:Bool}(h:m.length<=1099511627775):aC false 1 8 (.slice [[.int .i64 n]] true) (.slice (ints m) o)=some (.slice (ints (n :: m)) true):=qw (l:=[n]) (m:=m) (by simp;omega)
theorem N0{n:Int}{o:Bool} : aC false 1 8 (.slice [] true) (.slice [[.int .i64 n]] o)=some (.slice (ints [n]) true):=qw (l:=[]) (m:=[n]) (by simp)
theorem Lz{m:List Int}{o:Bool}(h:m.length<=1099511627776):aC false 1 8 (.slice [] true) (.slice (ints m) o)=some (.slice (ints m) true):=qw (l:=[]) (by simpa using h)
theorem cb{l m:List (List UInt8)}{o:Bool}(h:l.length+m.length<=1099511627776):aC false 1 16 (.slice (strs l) true) (.slice (strs m) o)=some (.slice (strs (l++m)) true):=by
 rw[vo vY vY (by rw[aW,aW];omega) (by rw[aW,aW];omega),HC]
theorem fj{l:List (List UInt8)}{n:List UInt8}{o:Bool}(h:l.length<=1099511627775):aC false 1 16 (.slice (strs l) true) (.slice [[.str n]] o)=some (.slice (strs (l++[n])) true):=cb (m:=[n]) (by simp;omega)
theorem N1{n:List UInt8}{o:Bool} : aC false 1 16 (.slice [] true) (.slice [[.str n]] o)=some (.slice (strs [n]) true):=cb (l:=[]) (m:=[n]) (by simp)
theorem aaR{H l m:ah} : H++l++m=H++(l++m):=ao5 ..
theorem aaS{H l:ah} : List.length (H++l)=H.length+l.length:=List.length_append
theorem Ps{H l:ah}{k:Nat} : (H++l)[H.length+k]?=l[k]?:=by rw[aoz (by omega)];simp
theorem Uh{H l:ah} : (H++l)[H.length]?=l[0]?:=Ps (k:=0)
theorem Pt{H l:ah}{k:Nat}{x:bZ} : (H++l).set (H.length+k) x=H++l.set k x:=by rw[ap1 _ _ (by omega)];simp
theorem Ui{H l:ah}{x:bZ} : (H++l).set H.length x=H++l.set 0 x:=Pt (k:=0)
theorem Uj{H l:ah} : (H++l).take H.length=H:=by simp
theorem ae4{n k:Nat} : decide (n+k<n)=false:=by simp
theorem aaT{n:Nat} : decide (n<n)=false:=by simp
def Is(A:AP)(ty:TypeId)(v:AV)(t:Nat)(os:List aM)(T:aQ)(H:ah)(lo gen:Nat)(K:AS->Prop):Prop :=
 bG (v.drop.cells.bind fun cs=>cond (cs.all (bo H.length)) (some (cs.map AV.drop)) none) fun cs=>WO A false os ⟨T.put t (.ref H.length 0),H++[.box ty cs],cond (Nat.blt H.length lo) H.length lo,gen⟩ K
section
variable {A:AP}{T:aQ}{H:ah}{lo gen:Nat}{K:AS->Prop}{d:Bool}{os:List aM}{t:Nat}
theorem ab2{ty:TypeId}{x:aF} : WO A false (⟨some t,none,.box ty x⟩ :: os) ⟨T,H,lo,gen⟩ K=Is A ty (x.eval A.aZ T) t os T H lo gen K:=by
 rw[nZ rfl]
 simp only[aE,Is]
 cases (x.eval A.aZ T).drop.cells with
 | none=>simp[bG]
 | some cs =>
  simp only[aoe]
  cases cs.all (bo H.length) with
  | false=>simp[bG]
  | true=>simp only[cond_true,aH];rfl
theorem Zw{ty:TypeId}{cs:List AV} : Is A ty (.agg cs) t os T H lo gen K=bG (cond (cs.all (bo H.length)) (some (cs.map AV.drop)) none) fun cs=>WO A false os ⟨T.put t (.ref H.length 0),H++[.box ty cs],cond (Nat.blt H.length lo) H.length lo,gen⟩ K:=rfl
theorem Zx{ty:TypeId}{k:IntKind}{n:Int} : Is A ty (.int k n) t os T H lo gen K=WO A false os ⟨T.put t (.ref H.length 0),H++[.box ty [.int k n]],cond (Nat.blt H.length lo) H.length lo,gen⟩ K:=by
 simp only[Is,AV.drop,AV.cells,aoe];exact aH
end
theorem aaj{n:Nat}{k:IntKind}{m:Int} : bo n (.int k m)=true:=rfl
theorem T8{n:Nat}{b:Bool} : bo n (.bool b)=true:=rfl
theorem aam{n:Nat}{s:List UInt8} : bo n (.str s)=true:=rfl
theorem O6{n:Nat}{e:List (List AV)}{o:Bool} : bo n (.slice e o)=true:=rfl
theorem T9{n l o k z:Nat} : bo n (.sref l o k z)=Nat.ble l n:=rfl
theorem aal{n l o:Nat} : bo n (.ref l o)=Nat.ble l n:=rfl
theorem aak{n:Nat} : bo n .di=true:=rfl
def tY(A:AP)(d:Bool)(v:AV)(w:Bool)(p:Bool)(os:List aM)(T:aQ)(H:ah)(lo gen:Nat)(K:AS->Prop):Prop :=
 bG (match v with|.bool b=>some (b==w)|.tuple []=>some false|_=>none) fun b=>(b=true->p=true)/\WO A d os ⟨T,H,lo,gen⟩ K
def Kx(A:AP)(v:AV)(t:Nat)(os:List aM)(T:aQ)(H:ah)(lo gen:Nat)(K:AS->Prop):Prop :=
 bG v.drop.cells fun cs=>WO A false os ⟨T.put t (.lbox gen (cs.map AV.drop)),H,lo,gen+1⟩ K
def BZ(A:AP)(d:Bool)(r:Option (AV × Option gJ))(t:Nat)(os:List aM)(T:aQ)(H:ah)(lo gen:Nat)(K:AS->Prop):Prop :=
 bG (r.bind fun r=>match r.2 with
  | none=>cond (d&&(bk r.1).isSome) none (some r.1)
  | some _=>none) fun v=>WO A d os ⟨T.put t v,H,lo,gen⟩ K
section
variable {A:AP}{T:aQ}{H:ah}{lo gen:Nat}{K:AS->Prop}{d:Bool}{os:List aM}{t:Nat}
theorem afZ{c:Nw}{x:aF} : WO A d (⟨none,none,.HR c x⟩ :: os) ⟨T,H,lo,gen⟩ K=(gN c (x.addr A.aZ T)=true/\WO A d os ⟨T,H,lo,gen⟩ K):=by
 rw[gd]
 simp only[cd,aE]
 refine propext ?_
 cases gN c (x.addr A.aZ T) with
 | false=>simp[bG]
 | true=>simp[bG,bk,AS.cH]
theorem ab6{g:Nat}{w:Bool}{c:Nw}{x:aF} : WO A d (⟨none,some (g,w),.HR c x⟩ :: os) ⟨T,H,lo,gen⟩ K=tY A d (T g) w (gN c (x.addr A.aZ T)) os T H lo gen K:=by
 rw[gd]
 simp only[tY]
 unfold cd
 simp only[aE]
 cases hT:T g with
 | bool b =>
  cases hb:(b==w) with
  | true =>
   refine propext ?_
   cases gN c (x.addr A.aZ T) with
   | false=>simp[hb,bG]
   | true=>simp[hb,bG,bk,AS.cH]
  | false=>simp[hb,bG,AS.cH]
 | tuple l =>
  cases l with
  | nil=>simp[bG,AS.cH]
  | cons a l=>simp[bG]
 | _=>simp[bG]
theorem af1{p:Bool} : tY A d (.bool true) true p os T H lo gen K=(p=true/\WO A d os ⟨T,H,lo,gen⟩ K):=by simp[tY,aH]
theorem afX{p:Bool} : tY A d (.bool false) false p os T H lo gen K=(p=true/\WO A d os ⟨T,H,lo,gen⟩ K):=by simp[tY,aH]
theorem af0{p:Bool} : tY A d (.bool true) false p os T H lo gen K=WO A d os ⟨T,H,lo,gen⟩ K:=by simp[tY,aH]
theorem afY{p:Bool} : tY A d (.bool false) true p os T H lo gen K=WO A d os ⟨T,H,lo,gen⟩ K:=by simp[tY,aH]
theorem af2{p w:Bool} : tY A d (.tuple []) w p os T H lo gen K=WO A d os ⟨T,H,lo,gen⟩ K:=by simp[tY,aH]
theorem ab5{b w:Bool} : tY A d (.bool b) w true os T H lo gen K=WO A d os ⟨T,H,lo,gen⟩ K:=by simp[tY,aH]
theorem ab3{x:aF} : WO A false (⟨some t,none,.boxL x⟩ :: os) ⟨T,H,lo,gen⟩ K=Kx A (x.eval A.aZ T) t os T H lo gen K:=by
 rw[nZ rfl]
 simp only[aE,Kx]
 cases (x.eval A.aZ T).drop.cells with
 | none=>simp[bG]
 | some cs=>simp only[aok,aH];rfl
theorem Zu{cs:List AV} : Kx A (.agg cs) t os T H lo gen K=WO A false os ⟨T.put t (.lbox gen (cs.map AV.drop)),H,lo,gen+1⟩ K:=by
 simp only[Kx,AV.drop,AV.cells];exact aH
theorem Wz{f:FuncId}{args:List aF} : WO A d (⟨some t,none,.iw (.fn f) args⟩ :: os) ⟨T,H,lo,gen⟩ K=(gF A.aZ T args=true/\BZ A d (aD A f (jy A.aZ T args) H) t os T H lo gen K):=by
 rw[gd]
 simp only[cd,aE,aF.eval,oR,qx,BZ,ao8,aoZ]
 refine propext ?_
 cases gF A.aZ T args with
 | false=>simp[bG]
 | true =>
  simp only[cond_true,aqI]
  cases aD A f (jy A.aZ T args) H with
  | none=>simp[bG]
  | some r =>
   obtain⟨v,c⟩:=r
   cases c with
   | none=>simp only[aoe];cases (d&&(bk v).isSome)<;>simp[bG,AS.cH,AS.cc]
   | some c=>simp[bG]
theorem acv{v:AV} : BZ A false (some (v,none)) t os T H lo gen K=WO A false os ⟨T.put t v,H,lo,gen⟩ K:=by
 simp[BZ,aH]
theorem W0{sz:Nat}{z:List (List AV)}{ps:List (Nat × aF)} : WO A false (⟨some t,none,.nP sz z ps⟩ :: os) ⟨T,H,lo,gen⟩ K =
  bG ((cY sz z (iS A.aZ T ps)).bind fun E=>cond (dP E) (some E) none) fun E=>WO A false os ⟨T.put t (.sref H.length 0 E.length sz),H++[.box bV E.flatten],cond (Nat.blt H.length lo) H.length lo,gen⟩ K:=by
 rw[nZ rfl]
 simp only[aE,vB]
 cases cY sz z (iS A.aZ T ps) with
 | none=>simp[bG]
 | some E =>
  simp only[aoe]
  cases dP E with
  | false=>simp[bG]
  | true=>simp only[cond_true,aH];rfl
end
section
variable {b g o l n z:Nat}{e:List (List AV)}{own:Bool}{cs:List AV}{s:List UInt8}
theorem adL{b' : Nat} : gN (.frame b) (.lref b' g o)=Nat.beq b b':=rfl
theorem adS:gN .heap (.ref l o)=true:=rfl
theorem adP:gN .heap (.eptr cs)=true:=rfl
theorem adT:gN .heap (.slice e own)=true:=rfl
theorem adN:gN .heap (.sref l o n z)=true:=rfl
theorem adQ:gN .heap (.mref l)=true:=rfl
theorem adR:gN .heap .di=true:=rfl
theorem adM:gN .heap .de=true:=rfl
theorem adU:gN .heap (.str s)=true:=rfl
theorem adO:gN .heap (.agg cs)=true:=rfl
theorem adV:gN .Ut (.eptr cs)=true:=rfl
theorem adW:gN .Ut (.slice e own)=true:=rfl
end
def ahA(A:AP)(f:FuncId)(pre post:List AV)(i:Nat)(v:AV)(t:Nat)(os:List aM)(T:aQ)(H:ah)(lo gen:Nat)(K:AS->Prop):Prop:=match v with
 | .slice e own=>qc A false (aD A f (pre++.slice e own :: post) H) t os (T.put i (.slice e false)) H lo gen K
 | _=>False
section
variable {A:AP}{T:aQ}{H:ah}{lo gen:Nat}{K:AS->Prop}{os:List aM}{t:Nat}
end
def DT(A:AP)(sz bytes i:Nat)(v y:AV)(t:Nat)(os:List aM)(T:aQ)(H:ah)(lo gen:Nat)(K:AS->Prop):Prop:=match v with
 | .aj=>bG ((dm sz y).bind fun f=>cond (cF sz bytes [] f) (some f) none) fun f=>WO A false os ⟨(T.put i .any).put t (.lsl gen f),H,lo,gen+1⟩ K
 | .slice e own=>bG ((dm sz y).bind fun f=>cond (e.isEmpty&&own&&cF sz bytes [] f) (some f) none) fun f=>WO A false os ⟨(T.put i .any).put t (.lsl gen f),H,lo,gen+1⟩ K
 | .lsl _ e=>bG ((dm sz y).bind fun f=>cond (cF sz bytes e f) (some (e++f)) none) fun f=>WO A false os ⟨(T.put i .any).put t (.lsl gen f),H,lo,gen+1⟩ K
 | _=>False
section
variable {A:AP}{T:aQ}{H:ah}{lo gen:Nat}{K:AS->Prop}{os:List aM}{t:Nat}
theorem abX{b:Bool}{sz bytes i:Nat}{y:aF} : WO A false (⟨some t,none,.append b true sz bytes (.tmp i) y⟩ :: os) ⟨T,H,lo,gen⟩ K=DT A sz bytes i (T i) (y.eval A.aZ T) t os T H lo gen K:=by
 rw[gd]
 simp only[cd,aE,dG,DT]
 cases hT:T i with
 | aj =>
  simp only[cond_true]
  cases dm sz (y.eval A.aZ T) with
  | none=>simp[bG]
  | some f=>simp only[aoe];cases cF sz bytes [] f<;>simp[bG,AS.cH,AS.cc]
 | lsl g e =>
  simp only[aou]
  cases dm sz (y.eval A.aZ T) with
  | none=>simp[bG]
  | some f=>simp only[aoe];cases cF sz bytes e f<;>simp[bG,AS.cH,AS.cc]
 | slice e own =>
  simp only[cond_true]
  cases dm sz (y.eval A.aZ T) with
  | none=>simp[bG]
  | some f=>simp only[aoe];cases (e.isEmpty&&own&&cF sz bytes [] f)<;>simp[bG,AS.cH,AS.cc]
 | _=>simp[bG]
theorem Zm{sz bytes i:Nat}{e:List (List AV)}{own:Bool} : DT A sz bytes i .aj (.slice e own) t os T H lo gen K=bG (cond (cF sz bytes [] e) (some e) none) fun f=>WO A false os ⟨(T.put i .any).put t (.lsl gen f),H,lo,gen+1⟩ K:=rfl
theorem adI{sz bytes i:Nat}{e f:List (List AV)}{o own:Bool} : DT A sz bytes i (.slice e o) (.slice f own) t os T H lo gen K=bG (cond (e.isEmpty&&o&&cF sz bytes [] f) (some f) none) fun f=>WO A false os ⟨(T.put i .any).put t (.lsl gen f),H,lo,gen+1⟩ K:=rfl
theorem Zl{sz bytes i g:Nat}{e f:List (List AV)}{own:Bool} : DT A sz bytes i (.lsl g e) (.slice f own) t os T H lo gen K=bG (cond (cF sz bytes e f) (some (e++f)) none) fun f=>WO A false os ⟨(T.put i .any).put t (.lsl gen f),H,lo,gen+1⟩ K:=rfl
end
section
variable {A:AP}{T:aQ}{H:ah}{lo gen:Nat}{K:AS->Prop}{d:Bool}{os:List aM}{t:Nat}
theorem SC:dE A d (some AV.aj) t os T H lo gen K=WO A d os ⟨T.put t AV.aj,H,lo,gen⟩ K:=cQ rfl
theorem RE{take obj:Bool}{i:Nat} : ju A d take obj i AV.aj t os T H lo gen K=WO A d os ⟨T.put t AV.aj,H,lo,gen⟩ K:=aH
theorem DQ{s:Nat} : iM s AV.aj=.aj:=rfl
theorem FV:bk AV.aj=none:=rfl
theorem JP{T:aQ} : JO T .sl .aj=some (.int .i64 0):=rfl
theorem zZ{base:Nat} : AV.aU base .aj=AV.plain .aj:=rfl
theorem Av{base:Nat} : AV.bu base .aj=AV.aU base .aj:=rfl
end
def aY.pre:Nat->aY->aY
 | 0,.seq a _=>a
 | n+1,.seq a b=>.seq a (aY.pre n b)
 | _,c=>c
def aY.post:Nat->aY->aY
 | 0,.seq _ b=>b
 | n+1,.seq _ b=>aY.post n b
 | _,_=>.skip
theorem fH{A:AP}(n:Nat){c:aY}{s:AS}{Q:bP->AS->Prop}(R:AS->Prop)(h1:W A (c.pre n) s (andThen R Q))(h2:∀ s',R s'->W A (c.post n) s' Q):W A c s Q:=by
 induction n generalizing c s with
 | zero =>
  cases c with
  | seq a b=>exact NR R h1 h2
  | _ =>
   refine vl h1 (fun e s' h=>?_)
   cases e with
   | normal =>
    have:=h2 s' h
    obtain⟨n,e,s'',h3,h4⟩:=this
    simp only[aY.post,jg,an2,an7] at h3
    obtain⟨rfl,rfl⟩:=h3
    exact h4
   | _=>exact h
 | succ n ih =>
  cases c with
  | seq a b =>
   simp only[aY.pre,DO] at h1 ⊢
   refine vl h1 (fun e s' h=>?_)
   cases e with
   | normal=>exact ih h h2
   | _=>exact h
  | _ =>
   refine vl h1 (fun e s' h=>?_)
   cases e with
   | normal =>
    have:=h2 s' h
    obtain⟨n,e,s'',h3,h4⟩:=this
    simp only[aY.post,jg,an2,an7] at h3
    obtain⟨rfl,rfl⟩:=h3
    exact h4
   | _=>exact h
def ahG:Option (List (List AV))->AV
 | none=>.aj
 | some e=>.slice e false
section
variable {o:Option (List (List AV))}{base:Nat}{A:AP}{T:aQ}{H:ah}{lo gen:Nat}{K:AS->Prop}{d:Bool}{os:List aM}{t:Nat}
theorem MT:YU AV.aj=true:=rfl
theorem O5:bo base AV.aj=true:=rfl
theorem CV:AV.leaves base AV.aj=true:=rfl
end
end
end Go.Abs
namespace Go.Proofs.YtbdnnjjcdcacnaaGreatDoor
open Go Go.Abs Go.Proofs
def Ox:=And.intro (And.intro (And.intro (And.intro (And.intro (And.intro (And.intro (And.intro (And.intro (@Ze)
 (@X8))
 (And.intro (@ada)
 (@HM)))
 (And.intro (And.intro (@adi)
 (@agR))
 (And.intro (@ade)
 (And.intro (@Zd)
 (@adh)))))
 (And.intro (And.intro (And.intro (@agP)
 (@HL))
 (And.intro (@ac')
 (@X7)))
 (And.intro (And.intro (@Nt)
 (@adg))
 (And.intro (@S9)
 (And.intro (@agQ)
 (@adf))))))
 (And.intro (And.intro (And.intro (And.intro (@S8)
 (@Ya))
 (And.intro (@adb)
 (@X9)))
 (And.intro (And.intro (@Kp)
 (@Ns))
 (And.intro (@aH)
 (And.intro (@IE)
 (@Fa)))))
 (And.intro (And.intro (And.intro (@Wr)
 (@Js))
 (And.intro (@Jr)
 (And.intro (@Option.bind_some.{0,0})
 (@Option.bind_none.{0,0}))))
 (And.intro (And.intro (@Option.map_some.{0,0})
 (@Option.map_none.{0,0}))
 (And.intro (@DX)
 (And.intro (@beq_self_eq_true.{0})
 (@Bool.and_false)))))))
 (And.intro (And.intro (And.intro (And.intro (And.intro (@Bool.false_and)
 (@Bool.true_and))
 (And.intro (@Bool.and_true)
 (@Bool.or_true)))
 (And.intro (And.intro (@Bool.true_or)
 (@Bool.or_false))
 (And.intro (@Bool.false_or)
 (And.intro (@Bool.not_true)
 (@Bool.not_false)))))
 (And.intro (And.intro (And.intro (@decide_true)
 (@decide_false))
 (And.intro (@List.map_cons.{0,0})
 (@List.map_nil.{0,0})))
 (And.intro (And.intro (@List.all_cons.{0})
 (@List.all_nil.{0}))
 (And.intro (@List.length_cons.{0})
 (And.intro (@List.length_nil.{0})
 (@List.getElem?_cons_zero.{0}))))))
 (And.intro (And.intro (And.intro (And.intro (@List.getElem?_cons_succ.{0})
 (@List.nil_append.{0}))
 (And.intro (@List.append_nil.{0})
 (@List.cons_append.{0})))
 (And.intro (And.intro (@wrap64)
 (@vp))
 (And.intro (@LC)
 (And.intro (@LB)
 (@Option.some.injEq.{0})))))
 (And.intro (And.intro (And.intro (@Prod.mk.injEq.{0,0})
 (@Nat.zero_add))
 (And.intro (@List.drop_zero.{0})
 (And.intro (@Kw)
 (@Tw))))
 (And.intro (And.intro (@dle)
 (@dlt))
 (And.intro (@List.take_succ_cons.{0})
 (And.intro (@List.take_zero.{0})
 (@List.drop_succ_cons.{0}))))))))
 (And.intro (And.intro (And.intro (And.intro (And.intro (And.intro (@Int.natCast_add)
 (@Int.cast_ofNat_Int))
 (And.intro (@List.set_cons_zero.{0})
 (@List.set_cons_succ.{0})))
 (And.intro (And.intro (@Tt)
 (@qw))
 (And.intro (@Ts)
 (And.intro (@N0)
 (@NZ)))))
 (And.intro (And.intro (And.intro (@Lz)
 (@cb))
 (And.intro (@fj)
 (@N1)))
 (And.intro (And.intro (@Uv)
 (@XF))
 (And.intro (@Zt)
 (And.intro (@abH)
 (@abI))))))
 (And.intro (And.intro (And.intro (And.intro (@me)
 (@Ni))
 (And.intro (@List.length_map.{0,0})
 (@Zs)))
 (And.intro (And.intro (@ge_iff_le.{0})
 (@gt_iff_lt.{0}))
 (And.intro (@AV.int.injEq)
 (And.intro (@AV.str.injEq)
 (@AV.bool.injEq)))))
 (And.intro (And.intro (And.intro (@AV.slice.injEq)
 (@true_and))
 (And.intro (@and_true)
 (And.intro (@and_self)
 (@LO))))
 (And.intro (And.intro (@Oo)
 (@Ov))
 (And.intro (@On)
 (And.intro (@Ft)
 (@Fs)))))))
 (And.intro (And.intro (And.intro (And.intro (And.intro (@Co)
 (@Ag))
 (And.intro (@IM)
 (@LP)))
 (And.intro (And.intro (@Ou)
 (@LU))
 (And.intro (@LV)
 (And.intro (@Oq)
 (@Ot)))))
 (And.intro (And.intro (And.intro (@LQ)
 (@LS))
 (And.intro (@IK)
 (@Om)))
 (And.intro (And.intro (@IN)
 (@Cf))
 (And.intro (@Fk)
 (And.intro (@Fq)
 (@Fj))))))
 (And.intro (And.intro (And.intro (And.intro (@yg)
 (@ye))
 (And.intro (@wU)
 (@vy)))
 (And.intro (And.intro (@Ae)
 (@Cg))
 (And.intro (@Fp)
 (And.intro (@Ck)
 (@Cl)))))
 (And.intro (And.intro (And.intro (@Fl)
 (@Fo))
 (And.intro (@Ch)
 (And.intro (@Cj)
 (@Ac))))
 (And.intro (And.intro (@Fi)
 (@Af))
 (And.intro (@TR)
 (And.intro (@Z1)
 (@Z5)))))))))
 (And.intro (And.intro (And.intro (And.intro (And.intro (And.intro (And.intro (@Z0)
 (@L6))
 (And.intro (@L5)
 (@I0)))
 (And.intro (And.intro (@FL)
 (@ON))
 (And.intro (@TS)
 (And.intro (@Z4)
 (@TW)))))
 (And.intro (And.intro (And.intro (@TX)
 (@Z2))
 (And.intro (@Z3)
 (@TT)))
 (And.intro (And.intro (@TV)
 (@OL))
 (And.intro (@ZZ)
 (And.intro (@OO)
 (@I5))))))
 (And.intro (And.intro (And.intro (And.intro (@Md)
 (@Mh))
 (And.intro (@Mc)
 (@Cz)))
 (And.intro (And.intro (@Cy)
 (@Ai))
 (And.intro (@yA)
 (And.intro (@FW)
 (@I6)))))
 (And.intro (And.intro (And.intro (@Mg)
 (@I'))
 (And.intro (@Ja)
 (And.intro (@Me)
 (@Mf))))
 (And.intro (And.intro (@I7)
 (@I9))
 (And.intro (@FU)
 (And.intro (@Mb)
 (@FX)))))))
 (And.intro (And.intro (And.intro (And.intro (And.intro (@Iu)
 (@LI))
 (And.intro (@LM)
 (@LH)))
 (And.intro (And.intro (@B')
 (@B9))
 (And.intro (@z8)
 (And.intro (@xV)
 (@D8)))))
 (And.intro (And.intro (And.intro (@Iw)
 (@LL))
 (And.intro (@IA)
 (@IB)))
 (And.intro (And.intro (@LJ)
 (@LK))
 (And.intro (@Ix)
 (And.intro (@Iz)
 (@D6))))))
 (And.intro (And.intro (And.intro (And.intro (@LG)
 (@D9))
 (And.intro (@JZ)
 (@MY)))
 (And.intro (And.intro (@M3)
 (@MX))
 (And.intro (@Dj)
 (And.intro (@Di)
 (@Ay)))))
 (And.intro (And.intro (And.intro (@zg)
 (@Hf))
 (And.intro (@J0)
 (And.intro (@M1)
 (@J3))))
 (And.intro (And.intro (@J4)
 (@MZ))
 (And.intro (@M0)
 (And.intro (@J1)
 (@MW))))))))
 (And.intro (And.intro (And.intro (And.intro (And.intro (And.intro (@Hg)
 (@B0))
 (And.intro (@D1)
 (@D5)))
 (And.intro (And.intro (@DZ)
 (@xU))
 (And.intro (@xT)
 (And.intro (@wT)
 (@vu)))))
 (And.intro (And.intro (And.intro (@z6)
 (@B1))
 (And.intro (@D4)
 (@B5)))
 (And.intro (And.intro (@B6)
 (@D2))
 (And.intro (@D3)
 (And.intro (@B2)
 (@B4))))))
 (And.intro (And.intro (And.intro (And.intro (@zY)
 (@DY))
 (And.intro (@z7)
 (@C8)))
 (And.intro (And.intro (@G6)
 (@Ha))
 (And.intro (@G5)
 (And.intro (@zf)
 (@ze)))))
 (And.intro (And.intro (And.intro (@xd)
 (@vS))
 (And.intro (@Aw)
 (And.intro (@C9)
 (@G9))))
 (And.intro (And.intro (@Dd)
 (@De))
 (And.intro (@G7)
 (And.intro (@G8)
 (@Da)))))))
 (And.intro (And.intro (And.intro (And.intro (And.intro (@Dc)
 (@Au))
 (And.intro (@G4)
 (@Ax)))
 (And.intro (And.intro (@GG)
 (@JJ))
 (And.intro (@JN)
 (And.intro (@JI)
 (@Ar)))))
 (And.intro (And.intro (And.intro (@Aq)
 (@yX))
 (And.intro (@xb)
 (@CW)))
 (And.intro (And.intro (@GH)
 (@JM))
 (And.intro (@GL)
 (And.intro (@GM)
 (@JK))))))
 (And.intro (And.intro (And.intro (And.intro (@JL)
 (@GI))
 (And.intro (@GK)
 (@CU)))
 (And.intro (And.intro (@JG)
 (@CX))
 (And.intro (@H6)
 (And.intro (@Ls)
 (@Lw)))))
 (And.intro (And.intro (And.intro (@Lr)
 (@BP))
 (And.intro (@BO)
 (And.intro (@zX)
 (@xK))))
 (And.intro (And.intro (@DR)
 (@H7))
 (And.intro (@Lv)
 (And.intro (@Ib)
 (@Ic))))))))))
 (And.intro (And.intro (And.intro (And.intro (And.intro (And.intro (And.intro (And.intro (@Lt)
 (@Lu))
 (And.intro (@H8)
 (@Ia)))
 (And.intro (And.intro (@DP)
 (@Lq))
 (And.intro (@DS)
 (And.intro (@Xp)
 (@acN)))))
 (And.intro (And.intro (And.intro (@acQ)
 (@acM))
 (And.intro (@Ng)
 (@Nf)))
 (And.intro (And.intro (@Kj)
 (@Hz))
 (And.intro (@HA)
 (And.intro (@Xq)
 (@acP))))))
 (And.intro (And.intro (And.intro (And.intro (@Xu)
 (@acO))
 (And.intro (@Xr)
 (@Xt)))
 (And.intro (And.intro (@SB)
 (@acL))
 (And.intro (@SD)
 (And.intro (@Wa)
 (@aby)))))
 (And.intro (And.intro (And.intro (@abE)
 (@abx))
 (And.intro (@MP)
 (And.intro (@MO)
 (@JS))))
 (And.intro (And.intro (@GX)
 (@Wb))
 (And.intro (@abA)
 (And.intro (@Wg)
 (@Wh)))))))
 (And.intro (And.intro (And.intro (And.intro (And.intro (@abz)
 (@Wc))
 (And.intro (@Wf)
 (@RD)))
 (And.intro (And.intro (@abw)
 (@RF))
 (And.intro (@Xf)
 (And.intro (@acE)
 (@acH)))))
 (And.intro (And.intro (And.intro (@acD)
 (@Nb))
 (And.intro (@Na)
 (@Kf)))
 (And.intro (And.intro (@Hs)
 (@Sm))
 (And.intro (@Xg)
 (And.intro (@acG)
 (@acF))))))
 (And.intro (And.intro (And.intro (And.intro (@Xi)
 (@Sl))
 (And.intro (@acC)
 (@Sn)))
 (And.intro (And.intro (@abV)
 (@abC))
 (And.intro (@abD)
 (And.intro (@abB)
 (@Wi)))))
 (And.intro (And.intro (And.intro (@Wj)
 (@agi))
 (And.intro (@R9)
 (And.intro (@aci)
 (@ach))))
 (And.intro (And.intro (@WL)
 (@aga))
 (And.intro (@af8)
 (And.intro (@af')
 (@af9))))))))
 (And.intro (And.intro (And.intro (And.intro (And.intro (And.intro (@agb)
 (@ack))
 (And.intro (@W4)
 (@W3)))
 (And.intro (And.intro (@R0)
 (@RZ))
 (And.intro (@Ww)
 (And.intro (@By)
 (@ajl)))))
 (And.intro (And.intro (And.intro (@WS)
 (@WX))
 (And.intro (@acg)
 (@acz)))
 (And.intro (And.intro (@WT)
 (@WV))
 (And.intro (@ab1)
 (And.intro (@WU)
 (@WR))))))
 (And.intro (And.intro (And.intro (And.intro (@R4)
 (@R3))
 (And.intro (@afS)
 (@ajo)))
 (And.intro (And.intro (@ab7)
 (@W9))
 (And.intro (@afR)
 (And.intro (@afW)
 (@afQ)))))
 (And.intro (And.intro (And.intro (@Hn)
 (@af3))
 (And.intro (@af5)
 (And.intro (@af4)
 (@J'))))
 (And.intro (And.intro (@af6)
 (@M7))
 (And.intro (@WQ)
 (And.intro (@R5)
 (@ab')))))))
 (And.intro (And.intro (And.intro (And.intro (And.intro (@age)
 (@agc))
 (And.intro (@acA)
 (@WM)))
 (And.intro (And.intro (@R6)
 (@J9))
 (And.intro (@Wx)
 (And.intro (@R2)
 (@M6)))))
 (And.intro (And.intro (And.intro (@WJ)
 (@agf))
 (And.intro (@ace)
 (@aca)))
 (And.intro (And.intro (@acb)
 (@ab4))
 (And.intro (@WA)
 (And.intro (@WB)
 (@Wy))))))
 (And.intro (And.intro (And.intro (And.intro (@agn)
 (@acx))
 (And.intro (@acw)
 (@acy)))
 (And.intro (And.intro (@W8)
 (@R1))
 (And.intro (@abW)
 (And.intro (@ab0)
 (@Xa)))))
 (And.intro (And.intro (And.intro (@WW)
 (@ab2))
 (And.intro (@Ka)
 (And.intro (@R8)
 (@Wt))))
 (And.intro (And.intro (@Wv)
 (@Wu))
 (And.intro (@agq)
 (And.intro (@ago)
 (@agp)))))))))
 (And.intro (And.intro (And.intro (And.intro (And.intro (And.intro (And.intro (@WD)
 (@WG))
 (And.intro (@WI)
 (@WE)))
 (And.intro (And.intro (@WH)
 (@afV))
 (And.intro (@afT)
 (And.intro (@afU)
 (@Sc)))))
 (And.intro (And.intro (And.intro (@ajn)
 (@agj))
 (And.intro (@agl)
 (@R')))
 (And.intro (And.intro (@Sa)
 (@Y1))
 (And.intro (@Y3)
 (And.intro (@agk)
 (@Y2))))))
 (And.intro (And.intro (And.intro (And.intro (@agm)
 (@af7))
 (And.intro (@ab9)
 (@acn)))
 (And.intro (And.intro (@Sb)
 (@R7))
 (And.intro (@W5)
 (And.intro (@acm)
 (@aco)))))
 (And.intro (And.intro (And.intro (@acr)
 (@acs))
 (And.intro (@WC)
 (And.intro (@acu)
 (@acq))))
 (And.intro (And.intro (@W6)
 (@W7))
 (And.intro (@LX)
 (And.intro (@Cn)
 (@TZ)))))))
 (And.intro (And.intro (And.intro (And.intro (And.intro (@Jc)
 (@ID))
 (And.intro (@J6)
 (@B8)))
 (And.intro (And.intro (@Dg)
 (@GO))
 (And.intro (@Ig)
 (And.intro (@Xw)
 (@Wm)))))
 (And.intro (And.intro (And.intro (@Xk)
 (@agd))
 (And.intro (@acd)
 (@acp)))
 (And.intro (And.intro (@LR)
 (@LW))
 (And.intro (@Ci)
 (And.intro (@Cm)
 (@TU))))))
 (And.intro (And.intro (And.intro (And.intro (@TY)
 (@I8))
 (And.intro (@Jb)
 (@Iy)))
 (And.intro (And.intro (@IC)
 (@J2))
 (And.intro (@J5)
 (And.intro (@B3)
 (@B7)))))
 (And.intro (And.intro (And.intro (@Db)
 (@Df))
 (And.intro (@GJ)
 (And.intro (@GN)
 (@H9))))
 (And.intro (And.intro (@Ie)
 (@Xs))
 (And.intro (@Xv)
 (And.intro (@We)
 (@Wl))))))))
 (And.intro (And.intro (And.intro (And.intro (And.intro (And.intro (@Xh)
 (@Xj))
 (And.intro (@ajm)
 (@agh)))
 (And.intro (And.intro (@abZ)
 (@WY))
 (And.intro (@WZ)
 (And.intro (@acf)
 (@acj)))))
 (And.intro (And.intro (And.intro (@aaR)
 (@aaS))
 (And.intro (@Ps)
 (@Uh)))
 (And.intro (And.intro (@Pt)
 (@Ui))
 (And.intro (@Uj)
 (And.intro (@ae4)
 (@aaT))))))
 (And.intro (And.intro (And.intro (And.intro (@Zw)
 (@Zx))
 (And.intro (@aaj)
 (@T8)))
 (And.intro (And.intro (@aam)
 (@O6))
 (And.intro (@T9)
 (And.intro (@aal)
 (@aak)))))
 (And.intro (And.intro (And.intro (@afZ)
 (@ab6))
 (And.intro (@af1)
 (And.intro (@afX)
 (@af0))))
 (And.intro (And.intro (@afY)
 (@af2))
 (And.intro (@ab5)
 (And.intro (@ab3)
 (@Zu)))))))
 (And.intro (And.intro (And.intro (And.intro (And.intro (@Wz)
 (@acv))
 (And.intro (@W0)
 (@adL)))
 (And.intro (And.intro (@adS)
 (@adP))
 (And.intro (@adT)
 (And.intro (@adN)
 (@adQ)))))
 (And.intro (And.intro (And.intro (@adR)
 (@adM))
 (And.intro (@adU)
 (@adO)))
 (And.intro (And.intro (@adV)
 (@adW))
 (And.intro (@IL)
 (And.intro (@Ad)
 (@D7))))))
 (And.intro (And.intro (And.intro (And.intro (@He)
 (@OM))
 (And.intro (@abY)
 (@abX)))
 (And.intro (And.intro (@Zm)
 (@Zl))
 (And.intro (@SC)
 (And.intro (@RE)
 (@DQ)))))
 (And.intro (And.intro (And.intro (@FV)
 (@JP))
 (And.intro (@zZ)
 (And.intro (@Av)
 (@adI))))
 (And.intro (And.intro (@MT)
 (@O5))
 (And.intro (@CV)
 (And.intro (@W2)
 (@Wk))))))))))
def ib:=And.intro Ox (And.intro (And.intro (And.intro (And.intro (And.intro (And.intro (@jy.eq_1)
 (And.intro (@jy.eq_2)
 (@gF.eq_1)))
 (And.intro (And.intro (@gF.eq_2)
 (@j0.eq_1))
 (And.intro (@j0.eq_2)
 (@iS.eq_1))))
 (And.intro (And.intro (And.intro (@iS.eq_2)
 (@tG.eq_1))
 (And.intro (@tG.eq_2)
 (@aF.eval.eq_1)))
 (And.intro (And.intro (@aF.eval.eq_2)
 (@aF.eval.eq_3))
 (And.intro (@aF.eval.eq_4)
 (@AS.cH.eq_1)))))
 (And.intro (And.intro (And.intro (@AS.cH.eq_2)
 (And.intro (@gP.eq_1)
 (@gP.eq_2)))
 (And.intro (And.intro (@gP.eq_3)
 (@gP.eq_4))
 (And.intro (@gP.eq_5)
 (@gP.eq_6))))
 (And.intro (And.intro (And.intro (@gP.eq_7)
 (@gP.eq_8))
 (And.intro (@rB.eq_1)
 (@rB.eq_2)))
 (And.intro (And.intro (@rB.eq_3)
 (@iG.eq_1))
 (And.intro (@iG.eq_2)
 (@iG.eq_3))))))
 (And.intro (And.intro (And.intro (And.intro (@iG.eq_4)
 (And.intro (@iG.eq_5)
 (@iG.eq_6)))
 (And.intro (And.intro (@gQ.eq_1)
 (@gQ.eq_2))
 (And.intro (@gQ.eq_3)
 (@gQ.eq_4))))
 (And.intro (And.intro (And.intro (@fD.eq_1)
 (@fD.eq_2))
 (And.intro (@fD.eq_3)
 (@fD.eq_4)))
 (And.intro (And.intro (@fD.eq_5)
 (@bound.eq_1))
 (And.intro (@bound.eq_2)
 (@kP.eq_1)))))
 (And.intro (And.intro (And.intro (@kP.eq_2)
 (And.intro (@AS.cI.eq_1)
 (@AS.cI.eq_2)))
 (And.intro (And.intro (@bQ.eq_1)
 (@bQ.eq_2))
 (And.intro (@bQ.eq_3)
 (@bQ.eq_4))))
 (And.intro (And.intro (And.intro (@bQ.eq_5)
 (@fm.eq_1))
 (And.intro (@fm.eq_2)
 (@fm.eq_3)))
 (And.intro (And.intro (@fm.eq_4)
 (@fm.eq_5))
 (And.intro (@dm.eq_1)
 (@dm.eq_2)))))))
 (And.intro (And.intro (And.intro (And.intro (And.intro (@dm.eq_3)
 (And.intro (@im.eq_1)
 (@im.eq_2)))
 (And.intro (And.intro (@im.eq_3)
 (@putAt.eq_1))
 (And.intro (@cd.eq_1)
 (@aE.eq_1))))
 (And.intro (And.intro (And.intro (@aE.eq_2)
 (@aE.eq_3))
 (And.intro (@aE.eq_4)
 (@aE.eq_5)))
 (And.intro (And.intro (@aE.eq_6)
 (@aE.eq_7))
 (And.intro (@aE.eq_8)
 (@aE.eq_9)))))
 (And.intro (And.intro (And.intro (@aE.eq_10)
 (And.intro (@aE.eq_11)
 (@aE.eq_12)))
 (And.intro (And.intro (@aE.eq_13)
 (@aE.eq_14))
 (And.intro (@aE.eq_15)
 (@aE.eq_16))))
 (And.intro (And.intro (And.intro (@aE.eq_17)
 (@aE.eq_18))
 (And.intro (@aE.eq_19)
 (@aE.eq_20)))
 (And.intro (And.intro (@aE.eq_21)
 (@aE.eq_22))
 (And.intro (@aE.eq_23)
 (@aE.eq_24))))))
 (And.intro (And.intro (And.intro (And.intro (@aE.eq_25)
 (And.intro (@aE.eq_26)
 (@aE.eq_27)))
 (And.intro (And.intro (@aE.eq_28)
 (@aE.eq_29))
 (And.intro (@aE.eq_30)
 (@aE.eq_31))))
 (And.intro (And.intro (And.intro (@aE.eq_32)
 (@aE.eq_33))
 (And.intro (@aE.eq_34)
 (@aE.eq_35)))
 (And.intro (And.intro (@aE.eq_36)
 (@aE.eq_37))
 (And.intro (@aE.eq_38)
 (@aE.eq_39)))))
 (And.intro (And.intro (And.intro (And.intro (@aE.eq_40)
 (@aE.eq_41))
 (And.intro (@aE.eq_42)
 (@aE.eq_43)))
 (And.intro (And.intro (@aE.eq_44)
 (@aE.eq_45))
 (And.intro (@aE.eq_46)
 (@dG.eq_1))))
 (And.intro (And.intro (And.intro (@dG.eq_2)
 (@Option.isSome.eq_1.{0}))
 (And.intro (@Option.isSome.eq_2.{0})
 (@Option.isNone.eq_1.{0})))
 (And.intro (And.intro (@Option.isNone.eq_2.{0})
 (@cond_true.{1}))
 (And.intro (@cond_false.{1})
 (@eq_self.{1}))))))))
def aN:=And.intro ib (And.intro (And.intro (And.intro (@qW)
 (@qV))
 (And.intro (@qU)
 (@qT)))
 (And.intro (And.intro (@qS)
 (@qR))
 (And.intro (@qY)
 (@qX))))
def aP:=And.intro aN (And.intro (And.intro (@br.eq_1)
 (@fX))
 (And.intro (@Int.toNat_natCast)
 (@Nat.add_zero)))
end Go.Proofs.YtbdnnjjcdcacnaaGreatDoor
namespace Go.Abs
section
section
variable {G:Nat->List AV}{cf:dq}
theorem qb:∀ (l:List aM) (s:AS) {Q Q' : AS->Prop},mE G cf l s Q->(∀ s,Q s->Q' s)->mE G cf l s Q'
 | [],_,_,_,h,hq=>hq _ h
 | o :: r,s,Q,Q',h,hq=>by
  unfold mE at h ⊢
  cases hn:lk o with
  | none =>
   rw[hn] at h
   obtain⟨s',h1,h2⟩:=h
   exact⟨s',h1,qb r s' h2 hq⟩
  | some t =>
   rw[hn] at h
   obtain⟨g,kz,ka,va,cur,todo,h1,h2,h3⟩:=h
   exact⟨g,kz,ka,va,cur,todo,h1,fun e=>qb r _ (h2 e) hq,fun q rest hp=>qb r _ (h3 q rest hp) hq⟩
theorem AA{nt:Nat}{ops:List aM}{pre:List (List Nat)} : ∀ (n:Nat) (L:Array Bool) (s:AS) {Q Q' : AS->Prop},Ly G cf nt ops pre n L s Q->(∀ s,Q s->Q' s)->Ly G cf nt ops pre n L s Q'
 | 0,_,_,_,_,h,hq=>⟨h.1,hq _ h.2⟩
 | n+1,L,s,Q,Q',h,hq=>by
  refine⟨fun e=>hq _ (h.1 e),fun i hi=>?_⟩
  obtain⟨o,s',h1,h2,h3⟩:=h.2 i hi
  exact⟨o,s',h1,h2,AA n _ _ h3 hq⟩
theorem k8{P P' : AS->Prop}{Q Q' : bP->AS->Prop}(hp:∀ s,P s->P' s)(hq:∀ e s,Q e s->Q' e s):∀ e s,andThen P Q e s->andThen P' Q' e s
 | .normal,s,h=>hp s h
 | .ret,s,h=>hq _ s h
 | .exit i,s,h=>hq _ s h
theorem JF{i:Nat}{Q Q' : bP->AS->Prop}(hq:∀ e s,Q e s->Q' e s):∀ e s,leave i Q e s->leave i Q' e s:=by
 intro e s h
 cases e with
 | exit j =>
  unfold leave at h ⊢
  simp only at h ⊢
  first
   | exact hq _ _ h
   | (cases hb:Nat.beq j i<;>rw[hb] at h<;>exact hq _ _ h)
   | (split at h<;>rename_i hc<;>simp only[hc]<;>exact hq _ _ h)
 | _=>exact hq _ _ h
theorem yU{F:AS->(bP->AS->Prop)->Prop}(hF:∀ s Q Q',F s Q->(∀ e s,Q e s->Q' e s)->F s Q'):∀ (n:Nat) (s:AS) {Q Q' : bP->AS->Prop},yT F n s Q->(∀ e s,Q e s->Q' e s)->yT F n s Q'
 | 0,_,_,_,h,_=>h.elim
 | n+1,s,Q,Q',h,hq=>hF _ _ _ h (k8 (fun s h=>yU hF n s h hq) hq)
theorem lV:∀ (c:aY) (s:AS) {Q Q' : bP->AS->Prop},WN G cf c s Q->(∀ e s,Q e s->Q' e s)->WN G cf c s Q'
 | .skip,_,_,_,h,hq=>hq _ _ h
 | .region false ops,s,_,_,h,hq=>qb ops s h (hq .normal)
 | .region true ops,s,_,_,h,hq=>by obtain⟨s',h1,h2⟩:=h;exact⟨s',h1,hq _ _ h2⟩
 | .seq a b,s,_,_,h,hq=>lV a s h (k8 (fun s h=>lV b s h hq) hq)
 | .cond c a b,s,_,_,h,hq=>by obtain⟨t,h1,h2,h3⟩:=h;exact⟨t,h1,fun e=>lV a s (h2 e) hq,fun e=>lV b s (h3 e) hq⟩
 | .block id a,s,_,_,h,hq=>lV a s h (JF hq)
 | .loop a,s,_,_,h,hq=>by obtain⟨n,h⟩:=h;exact⟨n,yU (fun s Q Q' h hq=>lV a s h hq) n s h hq⟩
 | .exit id,_,_,_,h,hq=>hq _ _ h
 | .ret,_,_,_,h,hq=>hq _ _ h
 | .vn nt ops pre,s,_,_,h,hq=>AA _ _ _ h (hq .normal)
theorem X3{a:aY}{Q:bP->AS->Prop}(I:Nat->AS->Prop)(hI:∀ k s,I k s->WN G cf a s (andThen (fun s'=>∃ k',k=k' + 1/\I k' s') Q)):∀ k s,I k s->yT (WN G cf a) (k+1) s Q:=by
 intro k
 induction k with
 | zero =>
  intro s h
  refine lV a s (hI 0 s h) (k8 (fun s' h=>?_) (fun _ _ h=>h))
  obtain⟨k',h,_⟩:=h
  omega
 | succ k ih =>
  intro s h
  refine lV a s (hI (k+1) s h) (k8 (fun s' h=>?_) (fun _ _ h=>h))
  obtain⟨k',e,hk⟩:=h
  obtain rfl:k=k':=by omega
  exact ih s' hk
def oI:aY->Bool
 | .region false ops=>ops.all fun o=>(lk o).isNone
 | .region true _=>true
 | .seq a b=>oI a&&oI b
 | .cond _ a b=>oI a&&oI b
 | .block _ a=>oI a
 | .loop _=>false
 | .vn ..=>false
 | .skip=>true
 | .exit _=>true
 | .ret=>true
theorem zK:∀ (l:List aM) (s:AS) {Q:AS->Prop},(l.all fun o=>(lk o).isNone)=true->(∃ s',fA G cf false l s=some s'/\Q s')->mE G cf l s Q
 | [],s,Q,_,h=>by
  obtain⟨s',h1,h2⟩:=h
  simp only[fA,an2] at h1
  subst h1
  exact h2
 | o :: r,s,Q,hp,h=>by
  obtain⟨s',h1,h2⟩:=h
  simp only[ao6,aod,ap7] at hp
  simp only[fA,an1] at h1
  obtain⟨s1,h0,h1⟩:=h1
  unfold mE
  rw[hp.1]
  exact⟨s1,h0,zK r s1 hp.2 ⟨s',h1,h2⟩⟩
end
section
variable {A:AP}
theorem oz:∀ (c:aY) (s:AS) {Q:bP->AS->Prop},oI c=true->W A c s Q->WN A.aZ (aD A) c s Q
 | .skip,s,Q,_,h=>by rwa [NU] at h
 | .region false ops,s,Q,hp,h=>by
  rw[xJ] at h
  exact zK ops s hp h
 | .region true ops,s,Q,_,h=>by
  rw[xJ] at h
  exact h
 | .seq a b,s,Q,hp,h=>by
  simp only[oI,aod] at hp
  rw[DO] at h
  exact lV a s (oz a s hp.1 h) (k8 (fun s h=>oz b s hp.2 h) (fun _ _ h=>h))
 | .cond c a b,s,Q,hp,h=>by
  simp only[oI,aod] at hp
  rw[NQ] at h
  obtain⟨t,h1,h2,h3⟩:=h
  exact⟨t,h1,fun e=>oz a s hp.1 (h2 e),fun e=>oz b s hp.2 (h3 e)⟩
 | .block id a,s,Q,hp,h=>by
  rw[BN] at h
  exact oz a s hp h
 | .loop _,_,_,hp,_=>by cases hp
 | .vn ..,_,_,hp,_=>by cases hp
 | .exit id,s,Q,_,h=>by rwa [NS] at h
 | .ret,s,Q,_,h=>by rwa [Yg] at h
theorem ac9{P:Program}(hA:oB P A){f:FuncId}{fn:Func}(zQ:P.funcs[f]?=some fn){ct locals muts:List Nat}{nI:aJ}(hc:oY P ct locals muts fn=some nI){g:List AV->ah->Option (AV × Option gJ)}
  (hm:nI.muts.elem 777777=false) (O7:∀ args H r c,g args H=some (r,c)->kY H c)
  (hg:∀ args H x,g args H=some x->args.length=nI.np/\WN A.aZ (aD A) nI.body { T:=gu args,H,lo:=H.length,gen:=0 } (done H.length nI.results x)):iQ P A.aZ f g:=by
 refine agN hA zQ hc O7 fun args H x hx=>?_
 obtain⟨h1,h2⟩:=hg args H x hx
 refine⟨h1,lV _ _ h2 fun e s h=>?_⟩
 have key:∀ s,fin H.length nI.results s=some x->finish H.length nI s=some x:=fun s h=>by
  have:=sZ (fn:=nI) h
  rwa [rm hm] at this
 cases e with
 | exit i=>exact h.elim
 | normal=>exact key _ h
 | ret=>exact key _ h
end
end
end Go.Abs
namespace Go.Proofs.YtbdnnjjcdcacnaaGreatDoor
open Go Go.Abs Go.Proofs
theorem RN:∀ q∈pj,∃ w i j,q=[.str w,.int .i64 i,.int .i64 j]/\lq i=(w,j):=by
 intro q hq
 simp only[pj,aoN,apK,aqH] at hq
 rcases hq with rfl|rfl|rfl|rfl|rfl|rfl|rfl|rfl|rfl|rfl<;>exact⟨_,_,_,rfl,by decide⟩
theorem Ki{n:Int}(h:∀ q∈pj,∀ w i j,q=[.str w,.int .i64 i,.int .i64 j]->i≠n):(n=9/\lq n=([110,111,116],7))\/(n=11/\lq n=([108,101,110],7))\/(n≠9/\n≠11/\lq n=([],7)):=by
 have hh:∀ w i j,[AV.str w,.int .i64 i,.int .i64 j]∈pj->i≠n:=fun w i j hm=>h _ hm _ _ _ rfl
 have h0:=hh [43] 0 5 (by simp[pj])
 have h1:=hh [45] 1 5 (by simp[pj])
 have h2:=hh [42] 2 6 (by simp[pj])
 have h3:=hh [47] 3 6 (by simp[pj])
 have h4:=hh [37] 4 6 (by simp[pj])
 have h5:=hh [60] 5 3 (by simp[pj])
 have h6:=hh [61,61] 6 3 (by simp[pj])
 have h7:=hh [97,110,100] 7 2 (by simp[pj])
 have h8:=hh [111,114] 8 1 (by simp[pj])
 have h10:=hh [106,111,105,110] 10 4 (by simp[pj])
 by_cases e9:n=9
 ·subst e9;exact .inl ⟨rfl,rfl⟩
 ·by_cases ZE:n=11
  ·subst ZE;exact .inr (.inl ⟨rfl,rfl⟩)
  ·refine .inr (.inr ⟨e9,ZE,?_⟩)
   rw[lq,if_pos (by omega)]
theorem X4{g:Nat}{kz:Nat}{ka va:Bool}{cur:List AV}{todo:List (List AV)}{T:aQ}{H:ah}{lo gen:Nat}{t d:Nat}{r:List aM}{c:aY}{Q:bP->AS->Prop}(h:T t=.iter g kz ka va cur todo)
  (hr:(r.all fun o=>(lk o).isNone)=true) (hc:oI c=true)
  (h1:todo=[]->W A0 (.region false r) ⟨T.put d (.tuple [.bool false]),H,lo,gen⟩ (andThen (fun s=>W A0 c s Q) Q))
  (h2:∀ q rest,todo.Perm (q :: rest)->W A0 (.region false r) ⟨(T.put t (.iter g kz ka va q rest)).put d (.tuple [.bool true,oE ka (q.take kz),oE va (q.drop kz)]),H,lo,gen⟩ (andThen (fun s=>W A0 c s Q) Q)) :
  WN A0.aZ (aD A0) (.seq (.region false (⟨some d,none,.next (.tmp t)⟩ :: r)) c) ⟨T,H,lo,gen⟩ Q:=by
 have key:∀ s,W A0 (.region false r) s (andThen (fun s=>W A0 c s Q) Q)->mE A0.aZ (aD A0) r s (fun s'=>WN A0.aZ (aD A0) c s' Q):=fun s h=>by
  rw[<- DO] at h
  exact oz (.seq (.region false r) c) s (by simp only[oI,hr,hc,apb]) h
 exact⟨g,kz,ka,va,cur,todo,h,fun e=>key _ (h1 e),fun q rest hp=>key _ (h2 q rest hp)⟩
def yO:aY:=.seq (.region false [⟨some 20,none,.uO 1 false false⟩,⟨none,none,.nQ 1 false false 1 [CK.i] (.tmp 20) (.bt (.int .i64 9)) (.bt (.str [110,111,116]))⟩,⟨none,none,.nQ 1 false false 1 [CK.i] (.tmp 20) (.bt (.int .i64 11)) (.bt (.str [108,101,110]))⟩,⟨some 21,none,.mov false false (.tmp 20)⟩,⟨some 22,none,.mov false false (.tmp 0)⟩,⟨some 23,none,.look false 1 false false [CK.i] [.str []] (.tmp 21) (.tmp 22)⟩,⟨some 2,none,.mov true false (.tmp 23)⟩,⟨some 3,none,.mov true false (.bt (.int .i64 7))⟩]) .ret
theorem ab8{g:Nat}{kz:Nat}{ka va:Bool}{cur:List AV}{todo:List (List AV)}{T:aQ}{H:ah}{lo gen:Nat}{t u:Nat}{os:List aM}{K:AS->Prop}(h:T u=.iter g kz ka va cur todo)(hk:(Nat.ble kz cur.length&&!cur.isEmpty)=true) :
  WO A0 false (⟨some t,none,.TF (.tmp u)⟩ :: os) ⟨T,H,lo,gen⟩ K=dE A0 false (some (.tuple [oE ka (cur.take kz),oE va (cur.drop kz)])) t os T H lo gen K:=fJ (by simp only[aE,h,hk,cond_true,aok])
theorem tJ{T:aQ}{H:ah}{gen:Nat}{n:Int}{x:List UInt8}(q0:T 0=.int .i64 n)
  (hx:(dH [.i] [.int .i64 n] [[.int .i64 9,.str [110,111,116]],[.int .i64 11,.str [108,101,110]]]).map (pf false false [.str []] 1 [[.int .i64 9,.str [110,111,116]],[.int .i64 11,.str [108,101,110]]])=some (.str x)) :
  W A0 yO ⟨T,H,H.length,gen⟩ (done H.length [.tmp 2,.tmp 3] (.tuple [.str x,.int .i64 7],none)):=by
 have hp1:∀ x:bZ,(H++[x])[H.length]?=some x:=fun x=>by simp
 have An:∀ x y:bZ,(H++[x]).set H.length y=H++[y]:=fun x y=>by simp
 have fe9:dH [.i] [.int .i64 9] []=some none:=rfl
 have Z6:dH [.i] [.int .i64 11] [[.int .i64 9,.str [110,111,116]]]=some none:=rfl
 have Zi:∀ (k:IntKind) (n:Int),(AV.int k n).isAgg=false:=fun _ _=>rfl
 have Zj:∀ (s:List UInt8),(AV.str s).isAgg=false:=fun _=>rfl
 have Z7:(false==false)=true:=rfl
 have vW:∀ (es:List (List AV)) (r:List AV),tI es none r=es++[r]:=fun _ _=>rfl
 have nE:decide (H.length<H.length)=false:=by simp
 have hlx:Bk (H++[.map 1 false false [[.int .i64 9,.str [110,111,116]],[.int .i64 11,.str [108,101,110]]]]) false 1 false false [.i] [.str []] (.mref H.length) (.int .i64 n)=some (.str x):=by
  simp only[Bk,V0,AV.drop,AV.cells,aoe,hp1]
  exact hx
 unfold yO
 simp(disch:=omega)only[Ox,jy,gF,j0,iS,tG,cd,aE,dG,aF.eval,AS.cH,↓reduceIte,Nat.reduceEqDiff,Option.isSome,Option.isNone,cond_true,an8,Nat.reduceBEq,Nat.reduceAdd,Nat.reduceMul,aa,gP,eq_self,reduceCtorEq,rB,iG,gQ,fD,bound,kP,AS.cI,bQ,fm,dm,Nat.reduceLeDiff,im,putAt,Int.reduceEq,Int.reduceLT,Int.reduceLE,Int.reduceBEq,Int.reduceBNe,Int.reduceAdd,Int.reduceNeg,Int.reduceSub,Int.reduceMul,qW,qV,qU,qT,qS,qR,qY,qX,br,fX,Int.toNat_natCast,aps,qG,hp1,An,fe9,Z6,Zi,Zj,Z7,vW,nE,hlx,apb,cond_true,apu,ao8,aok,aoe,aH,aq,ak,an3,an4,ab,q0]
 done
theorem Nd(n:Int)(H:ah):WN A0.aZ (aD A0) yN.body { T:=gu [.int .i64 n],H,lo:=H.length,gen:=0 } (done H.length yN.results (.tuple [.str (lq n).1,.int .i64 (lq n).2],none)):=by
 unfold yN
 simp only
 refine oz (.region false _) _ rfl ?_
 simp(disch:=omega)only[aP,aa,simprocAttr]
 generalize hR:done H.length [gL.tmp 2,gL.tmp 3] (AV.tuple [AV.str (lq n).1,AV.int .i64 (lq n).2],none)=R
 refine (show WN A0.aZ (aD A0) (.seq _ (.block 0 (.loop _))) _ (andThen (fun s=>WN A0.aZ (aD A0) yO s R) R) from ?_)
 refine (show WN A0.aZ (aD A0) (.region false _) _ (andThen (fun s=>WN A0.aZ (aD A0) (.block 0 (.loop _)) s _) _) from ?_)
 refine zK _ _ rfl ⟨⟨((((gu [AV.int .i64 n]).put 2 (AV.str [])).put 3 (AV.int .i64 0)).put 6 (.nC 1 false true pj)).put 7 (.iter 0 1 false true [] pj),H,H.length,1⟩,rfl,?_⟩
 refine (show WN A0.aZ (aD A0) (.loop _) _ (leave 0 (andThen (fun s=>WN A0.aZ (aD A0) yO s R) R)) from ?_)
 refine⟨_,X3 (fun k s=>∃ T cur todo gen,s=⟨T,H,H.length,gen⟩/\T 0=.int .i64 n/\T 7=.iter 0 1 false true cur todo/\todo.length=k/\(∀ q∈todo,q∈pj)/\∀ q∈pj,q∈todo\/∀ w i j,q=[.str w,.int .i64 i,.int .i64 j]->i≠n) ?_ 10 _ ⟨_,[],pj,1,rfl,rfl,rfl,rfl,fun q h=>h,fun q h=>.inl h⟩⟩
 rintro k s ⟨T,cur,todo,gen,rfl,q0,q7,hk,hin,dA⟩
 refine X4 q7 rfl rfl ?_ ?_
 ·intro e
  subst e
  have Pv:=Ki (n:=n) fun q hq=>(dA q hq).resolve_left (by simp)
  simp(disch:=omega)only[aP,aa,simprocAttr]
  refine oz yO _ rfl ?_
  rw[<- hR]
  rcases Pv with ⟨e,hs⟩|⟨e,hs⟩|⟨e,e',hs⟩
  ·rw[hs];exact tJ (n:=n) (by simp(disch:=omega)only[aP,aa,simprocAttr,q0]) (by rw[e];rfl)
  ·rw[hs];exact tJ (n:=n) (by simp(disch:=omega)only[aP,aa,simprocAttr,q0]) (by rw[e];rfl)
  ·rw[hs]
   have e1:(n==(9:Int))=false:=by simp;omega
   have e2:(n==(11:Int))=false:=by simp;omega
   exact tJ (n:=n) (by simp(disch:=omega)only[aP,aa,simprocAttr,q0]) (by simp only[dH,cq,apC,cond_true,aok,aoe,Bool.and_true,an8,e1,e2,aqf];rfl)
 ·intro q rest hp
  obtain⟨w,i,j,rfl,hs⟩:=RN q (hin _ (hp.mem_iff.2 (aoF)))
  have aeF:∀ (T:aQ) (H:ah) (lo gen t u:Nat) (os:List aM) (K:AS->Prop),T u=.iter 0 1 false true [AV.str w,AV.int .i64 i,AV.int .i64 j] rest->WO A0 false (⟨some t,none,.TF (.tmp u)⟩ :: os) ⟨T,H,lo,gen⟩ K=dE A0 false (some (.tuple [.str w,.agg [.int .i64 i,.int .i64 j]])) t os T H lo gen K:=fun T H lo gen t u os K h=>ab8 h rfl
  by_cases e:i=n
  ·subst e
   simp (disch:=first|omega|(simp(disch:=omega)only[aN,aa,Nat.reduceEqDiff,Nat.reduceBEq,Nat.reduceAdd,Nat.reduceMul,reduceCtorEq,↓reduceIte,Nat.reduceLeDiff,Int.reduceEq,Int.reduceLT,Int.reduceLE,Int.reduceBEq,Int.reduceBNe,Int.reduceAdd,Int.reduceNeg,Int.reduceSub,Int.reduceMul];done)) only[Ox,jy,gF,j0,iS,tG,cd,aE,dG,aF.eval,AS.cH,↓reduceIte,Nat.reduceEqDiff,Option.isSome,Option.isNone,cond_true,an8,Nat.reduceBEq,Nat.reduceAdd,Nat.reduceMul,aa,gP,eq_self,reduceCtorEq,rB,iG,gQ,fD,bound,kP,AS.cI,bQ,fm,dm,Nat.reduceLeDiff,im,putAt,Int.reduceEq,Int.reduceLT,Int.reduceLE,Int.reduceBEq,Int.reduceBNe,Int.reduceAdd,Int.reduceNeg,Int.reduceSub,Int.reduceMul,qW,qV,qU,qT,qS,qR,qY,qX,br,fX,Int.toNat_natCast,aps,q0,aeF,oE,apr,aoV,apO,apc,aoh,aol,List.headD_cons,AV.drop,aq,ak,an3,an4,ab]
   rw[<- hR,hs]
   simp(disch:=omega)only[aP,aa,simprocAttr]
  ·simp (disch:=first|omega|(simp(disch:=omega)only[aN,aa,Nat.reduceEqDiff,Nat.reduceBEq,Nat.reduceAdd,Nat.reduceMul,reduceCtorEq,↓reduceIte,Nat.reduceLeDiff,Int.reduceEq,Int.reduceLT,Int.reduceLE,Int.reduceBEq,Int.reduceBNe,Int.reduceAdd,Int.reduceNeg,Int.reduceSub,Int.reduceMul];done)) only[Ox,jy,gF,j0,iS,tG,cd,aE,dG,aF.eval,AS.cH,↓reduceIte,Nat.reduceEqDiff,Option.isSome,Option.isNone,cond_true,an8,Nat.reduceBEq,Nat.reduceAdd,Nat.reduceMul,aa,gP,eq_self,reduceCtorEq,rB,iG,gQ,fD,bound,kP,AS.cI,bQ,fm,dm,Nat.reduceLeDiff,im,putAt,Int.reduceEq,Int.reduceLT,Int.reduceLE,Int.reduceBEq,Int.reduceBNe,Int.reduceAdd,Int.reduceNeg,Int.reduceSub,Int.reduceMul,qW,qV,qU,qT,qS,qR,qY,qX,br,fX,Int.toNat_natCast,aps,q0,aeF,oE,apr,aoV,apO,apc,aoh,aol,List.headD_cons,AV.drop,aq,ak,an3,an4,ab]
   have hl:=hp.length_eq
   rw[an5] at hl
   refine⟨rest.length,by omega,_,[AV.str w,.int .i64 i,.int .i64 j],rest,_,rfl,by simp(disch:=omega)only[aN,aa,simprocAttr,q0],by simp(disch:=omega)only[aN,aa,simprocAttr],rfl,fun q hq=>hin q (hp.mem_iff.2 (apl _ hq)),fun q hq=>?_⟩
   rcases dA q hq with h|h
   ·rcases aoN.1 (hp.mem_iff.1 h) with rfl|h
    ·refine .inr fun w' i' j' he=>?_
     simp only[apN,AV.str.injEq,AV.int.injEq,aqI,apD] at he
     rw[<- he.2.1]
     exact e
    ·exact .inl h
   ·exact .inr h
theorem Nc{P:Program}(hA:oB P A0){fn:Func}(zQ:P.funcs[122]?=some fn){ct locals muts:List Nat}(hc:oY P ct locals muts fn=some yN):iQ P HZ 122 rW:=by
 refine ac9 (g:=rW) hA zQ hc rfl ?_ ?_
 ·intro args H r c h
  unfold rW at h
  split at h
  ·injection h with h;injection h with h1 h2;subst h2;exact⟨aoa _,fun c h=>by cases h⟩
  ·cases h
 ·intro args H x h
  unfold rW at h
  split at h
  ·injection h with h;subst h;exact⟨rfl,Nd _ _⟩
  ·cases h
end Go.Proofs.YtbdnnjjcdcacnaaGreatDoor
