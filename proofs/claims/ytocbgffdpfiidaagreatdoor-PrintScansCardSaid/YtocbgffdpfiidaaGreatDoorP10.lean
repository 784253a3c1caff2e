/-
  A part of the proof of PrintScans: AbsRule, AbsEq, AbsEvS, S1, S2, S3.
-/
import Derived.IntWalk
import Derived.Test.YtocbgffdpfiidaaGreatDoorP08
set_option linter.unusedSimpArgs false
set_option linter.unusedVariables false
set_option linter.defProp false
set_option maxRecDepth 100000
namespace Go.Abs
section
def gf(s:Nat):AV->AV
 | .lbox g _=>.lref s g 0
 | .lsl g _=>.lsr s g
 | .iter ..=>.any
 | v=>v
theorem XF{G:Nat->List AV}{T:aA}{s:Nat} : ak.addr G T (.tmp s)=gf s (T s):=by
 simp only[ak.addr,gf]
 split<;>simp_all
section
theorem Io{b:Bool} : AV.drop (AV.bool b)=(.bool b):=rfl
theorem KJ{k:IntKind}{n:Int} : AV.drop (AV.int k n)=(.int k n):=rfl
theorem KN{l:List UInt8} : AV.drop (AV.str l)=(.str l):=rfl
theorem KI:AV.drop AV.any=.any:=rfl
theorem Bs:AV.drop AV.cJ=.cJ:=rfl
theorem Br:AV.drop AV.cr=.cr:=rfl
theorem Ir{kz:Nat}{ka va:Bool}{es:List (List AV)} : AV.drop (AV.di kz ka va es)=(.di kz ka va es):=rfl
theorem D' : AV.drop AV.ay=.ay:=rfl
theorem w7:AV.bc AV.ay=.ay:=rfl
theorem Bb:AV.cells AV.ay=some [.ay]:=rfl
theorem CN:AV.plain AV.ay=true:=rfl
theorem K3:aq AV.ay=true:=rfl
theorem zt:AV.drop AV.bU=.bU:=rfl
theorem xb:AV.drop AV.bt=.bt:=rfl
theorem Fa{e:List (List AV)}{own:Bool} : AV.drop (AV.slice e own)=.slice e false:=rfl
theorem Ip{cs:List AV} : AV.drop (AV.eptr cs)=(.eptr cs):=rfl
theorem KM{loc off:Nat} : AV.drop (AV.ref loc off)=(.ref loc off):=rfl
theorem Iw{loc off n z:Nat} : AV.drop (AV.sref loc off n z)=(.sref loc off n z):=rfl
theorem Iv{loc:Nat} : AV.drop (AV.mref loc)=(.mref loc):=rfl
theorem It{g:Nat}{cs:List AV} : AV.drop (AV.lbox g cs)=(.lbox g cs):=rfl
theorem Iu{s g off:Nat} : AV.drop (AV.lref s g off)=(.lref s g off):=rfl
theorem KK{g:Nat}{e:List (List AV)} : AV.drop (AV.lsl g e)=(.lsl g e):=rfl
theorem KL{s g:Nat} : AV.drop (AV.lsr s g)=(.lsr s g):=rfl
theorem Iq{s g i z off:Nat} : AV.drop (AV.eref s g i z off)=(.eref s g i z off):=rfl
theorem Is{f:Fn}{fs cs:List AV} : AV.drop (AV.func f fs cs)=(.func f fs cs):=rfl
theorem D9{t:TypeId}{v:AV} : AV.drop (AV.iface t v)=(.iface t v):=rfl
theorem KH{cs:List AV} : AV.drop (AV.agg cs)=(.agg cs):=rfl
theorem Fb{vs:List AV} : AV.drop (AV.tuple vs)=(.tuple vs):=rfl
theorem zj{b:Bool} : AV.bc (AV.bool b)=(.bool b):=rfl
theorem Bm{k:IntKind}{n:Int} : AV.bc (AV.int k n)=(.int k n):=rfl
theorem Bq{l:List UInt8} : AV.bc (AV.str l)=(.str l):=rfl
theorem Bl:AV.bc AV.any=.any:=rfl
theorem uZ:AV.bc AV.cJ=.cJ:=rfl
theorem uY:AV.bc AV.cr=.cr:=rfl
theorem zm{kz:Nat}{ka va:Bool}{es:List (List AV)} : AV.bc (AV.di kz ka va es)=(.di kz ka va es):=rfl
theorem tU:AV.bc AV.bU=.bU:=rfl
theorem sw:AV.bc AV.bt=.bt:=rfl
theorem w8{e:List (List AV)}{own:Bool} : AV.bc (AV.slice e own)=.slice e false:=rfl
theorem zk{cs:List AV} : AV.bc (AV.eptr cs)=(.eptr cs):=rfl
theorem Bp{loc off:Nat} : AV.bc (AV.ref loc off)=(.ref loc off):=rfl
theorem zr{loc off n z:Nat} : AV.bc (AV.sref loc off n z)=(.sref loc off n z):=rfl
theorem zq{loc:Nat} : AV.bc (AV.mref loc)=(.mref loc):=rfl
theorem zo{g:Nat}{cs:List AV} : AV.bc (AV.lbox g cs)=(.lbox g cs):=rfl
theorem zp{s g off:Nat} : AV.bc (AV.lref s g off)=(.lref s g off):=rfl
theorem Bn{g:Nat}{e:List (List AV)} : AV.bc (AV.lsl g e)=(.lsl g e):=rfl
theorem Bo{s g:Nat} : AV.bc (AV.lsr s g)=(.lsr s g):=rfl
theorem zl{s g i z off:Nat} : AV.bc (AV.eref s g i z off)=(.eref s g i z off):=rfl
theorem zn{f:Fn}{fs cs:List AV} : AV.bc (AV.func f fs cs)=(.func f fs cs):=rfl
theorem w6{t:TypeId}{v:AV} : AV.bc (AV.iface t v)=(.iface t v):=rfl
theorem Bk{cs:List AV} : AV.bc (AV.agg cs)=.agg (cs.map AV.drop):=rfl
theorem w9{vs:List AV} : AV.bc (AV.tuple vs)=(.tuple vs):=rfl
theorem P1{b:Bool} : aq (AV.bool b)=true:=rfl
theorem Vw{k:IntKind}{n:Int} : aq (AV.int k n)=true:=rfl
theorem VA{l:List UInt8} : aq (AV.str l)=true:=rfl
theorem Vv:aq AV.any=true:=rfl
theorem IF:aq AV.cJ=true:=rfl
theorem IE:aq AV.cr=true:=rfl
theorem P4{kz:Nat}{ka va:Bool}{es:List (List AV)} : aq (AV.di kz ka va es)=true:=rfl
theorem Fs:aq AV.bU=true:=rfl
theorem BJ:aq AV.bt=true:=rfl
theorem K4{e:List (List AV)}{own:Bool} : aq (AV.slice e own)=true:=rfl
theorem P2{cs:List AV} : aq (AV.eptr cs)=true:=rfl
theorem Vz{loc off:Nat} : aq (AV.ref loc off)=true:=rfl
theorem P9{loc off n z:Nat} : aq (AV.sref loc off n z)=true:=rfl
theorem P8{loc:Nat} : aq (AV.mref loc)=true:=rfl
theorem P6{g:Nat}{cs:List AV} : aq (AV.lbox g cs)=false:=rfl
theorem P7{s g off:Nat} : aq (AV.lref s g off)=false:=rfl
theorem Vx{g:Nat}{e:List (List AV)} : aq (AV.lsl g e)=false:=rfl
theorem Vy{s g:Nat} : aq (AV.lsr s g)=false:=rfl
theorem P3{s g i z off:Nat} : aq (AV.eref s g i z off)=false:=rfl
theorem P5{f:Fn}{fs cs:List AV} : aq (AV.func f fs cs)=true:=rfl
theorem K2{t:TypeId}{v:AV} : aq (AV.iface t v)=true:=rfl
theorem Vu{cs:List AV} : aq (AV.agg cs)=true:=rfl
theorem K5{vs:List AV} : aq (AV.tuple vs)=true:=rfl
theorem Fv{b:Bool} : aQ (AV.bool b)=none:=rfl
theorem IN{k:IntKind}{n:Int} : aQ (AV.int k n)=none:=rfl
theorem IT{l:List UInt8} : aQ (AV.str l)=none:=rfl
theorem IM:aQ AV.any=none:=rfl
theorem zF:aQ AV.cJ=none:=rfl
theorem zE:aQ AV.cr=none:=rfl
theorem Fy{kz:Nat}{ka va:Bool}{es:List (List AV)} : aQ (AV.di kz ka va es)=none:=rfl
theorem xe:aQ AV.bU=none:=rfl
theorem vm:aQ AV.bt=none:=rfl
theorem BU{e:List (List AV)}{own:Bool} : aQ (AV.slice e own)=none:=rfl
theorem Fw{cs:List AV} : aQ (AV.eptr cs)=none:=rfl
theorem IS{loc off:Nat} : aQ (AV.ref loc off)=none:=rfl
theorem FE{loc off n z:Nat} : aQ (AV.sref loc off n z)=none:=rfl
theorem FD{loc:Nat} : aQ (AV.mref loc)=none:=rfl
theorem FB{g:Nat}{cs:List AV} : aQ (AV.lbox g cs)=some g:=rfl
theorem FC{s g off:Nat} : aQ (AV.lref s g off)=none:=rfl
theorem IP{g:Nat}{e:List (List AV)} : aQ (AV.lsl g e)=some g:=rfl
theorem IQ{s g:Nat} : aQ (AV.lsr s g)=none:=rfl
theorem Fx{s g i z off:Nat} : aQ (AV.eref s g i z off)=none:=rfl
theorem Fz{f:Fn}{fs cs:List AV} : aQ (AV.func f fs cs)=none:=rfl
theorem BR{t:TypeId}{v:AV} : aQ (AV.iface t v)=none:=rfl
theorem IL{cs:List AV} : aQ (AV.agg cs)=none:=rfl
theorem BV{vs:List AV} : aQ (AV.tuple vs)=none:=rfl
theorem DT{b:Bool} : AV.cells (AV.bool b)=some [(.bool b)]:=rfl
theorem Ig{k:IntKind}{n:Int} : AV.cells (AV.int k n)=some [(.int k n)]:=rfl
theorem Ik{l:List UInt8} : AV.cells (AV.str l)=some [(.str l)]:=rfl
theorem Ie:AV.cells AV.any=none:=rfl
theorem zh:AV.cells AV.cJ=some [.cJ]:=rfl
theorem zg:AV.cells AV.cr=some [.cr]:=rfl
theorem DX{kz:Nat}{ka va:Bool}{es:List (List AV)} : AV.cells (AV.di kz ka va es)=some [(.di kz ka va es)]:=rfl
theorem wZ:AV.cells AV.bU=some [.bU]:=rfl
theorem uO:AV.cells AV.bt=some [.bt]:=rfl
theorem Bc{e:List (List AV)}{own:Bool} : AV.cells (AV.slice e own)=some [(.slice e own)]:=rfl
theorem DV{cs:List AV} : AV.cells (AV.eptr cs)=some [(.eptr cs)]:=rfl
theorem Ij{loc off:Nat} : AV.cells (AV.ref loc off)=some [(.ref loc off)]:=rfl
theorem D3{loc off n z:Nat} : AV.cells (AV.sref loc off n z)=some [(.sref loc off n z)]:=rfl
theorem D2{loc:Nat} : AV.cells (AV.mref loc)=some [(.mref loc)]:=rfl
theorem DZ{g:Nat}{cs:List AV} : AV.cells (AV.lbox g cs)=none:=rfl
theorem D1{s g off:Nat} : AV.cells (AV.lref s g off)=none:=rfl
theorem Ih{g:Nat}{e:List (List AV)} : AV.cells (AV.lsl g e)=none:=rfl
theorem Ii{s g:Nat} : AV.cells (AV.lsr s g)=none:=rfl
theorem DW{s g i z off:Nat} : AV.cells (AV.eref s g i z off)=none:=rfl
theorem DY{f:Fn}{fs cs:List AV} : AV.cells (AV.func f fs cs)=some [(.func f fs cs)]:=rfl
theorem Ba{t:TypeId}{v:AV} : AV.cells (AV.iface t v)=some [(.iface t v)]:=rfl
theorem Ic{cs:List AV} : AV.cells (AV.agg cs)=some cs:=rfl
theorem Bd{vs:List AV} : AV.cells (AV.tuple vs)=none:=rfl
theorem Gs{b:Bool} : AV.plain (AV.bool b)=true:=rfl
theorem Jv{k:IntKind}{n:Int} : AV.plain (AV.int k n)=true:=rfl
theorem Jz{l:List UInt8} : AV.plain (AV.str l)=true:=rfl
theorem Ju:AV.plain AV.any=true:=rfl
theorem An:AV.plain AV.cJ=true:=rfl
theorem Am:AV.plain AV.cr=true:=rfl
theorem Gv{kz:Nat}{ka va:Bool}{es:List (List AV)} : AV.plain (AV.di kz ka va es)=true:=rfl
theorem xw:AV.plain AV.bU=true:=rfl
theorem vU:AV.plain AV.bt=true:=rfl
theorem CO{e:List (List AV)}{own:Bool} : AV.plain (AV.slice e own)=!own:=rfl
theorem Gt{cs:List AV} : AV.plain (AV.eptr cs)=true:=rfl
theorem Jy{loc off:Nat} : AV.plain (AV.ref loc off)=false:=rfl
theorem Gz{loc off n z:Nat} : AV.plain (AV.sref loc off n z)=false:=rfl
theorem Gy{loc:Nat} : AV.plain (AV.mref loc)=false:=rfl
theorem Gw{g:Nat}{cs:List AV} : AV.plain (AV.lbox g cs)=false:=rfl
theorem Gx{s g off:Nat} : AV.plain (AV.lref s g off)=false:=rfl
theorem Jw{g:Nat}{e:List (List AV)} : AV.plain (AV.lsl g e)=false:=rfl
theorem Jx{s g:Nat} : AV.plain (AV.lsr s g)=false:=rfl
theorem Gu{s g i z off:Nat} : AV.plain (AV.eref s g i z off)=false:=rfl
theorem Jt{cs:List AV} : AV.plain (AV.agg cs)=false:=rfl
theorem CP{vs:List AV} : AV.plain (AV.tuple vs)=false:=rfl
theorem y7{base:Nat}{b:Bool} : AV.aN base (AV.bool b)=AV.plain (.bool b):=rfl
theorem A6{base:Nat}{k:IntKind}{n:Int} : AV.aN base (AV.int k n)=AV.plain (.int k n):=rfl
theorem A'{base:Nat}{l:List UInt8} : AV.aN base (AV.str l)=AV.plain (.str l):=rfl
theorem A5{base:Nat} : AV.aN base AV.any=AV.plain .any:=rfl
theorem uN{base:Nat} : AV.aN base AV.cJ=AV.plain .cJ:=rfl
theorem uM{base:Nat} : AV.aN base AV.cr=AV.plain .cr:=rfl
theorem za{kz:Nat}{ka va:Bool}{es:List (List AV)}{base:Nat} : AV.aN base (AV.di kz ka va es)=AV.plain (.di kz ka va es):=rfl
theorem tT{base:Nat} : AV.aN base AV.bU=AV.plain .bU:=rfl
theorem sk{base:Nat} : AV.aN base AV.bt=AV.plain .bt:=rfl
theorem wX{base:Nat}{e:List (List AV)}{own:Bool} : AV.aN base (AV.slice e own)=AV.plain (.slice e own):=rfl
theorem y8{base:Nat}{cs:List AV} : AV.aN base (AV.eptr cs)=AV.plain (.eptr cs):=rfl
theorem A9{base:Nat}{loc off:Nat} : AV.aN base (AV.ref loc off)=Nat.blt loc base:=rfl
theorem zf{base:Nat}{loc off n z:Nat} : AV.aN base (AV.sref loc off n z)=Nat.blt loc base:=rfl
theorem ze{base:Nat}{loc:Nat} : AV.aN base (AV.mref loc)=Nat.blt loc base:=rfl
theorem zc{base:Nat}{g:Nat}{cs:List AV} : AV.aN base (AV.lbox g cs)=AV.plain (.lbox g cs):=rfl
theorem zd{base:Nat}{s g off:Nat} : AV.aN base (AV.lref s g off)=AV.plain (.lref s g off):=rfl
theorem A7{base:Nat}{g:Nat}{e:List (List AV)} : AV.aN base (AV.lsl g e)=AV.plain (.lsl g e):=rfl
theorem A8{base:Nat}{s g:Nat} : AV.aN base (AV.lsr s g)=AV.plain (.lsr s g):=rfl
theorem y9{base:Nat}{s g i z off:Nat} : AV.aN base (AV.eref s g i z off)=AV.plain (.eref s g i z off):=rfl
theorem zb{base:Nat}{f:Fn}{fs cs:List AV} : AV.aN base (AV.func f fs cs)=AV.plain (.func f fs cs):=rfl
theorem wV{base:Nat}{t:TypeId}{v:AV} : AV.aN base (AV.iface t v)=AV.plain (.iface t v):=rfl
theorem A4{base:Nat}{cs:List AV} : AV.aN base (AV.agg cs)=AV.plain (.agg cs):=rfl
theorem wY{base:Nat}{vs:List AV} : AV.aN base (AV.tuple vs)=AV.plain (.tuple vs):=rfl
theorem Ad{base:Nat}{b:Bool} : AV.bf base (AV.bool b)=AV.aN base (.bool b):=rfl
theorem CE{base:Nat}{k:IntKind}{n:Int} : AV.bf base (AV.int k n)=AV.aN base (.int k n):=rfl
theorem CJ{base:Nat}{l:List UInt8} : AV.bf base (AV.str l)=AV.aN base (.str l):=rfl
theorem CD{base:Nat} : AV.bf base AV.any=AV.aN base .any:=rfl
theorem vT{base:Nat} : AV.bf base AV.cJ=AV.aN base .cJ:=rfl
theorem vS{base:Nat} : AV.bf base AV.cr=AV.aN base .cr:=rfl
theorem Ag{kz:Nat}{ka va:Bool}{es:List (List AV)}{base:Nat} : AV.bf base (AV.di kz ka va es)=AV.aN base (.di kz ka va es):=rfl
theorem ui{base:Nat} : AV.bf base AV.bU=AV.aN base .bU:=rfl
theorem sO{base:Nat} : AV.bf base AV.bt=AV.aN base .bt:=rfl
theorem xt{base:Nat}{e:List (List AV)}{own:Bool} : AV.bf base (AV.slice e own)=AV.aN base (.slice e own):=rfl
theorem Ae{base:Nat}{cs:List AV} : AV.bf base (AV.eptr cs)=AV.aN base (.eptr cs):=rfl
theorem CI{base:Nat}{loc off:Nat} : AV.bf base (AV.ref loc off)=AV.aN base (.ref loc off):=rfl
theorem Al{base:Nat}{loc off n z:Nat} : AV.bf base (AV.sref loc off n z)=AV.aN base (.sref loc off n z):=rfl
theorem Ak{base:Nat}{loc:Nat} : AV.bf base (AV.mref loc)=AV.aN base (.mref loc):=rfl
theorem Ai{base:Nat}{g:Nat}{cs:List AV} : AV.bf base (AV.lbox g cs)=AV.aN base (.lbox g cs):=rfl
theorem Aj{base:Nat}{s g off:Nat} : AV.bf base (AV.lref s g off)=AV.aN base (.lref s g off):=rfl
theorem CF{base:Nat}{g:Nat}{e:List (List AV)} : AV.bf base (AV.lsl g e)=AV.aN base (.lsl g e):=rfl
theorem CG{base:Nat}{s g:Nat} : AV.bf base (AV.lsr s g)=AV.aN base (.lsr s g):=rfl
theorem Af{base:Nat}{s g i z off:Nat} : AV.bf base (AV.eref s g i z off)=AV.aN base (.eref s g i z off):=rfl
theorem Ah{base:Nat}{f:Fn}{fs cs:List AV} : AV.bf base (AV.func f fs cs)=AV.aN base (.func f fs cs):=rfl
theorem xq{base:Nat}{t:TypeId}{v:AV} : AV.bf base (AV.iface t v)=AV.aN base (.iface t v):=rfl
theorem CC{base:Nat}{cs:List AV} : AV.bf base (AV.agg cs)=cs.all (AV.aN base):=rfl
theorem xu{base:Nat}{vs:List AV} : AV.bf base (AV.tuple vs)=AV.aN base (.tuple vs):=rfl
theorem Cn{base:Nat}{b:Bool} : AV.leaves base (AV.bool b)=AV.bf base (.bool b):=rfl
theorem F9{base:Nat}{k:IntKind}{n:Int} : AV.leaves base (AV.int k n)=AV.bf base (.int k n):=rfl
theorem Gd{base:Nat}{l:List UInt8} : AV.leaves base (AV.str l)=AV.bf base (.str l):=rfl
theorem F8{base:Nat} : AV.leaves base AV.any=AV.bf base .any:=rfl
theorem xl{base:Nat} : AV.leaves base AV.cJ=AV.bf base .cJ:=rfl
theorem xj{base:Nat} : AV.leaves base AV.cr=AV.bf base .cr:=rfl
theorem Cq{kz:Nat}{ka va:Bool}{es:List (List AV)}{base:Nat} : AV.leaves base (AV.di kz ka va es)=AV.bf base (.di kz ka va es):=rfl
theorem vJ{base:Nat} : AV.leaves base AV.bU=AV.bf base .bU:=rfl
theorem ug{base:Nat} : AV.leaves base AV.bt=AV.bf base .bt:=rfl
theorem zY{base:Nat}{e:List (List AV)}{own:Bool} : AV.leaves base (AV.slice e own)=true:=rfl
theorem Co{base:Nat}{cs:List AV} : AV.leaves base (AV.eptr cs)=AV.bf base (.eptr cs):=rfl
theorem Gc{base:Nat}{loc off:Nat} : AV.leaves base (AV.ref loc off)=AV.bf base (.ref loc off):=rfl
theorem Cv{base:Nat}{loc off n z:Nat} : AV.leaves base (AV.sref loc off n z)=AV.bf base (.sref loc off n z):=rfl
theorem Cu{base:Nat}{loc:Nat} : AV.leaves base (AV.mref loc)=AV.bf base (.mref loc):=rfl
theorem Cs{base:Nat}{g:Nat}{cs:List AV} : AV.leaves base (AV.lbox g cs)=AV.bf base (.lbox g cs):=rfl
theorem Ct{base:Nat}{s g off:Nat} : AV.leaves base (AV.lref s g off)=AV.bf base (.lref s g off):=rfl
theorem Ga{base:Nat}{g:Nat}{e:List (List AV)} : AV.leaves base (AV.lsl g e)=AV.bf base (.lsl g e):=rfl
theorem Gb{base:Nat}{s g:Nat} : AV.leaves base (AV.lsr s g)=AV.bf base (.lsr s g):=rfl
theorem Cp{base:Nat}{s g i z off:Nat} : AV.leaves base (AV.eref s g i z off)=AV.bf base (.eref s g i z off):=rfl
theorem Cr{base:Nat}{f:Fn}{fs cs:List AV} : AV.leaves base (AV.func f fs cs)=(fs.all (AV.aN base)&&cs.all (AV.aN base)):=rfl
theorem zW{base:Nat}{t:TypeId}{v:AV} : AV.leaves base (AV.iface t v)=v.aN base:=rfl
theorem F7{base:Nat}{cs:List AV} : AV.leaves base (AV.agg cs)=AV.bf base (.agg cs):=rfl
theorem zZ{base:Nat}{vs:List AV} : AV.leaves base (AV.tuple vs)=vs.all (AV.bf base):=rfl
theorem DB{s:Nat}{b:Bool} : gf s (AV.bool b)=(.bool b):=rfl
theorem HV{s:Nat}{k:IntKind}{n:Int} : gf s (AV.int k n)=(.int k n):=rfl
theorem HZ{s:Nat}{l:List UInt8} : gf s (AV.str l)=(.str l):=rfl
theorem HU{s:Nat} : gf s AV.any=.any:=rfl
theorem yY{s:Nat} : gf s AV.cJ=.cJ:=rfl
theorem yX{s:Nat} : gf s AV.cr=.cr:=rfl
theorem DE{kz:Nat}{ka va:Bool}{es:List (List AV)}{s:Nat} : gf s (AV.di kz ka va es)=(.di kz ka va es):=rfl
theorem wT{s:Nat} : gf s AV.bU=.bU:=rfl
theorem uG{s:Nat} : gf s AV.bt=.bt:=rfl
theorem AW{s:Nat}{e:List (List AV)}{own:Bool} : gf s (AV.slice e own)=(.slice e own):=rfl
theorem DC{s:Nat}{cs:List AV} : gf s (AV.eptr cs)=(.eptr cs):=rfl
theorem HY{s:Nat}{loc off:Nat} : gf s (AV.ref loc off)=(.ref loc off):=rfl
theorem DJ{s:Nat}{loc off n z:Nat} : gf s (AV.sref loc off n z)=(.sref loc off n z):=rfl
theorem DI{s:Nat}{loc:Nat} : gf s (AV.mref loc)=(.mref loc):=rfl
theorem DG{s:Nat}{g:Nat}{cs:List AV} : gf s (AV.lbox g cs)=.lref s g 0:=rfl
theorem DH{s:Nat}{r g off:Nat} : gf s (AV.lref r g off)=(.lref r g off):=rfl
theorem HW{s:Nat}{g:Nat}{e:List (List AV)} : gf s (AV.lsl g e)=.lsr s g:=rfl
theorem HX{s:Nat}{r g:Nat} : gf s (AV.lsr r g)=(.lsr r g):=rfl
theorem DD{s:Nat}{r g i z off:Nat} : gf s (AV.eref r g i z off)=(.eref r g i z off):=rfl
theorem DF{s:Nat}{f:Fn}{fs cs:List AV} : gf s (AV.func f fs cs)=(.func f fs cs):=rfl
theorem AT{s:Nat}{t:TypeId}{v:AV} : gf s (AV.iface t v)=(.iface t v):=rfl
theorem HT{s:Nat}{cs:List AV} : gf s (AV.agg cs)=(.agg cs):=rfl
theorem AX{s:Nat}{vs:List AV} : gf s (AV.tuple vs)=(.tuple vs):=rfl
end
def cK(A:AP)(d:Bool)(o:Option AV)(t:Nat)(os:List az)(T:aA)(H:ag)(lo gen:Nat)(K:AS->Prop):Prop :=
 bj (o.bind fun z=>cond (d&&(aQ z).isSome) none (some z)) fun z=>WO A d os ⟨T.put t z,H,lo,gen⟩ K
def gV(A:AP)(d take obj:Bool)(i:Nat)(v:AV)(t:Nat)(os:List az)(T:aA)(H:ag)(lo gen:Nat)(K:AS->Prop):Prop :=
 bj (match v with
  | .lbox g _=>some (AV.lref i g 0,(⟨T,H,lo,gen⟩:AS))
  | .lsl g e=>cond take (cond d none (cond obj (some (.lsl gen e,⟨T.put i .any,H,lo,gen+1⟩)) (cond (gM e) (some (.slice e true,⟨T.put i .any,H,lo,gen⟩)) none))) (some (.lsr i g,⟨T,H,lo,gen⟩))
  | .slice e own=>cond (take&&own) (cond d none (some (.slice e true,⟨T.put i (.slice e false),H,lo,gen⟩))) (some (.slice e false,⟨T,H,lo,gen⟩))
  | .iter ..=>none
  | v=>some (v,⟨T,H,lo,gen⟩)) fun r=>WO A d os (r.2.br t r.1) K
def kI(A:AP)(d:Bool)(v:AV)(w:Bool)(t:Nat)(op:dR)(os:List az)(T:aA)(H:ag)(lo gen:Nat)(K:AS->Prop):Prop :=
 bj (match v with|.bool b=>some (b==w)|.tuple []=>some false|_=>none) fun b =>
  (b=true->WO A d (⟨some t,none,op⟩ :: os) ⟨T,H,lo,gen⟩ K)/\(b=false->WO A d os ⟨T.put t .undef,H,lo,gen⟩ K)
def ou(A:AP)(d:Bool)(r:Option (AV × Option fD))(t:Nat)(os:List az)(T:aA)(H:ag)(lo gen:Nat)(K:AS->Prop):Prop :=
 bj (r.bind fun r=>match r.2 with
  | none=>cond (d&&(aQ r.1).isSome) none (some (r.1,(⟨T,H,lo,gen⟩:AS)))
  | some c=>cond d none (some (r.1,AS.fa ⟨T,H,lo,gen⟩ c))) fun r=>WO A d os (r.2.br t r.1) K
def lp(G:Nat->List AV)(T:aA):List ak->List AV
 | []=>[]
 | a :: r=>(a.addr G T).bc :: lp G T r
def iX(G:Nat->List AV)(T:aA):List ak->Bool
 | []=>true
 | a :: r=>aq (a.addr G T)&&iX G T r
theorem oh{G:Nat->List AV}{T:aA} : ∀ l:List ak,l.map (fun a=>(a.addr G T).bc)=lp G T l
 | []=>rfl
 | a :: r=>by simp[lp,oh r]
theorem mJ{G:Nat->List AV}{T:aA} : ∀ l:List ak,(l.map fun a=>a.addr G T).all aq=iX G T l
 | []=>rfl
 | a :: r=>by simp only[ah1,ajb,iX,mJ r]
def oR(G:Nat->List AV)(T:aA):List (Nat × Nat × ak)->List (Nat × Nat × AV)
 | []=>[]
 | (o,z,a) :: r=>(o,z,(a.eval G T).drop) :: oR G T r
theorem yA{G:Nat->List AV}{T:aA} : ∀ l:List (Nat × Nat × ak),l.map (fun p=>(p.1,p.2.1,(p.2.2.eval G T).drop))=oR G T l
 | []=>rfl
 | a :: r=>by simp[oR,yA r]
def lA(G:Nat->List AV)(T:aA):List (Nat × ak)->List (Nat × AV)
 | []=>[]
 | (i,a) :: r=>(i,(a.eval G T).drop) :: lA G T r
theorem sy{G:Nat->List AV}{T:aA} : ∀ l:List (Nat × ak),l.map (fun p=>(p.1,(p.2.eval G T).drop))=lA G T l
 | []=>rfl
 | a :: r=>by simp[lA,sy r]
def Gr(G:Nat->List AV)(T:aA):Option ak->Option AV
 | none=>none
 | some a=>some (a.eval G T)
def HD(c a b:AV):Option AV:=match c with
 | .bool t=>some (cond t a.drop b.drop)
 | _=>none
def N9(b:Bool)(o:Option (List (List AV))):Option AV:=o.bind fun E=>cond (jY b E) (some (.slice E true)) none
def oo(o:Option dm)(agg:Bool)(sz off:Nat):Option AV:=match o with
 | some (.box _ cs)=>ar false agg sz off cs
 | some (.Fq cs)=>ar false agg sz off cs
 | some (.dM cs)=>ar false agg sz off cs
 | _=>none
def mV(v:AV)(g:Nat)(agg:Bool)(sz off:Nat):Option AV:=match v with
 | .lbox g' cs=>cond (Nat.beq g g') (ar false agg sz off cs) none
 | _=>none
def rN(o:Option (List AV))(z:Nat)(agg:Bool)(sz off:Nat):Option AV:=o.bind fun r=>cond (Nat.beq r.length z) (ar false agg sz off r) none
def oM(v:AV)(g i z:Nat)(agg:Bool)(sz off:Nat):Option AV:=match v with
 | .lsl g' e=>cond (Nat.beq g g') (rN (e[i]?) z agg sz off) none
 | _=>none
def yl(T:aA)(H:ag)(agg:Bool)(sz:Nat)(x:AV):Option AV:=match x with
 | .eptr cs=>ar false agg sz 0 cs
 | .ref loc off=>oo H[loc]? agg sz off
 | .lref b g off=>mV (T b) g agg sz off
 | .eref b g i z off=>oM (T b) g i z agg sz off
 | _=>none
def lN(v:AV)(g:Nat)(r:AV):Option AV:=match v with
 | .lbox g' _=>cond (Nat.beq g g') (some r) none
 | _=>none
def nF(v:AV)(g i:Nat)(r:AV):Option AV:=match v with
 | .lsl g' e=>cond (Nat.beq g g'&&Nat.blt i e.length) (some r) none
 | _=>none
def T5(T:aA)(off:Nat)(x:AV):Option AV:=match x with
 | .ref l o=>some (.ref l (o+off))
 | .eptr cs=>some (.eptr (cs.drop off))
 | .lref b g o=>lN (T b) g (.lref b g (o+off))
 | .eref b g i z o=>nF (T b) g i (.eref b g i z (o+off))
 | _=>none
def VB(x:AV)(agg:Bool)(sz off:Nat):Option AV:=match x with
 | .agg cs=>ar false agg sz off cs
 | _=>none
def GH(sz:Nat)(r:Option (List AV))(f:List AV->AV):Option AV:=r.bind fun r=>cond (Nat.beq r.length sz) (some (f r)) none
def ixV(T:aA)(sz:Nat)(x:AV)(n:Option Nat):Option AV:=match x with
 | .slice e _=>n.bind fun n=>GH sz (e[n]?) .eptr
 | .sref l o m _=>n.bind fun n=>cond (Nat.blt n m) (some (.ref l (o+n*sz))) none
 | .lsr t g=>match T t with
  | .lsl g' e=>cond (Nat.beq g g') (n.bind fun n=>GH sz (e[n]?) fun _=>.eref t g n sz 0) none
  | _=>none
 | _=>none
def FW(agg:Bool)(n sz:Nat)(x:AV)(i:Option Nat):Option AV:=match x with
 | .agg cs=>i.bind fun k=>cond (Nat.blt k n) (ar false agg sz (k*sz) cs) none
 | _=>none
def DS(o:Option UInt8):Option AV:=o.map fun (b:UInt8)=>AV.int .u8 b.toNat
def Kx(x:AV)(i:Option Nat):Option AV:=match x with
 | .str l=>i.bind fun n=>DS (l[n]?)
 | _=>none
def K1(x:AV)(i:Nat):Option AV:=match x with
 | .tuple vs=>(vs[i]?).map AV.bc
 | _=>none
def Ge(T:aA)(k:jZ)(x:AV):Option AV:=match x with
 | .lsr t g=>match T t with
  | .lsl g' e=>cond (Nat.beq g g') (jH k (.slice e false)) none
  | _=>none
 | v=>jH k v
def xE(A:AP)(d:Bool)(r:Option (AV × Option fD))(os:List az)(T:aA)(H:ag)(lo gen:Nat)(K:AS->Prop):Prop :=
 bj (r.bind fun r=>match r.2 with
  | none=>cond (d&&(aQ r.1).isSome) none (some (⟨T,H,lo,gen⟩:AS))
  | some c=>cond d none (some (AS.fa ⟨T,H,lo,gen⟩ c))) fun s=>WO A d os s K
def KA(A:AP)(d:Bool)(f:AV)(vs:List AV)(t:Nat)(os:List az)(T:aA)(H:ag)(lo gen:Nat)(K:AS->Prop):Prop:=match f with
 | .func (.func n) fs cs=>ou A d (aB A n (fs++vs++cs) H) t os T H lo gen K
 | _=>False
def Pz(A:AP)(b:Bool)(sz bytes i:Nat)(x y:AV)(t:Nat)(os:List az)(T:aA)(H:ag)(lo gen:Nat)(K:AS->Prop):Prop:=match x with
 | .slice e own=>bj (an b sz bytes (.slice e own) y) fun z=>WO A false os ⟨(T.put i (.slice e false)).put t z,H,lo,gen⟩ K
 | .ay=>bj (an b sz bytes (.slice [] true) y) fun z=>WO A false os ⟨T.put t z,H,lo,gen⟩ K
 | _=>False
section
variable {A:AP}{T:aA}{H:ag}{lo gen:Nat}{K:AS->Prop}{d:Bool}{os:List az}{t:Nat}
theorem bZ{z:AV}(h:aQ z=none):cK A d (some z) t os T H lo gen K=WO A d os ⟨T.put t z,H,lo,gen⟩ K:=by
 simp[cK,h,av]
theorem Tu{b:Bool} : cK A d (some (AV.bool b)) t os T H lo gen K=WO A d os ⟨T.put t (AV.bool b),H,lo,gen⟩ K:=bZ rfl
theorem Yu{k:IntKind}{n:Int} : cK A d (some (AV.int k n)) t os T H lo gen K=WO A d os ⟨T.put t (AV.int k n),H,lo,gen⟩ K:=bZ rfl
theorem Yx{l:List UInt8} : cK A d (some (AV.str l)) t os T H lo gen K=WO A d os ⟨T.put t (AV.str l),H,lo,gen⟩ K:=bZ rfl
theorem Yt:cK A d (some AV.any) t os T H lo gen K=WO A d os ⟨T.put t AV.any,H,lo,gen⟩ K:=bZ rfl
theorem JM:cK A d (some AV.cJ) t os T H lo gen K=WO A d os ⟨T.put t AV.cJ,H,lo,gen⟩ K:=bZ rfl
theorem JL:cK A d (some AV.cr) t os T H lo gen K=WO A d os ⟨T.put t AV.cr,H,lo,gen⟩ K:=bZ rfl
theorem Tx{kz:Nat}{ka va:Bool}{es:List (List AV)} : cK A d (some (AV.di kz ka va es)) t os T H lo gen K=WO A d os ⟨T.put t (AV.di kz ka va es),H,lo,gen⟩ K:=bZ rfl
theorem GN:cK A d (some AV.bU) t os T H lo gen K=WO A d os ⟨T.put t AV.bU,H,lo,gen⟩ K:=bZ rfl
theorem Da:cK A d (some AV.bt) t os T H lo gen K=WO A d os ⟨T.put t AV.bt,H,lo,gen⟩ K:=bZ rfl
theorem Db{e:List (List AV)}{own:Bool} : cK A d (some (AV.slice e own)) t os T H lo gen K=WO A d os ⟨T.put t (AV.slice e own),H,lo,gen⟩ K:=bZ rfl
theorem Tv{cs:List AV} : cK A d (some (AV.eptr cs)) t os T H lo gen K=WO A d os ⟨T.put t (AV.eptr cs),H,lo,gen⟩ K:=bZ rfl
theorem Yw{loc off:Nat} : cK A d (some (AV.ref loc off)) t os T H lo gen K=WO A d os ⟨T.put t (AV.ref loc off),H,lo,gen⟩ K:=bZ rfl
theorem TB{loc off n z:Nat} : cK A d (some (AV.sref loc off n z)) t os T H lo gen K=WO A d os ⟨T.put t (AV.sref loc off n z),H,lo,gen⟩ K:=bZ rfl
theorem TA{loc:Nat} : cK A d (some (AV.mref loc)) t os T H lo gen K=WO A d os ⟨T.put t (AV.mref loc),H,lo,gen⟩ K:=bZ rfl
theorem Tz{r g off:Nat} : cK A d (some (AV.lref r g off)) t os T H lo gen K=WO A d os ⟨T.put t (AV.lref r g off),H,lo,gen⟩ K:=bZ rfl
theorem Yv{r g:Nat} : cK A d (some (AV.lsr r g)) t os T H lo gen K=WO A d os ⟨T.put t (AV.lsr r g),H,lo,gen⟩ K:=bZ rfl
theorem Tw{r g i z off:Nat} : cK A d (some (AV.eref r g i z off)) t os T H lo gen K=WO A d os ⟨T.put t (AV.eref r g i z off),H,lo,gen⟩ K:=bZ rfl
theorem Ty{fn:Fn}{fs cs:List AV} : cK A d (some (AV.func fn fs cs)) t os T H lo gen K=WO A d os ⟨T.put t (AV.func fn fs cs),H,lo,gen⟩ K:=bZ rfl
theorem O0{u:TypeId}{v:AV} : cK A d (some (AV.iface u v)) t os T H lo gen K=WO A d os ⟨T.put t (AV.iface u v),H,lo,gen⟩ K:=bZ rfl
theorem Ys{cs:List AV} : cK A d (some (AV.agg cs)) t os T H lo gen K=WO A d os ⟨T.put t (AV.agg cs),H,lo,gen⟩ K:=bZ rfl
theorem O4{vs:List AV} : cK A d (some (AV.tuple vs)) t os T H lo gen K=WO A d os ⟨T.put t (AV.tuple vs),H,lo,gen⟩ K:=bZ rfl
theorem UM{o:Option AV}(z:AV)(h:o=some z)(hg:aQ z=none)(hK:WO A d os ⟨T.put t z,H,lo,gen⟩ K):cK A d o t os T H lo gen K:=by
 rw[h,bZ hg];exact hK
theorem dW{op:dR}{o:Option AV}(h:ai A.aP (aB A) ⟨T,H,lo,gen⟩ op=o.map (·,none)):WO A d (⟨some t,none,op⟩ :: os) ⟨T,H,lo,gen⟩ K=cK A d o t os T H lo gen K:=by
 rw[fc]
 cases o with
 | none=>simp[cK,bO,h,bj]
 | some z =>
  simp only[cK,bO,h,ah0,ahV]
  cases hb:(d&&(aQ z).isSome) with
  | true=>simp[bj]
  | false=>simp only[ahW,av];rfl
section
variable {take obj:Bool}{i:Nat}
theorem Sc{b:Bool} : gV A d take obj i (AV.bool b) t os T H lo gen K=WO A d os ⟨T.put t (AV.bool b),H,lo,gen⟩ K:=av
theorem Xn{k:IntKind}{n:Int} : gV A d take obj i (AV.int k n) t os T H lo gen K=WO A d os ⟨T.put t (AV.int k n),H,lo,gen⟩ K:=av
theorem Xt{l:List UInt8} : gV A d take obj i (AV.str l) t os T H lo gen K=WO A d os ⟨T.put t (AV.str l),H,lo,gen⟩ K:=av
theorem Xm:gV A d take obj i AV.any t os T H lo gen K=WO A d os ⟨T.put t AV.any,H,lo,gen⟩ K:=av
theorem Jn:gV A d take obj i AV.cJ t os T H lo gen K=WO A d os ⟨T.put t AV.cJ,H,lo,gen⟩ K:=av
theorem Jm:gV A d take obj i AV.cr t os T H lo gen K=WO A d os ⟨T.put t AV.cr,H,lo,gen⟩ K:=av
theorem Sg{kz:Nat}{ka va:Bool}{es:List (List AV)} : gV A d take obj i (AV.di kz ka va es) t os T H lo gen K=WO A d os ⟨T.put t (AV.di kz ka va es),H,lo,gen⟩ K:=av
theorem Gj:gV A d take obj i AV.bU t os T H lo gen K=WO A d os ⟨T.put t AV.bU,H,lo,gen⟩ K:=av
theorem Cz:gV A d take obj i AV.bt t os T H lo gen K=WO A d os ⟨T.put t AV.bt,H,lo,gen⟩ K:=av
theorem Se{cs:List AV} : gV A d take obj i (AV.eptr cs) t os T H lo gen K=WO A d os ⟨T.put t (AV.eptr cs),H,lo,gen⟩ K:=av
theorem Xp{loc off:Nat} : gV A d take obj i (AV.ref loc off) t os T H lo gen K=WO A d os ⟨T.put t (AV.ref loc off),H,lo,gen⟩ K:=av
theorem Sp{loc off n z:Nat} : gV A d take obj i (AV.sref loc off n z) t os T H lo gen K=WO A d os ⟨T.put t (AV.sref loc off n z),H,lo,gen⟩ K:=av
theorem Sn{loc:Nat} : gV A d take obj i (AV.mref loc) t os T H lo gen K=WO A d os ⟨T.put t (AV.mref loc),H,lo,gen⟩ K:=av
theorem Si{g:Nat}{cs:List AV} : gV A d take obj i (AV.lbox g cs) t os T H lo gen K=WO A d os ⟨T.put t (AV.lref i g 0),H,lo,gen⟩ K:=av
theorem Sj{r g off:Nat} : gV A d take obj i (AV.lref r g off) t os T H lo gen K=WO A d os ⟨T.put t (AV.lref r g off),H,lo,gen⟩ K:=av
theorem Xo{r g:Nat} : gV A d take obj i (AV.lsr r g) t os T H lo gen K=WO A d os ⟨T.put t (AV.lsr r g),H,lo,gen⟩ K:=av
theorem Sf{r g j z off:Nat} : gV A d take obj i (AV.eref r g j z off) t os T H lo gen K=WO A d os ⟨T.put t (AV.eref r g j z off),H,lo,gen⟩ K:=av
theorem Sh{fn:Fn}{fs cs:List AV} : gV A d take obj i (AV.func fn fs cs) t os T H lo gen K=WO A d os ⟨T.put t (AV.func fn fs cs),H,lo,gen⟩ K:=av
theorem N6{u:TypeId}{v:AV} : gV A d take obj i (AV.iface u v) t os T H lo gen K=WO A d os ⟨T.put t (AV.iface u v),H,lo,gen⟩ K:=av
theorem Xl{cs:List AV} : gV A d take obj i (AV.agg cs) t os T H lo gen K=WO A d os ⟨T.put t (AV.agg cs),H,lo,gen⟩ K:=av
theorem N8{vs:List AV} : gV A d take obj i (AV.tuple vs) t os T H lo gen K=WO A d os ⟨T.put t (AV.tuple vs),H,lo,gen⟩ K:=av
theorem Xr{e:List (List AV)} : gV A d take obj i (.slice e false) t os T H lo gen K=WO A d os ⟨T.put t (.slice e false),H,lo,gen⟩ K:=by
 simp[gV,av,AS.br]
theorem Xs{e:List (List AV)} : gV A false true obj i (.slice e true) t os T H lo gen K=WO A false os ⟨(T.put i (.slice e false)).put t (.slice e true),H,lo,gen⟩ K:=by
 simp[gV,av,AS.br]
theorem Xq{e:List (List AV)}{own:Bool} : gV A d false obj i (.slice e own) t os T H lo gen K=WO A d os ⟨T.put t (.slice e false),H,lo,gen⟩ K:=by
 simp[gV,av,AS.br]
theorem Sk{g:Nat}{e:List (List AV)} : gV A d false obj i (.lsl g e) t os T H lo gen K=WO A d os ⟨T.put t (.lsr i g),H,lo,gen⟩ K:=by
 simp[gV,av,AS.br]
theorem Sm{g:Nat}{e:List (List AV)}(hn:gM e=true):gV A false true false i (.lsl g e) t os T H lo gen K=WO A false os ⟨(T.put i .any).put t (.slice e true),H,lo,gen⟩ K:=by
 simp[gV,av,AS.br,hn]
theorem Sl{g:Nat}{e:List (List AV)} : gV A false true true i (.lsl g e) t os T H lo gen K=WO A false os ⟨(T.put i .any).put t (.lsl gen e),H,lo,gen+1⟩ K:=by
 simp[gV,av,AS.br]
end
theorem abv{take obj:Bool}{i:Nat} : WO A d (⟨some t,none,.mov take obj (.tmp i)⟩ :: os) ⟨T,H,lo,gen⟩ K=gV A d take obj i (T i) t os T H lo gen K:=by
 rw[fc]
 simp only[gV,bO,ai,kN]
 cases hT:T i with
 | slice e own=>cases take<;>cases own<;>cases d<;>simp[bj,AS.b9,AS.br,aQ]
 | lbox g cs=>simp[bj,AS.b9,AS.br,aQ]
 | lsl g e=>cases take<;>cases obj<;>cases d<;>cases hn:gM e<;>simp[bj,AS.b9,AS.br,aQ,hn]
 | _=>simp[bj,AS.b9,AS.br,aQ]
theorem OA{take obj:Bool}{v:AV} : WO A d (⟨some t,none,.mov take obj (.bC v)⟩ :: os) ⟨T,H,lo,gen⟩ K=cK A d (some v) t os T H lo gen K:=dW rfl
theorem X1{take obj:Bool}{g:Nat} : WO A d (⟨some t,none,.mov take obj (.aP g)⟩ :: os) ⟨T,H,lo,gen⟩ K=cK A d (some (.eptr (A.aP g))) t os T H lo gen K:=dW rfl
theorem X0{take obj:Bool}{f:FuncId} : WO A d (⟨some t,none,.mov take obj (.fn f)⟩ :: os) ⟨T,H,lo,gen⟩ K=cK A d (some (.func (.func f) [] [])) t os T H lo gen K:=dW rfl
theorem SQ{g:Nat}{w:Bool}{op:dR} : WO A d (⟨some t,some (g,w),op⟩ :: os) ⟨T,H,lo,gen⟩ K=kI A d (T g) w t op os T H lo gen K:=by
 rw[fc]
 simp only[kI,fc]
 unfold bO
 simp only
 cases hT:T g with
 | bool b =>
  cases hb:(b==w) with
  | true=>simp only[hb,av,cond_true,forall_const,Bool.true_eq_false,false_implies,ai9,eq_self]
  | false=>simp only[hb,av,ahW,forall_const,aiS,false_implies,akk,eq_self,AS.b9,AS.br]
 | tuple l =>
  cases l with
  | nil=>simp only[av,forall_const,aiS,false_implies,akk,eq_self,AS.b9,AS.br]
  | cons a l=>simp[bj]
 | _=>simp[bj]
theorem abn{op:dR} : kI A d (.bool true) true t op os T H lo gen K=WO A d (⟨some t,none,op⟩ :: os) ⟨T,H,lo,gen⟩ K:=by simp[kI,av]
theorem abk{op:dR} : kI A d (.bool false) false t op os T H lo gen K=WO A d (⟨some t,none,op⟩ :: os) ⟨T,H,lo,gen⟩ K:=by simp[kI,av]
theorem abm{op:dR} : kI A d (.bool true) false t op os T H lo gen K=WO A d os ⟨T.put t .undef,H,lo,gen⟩ K:=by simp[kI,av]
theorem abl{op:dR} : kI A d (.bool false) true t op os T H lo gen K=WO A d os ⟨T.put t .undef,H,lo,gen⟩ K:=by simp[kI,av]
theorem abo{op:dR}{w:Bool} : kI A d (.tuple []) w t op os T H lo gen K=WO A d os ⟨T.put t .undef,H,lo,gen⟩ K:=by simp[kI,av]
theorem X3{c a b:ak} : WO A d (⟨some t,none,.pick c a b⟩ :: os) ⟨T,H,lo,gen⟩ K=cK A d (HD (c.eval A.aP T) (a.addr A.aP T) (b.addr A.aP T)) t os T H lo gen K:=by
 refine dW ?_
 simp only[ai,HD]
 cases c.eval A.aP T<;>rfl
theorem S7{x y:AV} : HD (.bool true) x y=some x.drop:=rfl
theorem S6{x y:AV} : HD (.bool false) x y=some y.drop:=rfl
theorem Oo{z:List AV} : WO A false (⟨some t,none,.allocL z⟩ :: os) ⟨T,H,lo,gen⟩ K=WO A false os ⟨T.put t (.lbox gen z),H,lo,gen+1⟩ K:=by
 rw[fc];simp only[bO,ai,ahV,ahW,av];rfl
theorem On{ty:TypeId}{z:List AV} : WO A false (⟨some t,none,.pW ty z⟩ :: os) ⟨T,H,lo,gen⟩ K=WO A false os ⟨T.put t (.ref H.length 0),H++[.box ty z],cond (Nat.blt H.length lo) H.length lo,gen⟩ K:=by
 rw[fc];simp only[bO,ai,ahV,ahW,av];rfl
theorem SD{z:List AV}{ps:List (Nat × Nat × ak)} : WO A d (⟨some t,none,.build z ps⟩ :: os) ⟨T,H,lo,gen⟩ K=cK A d ((cD z (oR A.aP T ps)).map .agg) t os T H lo gen K:=by
 refine dW ?_
 simp only[ai,yA,ajP];rfl
theorem yC{b:Bool}{sz:Nat}{z:List (List AV)}{ps:List (Nat × ak)} : WO A d (⟨some t,none,.mkslice b sz z ps⟩ :: os) ⟨T,H,lo,gen⟩ K=cK A d (N9 b (ca sz z (lA A.aP T ps))) t os T H lo gen K:=by
 refine dW ?_
 simp only[ai,sy,N9]
 cases ca sz z (lA A.aP T ps) with
 | none=>rfl
 | some E=>simp only[ahV];cases jY b E<;>rfl
theorem ad1{b:Bool}{E:List (List AV)} : N9 b (some E)=cond (jY b E) (some (.slice E true)) none:=rfl
theorem SW{agg:Bool}{sz:Nat}{x:ak} : WO A d (⟨some t,none,.load false agg sz x⟩ :: os) ⟨T,H,lo,gen⟩ K=cK A d (yl T H agg sz (x.addr A.aP T)) t os T H lo gen K:=by
 refine dW ?_
 simp only[ai,cO,yl,aiu,ahW]
 cases x.addr A.aP T with
 | ref loc off=>cases hl:H[loc]? with
  | none=>simp only[hl,oo];rfl
  | some o=>cases o<;>simp only[hl,oo]<;>rfl
 | lref b g off =>
  cases hb:T b with
  | lbox g' cs=>simp only[hb,mV];cases Nat.beq g g'<;>rfl
  | _=>simp only[hb,mV];rfl
 | eref b g i z off =>
  cases hb:T b with
  | lsl g' e =>
   simp only[hb,oM,rN]
   cases Nat.beq g g' with
   | false=>rfl
   | true =>
    simp only[cond_true]
    cases e[i]? with
    | none=>rfl
    | some r=>simp only[ahV];cases Nat.beq r.length z<;>rfl
  | _=>simp only[hb,oM];rfl
 | _=>rfl
theorem S1{agg:Bool}{sz b g i z off:Nat} : yl T H agg sz (.eref b g i z off)=oM (T b) g i z agg sz off:=rfl
theorem XZ{g g' i z:Nat}{e:List (List AV)}{agg:Bool}{sz off:Nat} : oM (.lsl g e) g' i z agg sz off=cond (Nat.beq g' g) (rN (e[i]?) z agg sz off) none:=rfl
theorem Yh{r:List AV}{z:Nat}{agg:Bool}{sz off:Nat} : rN (some r) z agg sz off=cond (Nat.beq r.length z) (ar false agg sz off r) none:=rfl
theorem SX{agg:Bool}{sz:Nat}{cs:List AV} : yl T H agg sz (.eptr cs)=ar false agg sz 0 cs:=rfl
theorem SZ{agg:Bool}{sz loc off:Nat} : yl T H agg sz (.ref loc off)=oo H[loc]? agg sz off:=rfl
theorem XL{ty:TypeId}{cs:List AV}{agg:Bool}{sz off:Nat} : oo (some (.box ty cs)) agg sz off=ar false agg sz off cs:=rfl
theorem SY{agg:Bool}{sz b g off:Nat} : yl T H agg sz (.lref b g off)=mV (T b) g agg sz off:=rfl
theorem SV{g g' : Nat}{cs:List AV}{agg:Bool}{sz off:Nat} : mV (.lbox g cs) g' agg sz off=cond (Nat.beq g' g) (ar false agg sz off cs) none:=rfl
theorem Ov{sz off:Nat}{cs:List AV} : ar false true sz off cs=cond (Nat.ble (off+sz) cs.length) (some (.agg (((cs.drop off).take sz).map AV.drop))) none:=rfl
theorem Ou{sz off:Nat}{cs:List AV} : ar false false sz off cs=(cs[off]?).map AV.drop:=by
 simp only[ar,ahW]
theorem aa5{op:BinOp}{q:rU}{x y:ak} : WO A d (⟨some t,none,.bin op q x y⟩ :: os) ⟨T,H,lo,gen⟩ K=cK A d (uJ op q (nX x || nX y) (x.eval A.aP T) (y.eval A.aP T)) t os T H lo gen K:=dW rfl
theorem ad2{mx:Bool}{x y:ak} : WO A d (⟨some t,none,.mm mx x y⟩ :: os) ⟨T,H,lo,gen⟩ K=cK A d (N' mx (x.eval A.aP T) (y.eval A.aP T)) t os T H lo gen K:=dW rfl
theorem abu{k j:IntKind}{mx:Bool}{a b:Int} : N' mx (.int k a) (.int j b)=cond (decide (k=j)) (some (.int k (cond mx (if b>a then b else a) (if b<a then b else a)))) none:=rfl
theorem ad4{op:UnOp}{x:ak} : WO A d (⟨some t,none,.un op x⟩ :: os) ⟨T,H,lo,gen⟩ K=cK A d (AD op (x.eval A.aP T)) t os T H lo gen K:=dW rfl
theorem XR{c:uE}{x:ak} : WO A d (⟨some t,none,.conv c x⟩ :: os) ⟨T,H,lo,gen⟩ K=cK A d (jE c (x.eval A.aP T)) t os T H lo gen K:=dW rfl
theorem Tc{k:rZ}{x:ak}{l h m:Option ak} : WO A d (⟨some t,none,.slice k x l h m⟩ :: os) ⟨T,H,lo,gen⟩ K=cK A d (gz k (x.eval A.aP T) (Gr A.aP T l) (Gr A.aP T h) (Gr A.aP T m)) t os T H lo gen K:=by
 refine dW ?_
 cases l<;>cases h<;>cases m<;>rfl
theorem aa4{op:BinOp}{q:rU}{c:Bool}{j k:IntKind}{a b:Int} : uJ op q c (.int j a) (.int k b)=cond (decide (j=k)) (aa op j a b) none:=rfl
theorem aa9{op:BinOp}{q:rU}{c:Bool}{a b:List UInt8} : uJ op q c (.str a) (.str b)=jB op a b:=rfl
theorem aa3{op:BinOp}{c:Bool}{a b:Bool} : uJ op .bool c (.bool a) (.bool b)=jV op (a==b):=rfl
theorem CV{off:Nat}{x:ak} : WO A d (⟨some t,none,.fieldAddr off x⟩ :: os) ⟨T,H,lo,gen⟩ K=cK A d (T5 T off (x.addr A.aP T)) t os T H lo gen K:=by
 refine dW ?_
 simp only[ai,T5]
 cases x.addr A.aP T with
 | lref b g o =>
  cases hb:T b with
  | lbox g' cs=>simp only[hb,bM,fK,lN];cases Nat.beq g g'<;>rfl
  | _=>simp only[hb,bM,lN];rfl
 | eref b g i z o =>
  cases hb:T b with
  | lsl g' e=>simp only[hb,bM,fK,nF];cases (Nat.beq g g'&&Nat.blt i e.length)<;>rfl
  | _=>simp only[hb,bM,nF];rfl
 | _=>rfl
theorem abf{off:Nat}{cs:List AV} : T5 T off (.eptr cs)=some (.eptr (cs.drop off)):=rfl
theorem abh{off l o:Nat} : T5 T off (.ref l o)=some (.ref l (o+off)):=rfl
theorem abg{off b g o:Nat} : T5 T off (.lref b g o)=lN (T b) g (.lref b g (o+off)):=rfl
theorem GD{g g' : Nat}{cs:List AV}{r:AV} : lN (.lbox g cs) g' r=cond (Nat.beq g' g) (some r) none:=rfl
theorem abi{off b g i z o:Nat} : T5 T off (.eref b g i z o)=nF (T b) g i (.eref b g i z (o+off)):=rfl
theorem JD{g g' i:Nat}{e:List (List AV)}{r:AV} : nF (.lsl g e) g' i r=cond (Nat.beq g' g&&Nat.blt i e.length) (some r) none:=rfl
theorem SU{n sz:Nat}{x i:ak} : WO A d (⟨some t,none,.ixArr n sz x i⟩ :: os) ⟨T,H,lo,gen⟩ K=cK A d ((asNat (i.eval A.aP T)).bind fun k=>cond (Nat.blt k n) (T5 T (k*sz) (x.addr A.aP T)) none) t os T H lo gen K:=by
 refine dW ?_
 simp only[ai]
 cases asNat (i.eval A.aP T) with
 | none=>rfl
 | some k =>
  simp only[ahV]
  cases Nat.blt k n with
  | false=>rfl
  | true =>
   simp only[ais,cond_true,T5]
   cases x.addr A.aP T with
   | lref b g o =>
    cases hb:T b with
    | lbox g' cs=>simp only[hb,bM,fK,lN];cases Nat.beq g g'<;>rfl
    | _=>simp only[hb,bM,lN];rfl
   | eref b g i z o =>
    cases hb:T b with
    | lsl g' e=>simp only[hb,bM,fK,nF];cases (Nat.beq g g'&&Nat.blt i e.length)<;>rfl
    | _=>simp only[hb,bM,nF];rfl
   | _=>rfl
theorem Ow{agg:Bool}{off sz:Nat}{cs:List AV} : VB (.agg cs) agg sz off=ar false agg sz off cs:=rfl
theorem XT{sz:Nat}{x i:ak} : WO A d (⟨some t,none,.ixSl sz x i⟩ :: os) ⟨T,H,lo,gen⟩ K=cK A d (ixV T sz (x.addr A.aP T) (asNat (i.eval A.aP T))) t os T H lo gen K:=by
 refine dW ?_
 simp only[ai,ixV]
 cases x.addr A.aP T with
 | slice e own =>
  cases asNat (i.eval A.aP T) with
  | none=>rfl
  | some n =>
   simp only[ahV,GH]
   cases e[n]? with
   | none=>rfl
   | some r=>simp only[ahV];cases Nat.beq r.length sz<;>rfl
 | sref l o m z =>
  cases asNat (i.eval A.aP T) with
  | none=>rfl
  | some n=>simp only[ahV];cases Nat.blt n m<;>rfl
 | lsr s g =>
  cases hs:T s with
  | lsl g' e =>
   simp only[hs]
   cases Nat.beq g g' with
   | false=>rfl
   | true =>
    simp only[cond_true]
    cases asNat (i.eval A.aP T) with
    | none=>rfl
    | some n =>
     simp only[ahV,GH]
     cases e[n]? with
     | none=>rfl
     | some r=>simp only[ahV];cases Nat.beq r.length sz<;>rfl
  | _=>simp[hs]
 | _=>rfl
theorem abr{sz n:Nat}{e:List (List AV)}{own:Bool} : ixV T sz (.slice e own) (some n)=GH sz (e[n]?) .eptr:=rfl
theorem abq{sz n l o m z:Nat} : ixV T sz (.sref l o m z) (some n)=cond (Nat.blt n m) (some (.ref l (o+n*sz))) none:=rfl
theorem abp{sz n s g:Nat} : ixV T sz (.lsr s g) (some n)=(match T s with|.lsl g' e=>cond (Nat.beq g g') (GH sz (e[n]?) fun _=>.eref s g n sz 0) none|_=>none):=rfl
theorem Yi{sz:Nat}{r:List AV}{f:List AV->AV} : GH sz (some r) f=cond (Nat.beq r.length sz) (some (f r)) none:=rfl
theorem SS{agg:Bool}{n sz:Nat}{x i:ak} : WO A d (⟨some t,none,.index agg n sz x i⟩ :: os) ⟨T,H,lo,gen⟩ K=cK A d (FW agg n sz (x.eval A.aP T) (asNat (i.eval A.aP T))) t os T H lo gen K:=by
 refine dW ?_
 simp only[ai,FW]
 cases asNat (i.eval A.aP T) with
 | none=>cases x.eval A.aP T<;>rfl
 | some k =>
  simp only[ahV]
  cases Nat.blt k n with
  | false=>cases x.eval A.aP T<;>rfl
  | true=>cases x.eval A.aP T<;>rfl
theorem Ox{agg:Bool}{n sz k:Nat}{cs:List AV} : FW agg n sz (.agg cs) (some k)=cond (Nat.blt k n) (ar false agg sz (k*sz) cs) none:=rfl
theorem GC{x i:ak} : WO A d (⟨some t,none,.indexStr x i⟩ :: os) ⟨T,H,lo,gen⟩ K=cK A d (Kx (x.eval A.aP T) (asNat (i.eval A.aP T))) t os T H lo gen K:=by
 refine dW ?_
 simp only[ai,Kx]
 cases x.eval A.aP T with
 | str l =>
  cases asNat (i.eval A.aP T) with
  | none=>rfl
  | some n=>simp only[ahV];cases l[n]?<;>rfl
 | _=>rfl
theorem SE{l:List UInt8}{n:Nat} : Kx (.str l) (some n)=DS (l[n]?):=rfl
theorem Ot{b:UInt8} : DS (some b)=some (.int .u8 b.toNat):=rfl
theorem JC{x:ak}{i:Nat} : WO A d (⟨some t,none,.extract x i⟩ :: os) ⟨T,H,lo,gen⟩ K=cK A d (K1 (x.eval A.aP T) i) t os T H lo gen K:=by
 refine dW ?_
 simp only[ai,K1]
 cases x.eval A.aP T with
 | tuple vs=>simp only;cases vs[i]?<;>rfl
 | _=>rfl
theorem SP{vs:List AV}{i:Nat} : K1 (.tuple vs) i=(vs[i]?).map AV.bc:=rfl
theorem abt{k:jZ}{x:ak} : WO A d (⟨some t,none,.len k x⟩ :: os) ⟨T,H,lo,gen⟩ K=cK A d (Ge T k (x.addr A.aP T)) t os T H lo gen K:=by
 refine dW ?_
 simp only[ai,Ge]
 cases x.addr A.aP T with
 | lsr s g =>
  cases hs:T s with
  | lsl g' e=>simp only[hs];cases Nat.beq g g'<;>rfl
  | _=>simp[hs]
 | _=>rfl
theorem XX{l:List UInt8} : Ge T .str (.str l)=some (.int .i64 l.length):=rfl
theorem XU{e:List (List AV)}{own:Bool} : Ge T .sl (.slice e own)=some (.int .i64 e.length):=rfl
theorem XW{l o m z:Nat} : Ge T .sl (.sref l o m z)=some (.int .i64 m):=rfl
theorem XV{k:jZ}{s g:Nat} : Ge T k (.lsr s g)=(match T s with|.lsl g' e=>cond (Nat.beq g g') (jH k (.slice e false)) none|_=>none):=rfl
theorem XO{f:FuncId}{args:List ak} : WO A d (⟨some t,none,.call (.fn f) args⟩ :: os) ⟨T,H,lo,gen⟩ K=(iX A.aP T args=true/\ou A d (aB A f (lp A.aP T args) H) t os T H lo gen K):=by
 rw[fc]
 simp only[bO,ai,ak.eval,mJ,oh,ou,ajg,ain]
 refine propext ?_
 cases iX A.aP T args with
 | false=>simp[bj]
 | true =>
  simp only[cond_true,akk]
  cases aB A f (lp A.aP T args) H with
  | none=>simp[bj]
  | some r =>
   obtain⟨v,c⟩:=r
   cases c with
   | none=>simp only[ah0,akg,ahV];cases (d&&(aQ v).isSome)<;>simp[bj,AS.b9]
   | some c=>simp only[ah0,ahV];cases d<;>simp[bj,AS.b9]
theorem SH{f:FuncId}{args:List ak} : WO A d (⟨none,none,.call (.fn f) args⟩ :: os) ⟨T,H,lo,gen⟩ K=(iX A.aP T args=true/\xE A d (aB A f (lp A.aP T args) H) os T H lo gen K):=by
 rw[fc]
 simp only[bO,ai,ak.eval,mJ,oh,xE,ajg,ain]
 refine propext ?_
 cases iX A.aP T args with
 | false=>simp[bj]
 | true =>
  simp only[cond_true,akk]
  cases aB A f (lp A.aP T args) H with
  | none=>simp[bj]
  | some r =>
   obtain⟨v,c⟩:=r
   cases c with
   | none=>simp only[ah0,akg,ahV];cases (d&&(aQ v).isSome)<;>simp[bj,AS.b9]
   | some c=>simp only[ah0,ahV];cases d<;>simp[bj,AS.b9]
theorem SI{i:Nat}{args:List ak} : WO A d (⟨some t,none,.call (.tmp i) args⟩ :: os) ⟨T,H,lo,gen⟩ K=(iX A.aP T args=true/\KA A d (T i) (lp A.aP T args) t os T H lo gen K):=by
 rw[fc]
 simp only[bO,ai,ak.eval,mJ,oh,KA,ou]
 refine propext ?_
 cases hT:T i with
 | func fn fs cs =>
  cases fn with
  | func n =>
   cases iX A.aP T args with
   | false=>simp[bj]
   | true =>
    simp only[cond_true,akk]
    cases aB A n (fs++lp A.aP T args++cs) H with
    | none=>simp[bj]
    | some r =>
     obtain⟨v,c⟩:=r
     cases c with
     | none=>simp only[ah0,akg,ahV];cases (d&&(aQ v).isSome)<;>simp[bj,AS.b9]
     | some c=>simp only[ah0,ahV];cases d<;>simp[bj,AS.b9]
  | _=>simp[bj]
 | _=>simp[bj]
theorem SF{n:FuncId}{fs vs cs:List AV} : KA A d (.func (.func n) fs cs) vs t os T H lo gen K=ou A d (aB A n (fs++vs++cs) H) t os T H lo gen K:=rfl
theorem abA{v:AV} : ou A false (some (v,none)) t os T H lo gen K=WO A false os ⟨T.put t v,H,lo,gen⟩ K:=by
 simp[ou,av,AS.br]
theorem Yf{v:AV} : ou A true (some (v,none)) t os T H lo gen K=cK A true (some v) t os T H lo gen K:=by
 simp only[ou,cK,ahV]
 cases (aQ v).isSome<;>simp[bj,AS.br]
theorem Ye{v:AV}{h:ag}{l:Nat} : ou A false (some (v,some ⟨h,l⟩)) t os T H lo gen K=WO A false os ⟨T.put t v,h,cond (Nat.blt l lo) l lo,gen⟩ K:=by
 simp[ou,av,AS.br,AS.fa]
theorem Yg{v:AV} : xE A false (some (v,none)) os T H lo gen K=WO A false os ⟨T,H,lo,gen⟩ K:=by
 simp[xE,av]
theorem Tb{v:AV}{h:ag}{l:Nat} : xE A false (some (v,some ⟨h,l⟩)) os T H lo gen K=WO A false os ⟨T,h,cond (Nat.blt l lo) l lo,gen⟩ K:=by
 simp[xE,av,AS.fa]
theorem Oq{b:Bool}{sz bytes i:Nat}{y:ak} : WO A false (⟨some t,none,.append b false sz bytes (.tmp i) y⟩ :: os) ⟨T,H,lo,gen⟩ K=Pz A b sz bytes i (T i) (y.eval A.aP T) t os T H lo gen K:=by
 rw[fc]
 simp only[bO,ai,dX,Pz]
 cases hT:T i with
 | slice e own =>
  simp only[ahW,Option.map_eq_map]
  cases an b sz bytes (.slice e own) (y.eval A.aP T) with
  | none=>simp[bj]
  | some z=>simp[bj,AS.b9,AS.br]
 | lsl g e =>
  simp only[aiu,ahW]
  cases dJ sz (y.eval A.aP T)<;>simp[bj]
 | ay =>
  simp only[ahW]
  cases an b sz bytes (.slice [] true) (y.eval A.aP T) with
  | none=>simp[bj]
  | some z=>simp[bj,AS.b9,AS.br]
 | _=>simp[bj]
theorem XI{b:Bool}{sz bytes i:Nat}{y:AV} : Pz A b sz bytes i .ay y t os T H lo gen K=bj (an b sz bytes (.slice [] true) y) fun z=>WO A false os ⟨T.put t z,H,lo,gen⟩ K:=rfl
theorem XG{b:Bool}{sz bytes i:Nat}{e:List (List AV)}{own:Bool}{y:AV} : Pz A b sz bytes i (.slice e own) y t os T H lo gen K=bj (an b sz bytes (.slice e own) y) fun z=>WO A false os ⟨(T.put i (.slice e false)).put t z,H,lo,gen⟩ K:=rfl
theorem XK{b:Bool}{sz bytes:Nat}{v:AV}{y:ak} : WO A false (⟨some t,none,.append b false sz bytes (.bC v) y⟩ :: os) ⟨T,H,lo,gen⟩ K=cK A false (an b sz bytes v (y.eval A.aP T)) t os T H lo gen K:=by
 refine dW ?_
 simp only[ai,dX,ahW,ak.eval]
theorem Td{dst:Option Nat}{sz:Nat}{a v:ak} : WO A d (⟨dst,none,.store sz a v⟩ :: os) ⟨T,H,lo,gen⟩ K=bj (bO A.aP (aB A) d ⟨T,H,lo,gen⟩ ⟨dst,none,.store sz a v⟩) fun s'=>WO A d os s' K:=fc
theorem S0{dst:Option Nat}{agg:Bool}{sz:Nat}{x:ak} : WO A d (⟨dst,none,.load true agg sz x⟩ :: os) ⟨T,H,lo,gen⟩ K=bj (bO A.aP (aB A) d ⟨T,H,lo,gen⟩ ⟨dst,none,.load true agg sz x⟩) fun s'=>WO A d os s' K:=fc
theorem GF{dst:Option Nat}{x:ak} : WO A d (⟨dst,none,.nilCheck x⟩ :: os) ⟨T,H,lo,gen⟩ K=bj (bO A.aP (aB A) d ⟨T,H,lo,gen⟩ ⟨dst,none,.nilCheck x⟩) fun s'=>WO A d os s' K:=fc
theorem Oz{dst:Option Nat}{f:Fn}{a b:List ak} : WO A d (⟨dst,none,.mkfunc f a b⟩ :: os) ⟨T,H,lo,gen⟩ K=bj (bO A.aP (aB A) d ⟨T,H,lo,gen⟩ ⟨dst,none,.mkfunc f a b⟩) fun s'=>WO A d os s' K:=fc
end
theorem Sz{G:Nat->List AV}{T:aA}{v:AV} : ak.addr G T (.bC v)=v:=rfl
theorem SC{G:Nat->List AV}{T:aA}{g:Nat} : ak.addr G T (.aP g)=.eptr (G g):=rfl
theorem SB{G:Nat->List AV}{T:aA}{f:FuncId} : ak.addr G T (.fn f)=.func (.func f) [] []:=rfl
def spK(sz:Nat)(es:List (List AV))(i:Nat)(o:Option (List AV))(r:List (Nat × AV)):Option (List (List AV)):=match o with
 | none=>none
 | some cs=>cond (Nat.blt i es.length) (ca sz (es.set i cs) r) none
theorem abD{sz:Nat}{es:List (List AV)} : ca sz es []=some es:=rfl
theorem abB{sz i:Nat}{es:List (List AV)}{v:AV}{r:List (Nat × AV)} : ca sz es ((i,v) :: r)=spK sz es i (v.elem sz) r:=by
 simp only[ca,spK]
 cases v.elem sz<;>rfl
theorem abC{sz i:Nat}{es:List (List AV)}{cs:List AV}{r:List (Nat × AV)} : spK sz es i (some cs) r=cond (Nat.blt i es.length) (ca sz (es.set i cs) r) none:=rfl
theorem SK{sz:Nat}{cs:List AV} : AV.elem sz (.agg cs)=cond (Nat.beq (cs.map AV.drop).length sz&&(cs.map AV.drop).all AV.plain) (some (cs.map AV.drop)) none:=rfl
theorem SM{k:IntKind}{n:Int} : AV.elem 1 (.int k n)=some [.int k n]:=rfl
theorem SO{l:List UInt8} : AV.elem 1 (.str l)=some [.str l]:=rfl
theorem SL{b:Bool} : AV.elem 1 (.bool b)=some [.bool b]:=rfl
theorem SN{e:List (List AV)}{o:Bool} : AV.elem 1 (.slice e o)=some [.slice e false]:=rfl
def bpK(cells:List AV)(off sz:Nat)(o:Option (List AV))(r:List (Nat × Nat × AV)):Option (List AV):=match o with
 | none=>none
 | some cs=>cond (Nat.beq cs.length sz&&Nat.ble (off+cs.length) cells.length) (cD (putAt cells off (cs.map AV.drop)) r) none
theorem aa8{cells:List AV} : cD cells []=some cells:=rfl
theorem aa6{cells:List AV}{off sz:Nat}{v:AV}{r:List (Nat × Nat × AV)} : cD cells ((off,sz,v) :: r)=bpK cells off sz v.cells r:=by
 simp only[cD,bpK]
 cases v.cells<;>rfl
theorem aa7{cells cs:List AV}{off sz:Nat}{r:List (Nat × Nat × AV)} : bpK cells off sz (some cs) r=cond (Nat.beq cs.length sz&&Nat.ble (off+cs.length) cells.length) (cD (putAt cells off (cs.map AV.drop)) r) none:=rfl
def UD:AV->Bool
 | .int .u8 _=>false
 | .any=>false
 | _=>true
def Pu:List AV->Bool
 | []=>true
 | x :: r=>UD x&&Pu r
def nb:List (List AV)->Bool
 | []=>true
 | r :: e=>Pu r&&nb e
theorem Ob:∀ r:List AV,(r.all fun|.int .u8 _=>false|.any=>false|_=>true)=Pu r
 | []=>rfl
 | x :: r=>by
  rw[ajb,Pu,<- Ob r]
  congr 1
theorem Oc:∀ e:List (List AV),gM e=nb e
 | []=>rfl
 | r :: e=>by
  have:=Oc e
  simp only[gM] at this
  simp only[gM,ajb,nb,this]
  rw[<- Ob];rfl
theorem OE{E:List (List AV)} : jY false E=nb E:=by simp only[jY,ahW,Oc]
theorem ad3{E:List (List AV)} : gM E=nb E:=Oc E
theorem abw:nb []=true:=rfl
theorem aby{r:List AV}{e:List (List AV)} : nb (r :: e)=(Pu r&&nb e):=rfl
theorem OB:Pu []=true:=rfl
theorem OC{x:AV}{r:List AV} : Pu (x :: r)=(UD x&&Pu r):=rfl
theorem UH{n:Int} : UD (.int .i64 n)=true:=rfl
theorem UJ{l:List UInt8} : UD (.str l)=true:=rfl
theorem abx{b:Bool} : UD (.bool b)=true:=rfl
theorem UI{e:List (List AV)}{o:Bool} : UD (.slice e o)=true:=rfl
theorem abz{cs:List AV} : UD (.agg cs)=true:=rfl
theorem sM{E:List (List AV)}(h:∀ r∈E,Pu r=true):nb E=true:=by
 induction E with
 | nil=>rfl
 | cons r E ih=>rw[nb,h r (aid ..),ih fun r hr=>h r (ai4 _ hr)];rfl
theorem yp:∀ {e f:List (List AV)},nb (e++f)=(nb e&&nb f)
 | [],f=>by simp[nb]
 | r :: e,f=>by simp only[ai',nb,yp,Bool.and_assoc]
def tc(sz:Nat)(e:List (List AV)):Prop:=(∀ r∈e,r.length=sz)/\nb e=true
theorem xW{sz:Nat}{e:List (List AV)}(h:∀ r∈e,r.length=sz):fC sz e=true:=by
 cases e with
 | nil=>rfl
 | cons r e=>simp[fC,h r (aid ..)]
theorem se{sz bytes:Nat}{e f:List (List AV)}{o:Bool}(h1:tc sz e)(h2:tc sz f)(hb:(e.length+f.length)*bytes<=70368744177664)(hl:e.length+f.length<=70368744177664) :
  an false sz bytes (.slice e true) (.slice f o)=some (.slice (e++f) true):=by
 simp only[an,dJ,ahV]
 cases f with
 | nil=>simp
 | cons r f =>
  have hr:jY false (e++r :: f)=true:=by rw[OE,yp,h1.2,h2.2];rfl
  have hf:cF sz bytes e (r :: f)=true:=by
   simp only[cF,xW h1.1,xW h2.1,aju hb,aju hl,ai1]
  simp only[hr,hf,ai1,cond_true]
theorem PB{b:Bool}{sz bytes:Nat}{e:List (List AV)}{o o' : Bool} : an b sz bytes (.slice e o) (.slice [] o')=some (.slice e o):=rfl
def vQ(v:AV)(g:Nat):Option AV:=match v with
 | .lsl g' e=>cond (Nat.beq g g') (cond (gM e) (some (.slice e true)) none) none
 | _=>none
def mc(T:aA)(t:Nat)(v:AV):Option AV:=match v with
 | .lsl _ e=>cond (gM e) (some (.slice e true)) none
 | .lsr b g=>vQ (T b) g
 | .lbox ..|.lref ..|.eref ..|.iter ..=>none
 | v=>some v
def ZC(base lo:Nat)(H:ag)(o:Option AV):Option (AV × Option fD):=o.bind fun r=>cond (r.leaves base) (some (r,cond (Nat.beq lo base) none (some ⟨H.take base,lo⟩))) none
def vX(o:Option dm)(agg:Bool)(sz:Nat):Option AV:=match o with
 | some (.box _ cs)=>ar false agg sz 0 cs
 | _=>none
def HG(v:AV)(H:ag)(agg:Bool)(sz:Nat):Option AV:=match v with
 | .lbox _ cs=>ar false agg sz 0 cs
 | .ref loc 0=>vX H[loc]? agg sz
 | _=>none
def T3(o:Option AV)(l:Option (List AV)):Option (List AV):=o.bind fun v=>l.map (v.bc :: ·)
section
variable {T:aA}{H:ag}{lo gen base t:Nat}{rs:List fI}
def yu(base lo:Nat)(H:ag):Bool:=cond (Nat.beq lo base) true (((H.take base).drop lo).all fun o=>match o with|.dM cs=>cs.all (AV.aN base)|_=>true)
theorem S5{n:Nat}{H:ag} : yu n n H=true:=by simp[yu]
theorem abj:fin base rs ⟨T,H,lo,gen⟩=cond (yu base lo H) (ZC base lo H (lV ⟨T,H,lo,gen⟩ rs)) none:=rfl
theorem XS{v:AV} : ZC base lo H (some v)=cond (v.leaves base) (some (v,cond (Nat.beq lo base) none (some ⟨H.take base,lo⟩))) none:=rfl
theorem X5:lV ⟨T,H,lo,gen⟩ [.tmp t]=mc T t (T t):=by
 simp only[lV,nJ,mc]
 cases hT:T t with
 | lsl g e=>simp only[hT]
 | lsr b g =>
  cases hb:T b with
  | lsl g' e =>
   simp only[hb,vQ]
   cases Nat.beq g g' with
   | false=>simp only[ahW,iz,hT];rfl
   | true=>simp only[cond_true,hb]
  | _=>simp only[hb,vQ,iz,hT];rfl
 | _=>simp only[iz,hT];rfl
theorem OD{b g:Nat} : mc T t (.lsr b g)=vQ (T b) g:=rfl
theorem Oy{g g' : Nat}{e:List (List AV)} : vQ (.lsl g e) g'=cond (Nat.beq g' g) (cond (gM e) (some (.slice e true)) none) none:=rfl
theorem S8{a sz:Nat}{agg:Bool} : lV ⟨T,H,lo,gen⟩ [.cell a agg sz]=iz ⟨T,H,lo,gen⟩ (.cell a agg sz):=rfl
theorem X4:lV ⟨T,H,lo,gen⟩ []=some (.tuple []):=rfl
theorem X6{r1 r2:fI}{rs:List fI} : lV ⟨T,H,lo,gen⟩ (r1 :: r2 :: rs)=(mC ⟨T,H,lo,gen⟩ (r1 :: r2 :: rs)).map .tuple:=rfl
theorem X9:mC ⟨T,H,lo,gen⟩ []=some []:=rfl
theorem Ya{r:fI}{rs:List fI} : mC ⟨T,H,lo,gen⟩ (r :: rs)=T3 (iz ⟨T,H,lo,gen⟩ r) (mC ⟨T,H,lo,gen⟩ rs):=rfl
theorem SJ{v:AV}{l:List AV} : T3 (some v) (some l)=some (v.bc :: l):=rfl
theorem Yb:iz ⟨T,H,lo,gen⟩ (.tmp t)=cond (aq (T t)) (some (T t)) none:=rfl
theorem X8{a sz:Nat}{agg:Bool} : iz ⟨T,H,lo,gen⟩ (.cell a agg sz)=HG (T a) H agg sz:=by
 simp only[iz,HG]
 cases T a with
 | ref loc off =>
  cases off with
  | zero=>cases hl:H[loc]? with
   | none=>simp only[hl,vX]
   | some o=>cases o<;>simp only[hl,vX]
  | succ n=>rfl
 | _=>rfl
theorem S9{g sz:Nat}{cs:List AV}{agg:Bool} : HG (.lbox g cs) H agg sz=ar false agg sz 0 cs:=rfl
theorem Ta{loc sz:Nat}{agg:Bool} : HG (.ref loc 0) H agg sz=vX H[loc]? agg sz:=rfl
theorem X7{ty:TypeId}{cs:List AV}{sz:Nat}{agg:Bool} : vX (some (.box ty cs)) agg sz=ar false agg sz 0 cs:=rfl
theorem Th{b:Bool} : mc T t (AV.bool b)=some (AV.bool b):=rfl
theorem Yl{k:IntKind}{n:Int} : mc T t (AV.int k n)=some (AV.int k n):=rfl
theorem Yo{l:List UInt8} : mc T t (AV.str l)=some (AV.str l):=rfl
theorem Yk:mc T t AV.any=some AV.any:=rfl
theorem JI:mc T t AV.cJ=some AV.cJ:=rfl
theorem JH:mc T t AV.cr=some AV.cr:=rfl
theorem Tj{kz:Nat}{ka va:Bool}{es:List (List AV)} : mc T t (AV.di kz ka va es)=some (AV.di kz ka va es):=rfl
theorem GK:mc T t AV.bU=some AV.bU:=rfl
theorem C3:mc T t AV.bt=some AV.bt:=rfl
theorem OM{e:List (List AV)}{own:Bool} : mc T t (AV.slice e own)=some (AV.slice e own):=rfl
theorem Ti{cs:List AV} : mc T t (AV.eptr cs)=some (AV.eptr cs):=rfl
theorem Yn{loc off:Nat} : mc T t (AV.ref loc off)=some (AV.ref loc off):=rfl
theorem Tn{loc off n z:Nat} : mc T t (AV.sref loc off n z)=some (AV.sref loc off n z):=rfl
theorem Tl{loc:Nat} : mc T t (AV.mref loc)=some (AV.mref loc):=rfl
theorem Ym{g:Nat}{e:List (List AV)} : mc T t (AV.lsl g e)=cond (gM e) (some (.slice e true)) none:=rfl
theorem Tk{fn:Fn}{fs cs:List AV} : mc T t (AV.func fn fs cs)=some (AV.func fn fs cs):=rfl
theorem OL{u:TypeId}{v:AV} : mc T t (AV.iface u v)=some (AV.iface u v):=rfl
theorem Yj{cs:List AV} : mc T t (AV.agg cs)=some (AV.agg cs):=rfl
theorem ON{vs:List AV} : mc T t (AV.tuple vs)=some (AV.tuple vs):=rfl
end
def aoK(A:AP)(sz bytes:Nat)(x y:AV)(t:Nat)(os:List az)(T:aA)(H:ag)(lo gen:Nat)(K:AS->Prop):Prop :=
 bj (jl ⟨T,H,lo,gen⟩ sz bytes x y) fun r=>match r.2 with
  | some s'=>WO A false os (s'.br t r.1) K
  | none=>WO A false os ⟨T.put t r.1,H,lo,gen⟩ K
def aaM(k:AV)(kz:Nat)(ka:Bool):Option (List AV):=k.drop.cells.bind fun kc=>cond (Nat.beq kc.length kz&&ka==k.drop.isAgg) (some kc) none
def UB(H:ag)(ok:Bool)(kz:Nat)(ka va:Bool)(ks:List CK)(zero:List AV)(m k:AV):Option AV :=
 (aaM k kz ka).bind fun kc=>match m with
  | .cr=>some (vO ok va zero false)
  | .l9 kG kF kQ es=>cond (Nat.beq kz kG&&ka==kF&&va==kQ&&pX es&&RZ ks kc) ((fz ks kc es).map (oL ok va zero kz es)) none
  | .di kG kF kQ es=>cond (Nat.beq kz kG&&ka==kF&&va==kQ) ((fz ks kc es).map (oL ok va zero kz es)) none
  | .mref l=>match H[l]? with
   | some (.map kG kF kQ es)=>cond (Nat.beq kz kG&&ka==kF&&va==kQ) ((fz ks kc es).map (oL ok va zero kz es)) none
   | some (.di kG kF kQ es)=>cond (Nat.beq kz kG&&ka==kF&&va==kQ) ((fz ks kc es).map (oL ok va zero kz es)) none
   | _=>none
  | _=>none
section
variable {A:AP}{T:aA}{H:ag}{lo gen:Nat}{K:AS->Prop}{d:Bool}{os:List az}{t:Nat}
theorem l6{op:dR}{x:Option (AV × Option AS)}(h:ai A.aP (aB A) ⟨T,H,lo,gen⟩ op=x):WO A false (⟨some t,none,op⟩ :: os) ⟨T,H,lo,gen⟩ K=bj x fun r=>match r.2 with
  | some s'=>WO A false os (s'.br t r.1) K
  | none=>WO A false os ⟨T.put t r.1,H,lo,gen⟩ K:=by
 rw[fc]
 simp only[bO,h]
 cases x with
 | none=>simp[bj]
 | some r =>
  obtain⟨z,s'⟩:=r
  cases s' with
  | none=>simp only[ahV,aiu,ahW,av];rfl
  | some s'=>simp only[ahV,ahW,av];rfl
theorem XJ{sz bytes:Nat}{x y:ak} : WO A false (⟨some t,none,.appendO sz bytes x y⟩ :: os) ⟨T,H,lo,gen⟩ K=aoK A sz bytes (x.addr A.aP T) (y.eval A.aP T) t os T H lo gen K:=l6 rfl
theorem Py{sz bytes n l:Nat}{ty:TypeId}{cs:List AV}{f:List (List AV)}{own:Bool}(hl:H[l]?=some (.box ty cs))(hc:cs.length=n*sz)(h1:(n+f.length)*bytes<=70368744177664)(h2:n+f.length<=70368744177664)
  (h3:fC sz f=true) (h4:fg f=true) :
  aoK A sz bytes (.sref l 0 n sz) (.slice f own) t os T H lo gen K=WO A false os ⟨T.put t (.sref H.length 0 (n+f.length) sz),H.set l .dead++[.box cN (cs++f.flatten)],cond (Nat.blt l lo) l lo,gen⟩ K:=by
 have e1:Nat.beq cs.length (n*sz)=true:=by rw[hc];exact aj6 _
 simp only[aoK,jl,Oe,ja,dJ,ahV,hl,e1,h3,h4,aj6,aka,aju h1,aju h2,cond_true,av]
 rfl
theorem S2{sz bytes:Nat}{zero:List AV}{n:ak} : WO A false (⟨some t,none,.tI sz bytes zero n⟩ :: os) ⟨T,H,lo,gen⟩ K =
  bj ((asNat (n.eval A.aP T)).bind fun k=>cond (Nat.ble (k*bytes) 70368744177664&&Nat.ble k 70368744177664) (some k) none) fun k=>WO A false os ⟨T.put t (.sref H.length 0 k sz),H++[.box cN (List.replicate k zero).flatten],cond (Nat.blt H.length lo) H.length lo,gen⟩ K:=by
 rw[l6 rfl]
 simp only[ai,o8]
 cases asNat (n.eval A.aP T) with
 | none=>simp[bj]
 | some k =>
  simp only[ahV]
  cases (Nat.ble (k*bytes) 70368744177664&&Nat.ble k 70368744177664) with
  | false=>simp[bj]
  | true=>simp only[cond_true,av];rfl
theorem S3{kz:Nat}{ka va:Bool} : WO A false (⟨some t,none,.yo kz ka va⟩ :: os) ⟨T,H,lo,gen⟩ K=WO A false os ⟨T.put t (.mref H.length),H++[.map kz ka va []],cond (Nat.blt H.length lo) H.length lo,gen⟩ K:=by
 rw[l6 rfl];simp only[ai,av];rfl
theorem XY{ok:Bool}{kz:Nat}{ka va:Bool}{ks:List CK}{zero:List AV}{m k:ak} : WO A d (⟨some t,none,.look ok kz ka va ks zero m k⟩ :: os) ⟨T,H,lo,gen⟩ K=cK A d (UB H ok kz ka va ks zero (m.addr A.aP T) (k.eval A.aP T)) t os T H lo gen K:=by
 refine dW ?_
 simp only[ai,sB,UB,aaM]
 cases (k.eval A.aP T).drop.cells with
 | none=>rfl
 | some kc =>
  simp only[ahV]
  cases (Nat.beq kc.length kz&&ka==(k.eval A.aP T).drop.isAgg) with
  | false=>rfl
  | true =>
   simp only[cond_true,ahV]
   cases m.addr A.aP T with
   | cr=>rfl
   | l9 kG kF kQ es =>
    simp only[]
    cases (Nat.beq kz kG&&ka==kF&&va==kQ&&pX es&&RZ ks kc) with
    | false=>rfl
    | true=>simp only[cond_true,ajP];rfl
   | di kG kF kQ es =>
    simp only[rF]
    cases (Nat.beq kz kG&&ka==kF&&va==kQ) with
    | false=>rfl
    | true=>simp only[cond_true,ahV,ajP];rfl
   | mref l =>
    simp only[rF]
    cases hl:H[l]? with
    | none=>rfl
    | some o =>
     cases o with
     | map kG kF kQ es =>
      simp only[hl]
      cases (Nat.beq kz kG&&ka==kF&&va==kQ) with
      | false=>rfl
      | true=>simp only[cond_true,ahV,ajP];rfl
     | di kG kF kQ es =>
      simp only[hl]
      cases (Nat.beq kz kG&&ka==kF&&va==kQ) with
      | false=>rfl
      | true=>simp only[cond_true,ahV,ajP];rfl
     | _=>simp only[hl];rfl
   | _=>rfl
theorem X2{kz vz:Nat}{ka va:Bool}{ks:List CK}{m k v:ak} : WO A false (⟨none,none,.Jp kz ka va vz ks m k v⟩ :: os) ⟨T,H,lo,gen⟩ K =
  bj (sC ⟨T,H,lo,gen⟩ kz ka va vz ks (m.addr A.aP T) (k.eval A.aP T) (v.eval A.aP T)) fun s'=>WO A false os (s'.cm v) K:=by
 rw[fc]
 simp only[bO,ai]
 cases sC ⟨T,H,lo,gen⟩ kz ka va vz ks (m.addr A.aP T) (k.eval A.aP T) (v.eval A.aP T) with
 | none=>simp[bj]
 | some s'=>simp only[ah0,ahV,ahW,av];rfl
end
end
end Go.Abs
namespace Go.Abs
open Go
section
abbrev AG(n:Int):Prop:=-9223372036854775808<=n/\n<=9223372036854775807
theorem wrap64{n:Int}(h:-9223372036854775808<=n/\n<=9223372036854775807):IntKind.i64.wrap n=n:=by
 exact IntWalk.i64_in _ h
theorem Ph{n:Int}(h:0<=n/\n<=255):IntKind.u8.wrap n=n:=IntWalk.u8_in _ h
theorem sf{k:IntKind}{n:Nat} : asNat (.int k n)=some n:=by simp[asNat]
theorem H7{k:IntKind}{n:Nat} : asNat (.int k (no_index (@OfNat.ofNat Int n instOfNat)))=some n:=by
 show asNat (.int k ((n:Nat):Int))=some n
 exact sf
theorem H6{k:IntKind}{a n:Nat} : asNat (.int k ((a:Int)+no_index (@OfNat.ofNat Int n instOfNat)))=some (a+n):=by
 show asNat (.int k ((a:Int)+((n:Nat):Int)))=some (a+n)
 rw[<- Int.natCast_add];exact sf
theorem dD{k:IntKind}{n:Int}(h:0<=n):asNat (.int k n)=some n.toNat:=by simp[asNat,h]
theorem G4{a b:Nat} : Nat.ble a b=decide (a<=b):=by
 cases h:Nat.ble a b with
 | true=>simp[Nat.le_of_ble_eq_true h]
 | false=>simp[show ¬ a<=b from fun e=>by rw[aju e] at h;cases h]
theorem PF{a b:Nat} : Nat.blt a b=decide (a<b):=by
 show Nat.ble (a+1) b=_
 rw[G4];rfl
theorem dle{a b:Nat}(h:a<=b):decide (a<=b)=true:=by simp[h]
theorem dlt{a b:Nat}(h:a<b):decide (a<b)=true:=by simp[h]
theorem LS{a b:Int}(h:a<b):decide (a<b)=true:=by simp[h]
theorem LR{a b:Int}(h:b<=a):decide (a<b)=false:=by simp;omega
theorem LQ{a b:Int}(h:a<=b):decide (a<=b)=true:=by simp[h]
theorem LP{a b:Int}(h:b<a):decide (a<=b)=false:=by simp;omega
theorem LO{a b:Int}(h:a=b):(a==b)=true:=by simp[h]
theorem LN{a b:Int}(h:a≠b):(a==b)=false:=by simp[h]
theorem LW{a b:Int}(h:a≠b):(a != b)=true:=by simp[h]
theorem LV{a b:Int}(h:a=b):(a != b)=false:=by simp[h]
theorem Xu{a b:Nat}(h:a≠b):Nat.beq a b=false:=by
 cases hb:Nat.beq a b with
 | false=>rfl
 | true=>exact absurd (aiK hb) h
theorem Xv{a b:Nat}(h:a=b):Nat.beq a b=true:=by rw[h];exact aj6 b
theorem U5{n m:Nat}(h:n<=m):Nat.ble n m=true:=by simpa using h
theorem G3{a b:Int}{p:Prop}{_:Decidable p}(h:a=b↔p):(a==b)=decide p:=by
 by_cases hp:p
 ·rw[h.2 hp];simp[hp]
 ·simp[hp];exact fun e=>hp (h.1 e)
theorem U3:(true==false)=false:=rfl
theorem U2:(false==true)=false:=rfl
def ints(l:List Int):List (List AV):=l.map fun n=>[.int .i64 n]
def strs(l:List (List UInt8)):List (List AV):=l.map fun n=>[.str n]
theorem lL{l:List Int} : (ints l).length=l.length:=by simp[ints]
theorem aJ{l:List (List UInt8)} : (strs l).length=l.length:=by simp[strs]
theorem ints_at{l:List Int}{i:Nat}{n:Int}(h:l[i]?=some n):(ints l)[i]?=some [.int .i64 n]:=by simp[ints,h]
theorem bB{l:List (List UInt8)}{i:Nat}{n:List UInt8}(h:l[i]?=some n):(strs l)[i]?=some [.str n]:=by simp[strs,h]
theorem LX{l:List Int}{i:Nat} : (ints l)[i]?=l[i]?.map fun n=>[.int .i64 n]:=by simp[ints]
theorem kj:∀ {l:List (List UInt8)} {n:Nat},n=l.length->chunks 1 n (l.map .str)=strs l
 | [],0,_=>rfl
 | a :: l,n+1,h=>by
  simp only[ah1,chunks,strs,aiU,aiN,ajr,ai2]
  rw[kj (by simpa using h)];rfl
theorem JN{l:List (List UInt8)}{n:Nat}(h:l.length<=n):(strs l).take n=strs l:=aiA (by rw[aJ];exact h)
theorem sI{l:List Int} : tc 1 (ints l):=⟨fun r hr=>by simp only[ints,aia] at hr;obtain⟨n,_,rfl⟩:=hr;rfl,sM fun r hr=>by simp only[ints,aia] at hr;obtain⟨n,_,rfl⟩:=hr;rfl⟩
theorem sY{l:List (List UInt8)} : tc 1 (strs l):=⟨fun r hr=>by simp only[strs,aia] at hr;obtain⟨n,_,rfl⟩:=hr;rfl,sM fun r hr=>by simp only[strs,aia] at hr;obtain⟨n,_,rfl⟩:=hr;rfl⟩
theorem oW:strs []=[]:=rfl
theorem QB{l:List Int} : nb (ints l)=true:=sI.2
theorem TE{l:List (List UInt8)} : nb (strs l)=true:=sY.2
theorem Ca{l m:List Int} : ints l++ints m=ints (l++m):=by simp[ints]
theorem Dd{l m:List (List UInt8)} : strs l++strs m=strs (l++m):=by simp[strs]
theorem og{l m:List Int}{o:Bool}(h:l.length+m.length<=1099511627776):an false 1 8 (.slice (ints l) true) (.slice (ints m) o)=some (.slice (ints (l++m)) true):=by
 rw[se sI sI (by rw[lL,lL];omega) (by rw[lL,lL];omega),Ca]
theorem PA{l:List Int}{n:Int}{o:Bool}(h:l.length<=1099511627775):an false 1 8 (.slice (ints l) true) (.slice [[.int .i64 n]] o)=some (.slice (ints (l++[n])) true):=og (m:=[n]) (by simp;omega)
theorem Ki{m:List Int}{n:Int}{o:Bool}(h:m.length<=1099511627775):an false 1 8 (.slice [[.int .i64 n]] true) (.slice (ints m) o)=some (.slice (ints (n :: m)) true):=og (l:=[n]) (m:=m) (by simp;omega)
theorem Kl{n:Int}{o:Bool} : an false 1 8 (.slice [] true) (.slice [[.int .i64 n]] o)=some (.slice (ints [n]) true):=og (l:=[]) (m:=[n]) (by simp)
theorem H4{m:List Int}{o:Bool}(h:m.length<=1099511627776):an false 1 8 (.slice [] true) (.slice (ints m) o)=some (.slice (ints m) true):=og (l:=[]) (by simpa using h)
theorem bG{l m:List (List UInt8)}{o:Bool}(h:l.length+m.length<=1099511627776):an false 1 16 (.slice (strs l) true) (.slice (strs m) o)=some (.slice (strs (l++m)) true):=by
 rw[se sY sY (by rw[aJ,aJ];omega) (by rw[aJ,aJ];omega),Dd]
theorem dC{l:List (List UInt8)}{n:List UInt8}{o:Bool}(h:l.length<=1099511627775):an false 1 16 (.slice (strs l) true) (.slice [[.str n]] o)=some (.slice (strs (l++[n])) true):=bG (m:=[n]) (by simp;omega)
theorem Km{n:List UInt8}{o:Bool} : an false 1 16 (.slice [] true) (.slice [[.str n]] o)=some (.slice (strs [n]) true):=bG (l:=[]) (m:=[n]) (by simp)
theorem Wc{H l m:ag} : H++l++m=H++(l++m):=ajf ..
theorem We{H l:ag} : List.length (H++l)=H.length+l.length:=List.length_append
theorem LC{H l:ag}{k:Nat} : (H++l)[H.length+k]?=l[k]?:=by rw[aic (by omega)];simp
theorem Qo{H l:ag} : (H++l)[H.length]?=l[0]?:=LC (k:=0)
theorem LD{H l:ag}{k:Nat}{x:dm} : (H++l).set (H.length+k) x=H++l.set k x:=by rw[List.set_append_right _ _ (by omega)];simp
theorem Qp{H l:ag}{x:dm} : (H++l).set H.length x=H++l.set 0 x:=LD (k:=0)
theorem Qq{H l:ag} : (H++l).take H.length=H:=by simp
theorem aak{n k:Nat} : decide (n+k<n)=false:=by simp
theorem Wf{n:Nat} : decide (n<n)=false:=by simp
def Kw(A:AP)(ty:TypeId)(v:AV)(t:Nat)(os:List az)(T:aA)(H:ag)(lo gen:Nat)(K:AS->Prop):Prop :=
 bj (v.drop.cells.bind fun cs=>cond (cs.all (aR H.length)) (some (cs.map AV.drop)) none) fun cs=>WO A false os ⟨T.put t (.ref H.length 0),H++[.box ty cs],cond (Nat.blt H.length lo) H.length lo,gen⟩ K
section
variable {A:AP}{T:aA}{H:ag}{lo gen:Nat}{K:AS->Prop}{d:Bool}{os:List az}{t:Nat}
theorem XM{ty:TypeId}{x:ak} : WO A false (⟨some t,none,.box ty x⟩ :: os) ⟨T,H,lo,gen⟩ K=Kw A ty (x.eval A.aP T) t os T H lo gen K:=by
 rw[l6 rfl]
 simp only[ai,Kw]
 cases (x.eval A.aP T).drop.cells with
 | none=>simp[bj]
 | some cs =>
  simp only[ahV]
  cases cs.all (aR H.length) with
  | false=>simp[bj]
  | true=>simp only[cond_true,av];rfl
theorem U6{ty:TypeId}{cs:List AV} : Kw A ty (.agg cs) t os T H lo gen K=bj (cond (cs.all (aR H.length)) (some (cs.map AV.drop)) none) fun cs=>WO A false os ⟨T.put t (.ref H.length 0),H++[.box ty cs],cond (Nat.blt H.length lo) H.length lo,gen⟩ K:=rfl
theorem U7{ty:TypeId}{k:IntKind}{n:Int} : Kw A ty (.int k n) t os T H lo gen K=WO A false os ⟨T.put t (.ref H.length 0),H++[.box ty [.int k n]],cond (Nat.blt H.length lo) H.length lo,gen⟩ K:=by
 simp only[Kw,AV.drop,AV.cells,ahV];exact av
end
theorem VL{n:Nat}{k:IntKind}{m:Int} : aR n (.int k m)=true:=rfl
theorem Qg{n:Nat}{b:Bool} : aR n (.bool b)=true:=rfl
theorem VO{n:Nat}{s:List UInt8} : aR n (.str s)=true:=rfl
theorem Ll{n:Nat}{e:List (List AV)}{o:Bool} : aR n (.slice e o)=true:=rfl
theorem Qh{n l o k z:Nat} : aR n (.sref l o k z)=Nat.ble l n:=rfl
theorem VN{n l o:Nat} : aR n (.ref l o)=Nat.ble l n:=rfl
theorem VM{n:Nat} : aR n .cJ=true:=rfl
def qL(A:AP)(d:Bool)(v:AV)(w:Bool)(p:Bool)(os:List az)(T:aA)(H:ag)(lo gen:Nat)(K:AS->Prop):Prop :=
 bj (match v with|.bool b=>some (b==w)|.tuple []=>some false|_=>none) fun b=>(b=true->p=true)/\WO A d os ⟨T,H,lo,gen⟩ K
def G5(A:AP)(v:AV)(t:Nat)(os:List az)(T:aA)(H:ag)(lo gen:Nat)(K:AS->Prop):Prop :=
 bj v.drop.cells fun cs=>WO A false os ⟨T.put t (.lbox gen (cs.map AV.drop)),H,lo,gen+1⟩ K
def y6(A:AP)(d:Bool)(r:Option (AV × Option fD))(t:Nat)(os:List az)(T:aA)(H:ag)(lo gen:Nat)(K:AS->Prop):Prop :=
 bj (r.bind fun r=>match r.2 with
  | none=>cond (d&&(aQ r.1).isSome) none (some r.1)
  | some _=>none) fun v=>WO A d os ⟨T.put t v,H,lo,gen⟩ K
section
variable {A:AP}{T:aA}{H:ag}{lo gen:Nat}{K:AS->Prop}{d:Bool}{os:List az}{t:Nat}
theorem abb{c:JT}{x:ak} : WO A d (⟨none,none,.Ds c x⟩ :: os) ⟨T,H,lo,gen⟩ K=(fy c (x.addr A.aP T)=true/\WO A d os ⟨T,H,lo,gen⟩ K):=by
 rw[fc]
 simp only[bO,ai]
 refine propext ?_
 cases fy c (x.addr A.aP T) with
 | false=>simp[bj]
 | true=>simp[bj,aQ,AS.b9]
theorem XQ{g:Nat}{w:Bool}{c:JT}{x:ak} : WO A d (⟨none,some (g,w),.Ds c x⟩ :: os) ⟨T,H,lo,gen⟩ K=qL A d (T g) w (fy c (x.addr A.aP T)) os T H lo gen K:=by
 rw[fc]
 simp only[qL]
 unfold bO
 simp only[ai]
 cases hT:T g with
 | bool b =>
  cases hb:(b==w) with
  | true =>
   refine propext ?_
   cases fy c (x.addr A.aP T) with
   | false=>simp[hb,bj]
   | true=>simp[hb,bj,aQ,AS.b9]
  | false=>simp[hb,bj,AS.b9]
 | tuple l =>
  cases l with
  | nil=>simp[bj,AS.b9]
  | cons a l=>simp[bj]
 | _=>simp[bj]
theorem abd{p:Bool} : qL A d (.bool true) true p os T H lo gen K=(p=true/\WO A d os ⟨T,H,lo,gen⟩ K):=by simp[qL,av]
theorem aa'{p:Bool} : qL A d (.bool false) false p os T H lo gen K=(p=true/\WO A d os ⟨T,H,lo,gen⟩ K):=by simp[qL,av]
theorem abc{p:Bool} : qL A d (.bool true) false p os T H lo gen K=WO A d os ⟨T,H,lo,gen⟩ K:=by simp[qL,av]
theorem aba{p:Bool} : qL A d (.bool false) true p os T H lo gen K=WO A d os ⟨T,H,lo,gen⟩ K:=by simp[qL,av]
theorem abe{p w:Bool} : qL A d (.tuple []) w p os T H lo gen K=WO A d os ⟨T,H,lo,gen⟩ K:=by simp[qL,av]
theorem XP{b w:Bool} : qL A d (.bool b) w true os T H lo gen K=WO A d os ⟨T,H,lo,gen⟩ K:=by simp[qL,av]
theorem XN{x:ak} : WO A false (⟨some t,none,.boxL x⟩ :: os) ⟨T,H,lo,gen⟩ K=G5 A (x.eval A.aP T) t os T H lo gen K:=by
 rw[l6 rfl]
 simp only[ai,G5]
 cases (x.eval A.aP T).drop.cells with
 | none=>simp[bj]
 | some cs=>simp only[ah0,av];rfl
theorem U4{cs:List AV} : G5 A (.agg cs) t os T H lo gen K=WO A false os ⟨T.put t (.lbox gen (cs.map AV.drop)),H,lo,gen+1⟩ K:=by
 simp only[G5,AV.drop,AV.cells];exact av
theorem SG{f:FuncId}{args:List ak} : WO A d (⟨some t,none,.iL (.fn f) args⟩ :: os) ⟨T,H,lo,gen⟩ K=(iX A.aP T args=true/\y6 A d (aB A f (lp A.aP T args) H) t os T H lo gen K):=by
 rw[fc]
 simp only[bO,ai,ak.eval,mJ,oh,y6,ajg,ain]
 refine propext ?_
 cases iX A.aP T args with
 | false=>simp[bj]
 | true =>
  simp only[cond_true,akk]
  cases aB A f (lp A.aP T args) H with
  | none=>simp[bj]
  | some r =>
   obtain⟨v,c⟩:=r
   cases c with
   | none=>simp only[ahV];cases (d&&(aQ v).isSome)<;>simp[bj,AS.b9,AS.br]
   | some c=>simp[bj]
theorem Yc{v:AV} : y6 A false (some (v,none)) t os T H lo gen K=WO A false os ⟨T.put t v,H,lo,gen⟩ K:=by
 simp[y6,av]
theorem S4{sz:Nat}{z:List (List AV)}{ps:List (Nat × ak)} : WO A false (⟨some t,none,.lO sz z ps⟩ :: os) ⟨T,H,lo,gen⟩ K =
  bj ((ca sz z (lA A.aP T ps)).bind fun E=>cond (fg E) (some E) none) fun E=>WO A false os ⟨T.put t (.sref H.length 0 E.length sz),H++[.box cN E.flatten],cond (Nat.blt H.length lo) H.length lo,gen⟩ K:=by
 rw[l6 rfl]
 simp only[ai,sy]
 cases ca sz z (lA A.aP T ps) with
 | none=>simp[bj]
 | some E =>
  simp only[ahV]
  cases fg E with
  | false=>simp[bj]
  | true=>simp only[cond_true,av];rfl
end
section
variable {b g o l n z:Nat}{e:List (List AV)}{own:Bool}{cs:List AV}{s:List UInt8}
theorem Zg{b' : Nat} : fy (.frame b) (.lref b' g o)=Nat.beq b b':=rfl
theorem Zn:fy .heap (.ref l o)=true:=rfl
theorem Zk:fy .heap (.eptr cs)=true:=rfl
theorem Zo:fy .heap (.slice e own)=true:=rfl
theorem Zi:fy .heap (.sref l o n z)=true:=rfl
theorem Zl:fy .heap (.mref l)=true:=rfl
theorem Zm:fy .heap .cJ=true:=rfl
theorem Zh:fy .heap .cr=true:=rfl
theorem Zp:fy .heap (.str s)=true:=rfl
theorem Zj:fy .heap (.agg cs)=true:=rfl
theorem Zq:fy .QA (.eptr cs)=true:=rfl
theorem Zr:fy .QA (.slice e own)=true:=rfl
end
section
variable {A:AP}{T:aA}{H:ag}{lo gen:Nat}{K:AS->Prop}{os:List az}{t:Nat}
end
def AY(A:AP)(sz bytes i:Nat)(v y:AV)(t:Nat)(os:List az)(T:aA)(H:ag)(lo gen:Nat)(K:AS->Prop):Prop:=match v with
 | .ay=>bj ((dJ sz y).bind fun f=>cond (cF sz bytes [] f) (some f) none) fun f=>WO A false os ⟨(T.put i .any).put t (.lsl gen f),H,lo,gen+1⟩ K
 | .slice e own=>bj ((dJ sz y).bind fun f=>cond (e.isEmpty&&own&&cF sz bytes [] f) (some f) none) fun f=>WO A false os ⟨(T.put i .any).put t (.lsl gen f),H,lo,gen+1⟩ K
 | .lsl _ e=>bj ((dJ sz y).bind fun f=>cond (cF sz bytes e f) (some (e++f)) none) fun f=>WO A false os ⟨(T.put i .any).put t (.lsl gen f),H,lo,gen+1⟩ K
 | _=>False
section
variable {A:AP}{T:aA}{H:ag}{lo gen:Nat}{K:AS->Prop}{os:List az}{t:Nat}
theorem XH{b:Bool}{sz bytes i:Nat}{y:ak} : WO A false (⟨some t,none,.append b true sz bytes (.tmp i) y⟩ :: os) ⟨T,H,lo,gen⟩ K=AY A sz bytes i (T i) (y.eval A.aP T) t os T H lo gen K:=by
 rw[fc]
 simp only[bO,ai,dX,AY]
 cases hT:T i with
 | ay =>
  simp only[cond_true]
  cases dJ sz (y.eval A.aP T) with
  | none=>simp[bj]
  | some f=>simp only[ahV];cases cF sz bytes [] f<;>simp[bj,AS.b9,AS.br]
 | lsl g e =>
  simp only[ais]
  cases dJ sz (y.eval A.aP T) with
  | none=>simp[bj]
  | some f=>simp only[ahV];cases cF sz bytes e f<;>simp[bj,AS.b9,AS.br]
 | slice e own =>
  simp only[cond_true]
  cases dJ sz (y.eval A.aP T) with
  | none=>simp[bj]
  | some f=>simp only[ahV];cases (e.isEmpty&&own&&cF sz bytes [] f)<;>simp[bj,AS.b9,AS.br]
 | _=>simp[bj]
theorem UY{sz bytes i:Nat}{e:List (List AV)}{own:Bool} : AY A sz bytes i .ay (.slice e own) t os T H lo gen K=bj (cond (cF sz bytes [] e) (some e) none) fun f=>WO A false os ⟨(T.put i .any).put t (.lsl gen f),H,lo,gen+1⟩ K:=rfl
theorem Zc{sz bytes i:Nat}{e f:List (List AV)}{o own:Bool} : AY A sz bytes i (.slice e o) (.slice f own) t os T H lo gen K=bj (cond (e.isEmpty&&o&&cF sz bytes [] f) (some f) none) fun f=>WO A false os ⟨(T.put i .any).put t (.lsl gen f),H,lo,gen+1⟩ K:=rfl
theorem UX{sz bytes i g:Nat}{e f:List (List AV)}{own:Bool} : AY A sz bytes i (.lsl g e) (.slice f own) t os T H lo gen K=bj (cond (cF sz bytes e f) (some (e++f)) none) fun f=>WO A false os ⟨(T.put i .any).put t (.lsl gen f),H,lo,gen+1⟩ K:=rfl
end
section
variable {A:AP}{T:aA}{H:ag}{lo gen:Nat}{K:AS->Prop}{d:Bool}{os:List az}{t:Nat}
theorem O3:cK A d (some AV.ay) t os T H lo gen K=WO A d os ⟨T.put t AV.ay,H,lo,gen⟩ K:=bZ rfl
theorem N7{take obj:Bool}{i:Nat} : gV A d take obj i AV.ay t os T H lo gen K=WO A d os ⟨T.put t AV.ay,H,lo,gen⟩ K:=av
theorem AU{s:Nat} : gf s AV.ay=.ay:=rfl
theorem BS:aQ AV.ay=none:=rfl
theorem Gf{T:aA} : Ge T .sl .ay=some (.int .i64 0):=rfl
theorem wW{base:Nat} : AV.aN base .ay=AV.plain .ay:=rfl
theorem xr{base:Nat} : AV.bf base .ay=AV.aN base .ay:=rfl
end
def a7.pre:Nat->a7->a7
 | 0,.seq a _=>a
 | n+1,.seq a b=>.seq a (a7.pre n b)
 | _,c=>c
def a7.post:Nat->a7->a7
 | 0,.seq _ b=>b
 | n+1,.seq _ b=>a7.post n b
 | _,_=>.skip
theorem gI{A:AP}(n:Nat){c:a7}{s:AS}{Q:bw->AS->Prop}(R:AS->Prop)(h1:W A (c.pre n) s (andThen R Q))(h2:∀ s',R s'->W A (c.post n) s' Q):W A c s Q:=by
 induction n generalizing c s with
 | zero =>
  cases c with
  | seq a b=>exact Ka R h1 h2
  | _ =>
   refine r6 h1 (fun e s' h=>?_)
   cases e with
   | normal =>
    have:=h2 s' h
    obtain⟨n,e,s'',h3,h4⟩:=this
    simp only[a7.post,gH,ahM,ahN] at h3
    obtain⟨rfl,rfl⟩:=h3
    exact h4
   | _=>exact h
 | succ n ih =>
  cases c with
  | seq a b =>
   simp only[a7.pre,Kd] at h1 ⊢
   refine r6 h1 (fun e s' h=>?_)
   cases e with
   | normal=>exact ih h h2
   | _=>exact h
  | _ =>
   refine r6 h1 (fun e s' h=>?_)
   cases e with
   | normal =>
    have:=h2 s' h
    obtain⟨n,e,s'',h3,h4⟩:=this
    simp only[a7.post,gH,ahM,ahN] at h3
    obtain⟨rfl,rfl⟩:=h3
    exact h4
   | _=>exact h
section
variable {o:Option (List (List AV))}{base:Nat}{A:AP}{T:aA}{H:ag}{lo gen:Nat}{K:AS->Prop}{d:Bool}{os:List az}{t:Nat}
theorem Jq:UD AV.ay=true:=rfl
theorem Lk:aR base AV.ay=true:=rfl
theorem zX:AV.leaves base AV.ay=true:=rfl
end
end
end Go.Abs
namespace Go.Proofs.YtocbgffdpfiidaaGreatDoor
open Go Go.Abs Go.Proofs
def evA:=And.intro (And.intro (And.intro (And.intro (And.intro (And.intro (And.intro (And.intro (And.intro (@UP)
 (@TQ))
 (And.intro (@YF)
 (@Dm)))
 (And.intro (And.intro (@YL)
 (@abU))
 (And.intro (@YH)
 (And.intro (@UO)
 (@YK)))))
 (And.intro (And.intro (And.intro (@abS)
 (@Dl))
 (And.intro (@YE)
 (@TP)))
 (And.intro (And.intro (@JQ)
 (@YJ))
 (And.intro (@Pk)
 (And.intro (@abT)
 (@YI))))))
 (And.intro (And.intro (And.intro (And.intro (@Pj)
 (@TS))
 (And.intro (@YG)
 (@TR)))
 (And.intro (And.intro (@GV)
 (@JP))
 (And.intro (@av)
 (And.intro (@D5)
 (@Bg)))))
 (And.intro (And.intro (And.intro (@Sx)
 (@FY))
 (And.intro (@FX)
 (And.intro (@Option.bind_some.{0,0})
 (@Option.bind_none.{0,0}))))
 (And.intro (And.intro (@Option.map_some.{0,0})
 (@Option.map_none.{0,0}))
 (And.intro (@Kt)
 (And.intro (@beq_self_eq_true.{0})
 (@Bool.and_false)))))))
 (And.intro (And.intro (And.intro (And.intro (And.intro (@Bool.false_and)
 (@Bool.true_and))
 (And.intro (@Bool.and_true)
 (@Bool.or_true)))
 (And.intro (And.intro (@Bool.true_or)
 (@Bool.or_false))
 (And.intro (@Bool.false_or)
 (And.intro (@Bool.not_true)
 (@Bool.not_false)))))
 (And.intro (And.intro (And.intro (@decide_true)
 (@decide_false))
 (And.intro (@List.map_cons.{0,0})
 (@List.map_nil.{0,0})))
 (And.intro (And.intro (@List.all_cons.{0})
 (@List.all_nil.{0}))
 (And.intro (@List.length_cons.{0})
 (And.intro (@List.length_nil.{0})
 (@List.getElem?_cons_zero.{0}))))))
 (And.intro (And.intro (And.intro (And.intro (@List.getElem?_cons_succ.{0})
 (@List.nil_append.{0}))
 (And.intro (@List.append_nil.{0})
 (@List.cons_append.{0})))
 (And.intro (And.intro (@wrap64)
 (@sf))
 (And.intro (@H7)
 (And.intro (@H6)
 (@Option.some.injEq.{0})))))
 (And.intro (And.intro (And.intro (@Prod.mk.injEq.{0,0})
 (@Nat.zero_add))
 (And.intro (@List.drop_zero.{0})
 (And.intro (@G4)
 (@PF))))
 (And.intro (And.intro (@dle)
 (@dlt))
 (And.intro (@List.take_succ_cons.{0})
 (And.intro (@List.take_zero.{0})
 (@List.drop_succ_cons.{0}))))))))
 (And.intro (And.intro (And.intro (And.intro (And.intro (And.intro (@Int.natCast_add)
 (@Int.cast_ofNat_Int))
 (And.intro (@List.set_cons_zero.{0})
 (@List.set_cons_succ.{0})))
 (And.intro (And.intro (@PB)
 (@og))
 (And.intro (@PA)
 (And.intro (@Kl)
 (@Ki)))))
 (And.intro (And.intro (And.intro (@H4)
 (@bG))
 (And.intro (@dC)
 (@Km)))
 (And.intro (And.intro (@QB)
 (@TE))
 (And.intro (@U3)
 (And.intro (@Xu)
 (@Xv))))))
 (And.intro (And.intro (And.intro (And.intro (@kj)
 (@JN))
 (And.intro (@List.length_map.{0,0})
 (@U2)))
 (And.intro (And.intro (@ge_iff_le.{0})
 (@gt_iff_lt.{0}))
 (And.intro (@AV.int.injEq)
 (And.intro (@AV.str.injEq)
 (@AV.bool.injEq)))))
 (And.intro (And.intro (And.intro (@AV.slice.injEq)
 (@true_and))
 (And.intro (@and_true)
 (And.intro (@and_self)
 (@Io))))
 (And.intro (And.intro (@KJ)
 (@KN))
 (And.intro (@KI)
 (And.intro (@Bs)
 (@Br)))))))
 (And.intro (And.intro (And.intro (And.intro (And.intro (@zt)
 (@xb))
 (And.intro (@Fa)
 (@Ip)))
 (And.intro (And.intro (@KM)
 (@It))
 (And.intro (@Iu)
 (And.intro (@KK)
 (@KL)))))
 (And.intro (And.intro (And.intro (@Iq)
 (@Is))
 (And.intro (@D9)
 (@KH)))
 (And.intro (And.intro (@Fb)
 (@zj))
 (And.intro (@Bm)
 (And.intro (@Bq)
 (@Bl))))))
 (And.intro (And.intro (And.intro (And.intro (@uZ)
 (@uY))
 (And.intro (@tU)
 (@sw)))
 (And.intro (And.intro (@w8)
 (@zk))
 (And.intro (@Bp)
 (And.intro (@zo)
 (@zp)))))
 (And.intro (And.intro (And.intro (@Bn)
 (@Bo))
 (And.intro (@zl)
 (And.intro (@zn)
 (@w6))))
 (And.intro (And.intro (@Bk)
 (@w9))
 (And.intro (@P1)
 (And.intro (@Vw)
 (@VA)))))))))
 (And.intro (And.intro (And.intro (And.intro (And.intro (And.intro (And.intro (@Vv)
 (@IF))
 (And.intro (@IE)
 (@Fs)))
 (And.intro (And.intro (@BJ)
 (@K4))
 (And.intro (@P2)
 (And.intro (@Vz)
 (@P6)))))
 (And.intro (And.intro (And.intro (@P7)
 (@Vx))
 (And.intro (@Vy)
 (@P3)))
 (And.intro (And.intro (@P5)
 (@K2))
 (And.intro (@Vu)
 (And.intro (@K5)
 (@Fv))))))
 (And.intro (And.intro (And.intro (And.intro (@IN)
 (@IT))
 (And.intro (@IM)
 (@zF)))
 (And.intro (And.intro (@zE)
 (@xe))
 (And.intro (@vm)
 (And.intro (@BU)
 (@Fw)))))
 (And.intro (And.intro (And.intro (@IS)
 (@FB))
 (And.intro (@FC)
 (And.intro (@IP)
 (@IQ))))
 (And.intro (And.intro (@Fx)
 (@Fz))
 (And.intro (@BR)
 (And.intro (@IL)
 (@BV)))))))
 (And.intro (And.intro (And.intro (And.intro (And.intro (@DT)
 (@Ig))
 (And.intro (@Ik)
 (@Ie)))
 (And.intro (And.intro (@zh)
 (@zg))
 (And.intro (@wZ)
 (And.intro (@uO)
 (@Bc)))))
 (And.intro (And.intro (And.intro (@DV)
 (@Ij))
 (And.intro (@DZ)
 (@D1)))
 (And.intro (And.intro (@Ih)
 (@Ii))
 (And.intro (@DW)
 (And.intro (@DY)
 (@Ba))))))
 (And.intro (And.intro (And.intro (And.intro (@Ic)
 (@Bd))
 (And.intro (@Gs)
 (@Jv)))
 (And.intro (And.intro (@Jz)
 (@Ju))
 (And.intro (@An)
 (And.intro (@Am)
 (@xw)))))
 (And.intro (And.intro (And.intro (@vU)
 (@CO))
 (And.intro (@Gt)
 (And.intro (@Jy)
 (@Gw))))
 (And.intro (And.intro (@Gx)
 (@Jw))
 (And.intro (@Jx)
 (And.intro (@Gu)
 (@Jt))))))))
 (And.intro (And.intro (And.intro (And.intro (And.intro (And.intro (@CP)
 (@y7))
 (And.intro (@A6)
 (@A')))
 (And.intro (And.intro (@A5)
 (@uN))
 (And.intro (@uM)
 (And.intro (@tT)
 (@sk)))))
 (And.intro (And.intro (And.intro (@wX)
 (@y8))
 (And.intro (@A9)
 (@zc)))
 (And.intro (And.intro (@zd)
 (@A7))
 (And.intro (@A8)
 (And.intro (@y9)
 (@zb))))))
 (And.intro (And.intro (And.intro (And.intro (@wV)
 (@A4))
 (And.intro (@wY)
 (@Ad)))
 (And.intro (And.intro (@CE)
 (@CJ))
 (And.intro (@CD)
 (And.intro (@vT)
 (@vS)))))
 (And.intro (And.intro (And.intro (@ui)
 (@sO))
 (And.intro (@xt)
 (And.intro (@Ae)
 (@CI))))
 (And.intro (And.intro (@Ai)
 (@Aj))
 (And.intro (@CF)
 (And.intro (@CG)
 (@Af)))))))
 (And.intro (And.intro (And.intro (And.intro (And.intro (@Ah)
 (@xq))
 (And.intro (@CC)
 (@xu)))
 (And.intro (And.intro (@Cn)
 (@F9))
 (And.intro (@Gd)
 (And.intro (@F8)
 (@xl)))))
 (And.intro (And.intro (And.intro (@xj)
 (@vJ))
 (And.intro (@ug)
 (@zY)))
 (And.intro (And.intro (@Co)
 (@Gc))
 (And.intro (@Cs)
 (And.intro (@Ct)
 (@Ga))))))
 (And.intro (And.intro (And.intro (And.intro (@Gb)
 (@Cp))
 (And.intro (@Cr)
 (@zW)))
 (And.intro (And.intro (@F7)
 (@zZ))
 (And.intro (@DB)
 (And.intro (@HV)
 (@HZ)))))
 (And.intro (And.intro (And.intro (@HU)
 (@yY))
 (And.intro (@yX)
 (And.intro (@wT)
 (@uG))))
 (And.intro (And.intro (@AW)
 (@DC))
 (And.intro (@HY)
 (And.intro (@DG)
 (@DH))))))))))
 (And.intro (And.intro (And.intro (And.intro (And.intro (And.intro (And.intro (And.intro (@HW)
 (@HX))
 (And.intro (@DD)
 (@DF)))
 (And.intro (And.intro (@AT)
 (@HT))
 (And.intro (@AX)
 (And.intro (@Tu)
 (@Yu)))))
 (And.intro (And.intro (And.intro (@Yx)
 (@Yt))
 (And.intro (@JM)
 (@JL)))
 (And.intro (And.intro (@GN)
 (@Da))
 (And.intro (@Db)
 (And.intro (@Tv)
 (@Yw))))))
 (And.intro (And.intro (And.intro (And.intro (@Tz)
 (@Yv))
 (And.intro (@Tw)
 (@Ty)))
 (And.intro (And.intro (@O0)
 (@Ys))
 (And.intro (@O4)
 (And.intro (@Sc)
 (@Xn)))))
 (And.intro (And.intro (And.intro (@Xt)
 (@Xm))
 (And.intro (@Jn)
 (And.intro (@Jm)
 (@Gj))))
 (And.intro (And.intro (@Cz)
 (@Se))
 (And.intro (@Xp)
 (And.intro (@Si)
 (@Sj)))))))
 (And.intro (And.intro (And.intro (And.intro (And.intro (@Xo)
 (@Sf))
 (And.intro (@Sh)
 (@N6)))
 (And.intro (And.intro (@Xl)
 (@N8))
 (And.intro (@Th)
 (And.intro (@Yl)
 (@Yo)))))
 (And.intro (And.intro (And.intro (@Yk)
 (@JI))
 (And.intro (@JH)
 (@GK)))
 (And.intro (And.intro (@C3)
 (@OM))
 (And.intro (@Ti)
 (And.intro (@Yn)
 (@Ym))))))
 (And.intro (And.intro (And.intro (And.intro (@Tk)
 (@OL))
 (And.intro (@Yj)
 (@ON)))
 (And.intro (And.intro (@XF)
 (@Xr))
 (And.intro (@Xs)
 (And.intro (@Xq)
 (@Sk)))))
 (And.intro (And.intro (And.intro (@Sl)
 (@abv))
 (And.intro (@OA)
 (And.intro (@X1)
 (@X0))))
 (And.intro (And.intro (@SQ)
 (@abn))
 (And.intro (@abk)
 (And.intro (@abm)
 (@abl))))))))
 (And.intro (And.intro (And.intro (And.intro (And.intro (And.intro (@abo)
 (@X3))
 (And.intro (@S7)
 (@S6)))
 (And.intro (And.intro (@Oo)
 (@On))
 (And.intro (@SD)
 (And.intro (@yC)
 (@ad1)))))
 (And.intro (And.intro (And.intro (@SW)
 (@S1))
 (And.intro (@XZ)
 (@Yh)))
 (And.intro (And.intro (@SX)
 (@SZ))
 (And.intro (@XL)
 (And.intro (@SY)
 (@SV))))))
 (And.intro (And.intro (And.intro (And.intro (@Ov)
 (@Ou))
 (And.intro (@aa5)
 (@ad4)))
 (And.intro (And.intro (@XR)
 (@Tc))
 (And.intro (@aa4)
 (And.intro (@aa9)
 (@aa3)))))
 (And.intro (And.intro (And.intro (@CV)
 (@abf))
 (And.intro (@abh)
 (And.intro (@abg)
 (@GD))))
 (And.intro (And.intro (@abi)
 (@JD))
 (And.intro (@SU)
 (And.intro (@Ow)
 (@XT)))))))
 (And.intro (And.intro (And.intro (And.intro (And.intro (@abr)
 (@abp))
 (And.intro (@Yi)
 (@SS)))
 (And.intro (And.intro (@Ox)
 (@GC))
 (And.intro (@SE)
 (And.intro (@Ot)
 (@JC)))))
 (And.intro (And.intro (And.intro (@SP)
 (@abt))
 (And.intro (@XX)
 (@XU)))
 (And.intro (And.intro (@XV)
 (@XO))
 (And.intro (@SH)
 (And.intro (@SI)
 (@SF))))))
 (And.intro (And.intro (And.intro (And.intro (@abA)
 (@Yf))
 (And.intro (@Ye)
 (@Yg)))
 (And.intro (And.intro (@Tb)
 (@Oq))
 (And.intro (@XG)
 (And.intro (@XK)
 (@Td)))))
 (And.intro (And.intro (And.intro (@S0)
 (@XM))
 (And.intro (@GF)
 (And.intro (@Oz)
 (@Sz))))
 (And.intro (And.intro (@SC)
 (@SB))
 (And.intro (@abD)
 (And.intro (@abB)
 (@abC)))))))))
 (And.intro (And.intro (And.intro (And.intro (And.intro (And.intro (And.intro (@SK)
 (@SM))
 (And.intro (@SO)
 (@SL)))
 (And.intro (And.intro (@SN)
 (@aa8))
 (And.intro (@aa6)
 (And.intro (@aa7)
 (@OE)))))
 (And.intro (And.intro (And.intro (@ad3)
 (@abw))
 (And.intro (@aby)
 (@OB)))
 (And.intro (And.intro (@OC)
 (@UH))
 (And.intro (@UJ)
 (And.intro (@abx)
 (@UI))))))
 (And.intro (And.intro (And.intro (And.intro (@abz)
 (@abj))
 (And.intro (@XS)
 (@X5)))
 (And.intro (And.intro (@OD)
 (@Oy))
 (And.intro (@S8)
 (And.intro (@X4)
 (@X6)))))
 (And.intro (And.intro (And.intro (@X9)
 (@Ya))
 (And.intro (@SJ)
 (And.intro (@Yb)
 (@X8))))
 (And.intro (And.intro (@S9)
 (@Ta))
 (And.intro (@Iw)
 (And.intro (@zr)
 (@P9)))))))
 (And.intro (And.intro (And.intro (And.intro (And.intro (@FE)
 (@D3))
 (And.intro (@Gz)
 (@zf)))
 (And.intro (And.intro (@Al)
 (@Cv))
 (And.intro (@DJ)
 (And.intro (@TB)
 (@Sp)))))
 (And.intro (And.intro (And.intro (@Tn)
 (@abq))
 (And.intro (@XW)
 (@X7)))
 (And.intro (And.intro (@Ir)
 (@Iv))
 (And.intro (@zm)
 (And.intro (@zq)
 (@P4))))))
 (And.intro (And.intro (And.intro (And.intro (@P8)
 (@Fy))
 (And.intro (@FD)
 (@DX)))
 (And.intro (And.intro (@D2)
 (@Gv))
 (And.intro (@Gy)
 (And.intro (@za)
 (@ze)))))
 (And.intro (And.intro (And.intro (@Ag)
 (@Ak))
 (And.intro (@Cq)
 (And.intro (@Cu)
 (@DE))))
 (And.intro (And.intro (@DI)
 (@Tx))
 (And.intro (@TA)
 (And.intro (@Sg)
 (@Sn))))))))
 (And.intro (And.intro (And.intro (And.intro (And.intro (And.intro (@Tj)
 (@Tl))
 (And.intro (@ad2)
 (@abu)))
 (And.intro (And.intro (@XJ)
 (@S2))
 (And.intro (@S3)
 (And.intro (@XY)
 (@X2)))))
 (And.intro (And.intro (And.intro (@Wc)
 (@We))
 (And.intro (@LC)
 (@Qo)))
 (And.intro (And.intro (@LD)
 (@Qp))
 (And.intro (@Qq)
 (And.intro (@aak)
 (@Wf))))))
 (And.intro (And.intro (And.intro (And.intro (@U6)
 (@U7))
 (And.intro (@VL)
 (@Qg)))
 (And.intro (And.intro (@VO)
 (@Ll))
 (And.intro (@Qh)
 (And.intro (@VN)
 (@VM)))))
 (And.intro (And.intro (And.intro (@abb)
 (@XQ))
 (And.intro (@abd)
 (And.intro (@aa')
 (@abc))))
 (And.intro (And.intro (@aba)
 (@abe))
 (And.intro (@XP)
 (And.intro (@XN)
 (@U4)))))))
 (And.intro (And.intro (And.intro (And.intro (And.intro (@SG)
 (@Yc))
 (And.intro (@S4)
 (@Zg)))
 (And.intro (And.intro (@Zn)
 (@Zk))
 (And.intro (@Zo)
 (And.intro (@Zi)
 (@Zl)))))
 (And.intro (And.intro (And.intro (@Zm)
 (@Zh))
 (And.intro (@Zp)
 (@Zj)))
 (And.intro (And.intro (@Zq)
 (@Zr))
 (And.intro (@D')
 (And.intro (@w7)
 (@Bb))))))
 (And.intro (And.intro (And.intro (And.intro (@CN)
 (@K3))
 (And.intro (@XI)
 (@XH)))
 (And.intro (And.intro (@UY)
 (@UX))
 (And.intro (@O3)
 (And.intro (@N7)
 (@AU)))))
 (And.intro (And.intro (And.intro (@BS)
 (@Gf))
 (And.intro (@wW)
 (And.intro (@xr)
 (@Zc))))
 (And.intro (And.intro (@Jq)
 (@Lk))
 (And.intro (@zX)
 (And.intro (@S5)
 (@Sm))))))))))
def fV:=And.intro evA (And.intro (And.intro (And.intro (And.intro (And.intro (And.intro (@lp.eq_1)
 (And.intro (@lp.eq_2)
 (@iX.eq_1)))
 (And.intro (And.intro (@iX.eq_2)
 (@oR.eq_1))
 (And.intro (@oR.eq_2)
 (@lA.eq_1))))
 (And.intro (And.intro (And.intro (@lA.eq_2)
 (@Gr.eq_1))
 (And.intro (@Gr.eq_2)
 (@ak.eval.eq_1)))
 (And.intro (And.intro (@ak.eval.eq_2)
 (@ak.eval.eq_3))
 (And.intro (@ak.eval.eq_4)
 (@AS.b9.eq_1)))))
 (And.intro (And.intro (And.intro (@AS.b9.eq_2)
 (And.intro (@jB.eq_1)
 (@jB.eq_2)))
 (And.intro (And.intro (@jB.eq_3)
 (@jB.eq_4))
 (And.intro (@jB.eq_5)
 (@jB.eq_6))))
 (And.intro (And.intro (And.intro (@jB.eq_7)
 (@jB.eq_8))
 (And.intro (@AD.eq_1)
 (@AD.eq_2)))
 (And.intro (And.intro (@AD.eq_3)
 (@jH.eq_1))
 (And.intro (@jH.eq_2)
 (@jH.eq_3))))))
 (And.intro (And.intro (And.intro (And.intro (@jH.eq_4)
 (And.intro (@jH.eq_5)
 (@jH.eq_6)))
 (And.intro (And.intro (@jE.eq_1)
 (@jE.eq_2))
 (And.intro (@jE.eq_3)
 (@jE.eq_4))))
 (And.intro (And.intro (And.intro (@gz.eq_1)
 (@gz.eq_2))
 (And.intro (@gz.eq_3)
 (@gz.eq_4)))
 (And.intro (And.intro (@gz.eq_5)
 (@bound.eq_1))
 (And.intro (@bound.eq_2)
 (@nX.eq_1)))))
 (And.intro (And.intro (And.intro (@nX.eq_2)
 (And.intro (@AS.cm.eq_1)
 (@AS.cm.eq_2)))
 (And.intro (And.intro (@bM.eq_1)
 (@bM.eq_2))
 (And.intro (@bM.eq_3)
 (@bM.eq_4))))
 (And.intro (And.intro (And.intro (@bM.eq_5)
 (@fK.eq_1))
 (And.intro (@fK.eq_2)
 (@fK.eq_3)))
 (And.intro (And.intro (@fK.eq_4)
 (@fK.eq_5))
 (And.intro (@dJ.eq_1)
 (@dJ.eq_2)))))))
 (And.intro (And.intro (And.intro (And.intro (And.intro (@dJ.eq_3)
 (And.intro (@jV.eq_1)
 (@jV.eq_2)))
 (And.intro (And.intro (@jV.eq_3)
 (@putAt.eq_1))
 (And.intro (@bO.eq_1)
 (@ai.eq_1))))
 (And.intro (And.intro (And.intro (@ai.eq_2)
 (@ai.eq_3))
 (And.intro (@ai.eq_4)
 (@ai.eq_5)))
 (And.intro (And.intro (@ai.eq_6)
 (@ai.eq_7))
 (And.intro (@ai.eq_8)
 (@ai.eq_9)))))
 (And.intro (And.intro (And.intro (@ai.eq_10)
 (And.intro (@ai.eq_11)
 (@ai.eq_12)))
 (And.intro (And.intro (@ai.eq_13)
 (@ai.eq_14))
 (And.intro (@ai.eq_15)
 (@ai.eq_16))))
 (And.intro (And.intro (And.intro (@ai.eq_17)
 (@ai.eq_18))
 (And.intro (@ai.eq_19)
 (@ai.eq_20)))
 (And.intro (And.intro (@ai.eq_21)
 (@ai.eq_22))
 (And.intro (@ai.eq_23)
 (@ai.eq_24))))))
 (And.intro (And.intro (And.intro (And.intro (@ai.eq_25)
 (And.intro (@ai.eq_26)
 (@ai.eq_27)))
 (And.intro (And.intro (@ai.eq_28)
 (@ai.eq_29))
 (And.intro (@ai.eq_30)
 (@ai.eq_31))))
 (And.intro (And.intro (And.intro (@ai.eq_32)
 (@ai.eq_33))
 (And.intro (@ai.eq_34)
 (@ai.eq_35)))
 (And.intro (And.intro (@ai.eq_36)
 (@ai.eq_37))
 (And.intro (@ai.eq_38)
 (@ai.eq_39)))))
 (And.intro (And.intro (And.intro (And.intro (@ai.eq_40)
 (@ai.eq_41))
 (And.intro (@ai.eq_42)
 (@ai.eq_43)))
 (And.intro (And.intro (@ai.eq_44)
 (@ai.eq_45))
 (And.intro (@ai.eq_46)
 (@dX.eq_1))))
 (And.intro (And.intro (And.intro (@dX.eq_2)
 (@Option.isSome.eq_1.{0}))
 (And.intro (@Option.isSome.eq_2.{0})
 (@Option.isNone.eq_1.{0})))
 (And.intro (And.intro (@Option.isNone.eq_2.{0})
 (@cond_true.{1}))
 (And.intro (@cond_false.{1})
 (@eq_self.{1}))))))))
def aM:=And.intro fV (And.intro (And.intro (And.intro (@LS)
 (@LR))
 (And.intro (@LQ)
 (@LP)))
 (And.intro (And.intro (@LO)
 (@LN))
 (And.intro (@LW)
 (@LV))))
def aX:=And.intro aM (And.intro (And.intro (@a8.eq_1)
 (@dD))
 (And.intro (@Int.toNat_natCast)
 (@Nat.add_zero)))
abbrev aV:=List UInt8
def kH(n k:Int):Int:=(if n<0 then -(n+1) else n).tmod k
def TZ(l:List Int)(i k:Int):Int:=if i<0\/(l.length:Int)<=i then 0 else kH (l.getD i.toNat 0) k
def gB(c:UInt8):Bool:=decide ((97:Int)<=c.toNat)&&decide ((c.toNat:Int)<=122) || decide ((65:Int)<=c.toNat)&&decide ((c.toNat:Int)<=90)
def isDigit(c:UInt8):Bool:=decide ((48:Int)<=c.toNat)&&decide ((c.toNat:Int)<=57)
def kindOf(c:UInt8):Int:=if gB c then 1 else if isDigit c then 2 else 0
theorem mK(n k:Int)(H:ag)(hn:AG n)(hk:0<k):aB A 7 [.int .i64 n,.int .i64 k] H=some (.int .i64 (kH n k),none):=by
 obtain⟨h1,h2⟩:=hn
 have pz:k≠0:=by omega
 refine ba (fn:=ir7) rfl rfl rfl ?_
 unfold ir7
 simp(disch:=omega)only[fV,aa,simprocAttr]
 refine iH ?_ ?_<;>intro h
 ·simp(disch:=omega)only[fV,aa,simprocAttr,pz,kH,if_pos h]
  simp only[show 0-(n+1)=-(n+1) by omega]
 ·simp(disch:=omega)only[fV,aa,simprocAttr,pz,kH,if_neg h]
theorem acm(l:List Int)(i k:Int)(H:ag)(hl:∀ n∈l,AG n)(hk:0<k):aB A 39 [.slice (ints l) false,.int .i64 i,.int .i64 k] H=some (.int .i64 (TZ l i k),none):=by
 refine ba (fn:=Nt) rfl rfl rfl ?_
 unfold Nt
 by_cases h0:i<0
 ·simp(disch:=omega)only[fV,aa,simprocAttr,h0,TZ,true_or,ai3]
 by_cases h1:(l.length:Int)<=i
 ·simp(disch:=omega)only[fV,aa,simprocAttr,h0,h1,lL,aks,TZ,or_true,ai3]
 ·have hi:i.toNat<l.length:=by omega
  have hg:l[i.toNat]?=some (l.getD i.toNat 0):=by rw[aim,ahP hi];rfl
  have hr:AG (l.getD i.toNat 0):=hl _ (by rw[aim,ahP hi];exact aiQ hi)
  simp(disch:=omega)only[fV,aa,simprocAttr,h0,h1,lL,aks,TZ,false_or,aj0,dD (show 0<=i by omega),ints_at hg,mK _ _ H hr hk]
theorem vK(c:UInt8)(H:ag):aB A 100 [.int .u8 c.toNat] H=some (.bool (gB c),none):=by
 refine ba (fn:=Cd) rfl rfl rfl ?_
 unfold Cd gB
 by_cases h1:(97:Int)<=c.toNat<;>by_cases h2:(c.toNat:Int)<=122<;>by_cases h3:(65:Int)<=c.toNat<;>by_cases h4:(c.toNat:Int)<=90 <;>
  simp(disch:=omega)only[fV,aa,simprocAttr,aks,h1,h2,h3,h4]
theorem qS(c:UInt8)(H:ag):aB A 188 [.int .u8 c.toNat] H=some (.bool (isDigit c),none):=by
 refine ba (fn:=Cg) rfl rfl rfl ?_
 unfold Cg isDigit
 by_cases h1:(48:Int)<=c.toNat<;>by_cases h2:(c.toNat:Int)<=57 <;>
  simp(disch:=omega)only[fV,aa,simprocAttr,aks,h1,h2]
theorem Bv(c:UInt8)(H:ag):aB A 187 [.int .u8 c.toNat] H=some (.bool (gB c || isDigit c),none):=by
 refine ba (fn:=Cf) rfl rfl rfl ?_
 unfold Cf
 cases h:gB c<;>simp(disch:=omega)only[fV,aa,simprocAttr,vK,qS,h]
theorem qn(c:UInt8)(H:ag):aB A 88 [.int .u8 c.toNat] H=some (.int .i64 (kindOf c),none):=by
 refine ba (fn:=NF) rfl rfl rfl ?_
 unfold NF kindOf gB isDigit
 by_cases h1:(97:Int)<=c.toNat<;>by_cases h2:(c.toNat:Int)<=122<;>by_cases h3:(65:Int)<=c.toNat<;>by_cases h4:(c.toNat:Int)<=90<;>by_cases h5:(48:Int)<=c.toNat<;>by_cases h6:(c.toNat:Int)<=57 <;>
  simp(disch:=omega)only[fV,aa,simprocAttr,aks,h1,h2,h3,h4,h5,h6,ai3,aj0,aiS]
theorem pK:∀ (p s:aV),p.isPrefixOf s=(decide (p.length<=s.length)&&(s.take p.length==p))
 | [],s=>by simp
 | a :: p,[]=>by simp
 | a :: p,b :: s=>by
  have:=pK p s
  simp only[List.isPrefixOf,List.length_cons,aiU,akl,this,Nat.succ_le_succ_iff]
  by_cases h:a=b
  ·subst h;simp
  ·have h' : (a==b)=false:=by simpa using h
   have h2:(b==a)=false:=by simpa using fun e=>h e.symm
   simp[h',h2]
theorem zK(s p:aV)(H:ag):aB A 98 [.str s,.str p] H=some (.bool (p.isPrefixOf s),none):=by
 refine ba (fn:=NP) rfl rfl rfl ?_
 unfold NP
 rw[pK]
 by_cases h:(p.length:Int)<=s.length
 ·have hh:p.length<=s.length:=by omega
  simp(disch:=omega)only[fV,aa,simprocAttr,h,U5 hh,hh]
 ·simp(disch:=omega)only[fV,aa,simprocAttr,h,show ¬ p.length<=s.length by omega]
theorem tv(s p:aV)(H:ag):aB A 67 [.str s,.str p] H=some (.bool (p.isPrefixOf s),none):=by
 refine ba (fn:=ND) rfl rfl rfl ?_
 unfold ND
 simp(disch:=omega)only[fV,aa,simprocAttr,zK]
def bA:Bool->aV->Nat
 | _,[]=>0
 | c,b :: r=>if b.toNat=10 then 1+bA false r else if b.toNat=35 then 1+bA true r else if b.toNat≠32/\c=false then 0 else 1+bA c r
theorem oU:∀ (c:Bool) (s:aV),bA c s<=s.length
 | _,[]=>ahQ _
 | c,b :: r=>by
  have h1:=oU false r
  have h2:=oU true r
  have h3:=oU c r
  simp only[bA,List.length_cons]
  split
  ·omega
  ·split
   ·omega
   ·split<;>omega
def jI:aV:=[40,41,123,125,91,93,44,58,46,61,43,45,42,47,37,60]
def ga(s:aV):Bool:=s==[61,61] || s==[45,62] || (decide (s.length=1)&&jI.contains (s.getD 0 0))
theorem YC(a b:UInt8):(((a.toNat:Int))==(b.toNat:Int))=(a==b):=by
 by_cases h:a=b
 ·subst h;simp
 ·have h' : a.toNat≠b.toNat:=fun e=>h (UInt8.toNat_inj.1 e)
  have h2:(a==b)=false:=by simpa using h
  rw[h2]
  simp;omega
theorem GM(s:aV)(H:ag):aB A 120 [.str s] H=some (.bool (ga s),none):=by
 refine ba (fn:=Ce) rfl rfl rfl ?_
 unfold Ce ga
 cases e1:(s==[61,61]) with
 | true=>simp(disch:=omega)only[fV,aa,simprocAttr,e1]
 | false =>
 cases e2:(s==[45,62]) with
 | true=>simp(disch:=omega)only[fV,aa,simprocAttr,e1,e2]
 | false =>
 simp(disch:=omega)only[fV,aa,simprocAttr,e1,e2]
 refine kn ?_ ?_<;>intro hl
 ·have zM:s.length≠1:=fun e=>by rw[e] at hl;simp at hl
  simp(disch:=omega)only[fV,aa,simprocAttr,zM]
 have zM:s.length=1:=by
  have:(s.length:Int)=1:=by simpa using hl
  omega
 match s,zM with
 | [b],_ =>
 simp(disch:=omega)only[fV,aa,simprocAttr]
 refine yV 16 (fun i=>Hd (fun T=>T 0=.str [b]/\T 3=.str jI/\T 4=.int .i64 i/\jI.contains b=(jI.drop i).contains b) H H.length 0) ?_ 0 _ (aiB _) ?_
 ·rintro i st hi iN
  obtain⟨T,rfl,h0,h3,h4,hc⟩:=iN.out
  simp(disch:=omega)only[fV,aa,simprocAttr,h0,h3,h4,show jI.length=16 from rfl]
  refine iH ?_ ?_<;>intro h
  ·have ku:i<jI.length:=by simp only[show jI.length=16 from rfl];omega
   simp(disch:=omega)only[fV,aa,simprocAttr,h0,h3,h4,ahP ku,YC]
   refine kn ?_ ?_<;>intro hb
   ·have fE:jI[i]=b:=by simpa using hb
    simp(disch:=omega)only[fV,aa,simprocAttr,hc,aij ku,ajH,fE,List.getD_cons_zero]
   ·have fE:(b==jI[i])=false:=by
     have:jI[i]≠b:=by simpa using hb
     simpa using fun e=>this e.symm
    simp(disch:=omega)only[fV,aa,simprocAttr,h0,h3,h4]
    exact⟨by omega,by rw[hc,aij ku,ajH,fE,ajD]⟩
  ·have:i=16:=by omega
   subst this
   rw[show (jI.drop 16).contains b=false from rfl] at hc
   simp(disch:=omega)only[fV,aa,simprocAttr,List.getD_cons_zero,hc]
 ·simp(disch:=omega)only[fV,aa,simprocAttr]
  exact rfl
def bW(k:Int):aV->Nat
 | []=>0
 | c :: r=>if kindOf c=2\/kindOf c=1/\k=1 then 1+bW k r else 0
theorem nQ(k:Int):∀ s:aV,bW k s<=s.length
 | []=>ahQ _
 | c :: r=>by
  have:=nQ k r
  simp only[bW,List.length_cons]
  split<;>omega
def fO:aV->Nat
 | []=>0
 | b :: r=>if 0<kindOf b then (if 16<1+bW (kindOf b) r then 0 else 1+bW (kindOf b) r)
  else if 1<=r.length/\ga ((b :: r).take 2)=true then 2 else if ga [b]=true then 1 else 0
theorem HP:∀ s:aV,fO s<=s.length
 | []=>ahQ _
 | b :: r=>by
  have:=nQ (kindOf b) r
  simp only[fO,List.length_cons]
  split
  ·split<;>omega
  ·split
   ·omega
   ·split<;>omega
theorem zT(c:UInt8):kindOf c=0\/kindOf c=1\/kindOf c=2:=by
 unfold kindOf
 split
 ·exact .inr (.inl rfl)
 ·split
  ·exact .inr (.inr rfl)
  ·exact .inl rfl
theorem Zz(s:aV)(at' : Nat)(H:ag)(kE:at' < s.length)(hs:s.length<=4611686018427387904) :
  aB A 90 [.str s,.int .i64 at'] H=some (.int .i64 (if fO (s.drop at')=0 then -1 else ((at' + fO (s.drop at'):Nat):Int)),none):=by
 refine ba (fn:=NH) rfl rfl rfl ?_
 unfold NH
 have hd:=aij kE
 generalize hb:s[at']=b at hd
 have iV:s[at']?=some b:=by rw[ahP kE,hb]
 simp(disch:=omega)only[fV,aa,simprocAttr,iV,qn]
 refine iH ?_ ?_<;>intro hk
 ·have Qt:fO (s.drop at')=if 16<1+bW (kindOf b) (s.drop (at' + 1)) then 0 else 1+bW (kindOf b) (s.drop (at' + 1)):=by
   rw[hd];simp only[fO,if_pos hk]
  simp(disch:=omega)only[fV,aa,simprocAttr]
  refine bP s.length 0 (fun i=>Hd (fun T=>T 0=.str s/\T 1=.int .i64 at'/\T 5=.int .i64 (kindOf b)/\T 6=.int .i64 i/\at' + 1+bW (kindOf b) (s.drop (at' + 1))=i+bW (kindOf b) (s.drop i)) H H.length 0)
   (Hd (fun T=>T 1=.int .i64 at'/\T 6=.int .i64 ((at' + 1+bW (kindOf b) (s.drop (at' + 1)):Nat):Int)) H H.length 0) (fun _=>False) ?_ ?_ (fun _ h=>h.elim) (at' + 1) _ (by omega) ?_
  ·rintro i st hi iN
   obtain⟨T,rfl,h0,h1,h5,h6,hc⟩:=iN.out
   by_cases h:(i:Int)<s.length
   ·have ku:i<s.length:=by omega
    rw[aij ku] at hc
    simp only[bW] at hc
    have uw:s[i]?=some s[i]:=ahP ku
    generalize s[i]=c at hc uw
    by_cases k2:kindOf c=2
    ·rw[if_pos (.inl k2)] at hc
     simp(disch:=omega)only[fV,aa,simprocAttr,h0,h1,h5,h6,h,uw,qn,k2]
     omega
    by_cases k1:kindOf c=1
    ·by_cases kb:kindOf b=1
     ·rw[if_pos (.inr ⟨k1,kb⟩)] at hc
      rw[kb] at h5 hc ⊢
      simp(disch:=omega)only[fV,aa,simprocAttr,h0,h1,h5,h6,h,uw,qn,k1,kb,Int.reduceBEq]
      omega
     ·rw[if_neg (by simp[k1,kb])] at hc
      simp(disch:=omega)only[fV,aa,simprocAttr,h0,h1,h5,h6,h,uw,qn,k1,Int.reduceBEq,show (kindOf b==1)=false by simpa using kb]
      omega
    ·have k0:kindOf c=0:=by rcases zT c with h|h|h<;>simp_all
     rw[if_neg (by simp[k0])] at hc
     simp(disch:=omega)only[fV,aa,simprocAttr,h0,h1,h5,h6,h,uw,qn,k0,Int.reduceBEq]
     omega
   ·have:i=s.length:=by omega
    subst this
    rw[ajy] at hc
    simp only[bW] at hc
    simp(disch:=omega)only[fV,aa,simprocAttr,h0,h1,h6,h]
    omega
  ·intro st iN
   obtain⟨T,rfl,h1,h6⟩:=iN.out
   have hle:=nQ (kindOf b) (s.drop (at' + 1))
   rw[aiv] at hle
   rw[Qt]
   generalize bW (kindOf b) (s.drop (at' + 1))=w at h6 hle
   simp(disch:=omega)only[fV,aa,simprocAttr,h1,h6]
   refine iH ?_ ?_<;>intro Qe
   ·simp(disch:=omega)only[fV,aa,simprocAttr,if_pos (show 16<1+w by omega)]
   ·simp(disch:=omega)only[fV,aa,simprocAttr,if_neg (show ¬ 16<1+w by omega),h6,if_neg (show ¬ 1+w=0 by omega)]
    omega
  ·simp(disch:=omega)only[fV,aa,simprocAttr]
 ·have Qt:fO (s.drop at')=if 1<=(s.drop (at' + 1)).length/\ga ((b :: s.drop (at' + 1)).take 2)=true then 2 else if ga [b]=true then 1 else 0:=by
   rw[hd];simp only[fO,if_neg hk]
  have e1:List.drop at' (List.take (at' + 1) s)=[b]:=by
   rw[List.drop_take,hd];simp
  have e2:List.drop at' (List.take (at' + 2) s)=(b :: s.drop (at' + 1)).take 2:=by
   rw[List.drop_take,hd];simp
  generalize (b :: s.drop (at' + 1)).take 2=two at e2 Qt
  have e3:(s.drop (at' + 1)).length=s.length-(at' + 1):=aiv ..
  rw[Qt,e3]
  by_cases h2:(at' : Int)+1<s.length
  ·cases Qs:ga two with
   | true =>
    simp(disch:=omega)only[fV,aa,simprocAttr,h2,e2,GM,Qs,if_pos (show 1<=s.length-(at' + 1)/\True from ⟨by omega,trivial⟩)]
    rw[if_pos (show 1<=s.length-(at' + 1) by omega)]
    rw[if_neg (by omega)];rfl
   | false =>
    cases zO:ga [b] <;>
    simp(disch:=omega)only[fV,aa,simprocAttr,h2,e2,e1,GM,Qs,zO,aiS,akd,aj0,ai3]<;>rfl
  ·have hn:¬ 1<=s.length-(at' + 1):=by omega
   cases zO:ga [b] <;>
   simp(disch:=omega)only[fV,aa,simprocAttr,h2,e1,GM,zO,hn,false_and,aiS,aj0,ai3]<;>rfl
theorem F5(H:ag):aB A 89 [] H=some (.slice (strs dP) true,none):=by
 refine ba (fn:=NG) rfl rfl rfl ?_
 unfold NG
 simp only[UP,Dm,OA,Db,UO,Dl,yC]
 refine UM (.slice (strs dP) true) (by kernel_rfl) rfl ?_
 simp(disch:=omega)only[fV,aa,simprocAttr]
def isWord(s:aV):Bool:=match s with
 | []=>false
 | b :: _=>decide (kindOf b=1)&&!dP.contains s&&decide (fO s=s.length)
theorem nP(s:aV)(H:ag)(hs:s.length<=4611686018427387904):aB A 56 [.str s] H=some (.bool (isWord s),none):=by
 refine ba (fn:=Nv) rfl rfl rfl ?_
 unfold Nv
 cases rq:s with
 | nil=>simp(disch:=omega)only[fV,aa,simprocAttr,isWord]
 | cons b r =>
 rw[<- rq]
 have hl:((s.length:Int)==0)=false:=by rw[rq];simp;omega
 have hb:s[0]?=some b:=by rw[rq];rfl
 by_cases hk:kindOf b=1
 ·simp(disch:=omega)only[fV,aa,simprocAttr,hl,hb,qn,hk,bne_self_eq_false,F5]
  have h27:dP.length=27:=rfl
  refine bP 27 0 (fun i=>Hd (fun T=>T 0=.str s/\T 3=.slice (strs dP) true/\T 4=.int .i64 i/\dP.contains s=(dP.drop i).contains s) H H.length 0)
   (Hd (fun T=>T 0=.str s/\dP.contains s=false) H H.length 0) (Hd (fun T=>T 2=.bool false/\dP.contains s=true) H H.length 0) ?_ ?_ ?_ 0 _ (by omega) ?_
  ·rintro i st hi iN
   obtain⟨T,rfl,h0,h3,h4,hc⟩:=iN.out
   simp(disch:=omega)only[fV,aa,simprocAttr,h0,h3,h4,aJ,h27]
   refine iH ?_ ?_<;>intro h
   ·have ku:i<dP.length:=by rw[h27];omega
    simp(disch:=omega)only[fV,aa,simprocAttr,h0,h3,h4,bB (ahP ku)]
    refine kn ?_ ?_<;>intro hb
    ·simp(disch:=omega)only[fV,aa,simprocAttr,hc,aij ku,ajH,show (s==dP[i])=true by rw[aiF] at hb ⊢;exact hb.symm]
    ·simp(disch:=omega)only[fV,aa,simprocAttr,h0,h3,h4]
     exact⟨by omega,by rw[hc,aij ku,ajH,show (s==dP[i])=false by rw[ai0] at hb ⊢;exact hb.symm,ajD]⟩
   ·have:i=27:=by omega
    subst this
    rw[show dP.drop 27=[] from rfl] at hc
    simp(disch:=omega)only[fV,aa,simprocAttr,h0,hc,List.contains_nil]
  ·intro st iN
   obtain⟨T,rfl,h0,hc⟩:=iN.out
   have e1:=Zz s 0 H (by rw[rq];simp) hs
   rw[ai2] at e1
   rw[aio] at e1
   simp(disch:=omega)only[fV,aa,simprocAttr,h0,e1]
   have hw:isWord s=decide (fO s=s.length):=by rw[rq] at hc ⊢;simp only[isWord,hk,hc,decide_true,aiH,ais]
   rw[hw]
   have cS:s.length≠0:=by rw[rq];simp
   by_cases JU:fO s=0
   ·rw[if_pos JU,JU];exact G3 (by omega)
   ·rw[if_neg JU];exact G3 (by omega)
  ·intro st iN
   obtain⟨T,rfl,h2,hc⟩:=iN.out
   have hw:isWord s=false:=by rw[rq] at hc ⊢;simp only[isWord,hc,aiW,Bool.and_false,aiu]
   simp(disch:=omega)only[fV,aa,simprocAttr,h2,hw]
  ·simp(disch:=omega)only[fV,aa,simprocAttr,ai2,aio]
 ·have hw:isWord s=false:=by rw[rq];simp only[isWord,hk,aiG,aiu]
  simp(disch:=omega)only[fV,aa,simprocAttr,hl,hb,qn,show (kindOf b != 1)=true by simpa using hk,hw]
end Go.Proofs.YtocbgffdpfiidaaGreatDoor
