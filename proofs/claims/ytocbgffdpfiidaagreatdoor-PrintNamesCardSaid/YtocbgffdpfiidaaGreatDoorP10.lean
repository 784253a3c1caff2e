/-
  A part of the proof of PrintNames: AbsOKS, AbsRule, AbsEq, AbsIrN.
-/
import Derived.IntWalk
import Derived.Test.YtocbgffdpfiidaaGreatDoorProg
import Derived.KernelRfl
import Derived.Test.YtocbgffdpfiidaaGreatDoorP08
import Derived.Test.YtocbgffdpfiidaaGreatDoorP09
set_option linter.unusedSimpArgs false
set_option linter.unusedVariables false
set_option linter.defProp false
set_option maxRecDepth 100000
namespace Go.Proofs.YtocbgffdpfiidaaGreatDoor
open Go Go.Abs Go.Proofs
theorem fo{f:FuncId}{fn:Func}{i oh:au}{a b c:List Nat}(h:Tryz.prog.funcs[f]?=some fn)(k:mQ Tryz.prog a b c fn=some i)(e:some i=some oh):∃ fn bK locals muts,Tryz.prog.funcs[f]?=some fn/\mQ Tryz.prog bK locals muts fn=some oh:=by
 injection e with e
 subst e
 exact⟨_,_,_,_,h,k⟩
theorem Ls(f:FuncId)(oh:au)(h:fns f=some oh):∃ fn bK locals muts,Tryz.prog.funcs[f]?=some fn/\mQ Tryz.prog bK locals muts fn=some oh:=by
 unfold fns at h
 split at h
 ·exact fo Tryz.func3 Xc h
 ·exact fo Tryz.func4 Xm h
 ·exact fo Tryz.func5 Xt h
 ·exact fo Tryz.func6 Xv h
 ·exact fo Tryz.func7 XG h
 ·exact fo Tryz.func8 XO h
 ·exact fo Tryz.func9 XP h
 ·exact fo Tryz.func10 Q6 h
 ·exact fo Tryz.func11 Q7 h
 ·exact fo Tryz.func12 Q8 h
 ·exact fo Tryz.func13 Q9 h
 ·exact fo Tryz.func14 Ra h
 ·exact fo Tryz.func15 Rb h
 ·exact fo Tryz.func16 Rc h
 ·exact fo Tryz.func17 Rd h
 ·exact fo Tryz.func18 Re h
 ·exact fo Tryz.func19 Rf h
 ·exact fo Tryz.func20 Rg h
 ·exact fo Tryz.func21 Rh h
 ·exact fo Tryz.func22 Ri h
 ·exact fo Tryz.func23 Rj h
 ·exact fo Tryz.func24 Rk h
 ·exact fo Tryz.func25 Rl h
 ·exact fo Tryz.func26 Rm h
 ·exact fo Tryz.func27 Rn h
 ·exact fo Tryz.func28 Ro h
 ·exact fo Tryz.func29 Rp h
 ·exact fo Tryz.func30 Rq h
 ·exact fo Tryz.func31 Rr h
 ·exact fo Tryz.func32 Rs h
 ·exact fo Tryz.func33 Rt h
 ·exact fo Tryz.func34 Ru h
 ·exact fo Tryz.func35 Rv h
 ·exact fo Tryz.func36 Rw h
 ·exact fo Tryz.func37 Rx h
 ·exact fo Tryz.func39 Ry h
 ·exact fo Tryz.func40 Rz h
 ·exact fo Tryz.func41 RA h
 ·exact fo Tryz.func42 RB h
 ·exact fo Tryz.func43 RC h
 ·exact fo Tryz.func44 RD h
 ·exact fo Tryz.func45 RE h
 ·exact fo Tryz.func46 RF h
 ·exact fo Tryz.func47 RG h
 ·exact fo Tryz.func48 RH h
 ·exact fo Tryz.func49 RI h
 ·exact fo Tryz.func50 RJ h
 ·exact fo Tryz.func51 RL h
 ·exact fo Tryz.func52 RM h
 ·exact fo Tryz.func53 RN h
 ·exact fo Tryz.func54 RO h
 ·exact fo Tryz.func55 RP h
 ·exact fo Tryz.func56 RQ h
 ·exact fo Tryz.func57 RR h
 ·exact fo Tryz.func58 RS h
 ·exact fo Tryz.func59 RT h
 ·exact fo Tryz.func60 RU h
 ·exact fo Tryz.func61 RV h
 ·exact fo Tryz.func62 RW h
 ·exact fo Tryz.func63 RX h
 ·exact fo Tryz.func64 RY h
 ·exact fo Tryz.func65 RZ h
 ·exact fo Tryz.func67 R0 h
 ·exact fo Tryz.func69 R1 h
 ·exact fo Tryz.func70 R2 h
 ·exact fo Tryz.func71 R3 h
 ·exact fo Tryz.func72 R4 h
 ·exact fo Tryz.func73 R5 h
 ·exact fo Tryz.func74 R6 h
 ·exact fo Tryz.func75 R7 h
 ·exact fo Tryz.func76 R8 h
 ·exact fo Tryz.func77 R9 h
 ·exact fo Tryz.func78 R' h
 ·exact fo Tryz.func79 Sa h
 ·exact fo Tryz.func80 Sb h
 ·exact fo Tryz.func82 Sc h
 ·exact fo Tryz.func83 Se h
 ·exact fo Tryz.func84 Sf h
 ·exact fo Tryz.func85 Sg h
 ·exact fo Tryz.func86 Sh h
 ·exact fo Tryz.func87 Si h
 ·exact fo Tryz.func88 Sj h
 ·exact fo Tryz.func89 Sk h
 ·exact fo Tryz.func90 Sl h
 ·exact fo Tryz.func91 Sm h
 ·exact fo Tryz.func92 Sn h
 ·exact fo Tryz.func93 Sp h
 ·exact fo Tryz.func94 Sq h
 ·exact fo Tryz.func95 Sr h
 ·exact fo Tryz.func96 Ss h
 ·exact fo Tryz.func98 St h
 ·exact fo Tryz.func100 Mf h
 ·exact fo Tryz.func101 Mh h
 ·exact fo Tryz.func102 Mj h
 ·exact fo Tryz.func103 Ml h
 ·exact fo Tryz.func104 Mn h
 ·exact fo Tryz.func105 Mp h
 ·exact fo Tryz.func106 Mr h
 ·exact fo Tryz.func107 Mt h
 ·exact fo Tryz.func108 Mv h
 ·exact fo Tryz.func110 Mx h
 ·exact fo Tryz.func111 Mz h
 ·exact fo Tryz.func112 MB h
 ·exact fo Tryz.func113 MD h
 ·exact fo Tryz.func114 MF h
 ·exact fo Tryz.func115 MH h
 ·exact fo Tryz.func116 MJ h
 ·exact fo Tryz.func117 ML h
 ·exact fo Tryz.func118 MN h
 ·exact fo Tryz.func119 MP h
 ·exact fo Tryz.func120 MQ h
 ·exact fo Tryz.func123 MS h
 ·exact fo Tryz.func124 MU h
 ·exact fo Tryz.func126 MW h
 ·exact fo Tryz.func127 MY h
 ·exact fo Tryz.func128 M0 h
 ·exact fo Tryz.func129 M3 h
 ·exact fo Tryz.func130 M5 h
 ·exact fo Tryz.func131 M7 h
 ·exact fo Tryz.func132 M9 h
 ·exact fo Tryz.func135 Na h
 ·exact fo Tryz.func136 Nc h
 ·exact fo Tryz.func137 Nf h
 ·exact fo Tryz.func138 Nh h
 ·exact fo Tryz.func143 Nk h
 ·exact fo Tryz.func144 Nn h
 ·exact fo Tryz.func150 Nq h
 ·exact fo Tryz.func157 Ns h
 ·exact fo Tryz.func158 Nu h
 ·exact fo Tryz.func164 Nx h
 ·exact fo Tryz.func187 NA h
 ·exact fo Tryz.func188 NB h
 ·cases h
theorem Yb(f:FuncId)(g:List AV->ag->Option (AV × Option fz))(h:ov0 f=some g):iH Tryz.prog H7 f g:=by
 unfold ov0 at h
 split at h
 ·injection h with h;subst h;exact rW
 ·injection h with h;subst h;exact vP
 ·injection h with h;subst h;exact u9
 ·injection h with h;subst h;exact tQ
 ·injection h with h;subst h;exact rE
 ·injection h with h;subst h;exact uS
 ·cases h
theorem S6:p8 Tryz.prog A0:=⟨by kernel_rfl,Ls,Yb⟩
theorem Ok:iH Tryz.prog H7 6 At:=by
 have h:=VW S6 59 6
 intro args H r c he
 unfold At at he
 split at he
 ·injection he with he
  injection he with e1 e2
  subst e1 e2
  exact h _ _ _ _ Jy
 ·cases he
theorem abD(f:FuncId)(g:List AV->ag->Option (AV × Option fz))(h:ov f=some g):iH Tryz.prog H7 f g:=by
 unfold ov at h
 split at h
 ·injection h with h;subst h;exact Ok
 ·injection h with h;subst h;exact rW
 ·injection h with h;subst h;exact vP
 ·injection h with h;subst h;exact u9
 ·injection h with h;subst h;exact tQ
 ·injection h with h;subst h;exact rE
 ·injection h with h;subst h;exact uS
 ·cases h
theorem OH:p8 Tryz.prog A:=⟨by kernel_rfl,Ls,abD⟩
end Go.Proofs.YtocbgffdpfiidaaGreatDoor
namespace Go.Abs
section
def gl(s:Nat):AV->AV
 | .lbox g _=>.lref s g 0
 | .lsl g _=>.lsr s g
 | .iter ..=>.any
 | v=>v
theorem Yg{G:Nat->List AV}{T:aC}{s:Nat} : ak.addr G T (.tmp s)=gl s (T s):=by
 simp only[ak.addr,gl]
 split<;>simp_all
section
theorem IF{b:Bool} : AV.drop (AV.bool b)=(.bool b):=rfl
theorem K1{k:IntKind}{n:Int} : AV.drop (AV.int k n)=(.int k n):=rfl
theorem K5{l:List UInt8} : AV.drop (AV.str l)=(.str l):=rfl
theorem K0:AV.drop AV.any=.any:=rfl
theorem BO:AV.drop AV.cx=.cx:=rfl
theorem BN:AV.drop AV.cw=.cw:=rfl
theorem II{kz:Nat}{ka va:Bool}{es:List (List AV)} : AV.drop (AV.dp kz ka va es)=(.dp kz ka va es):=rfl
theorem Fw:AV.drop AV.ay=.ay:=rfl
theorem xp:AV.bf AV.ay=.ay:=rfl
theorem Bx:AV.cells AV.ay=some [.ay]:=rfl
theorem De:AV.plain AV.ay=true:=rfl
theorem Lk:ar AV.ay=true:=rfl
theorem zO:AV.drop AV.bV=.bV:=rfl
theorem xt:AV.drop AV.bt=.bt:=rfl
theorem Fx{e:List (List AV)}{own:Bool} : AV.drop (AV.slice e own)=.slice e false:=rfl
theorem IG{cs:List AV} : AV.drop (AV.eptr cs)=(.eptr cs):=rfl
theorem K4{loc off:Nat} : AV.drop (AV.ref loc off)=(.ref loc off):=rfl
theorem IN{loc off n z:Nat} : AV.drop (AV.sref loc off n z)=(.sref loc off n z):=rfl
theorem IM{loc:Nat} : AV.drop (AV.mref loc)=(.mref loc):=rfl
theorem IK{g:Nat}{cs:List AV} : AV.drop (AV.lbox g cs)=(.lbox g cs):=rfl
theorem IL{s g off:Nat} : AV.drop (AV.lref s g off)=(.lref s g off):=rfl
theorem K2{g:Nat}{e:List (List AV)} : AV.drop (AV.lsl g e)=(.lsl g e):=rfl
theorem K3{s g:Nat} : AV.drop (AV.lsr s g)=(.lsr s g):=rfl
theorem IH{s g i z off:Nat} : AV.drop (AV.eref s g i z off)=(.eref s g i z off):=rfl
theorem IJ{f:Fn}{fs cs:List AV} : AV.drop (AV.func f fs cs)=(.func f fs cs):=rfl
theorem Fv{t:TypeId}{v:AV} : AV.drop (AV.iface t v)=(.iface t v):=rfl
theorem KZ{cs:List AV} : AV.drop (AV.agg cs)=(.agg cs):=rfl
theorem Fy{vs:List AV} : AV.drop (AV.tuple vs)=(.tuple vs):=rfl
theorem zF{b:Bool} : AV.bf (AV.bool b)=(.bool b):=rfl
theorem BI{k:IntKind}{n:Int} : AV.bf (AV.int k n)=(.int k n):=rfl
theorem BM{l:List UInt8} : AV.bf (AV.str l)=(.str l):=rfl
theorem BH:AV.bf AV.any=.any:=rfl
theorem vj:AV.bf AV.cx=.cx:=rfl
theorem vi:AV.bf AV.cw=.cw:=rfl
theorem zI{kz:Nat}{ka va:Bool}{es:List (List AV)} : AV.bf (AV.dp kz ka va es)=(.dp kz ka va es):=rfl
theorem uj:AV.bf AV.bV=.bV:=rfl
theorem sC:AV.bf AV.bt=.bt:=rfl
theorem xq{e:List (List AV)}{own:Bool} : AV.bf (AV.slice e own)=.slice e false:=rfl
theorem zG{cs:List AV} : AV.bf (AV.eptr cs)=(.eptr cs):=rfl
theorem BL{loc off:Nat} : AV.bf (AV.ref loc off)=(.ref loc off):=rfl
theorem zN{loc off n z:Nat} : AV.bf (AV.sref loc off n z)=(.sref loc off n z):=rfl
theorem zM{loc:Nat} : AV.bf (AV.mref loc)=(.mref loc):=rfl
theorem zK{g:Nat}{cs:List AV} : AV.bf (AV.lbox g cs)=(.lbox g cs):=rfl
theorem zL{s g off:Nat} : AV.bf (AV.lref s g off)=(.lref s g off):=rfl
theorem BJ{g:Nat}{e:List (List AV)} : AV.bf (AV.lsl g e)=(.lsl g e):=rfl
theorem BK{s g:Nat} : AV.bf (AV.lsr s g)=(.lsr s g):=rfl
theorem zH{s g i z off:Nat} : AV.bf (AV.eref s g i z off)=(.eref s g i z off):=rfl
theorem zJ{f:Fn}{fs cs:List AV} : AV.bf (AV.func f fs cs)=(.func f fs cs):=rfl
theorem xn{t:TypeId}{v:AV} : AV.bf (AV.iface t v)=(.iface t v):=rfl
theorem BG{cs:List AV} : AV.bf (AV.agg cs)=.agg (cs.map AV.drop):=rfl
theorem xr{vs:List AV} : AV.bf (AV.tuple vs)=(.tuple vs):=rfl
theorem Qt{b:Bool} : ar (AV.bool b)=true:=rfl
theorem V4{k:IntKind}{n:Int} : ar (AV.int k n)=true:=rfl
theorem V8{l:List UInt8} : ar (AV.str l)=true:=rfl
theorem V3:ar AV.any=true:=rfl
theorem IX:ar AV.cx=true:=rfl
theorem IW:ar AV.cw=true:=rfl
theorem Qw{kz:Nat}{ka va:Bool}{es:List (List AV)} : ar (AV.dp kz ka va es)=true:=rfl
theorem FM:ar AV.bV=true:=rfl
theorem B6:ar AV.bt=true:=rfl
theorem Ll{e:List (List AV)}{own:Bool} : ar (AV.slice e own)=true:=rfl
theorem Qu{cs:List AV} : ar (AV.eptr cs)=true:=rfl
theorem V7{loc off:Nat} : ar (AV.ref loc off)=true:=rfl
theorem QB{loc off n z:Nat} : ar (AV.sref loc off n z)=true:=rfl
theorem QA{loc:Nat} : ar (AV.mref loc)=true:=rfl
theorem Qy{g:Nat}{cs:List AV} : ar (AV.lbox g cs)=false:=rfl
theorem Qz{s g off:Nat} : ar (AV.lref s g off)=false:=rfl
theorem V5{g:Nat}{e:List (List AV)} : ar (AV.lsl g e)=false:=rfl
theorem V6{s g:Nat} : ar (AV.lsr s g)=false:=rfl
theorem Qv{s g i z off:Nat} : ar (AV.eref s g i z off)=false:=rfl
theorem Qx{f:Fn}{fs cs:List AV} : ar (AV.func f fs cs)=true:=rfl
theorem Lj{t:TypeId}{v:AV} : ar (AV.iface t v)=true:=rfl
theorem V2{cs:List AV} : ar (AV.agg cs)=true:=rfl
theorem Lm{vs:List AV} : ar (AV.tuple vs)=true:=rfl
theorem FP{b:Bool} : aQ (AV.bool b)=none:=rfl
theorem I4{k:IntKind}{n:Int} : aQ (AV.int k n)=none:=rfl
theorem I8{l:List UInt8} : aQ (AV.str l)=none:=rfl
theorem I3:aQ AV.any=none:=rfl
theorem zZ:aQ AV.cx=none:=rfl
theorem zY:aQ AV.cw=none:=rfl
theorem FU{kz:Nat}{ka va:Bool}{es:List (List AV)} : aQ (AV.dp kz ka va es)=none:=rfl
theorem xw:aQ AV.bV=none:=rfl
theorem vB:aQ AV.bt=none:=rfl
theorem Ch{e:List (List AV)}{own:Bool} : aQ (AV.slice e own)=none:=rfl
theorem FQ{cs:List AV} : aQ (AV.eptr cs)=none:=rfl
theorem I7{loc off:Nat} : aQ (AV.ref loc off)=none:=rfl
theorem FZ{loc off n z:Nat} : aQ (AV.sref loc off n z)=none:=rfl
theorem FY{loc:Nat} : aQ (AV.mref loc)=none:=rfl
theorem FW{g:Nat}{cs:List AV} : aQ (AV.lbox g cs)=some g:=rfl
theorem FX{s g off:Nat} : aQ (AV.lref s g off)=none:=rfl
theorem I5{g:Nat}{e:List (List AV)} : aQ (AV.lsl g e)=some g:=rfl
theorem I6{s g:Nat} : aQ (AV.lsr s g)=none:=rfl
theorem FT{s g i z off:Nat} : aQ (AV.eref s g i z off)=none:=rfl
theorem FV{f:Fn}{fs cs:List AV} : aQ (AV.func f fs cs)=none:=rfl
theorem Cf{t:TypeId}{v:AV} : aQ (AV.iface t v)=none:=rfl
theorem I2{cs:List AV} : aQ (AV.agg cs)=none:=rfl
theorem Ci{vs:List AV} : aQ (AV.tuple vs)=none:=rfl
theorem Fc{b:Bool} : AV.cells (AV.bool b)=some [(.bool b)]:=rfl
theorem Iy{k:IntKind}{n:Int} : AV.cells (AV.int k n)=some [(.int k n)]:=rfl
theorem IC{l:List UInt8} : AV.cells (AV.str l)=some [(.str l)]:=rfl
theorem Ix:AV.cells AV.any=none:=rfl
theorem zB:AV.cells AV.cx=some [.cx]:=rfl
theorem zA:AV.cells AV.cw=some [.cw]:=rfl
theorem Fh{kz:Nat}{ka va:Bool}{es:List (List AV)} : AV.cells (AV.dp kz ka va es)=some [(.dp kz ka va es)]:=rfl
theorem xi:AV.cells AV.bV=some [.bV]:=rfl
theorem uZ:AV.cells AV.bt=some [.bt]:=rfl
theorem By{e:List (List AV)}{own:Bool} : AV.cells (AV.slice e own)=some [(.slice e own)]:=rfl
theorem Ff{cs:List AV} : AV.cells (AV.eptr cs)=some [(.eptr cs)]:=rfl
theorem IB{loc off:Nat} : AV.cells (AV.ref loc off)=some [(.ref loc off)]:=rfl
theorem Fo{loc off n z:Nat} : AV.cells (AV.sref loc off n z)=some [(.sref loc off n z)]:=rfl
theorem Fl{loc:Nat} : AV.cells (AV.mref loc)=some [(.mref loc)]:=rfl
theorem Fj{g:Nat}{cs:List AV} : AV.cells (AV.lbox g cs)=none:=rfl
theorem Fk{s g off:Nat} : AV.cells (AV.lref s g off)=none:=rfl
theorem Iz{g:Nat}{e:List (List AV)} : AV.cells (AV.lsl g e)=none:=rfl
theorem IA{s g:Nat} : AV.cells (AV.lsr s g)=none:=rfl
theorem Fg{s g i z off:Nat} : AV.cells (AV.eref s g i z off)=none:=rfl
theorem Fi{f:Fn}{fs cs:List AV} : AV.cells (AV.func f fs cs)=some [(.func f fs cs)]:=rfl
theorem Bw{t:TypeId}{v:AV} : AV.cells (AV.iface t v)=some [(.iface t v)]:=rfl
theorem Iw{cs:List AV} : AV.cells (AV.agg cs)=some cs:=rfl
theorem Bz{vs:List AV} : AV.cells (AV.tuple vs)=none:=rfl
theorem GJ{b:Bool} : AV.plain (AV.bool b)=true:=rfl
theorem JK{k:IntKind}{n:Int} : AV.plain (AV.int k n)=true:=rfl
theorem JO{l:List UInt8} : AV.plain (AV.str l)=true:=rfl
theorem JJ:AV.plain AV.any=true:=rfl
theorem AF:AV.plain AV.cx=true:=rfl
theorem AE:AV.plain AV.cw=true:=rfl
theorem GM{kz:Nat}{ka va:Bool}{es:List (List AV)} : AV.plain (AV.dp kz ka va es)=true:=rfl
theorem xK:AV.plain AV.bV=true:=rfl
theorem wj:AV.plain AV.bt=true:=rfl
theorem Dg{e:List (List AV)}{own:Bool} : AV.plain (AV.slice e own)=!own:=rfl
theorem GK{cs:List AV} : AV.plain (AV.eptr cs)=true:=rfl
theorem JN{loc off:Nat} : AV.plain (AV.ref loc off)=false:=rfl
theorem GQ{loc off n z:Nat} : AV.plain (AV.sref loc off n z)=false:=rfl
theorem GP{loc:Nat} : AV.plain (AV.mref loc)=false:=rfl
theorem GN{g:Nat}{cs:List AV} : AV.plain (AV.lbox g cs)=false:=rfl
theorem GO{s g off:Nat} : AV.plain (AV.lref s g off)=false:=rfl
theorem JL{g:Nat}{e:List (List AV)} : AV.plain (AV.lsl g e)=false:=rfl
theorem JM{s g:Nat} : AV.plain (AV.lsr s g)=false:=rfl
theorem GL{s g i z off:Nat} : AV.plain (AV.eref s g i z off)=false:=rfl
theorem JI{cs:List AV} : AV.plain (AV.agg cs)=false:=rfl
theorem Dh{vs:List AV} : AV.plain (AV.tuple vs)=false:=rfl
theorem zo{base:Nat}{b:Bool} : AV.aN base (AV.bool b)=AV.plain (.bool b):=rfl
theorem Br{base:Nat}{k:IntKind}{n:Int} : AV.aN base (AV.int k n)=AV.plain (.int k n):=rfl
theorem Bv{base:Nat}{l:List UInt8} : AV.aN base (AV.str l)=AV.plain (.str l):=rfl
theorem Bq{base:Nat} : AV.aN base AV.any=AV.plain .any:=rfl
theorem uY{base:Nat} : AV.aN base AV.cx=AV.plain .cx:=rfl
theorem uX{base:Nat} : AV.aN base AV.cw=AV.plain .cw:=rfl
theorem zr{kz:Nat}{ka va:Bool}{es:List (List AV)}{base:Nat} : AV.aN base (AV.dp kz ka va es)=AV.plain (.dp kz ka va es):=rfl
theorem ui{base:Nat} : AV.aN base AV.bV=AV.plain .bV:=rfl
theorem sx{base:Nat} : AV.aN base AV.bt=AV.plain .bt:=rfl
theorem xg{base:Nat}{e:List (List AV)}{own:Bool} : AV.aN base (AV.slice e own)=AV.plain (.slice e own):=rfl
theorem zp{base:Nat}{cs:List AV} : AV.aN base (AV.eptr cs)=AV.plain (.eptr cs):=rfl
theorem Bu{base:Nat}{loc off:Nat} : AV.aN base (AV.ref loc off)=Nat.blt loc base:=rfl
theorem zy{base:Nat}{loc off n z:Nat} : AV.aN base (AV.sref loc off n z)=Nat.blt loc base:=rfl
theorem zx{base:Nat}{loc:Nat} : AV.aN base (AV.mref loc)=Nat.blt loc base:=rfl
theorem zu{base:Nat}{g:Nat}{cs:List AV} : AV.aN base (AV.lbox g cs)=AV.plain (.lbox g cs):=rfl
theorem zw{base:Nat}{s g off:Nat} : AV.aN base (AV.lref s g off)=AV.plain (.lref s g off):=rfl
theorem Bs{base:Nat}{g:Nat}{e:List (List AV)} : AV.aN base (AV.lsl g e)=AV.plain (.lsl g e):=rfl
theorem Bt{base:Nat}{s g:Nat} : AV.aN base (AV.lsr s g)=AV.plain (.lsr s g):=rfl
theorem zq{base:Nat}{s g i z off:Nat} : AV.aN base (AV.eref s g i z off)=AV.plain (.eref s g i z off):=rfl
theorem zt{base:Nat}{f:Fn}{fs cs:List AV} : AV.aN base (AV.func f fs cs)=AV.plain (.func f fs cs):=rfl
theorem xe{base:Nat}{t:TypeId}{v:AV} : AV.aN base (AV.iface t v)=AV.plain (.iface t v):=rfl
theorem Bp{base:Nat}{cs:List AV} : AV.aN base (AV.agg cs)=AV.plain (.agg cs):=rfl
theorem xh{base:Nat}{vs:List AV} : AV.aN base (AV.tuple vs)=AV.plain (.tuple vs):=rfl
theorem Au{base:Nat}{b:Bool} : AV.bg base (AV.bool b)=AV.aN base (.bool b):=rfl
theorem C7{base:Nat}{k:IntKind}{n:Int} : AV.bg base (AV.int k n)=AV.aN base (.int k n):=rfl
theorem Db{base:Nat}{l:List UInt8} : AV.bg base (AV.str l)=AV.aN base (.str l):=rfl
theorem C6{base:Nat} : AV.bg base AV.any=AV.aN base .any:=rfl
theorem wi{base:Nat} : AV.bg base AV.cx=AV.aN base .cx:=rfl
theorem we{base:Nat} : AV.bg base AV.cw=AV.aN base .cw:=rfl
theorem Ax{kz:Nat}{ka va:Bool}{es:List (List AV)}{base:Nat} : AV.bg base (AV.dp kz ka va es)=AV.aN base (.dp kz ka va es):=rfl
theorem uA{base:Nat} : AV.bg base AV.bV=AV.aN base .bV:=rfl
theorem sZ{base:Nat} : AV.bg base AV.bt=AV.aN base .bt:=rfl
theorem xI{base:Nat}{e:List (List AV)}{own:Bool} : AV.bg base (AV.slice e own)=AV.aN base (.slice e own):=rfl
theorem Av{base:Nat}{cs:List AV} : AV.bg base (AV.eptr cs)=AV.aN base (.eptr cs):=rfl
theorem Da{base:Nat}{loc off:Nat} : AV.bg base (AV.ref loc off)=AV.aN base (.ref loc off):=rfl
theorem AD{base:Nat}{loc off n z:Nat} : AV.bg base (AV.sref loc off n z)=AV.aN base (.sref loc off n z):=rfl
theorem AB{base:Nat}{loc:Nat} : AV.bg base (AV.mref loc)=AV.aN base (.mref loc):=rfl
theorem Az{base:Nat}{g:Nat}{cs:List AV} : AV.bg base (AV.lbox g cs)=AV.aN base (.lbox g cs):=rfl
theorem AA{base:Nat}{s g off:Nat} : AV.bg base (AV.lref s g off)=AV.aN base (.lref s g off):=rfl
theorem C8{base:Nat}{g:Nat}{e:List (List AV)} : AV.bg base (AV.lsl g e)=AV.aN base (.lsl g e):=rfl
theorem C9{base:Nat}{s g:Nat} : AV.bg base (AV.lsr s g)=AV.aN base (.lsr s g):=rfl
theorem Aw{base:Nat}{s g i z off:Nat} : AV.bg base (AV.eref s g i z off)=AV.aN base (.eref s g i z off):=rfl
theorem Ay{base:Nat}{f:Fn}{fs cs:List AV} : AV.bg base (AV.func f fs cs)=AV.aN base (.func f fs cs):=rfl
theorem xG{base:Nat}{t:TypeId}{v:AV} : AV.bg base (AV.iface t v)=AV.aN base (.iface t v):=rfl
theorem C5{base:Nat}{cs:List AV} : AV.bg base (AV.agg cs)=cs.all (AV.aN base):=rfl
theorem xJ{base:Nat}{vs:List AV} : AV.bg base (AV.tuple vs)=AV.aN base (.tuple vs):=rfl
theorem CL{base:Nat}{b:Bool} : AV.leaves base (AV.bool b)=AV.bg base (.bool b):=rfl
theorem Gr{base:Nat}{k:IntKind}{n:Int} : AV.leaves base (AV.int k n)=AV.bg base (.int k n):=rfl
theorem Gv{base:Nat}{l:List UInt8} : AV.leaves base (AV.str l)=AV.bg base (.str l):=rfl
theorem Gq{base:Nat} : AV.leaves base AV.any=AV.bg base .any:=rfl
theorem xD{base:Nat} : AV.leaves base AV.cx=AV.bg base .cx:=rfl
theorem xC{base:Nat} : AV.leaves base AV.cw=AV.bg base .cw:=rfl
theorem CO{kz:Nat}{ka va:Bool}{es:List (List AV)}{base:Nat} : AV.leaves base (AV.dp kz ka va es)=AV.bg base (.dp kz ka va es):=rfl
theorem vS{base:Nat} : AV.leaves base AV.bV=AV.bg base .bV:=rfl
theorem uz{base:Nat} : AV.leaves base AV.bt=AV.bg base .bt:=rfl
theorem Am{base:Nat}{e:List (List AV)}{own:Bool} : AV.leaves base (AV.slice e own)=true:=rfl
theorem CM{base:Nat}{cs:List AV} : AV.leaves base (AV.eptr cs)=AV.bg base (.eptr cs):=rfl
theorem Gu{base:Nat}{loc off:Nat} : AV.leaves base (AV.ref loc off)=AV.bg base (.ref loc off):=rfl
theorem CV{base:Nat}{loc off n z:Nat} : AV.leaves base (AV.sref loc off n z)=AV.bg base (.sref loc off n z):=rfl
theorem CU{base:Nat}{loc:Nat} : AV.leaves base (AV.mref loc)=AV.bg base (.mref loc):=rfl
theorem CQ{base:Nat}{g:Nat}{cs:List AV} : AV.leaves base (AV.lbox g cs)=AV.bg base (.lbox g cs):=rfl
theorem CT{base:Nat}{s g off:Nat} : AV.leaves base (AV.lref s g off)=AV.bg base (.lref s g off):=rfl
theorem Gs{base:Nat}{g:Nat}{e:List (List AV)} : AV.leaves base (AV.lsl g e)=AV.bg base (.lsl g e):=rfl
theorem Gt{base:Nat}{s g:Nat} : AV.leaves base (AV.lsr s g)=AV.bg base (.lsr s g):=rfl
theorem CN{base:Nat}{s g i z off:Nat} : AV.leaves base (AV.eref s g i z off)=AV.bg base (.eref s g i z off):=rfl
theorem CP{base:Nat}{f:Fn}{fs cs:List AV} : AV.leaves base (AV.func f fs cs)=(fs.all (AV.aN base)&&cs.all (AV.aN base)):=rfl
theorem Ak{base:Nat}{t:TypeId}{v:AV} : AV.leaves base (AV.iface t v)=v.aN base:=rfl
theorem Gp{base:Nat}{cs:List AV} : AV.leaves base (AV.agg cs)=AV.bg base (.agg cs):=rfl
theorem An{base:Nat}{vs:List AV} : AV.leaves base (AV.tuple vs)=vs.all (AV.bg base):=rfl
theorem DT{s:Nat}{b:Bool} : gl s (AV.bool b)=(.bool b):=rfl
theorem Ih{s:Nat}{k:IntKind}{n:Int} : gl s (AV.int k n)=(.int k n):=rfl
theorem Il{s:Nat}{l:List UInt8} : gl s (AV.str l)=(.str l):=rfl
theorem Ig{s:Nat} : gl s AV.any=.any:=rfl
theorem zi{s:Nat} : gl s AV.cx=.cx:=rfl
theorem zh{s:Nat} : gl s AV.cw=.cw:=rfl
theorem DW{kz:Nat}{ka va:Bool}{es:List (List AV)}{s:Nat} : gl s (AV.dp kz ka va es)=(.dp kz ka va es):=rfl
theorem w9{s:Nat} : gl s AV.bV=.bV:=rfl
theorem uQ{s:Nat} : gl s AV.bt=.bt:=rfl
theorem Bg{s:Nat}{e:List (List AV)}{own:Bool} : gl s (AV.slice e own)=(.slice e own):=rfl
theorem DU{s:Nat}{cs:List AV} : gl s (AV.eptr cs)=(.eptr cs):=rfl
theorem Ik{s:Nat}{loc off:Nat} : gl s (AV.ref loc off)=(.ref loc off):=rfl
theorem D2{s:Nat}{loc off n z:Nat} : gl s (AV.sref loc off n z)=(.sref loc off n z):=rfl
theorem D1{s:Nat}{loc:Nat} : gl s (AV.mref loc)=(.mref loc):=rfl
theorem DY{s:Nat}{g:Nat}{cs:List AV} : gl s (AV.lbox g cs)=.lref s g 0:=rfl
theorem DZ{s:Nat}{r g off:Nat} : gl s (AV.lref r g off)=(.lref r g off):=rfl
theorem Ii{s:Nat}{g:Nat}{e:List (List AV)} : gl s (AV.lsl g e)=.lsr s g:=rfl
theorem Ij{s:Nat}{r g:Nat} : gl s (AV.lsr r g)=(.lsr r g):=rfl
theorem DV{s:Nat}{r g i z off:Nat} : gl s (AV.eref r g i z off)=(.eref r g i z off):=rfl
theorem DX{s:Nat}{f:Fn}{fs cs:List AV} : gl s (AV.func f fs cs)=(.func f fs cs):=rfl
theorem Be{s:Nat}{t:TypeId}{v:AV} : gl s (AV.iface t v)=(.iface t v):=rfl
theorem Ie{s:Nat}{cs:List AV} : gl s (AV.agg cs)=(.agg cs):=rfl
theorem Bh{s:Nat}{vs:List AV} : gl s (AV.tuple vs)=(.tuple vs):=rfl
end
def cM(A:AP)(d:Bool)(o:Option AV)(t:Nat)(os:List az)(T:aC)(H:ag)(lo gen:Nat)(K:AS->Prop):Prop :=
 bn (o.bind fun z=>cond (d&&(aQ z).isSome) none (some z)) fun z=>WO A d os ⟨T.put t z,H,lo,gen⟩ K
def gZ(A:AP)(d take obj:Bool)(i:Nat)(v:AV)(t:Nat)(os:List az)(T:aC)(H:ag)(lo gen:Nat)(K:AS->Prop):Prop :=
 bn (match v with
  | .lbox g _=>some (AV.lref i g 0,(⟨T,H,lo,gen⟩:AS))
  | .lsl g e=>cond take (cond d none (cond obj (some (.lsl gen e,⟨T.put i .any,H,lo,gen+1⟩)) (cond (gd e) (some (.slice e true,⟨T.put i (.slice e false),H,lo,gen⟩)) none))) (some (.lsr i g,⟨T,H,lo,gen⟩))
  | .slice e own=>cond (take&&own) (cond d none (some (.slice e true,⟨T.put i (.slice e false),H,lo,gen⟩))) (some (.slice e false,⟨T,H,lo,gen⟩))
  | .iter ..=>none
  | v=>some (v,⟨T,H,lo,gen⟩)) fun r=>WO A d os (r.2.bz t r.1) K
def kI(A:AP)(d:Bool)(v:AV)(w:Bool)(t:Nat)(op:dQ)(os:List az)(T:aC)(H:ag)(lo gen:Nat)(K:AS->Prop):Prop :=
 bn (match v with|.bool b=>some (b==w)|.tuple []=>some false|_=>none) fun b =>
  (b=true->WO A d (⟨some t,none,op⟩ :: os) ⟨T,H,lo,gen⟩ K)/\(b=false->WO A d os ⟨T.put t .undef,H,lo,gen⟩ K)
def oz(A:AP)(d:Bool)(r:Option (AV × Option fz))(t:Nat)(os:List az)(T:aC)(H:ag)(lo gen:Nat)(K:AS->Prop):Prop :=
 bn (r.bind fun r=>match r.2 with
  | none=>cond (d&&(aQ r.1).isSome) none (some (r.1,(⟨T,H,lo,gen⟩:AS)))
  | some c=>cond d none (some (r.1,AS.dZ ⟨T,H,lo,gen⟩ c))) fun r=>WO A d os (r.2.bz t r.1) K
def lB(G:Nat->List AV)(T:aC):List ak->List AV
 | []=>[]
 | a :: r=>(a.addr G T).bf :: lB G T r
def jb(G:Nat->List AV)(T:aC):List ak->Bool
 | []=>true
 | a :: r=>ar (a.addr G T)&&jb G T r
theorem ow{G:Nat->List AV}{T:aC} : ∀ l:List ak,l.map (fun a=>(a.addr G T).bf)=lB G T l
 | []=>rfl
 | a :: r=>by simp[lB,ow r]
theorem mJ{G:Nat->List AV}{T:aC} : ∀ l:List ak,(l.map fun a=>a.addr G T).all ar=jb G T l
 | []=>rfl
 | a :: r=>by simp only[aiU,ajV,jb,mJ r]
def oV(G:Nat->List AV)(T:aC):List (Nat × Nat × ak)->List (Nat × Nat × AV)
 | []=>[]
 | (o,z,a) :: r=>(o,z,(a.eval G T).drop) :: oV G T r
theorem yP{G:Nat->List AV}{T:aC} : ∀ l:List (Nat × Nat × ak),l.map (fun p=>(p.1,p.2.1,(p.2.2.eval G T).drop))=oV G T l
 | []=>rfl
 | a :: r=>by simp[oV,yP r]
def lF(G:Nat->List AV)(T:aC):List (Nat × ak)->List (Nat × AV)
 | []=>[]
 | (i,a) :: r=>(i,(a.eval G T).drop) :: lF G T r
theorem sE{G:Nat->List AV}{T:aC} : ∀ l:List (Nat × ak),l.map (fun p=>(p.1,(p.2.eval G T).drop))=lF G T l
 | []=>rfl
 | a :: r=>by simp[lF,sE r]
def GI(G:Nat->List AV)(T:aC):Option ak->Option AV
 | none=>none
 | some a=>some (a.eval G T)
def HX(c a b:AV):Option AV:=match c with
 | .bool t=>some (cond t a.drop b.drop)
 | _=>none
def Ou(b:Bool)(o:Option (List (List AV))):Option AV:=o.bind fun E=>cond (ji b E) (some (.slice E true)) none
def mM(o:Option de)(agg:Bool)(sz off:Nat):Option AV:=match o with
 | some (.box _ cs)=>an false agg sz off cs
 | some (.FL cs)=>an false agg sz off cs
 | some (.dL cs)=>an false agg sz off cs
 | _=>none
def mX(v:AV)(g:Nat)(agg:Bool)(sz off:Nat):Option AV:=match v with
 | .lbox g' cs=>cond (Nat.beq g g') (an false agg sz off cs) none
 | _=>none
def rT(o:Option (List AV))(z:Nat)(agg:Bool)(sz off:Nat):Option AV:=o.bind fun r=>cond (Nat.beq r.length z) (an false agg sz off r) none
def oS(v:AV)(g i z:Nat)(agg:Bool)(sz off:Nat):Option AV:=match v with
 | .lsl g' e=>cond (Nat.beq g g') (rT (e[i]?) z agg sz off) none
 | _=>none
def yG(T:aC)(H:ag)(agg:Bool)(sz:Nat)(x:AV):Option AV:=match x with
 | .eptr cs=>an false agg sz 0 cs
 | .ref loc off=>mM H[loc]? agg sz off
 | .lref b g off=>mX (T b) g agg sz off
 | .eref b g i z off=>oS (T b) g i z agg sz off
 | _=>none
def lR(v:AV)(g:Nat)(r:AV):Option AV:=match v with
 | .lbox g' _=>cond (Nat.beq g g') (some r) none
 | _=>none
def nG(v:AV)(g i:Nat)(r:AV):Option AV:=match v with
 | .lsl g' e=>cond (Nat.beq g g'&&Nat.blt i e.length) (some r) none
 | _=>none
def UG(T:aC)(off:Nat)(x:AV):Option AV:=match x with
 | .ref l o=>some (.ref l (o+off))
 | .eptr cs=>some (.eptr (cs.drop off))
 | .lref b g o=>lR (T b) g (.lref b g (o+off))
 | .eref b g i z o=>nG (T b) g i (.eref b g i z (o+off))
 | _=>none
def V9(x:AV)(agg:Bool)(sz off:Nat):Option AV:=match x with
 | .agg cs=>an false agg sz off cs
 | _=>none
def GZ(sz:Nat)(r:Option (List AV))(f:List AV->AV):Option AV:=r.bind fun r=>cond (Nat.beq r.length sz) (some (f r)) none
def ixV(T:aC)(sz:Nat)(x:AV)(n:Option Nat):Option AV:=match x with
 | .slice e _=>n.bind fun n=>GZ sz (e[n]?) .eptr
 | .sref l o m _=>n.bind fun n=>cond (Nat.blt n m) (some (.ref l (o+n*sz))) none
 | .lsr t g=>match T t with
  | .lsl g' e=>cond (Nat.beq g g') (n.bind fun n=>GZ sz (e[n]?) fun _=>.eref t g n sz 0) none
  | _=>none
 | _=>none
def Gc(agg:Bool)(n sz:Nat)(x:AV)(i:Option Nat):Option AV:=match x with
 | .agg cs=>i.bind fun k=>cond (Nat.blt k n) (an false agg sz (k*sz) cs) none
 | _=>none
def Fb(o:Option UInt8):Option AV:=o.map fun (b:UInt8)=>AV.int .u8 b.toNat
def KP(x:AV)(i:Option Nat):Option AV:=match x with
 | .str l=>i.bind fun n=>Fb (l[n]?)
 | _=>none
def Li(x:AV)(i:Nat):Option AV:=match x with
 | .tuple vs=>(vs[i]?).map AV.bf
 | _=>none
def Gw(T:aC)(k:j5)(x:AV):Option AV:=match x with
 | .lsr t g=>match T t with
  | .lsl g' e=>cond (Nat.beq g g') (jL k (.slice e false)) none
  | _=>none
 | v=>jL k v
def xV(A:AP)(d:Bool)(r:Option (AV × Option fz))(os:List az)(T:aC)(H:ag)(lo gen:Nat)(K:AS->Prop):Prop :=
 bn (r.bind fun r=>match r.2 with
  | none=>cond (d&&(aQ r.1).isSome) none (some (⟨T,H,lo,gen⟩:AS))
  | some c=>cond d none (some (AS.dZ ⟨T,H,lo,gen⟩ c))) fun s=>WO A d os s K
def KS(A:AP)(d:Bool)(f:AV)(vs:List AV)(t:Nat)(os:List az)(T:aC)(H:ag)(lo gen:Nat)(K:AS->Prop):Prop:=match f with
 | .func (.func n) fs cs=>oz A d (aA A n (fs++vs++cs) H) t os T H lo gen K
 | _=>False
def P0(A:AP)(b:Bool)(sz bytes i:Nat)(x y:AV)(t:Nat)(os:List az)(T:aC)(H:ag)(lo gen:Nat)(K:AS->Prop):Prop:=match x with
 | .slice e own=>bn (aq b sz bytes (.slice e own) y) fun z=>WO A false os ⟨(T.put i (.slice e false)).put t z,H,lo,gen⟩ K
 | .ay=>bn (aq b sz bytes (.slice [] true) y) fun z=>WO A false os ⟨T.put t z,H,lo,gen⟩ K
 | _=>False
section
variable {A:AP}{T:aC}{H:ag}{lo gen:Nat}{K:AS->Prop}{d:Bool}{os:List az}{t:Nat}
theorem b7{z:AV}(h:aQ z=none):cM A d (some z) t os T H lo gen K=WO A d os ⟨T.put t z,H,lo,gen⟩ K:=by
 simp[cM,h,av]
theorem T5{b:Bool} : cM A d (some (AV.bool b)) t os T H lo gen K=WO A d os ⟨T.put t (AV.bool b),H,lo,gen⟩ K:=b7 rfl
theorem Y4{k:IntKind}{n:Int} : cM A d (some (AV.int k n)) t os T H lo gen K=WO A d os ⟨T.put t (AV.int k n),H,lo,gen⟩ K:=b7 rfl
theorem Y7{l:List UInt8} : cM A d (some (AV.str l)) t os T H lo gen K=WO A d os ⟨T.put t (AV.str l),H,lo,gen⟩ K:=b7 rfl
theorem Y3:cM A d (some AV.any) t os T H lo gen K=WO A d os ⟨T.put t AV.any,H,lo,gen⟩ K:=b7 rfl
theorem J1:cM A d (some AV.cx) t os T H lo gen K=WO A d os ⟨T.put t AV.cx,H,lo,gen⟩ K:=b7 rfl
theorem J0:cM A d (some AV.cw) t os T H lo gen K=WO A d os ⟨T.put t AV.cw,H,lo,gen⟩ K:=b7 rfl
theorem T8{kz:Nat}{ka va:Bool}{es:List (List AV)} : cM A d (some (AV.dp kz ka va es)) t os T H lo gen K=WO A d os ⟨T.put t (AV.dp kz ka va es),H,lo,gen⟩ K:=b7 rfl
theorem G5:cM A d (some AV.bV) t os T H lo gen K=WO A d os ⟨T.put t AV.bV,H,lo,gen⟩ K:=b7 rfl
theorem Dy:cM A d (some AV.bt) t os T H lo gen K=WO A d os ⟨T.put t AV.bt,H,lo,gen⟩ K:=b7 rfl
theorem wL{e:List (List AV)}{own:Bool} : cM A d (some (AV.slice e own)) t os T H lo gen K=WO A d os ⟨T.put t (AV.slice e own),H,lo,gen⟩ K:=b7 rfl
theorem T6{cs:List AV} : cM A d (some (AV.eptr cs)) t os T H lo gen K=WO A d os ⟨T.put t (AV.eptr cs),H,lo,gen⟩ K:=b7 rfl
theorem Y6{loc off:Nat} : cM A d (some (AV.ref loc off)) t os T H lo gen K=WO A d os ⟨T.put t (AV.ref loc off),H,lo,gen⟩ K:=b7 rfl
theorem Uc{loc off n z:Nat} : cM A d (some (AV.sref loc off n z)) t os T H lo gen K=WO A d os ⟨T.put t (AV.sref loc off n z),H,lo,gen⟩ K:=b7 rfl
theorem Ub{loc:Nat} : cM A d (some (AV.mref loc)) t os T H lo gen K=WO A d os ⟨T.put t (AV.mref loc),H,lo,gen⟩ K:=b7 rfl
theorem Ua{r g off:Nat} : cM A d (some (AV.lref r g off)) t os T H lo gen K=WO A d os ⟨T.put t (AV.lref r g off),H,lo,gen⟩ K:=b7 rfl
theorem Y5{r g:Nat} : cM A d (some (AV.lsr r g)) t os T H lo gen K=WO A d os ⟨T.put t (AV.lsr r g),H,lo,gen⟩ K:=b7 rfl
theorem T7{r g i z off:Nat} : cM A d (some (AV.eref r g i z off)) t os T H lo gen K=WO A d os ⟨T.put t (AV.eref r g i z off),H,lo,gen⟩ K:=b7 rfl
theorem T9{fn:Fn}{fs cs:List AV} : cM A d (some (AV.func fn fs cs)) t os T H lo gen K=WO A d os ⟨T.put t (AV.func fn fs cs),H,lo,gen⟩ K:=b7 rfl
theorem Po{u:TypeId}{v:AV} : cM A d (some (AV.iface u v)) t os T H lo gen K=WO A d os ⟨T.put t (AV.iface u v),H,lo,gen⟩ K:=b7 rfl
theorem Y2{cs:List AV} : cM A d (some (AV.agg cs)) t os T H lo gen K=WO A d os ⟨T.put t (AV.agg cs),H,lo,gen⟩ K:=b7 rfl
theorem Pr{vs:List AV} : cM A d (some (AV.tuple vs)) t os T H lo gen K=WO A d os ⟨T.put t (AV.tuple vs),H,lo,gen⟩ K:=b7 rfl
theorem Pq{o:Option AV}(z:AV)(h:o=some z)(hg:aQ z=none)(hK:WO A d os ⟨T.put t z,H,lo,gen⟩ K):cM A d o t os T H lo gen K:=by
 rw[h,b7 hg];exact hK
theorem dW{op:dQ}{o:Option AV}(h:ai A.aP (aA A) ⟨T,H,lo,gen⟩ op=o.map (·,none)):WO A d (⟨some t,none,op⟩ :: os) ⟨T,H,lo,gen⟩ K=cM A d o t os T H lo gen K:=by
 rw[fa]
 cases o with
 | none=>simp[cM,bQ,h,bn]
 | some z =>
  simp only[cM,bQ,h,aiV,aiP]
  cases hb:(d&&(aQ z).isSome) with
  | true=>simp[bn]
  | false=>simp only[aiQ,av];rfl
section
variable {take obj:Bool}{i:Nat}
theorem SL{b:Bool} : gZ A d take obj i (AV.bool b) t os T H lo gen K=WO A d os ⟨T.put t (AV.bool b),H,lo,gen⟩ K:=av
theorem XW{k:IntKind}{n:Int} : gZ A d take obj i (AV.int k n) t os T H lo gen K=WO A d os ⟨T.put t (AV.int k n),H,lo,gen⟩ K:=av
theorem X2{l:List UInt8} : gZ A d take obj i (AV.str l) t os T H lo gen K=WO A d os ⟨T.put t (AV.str l),H,lo,gen⟩ K:=av
theorem XV:gZ A d take obj i AV.any t os T H lo gen K=WO A d os ⟨T.put t AV.any,H,lo,gen⟩ K:=av
theorem JB:gZ A d take obj i AV.cx t os T H lo gen K=WO A d os ⟨T.put t AV.cx,H,lo,gen⟩ K:=av
theorem JA:gZ A d take obj i AV.cw t os T H lo gen K=WO A d os ⟨T.put t AV.cw,H,lo,gen⟩ K:=av
theorem SO{kz:Nat}{ka va:Bool}{es:List (List AV)} : gZ A d take obj i (AV.dp kz ka va es) t os T H lo gen K=WO A d os ⟨T.put t (AV.dp kz ka va es),H,lo,gen⟩ K:=av
theorem GA:gZ A d take obj i AV.bV t os T H lo gen K=WO A d os ⟨T.put t AV.bV,H,lo,gen⟩ K:=av
theorem C1:gZ A d take obj i AV.bt t os T H lo gen K=WO A d os ⟨T.put t AV.bt,H,lo,gen⟩ K:=av
theorem SM{cs:List AV} : gZ A d take obj i (AV.eptr cs) t os T H lo gen K=WO A d os ⟨T.put t (AV.eptr cs),H,lo,gen⟩ K:=av
theorem XY{loc off:Nat} : gZ A d take obj i (AV.ref loc off) t os T H lo gen K=WO A d os ⟨T.put t (AV.ref loc off),H,lo,gen⟩ K:=av
theorem SY{loc off n z:Nat} : gZ A d take obj i (AV.sref loc off n z) t os T H lo gen K=WO A d os ⟨T.put t (AV.sref loc off n z),H,lo,gen⟩ K:=av
theorem SX{loc:Nat} : gZ A d take obj i (AV.mref loc) t os T H lo gen K=WO A d os ⟨T.put t (AV.mref loc),H,lo,gen⟩ K:=av
theorem SQ{g:Nat}{cs:List AV} : gZ A d take obj i (AV.lbox g cs) t os T H lo gen K=WO A d os ⟨T.put t (AV.lref i g 0),H,lo,gen⟩ K:=av
theorem SS{r g off:Nat} : gZ A d take obj i (AV.lref r g off) t os T H lo gen K=WO A d os ⟨T.put t (AV.lref r g off),H,lo,gen⟩ K:=av
theorem XX{r g:Nat} : gZ A d take obj i (AV.lsr r g) t os T H lo gen K=WO A d os ⟨T.put t (AV.lsr r g),H,lo,gen⟩ K:=av
theorem SN{r g j z off:Nat} : gZ A d take obj i (AV.eref r g j z off) t os T H lo gen K=WO A d os ⟨T.put t (AV.eref r g j z off),H,lo,gen⟩ K:=av
theorem SP{fn:Fn}{fs cs:List AV} : gZ A d take obj i (AV.func fn fs cs) t os T H lo gen K=WO A d os ⟨T.put t (AV.func fn fs cs),H,lo,gen⟩ K:=av
theorem Oo{u:TypeId}{v:AV} : gZ A d take obj i (AV.iface u v) t os T H lo gen K=WO A d os ⟨T.put t (AV.iface u v),H,lo,gen⟩ K:=av
theorem XU{cs:List AV} : gZ A d take obj i (AV.agg cs) t os T H lo gen K=WO A d os ⟨T.put t (AV.agg cs),H,lo,gen⟩ K:=av
theorem Ot{vs:List AV} : gZ A d take obj i (AV.tuple vs) t os T H lo gen K=WO A d os ⟨T.put t (AV.tuple vs),H,lo,gen⟩ K:=av
theorem X0{e:List (List AV)} : gZ A d take obj i (.slice e false) t os T H lo gen K=WO A d os ⟨T.put t (.slice e false),H,lo,gen⟩ K:=by
 simp[gZ,av,AS.bz]
theorem X1{e:List (List AV)} : gZ A false true obj i (.slice e true) t os T H lo gen K=WO A false os ⟨(T.put i (.slice e false)).put t (.slice e true),H,lo,gen⟩ K:=by
 simp[gZ,av,AS.bz]
theorem XZ{e:List (List AV)}{own:Bool} : gZ A d false obj i (.slice e own) t os T H lo gen K=WO A d os ⟨T.put t (.slice e false),H,lo,gen⟩ K:=by
 simp[gZ,av,AS.bz]
theorem SU{g:Nat}{e:List (List AV)} : gZ A d false obj i (.lsl g e) t os T H lo gen K=WO A d os ⟨T.put t (.lsr i g),H,lo,gen⟩ K:=by
 simp[gZ,av,AS.bz]
theorem SW{g:Nat}{e:List (List AV)}(hn:gd e=true):gZ A false true false i (.lsl g e) t os T H lo gen K=WO A false os ⟨(T.put i (.slice e false)).put t (.slice e true),H,lo,gen⟩ K:=by
 simp[gZ,av,AS.bz,hn]
theorem SV{g:Nat}{e:List (List AV)} : gZ A false true true i (.lsl g e) t os T H lo gen K=WO A false os ⟨(T.put i .any).put t (.lsl gen e),H,lo,gen+1⟩ K:=by
 simp[gZ,av,AS.bz]
end
theorem acb{take obj:Bool}{i:Nat} : WO A d (⟨some t,none,.mov take obj (.tmp i)⟩ :: os) ⟨T,H,lo,gen⟩ K=gZ A d take obj i (T i) t os T H lo gen K:=by
 rw[fa]
 simp only[gZ,bQ,ai,kO]
 cases hT:T i with
 | slice e own=>cases take<;>cases own<;>cases d<;>simp[bn,AS.ca,AS.bz,aQ]
 | lbox g cs=>simp[bn,AS.ca,AS.bz,aQ]
 | lsl g e=>cases take<;>cases obj<;>cases d<;>cases hn:gd e<;>simp[bn,AS.ca,AS.bz,aQ,hn]
 | _=>simp[bn,AS.ca,AS.bz,aQ]
theorem GW{take obj:Bool}{v:AV} : WO A d (⟨some t,none,.mov take obj (.a8 v)⟩ :: os) ⟨T,H,lo,gen⟩ K=cM A d (some v) t os T H lo gen K:=dW rfl
theorem YC{take obj:Bool}{g:Nat} : WO A d (⟨some t,none,.mov take obj (.aP g)⟩ :: os) ⟨T,H,lo,gen⟩ K=cM A d (some (.eptr (A.aP g))) t os T H lo gen K:=dW rfl
theorem YB{take obj:Bool}{f:FuncId} : WO A d (⟨some t,none,.mov take obj (.fn f)⟩ :: os) ⟨T,H,lo,gen⟩ K=cM A d (some (.func (.func f) [] [])) t os T H lo gen K:=dW rfl
theorem Tt{g:Nat}{w:Bool}{op:dQ} : WO A d (⟨some t,some (g,w),op⟩ :: os) ⟨T,H,lo,gen⟩ K=kI A d (T g) w t op os T H lo gen K:=by
 rw[fa]
 simp only[kI,fa]
 unfold bQ
 simp only
 cases hT:T g with
 | bool b =>
  cases hb:(b==w) with
  | true=>simp only[hb,av,cond_true,forall_const,Bool.true_eq_false,false_implies,aj4,eq_self]
  | false=>simp only[hb,av,aiQ,forall_const,ajM,false_implies,ald,eq_self,AS.ca,AS.bz]
 | tuple l =>
  cases l with
  | nil=>simp only[av,forall_const,ajM,false_implies,ald,eq_self,AS.ca,AS.bz]
  | cons a l=>simp[bn]
 | _=>simp[bn]
theorem ab5{op:dQ} : kI A d (.bool true) true t op os T H lo gen K=WO A d (⟨some t,none,op⟩ :: os) ⟨T,H,lo,gen⟩ K:=by simp[kI,av]
theorem ab2{op:dQ} : kI A d (.bool false) false t op os T H lo gen K=WO A d (⟨some t,none,op⟩ :: os) ⟨T,H,lo,gen⟩ K:=by simp[kI,av]
theorem ab4{op:dQ} : kI A d (.bool true) false t op os T H lo gen K=WO A d os ⟨T.put t .undef,H,lo,gen⟩ K:=by simp[kI,av]
theorem ab3{op:dQ} : kI A d (.bool false) true t op os T H lo gen K=WO A d os ⟨T.put t .undef,H,lo,gen⟩ K:=by simp[kI,av]
theorem ab6{op:dQ}{w:Bool} : kI A d (.tuple []) w t op os T H lo gen K=WO A d os ⟨T.put t .undef,H,lo,gen⟩ K:=by simp[kI,av]
theorem YE{c a b:ak} : WO A d (⟨some t,none,.pick c a b⟩ :: os) ⟨T,H,lo,gen⟩ K=cM A d (HX (c.eval A.aP T) (a.addr A.aP T) (b.addr A.aP T)) t os T H lo gen K:=by
 refine dW ?_
 simp only[ai,HX]
 cases c.eval A.aP T<;>rfl
theorem TI{x y:AV} : HX (.bool true) x y=some x.drop:=rfl
theorem TH{x y:AV} : HX (.bool false) x y=some y.drop:=rfl
theorem OM{z:List AV} : WO A false (⟨some t,none,.allocL z⟩ :: os) ⟨T,H,lo,gen⟩ K=WO A false os ⟨T.put t (.lbox gen z),H,lo,gen+1⟩ K:=by
 rw[fa];simp only[bQ,ai,aiP,aiQ,av];rfl
theorem OL{ty:TypeId}{z:List AV} : WO A false (⟨some t,none,.ot ty z⟩ :: os) ⟨T,H,lo,gen⟩ K=WO A false os ⟨T.put t (.ref H.length 0),H++[.box ty z],cond (Nat.blt H.length lo) H.length lo,gen⟩ K:=by
 rw[fa];simp only[bQ,ai,aiP,aiQ,av];rfl
theorem Tf{z:List AV}{ps:List (Nat × Nat × ak)} : WO A d (⟨some t,none,.build z ps⟩ :: os) ⟨T,H,lo,gen⟩ K=cM A d ((cF z (oV A.aP T ps)).map .agg) t os T H lo gen K:=by
 refine dW ?_
 simp only[ai,yP,akK];rfl
theorem s9{b:Bool}{sz:Nat}{z:List (List AV)}{ps:List (Nat × ak)} : WO A d (⟨some t,none,.mkslice b sz z ps⟩ :: os) ⟨T,H,lo,gen⟩ K=cM A d (Ou b (bL sz z (lF A.aP T ps))) t os T H lo gen K:=by
 refine dW ?_
 simp only[ai,sE,Ou]
 cases bL sz z (lF A.aP T ps) with
 | none=>rfl
 | some E=>simp only[aiP];cases ji b E<;>rfl
theorem aeY{b:Bool}{E:List (List AV)} : Ou b (some E)=cond (ji b E) (some (.slice E true)) none:=rfl
theorem Tx{agg:Bool}{sz:Nat}{x:ak} : WO A d (⟨some t,none,.load false agg sz x⟩ :: os) ⟨T,H,lo,gen⟩ K=cM A d (yG T H agg sz (x.addr A.aP T)) t os T H lo gen K:=by
 refine dW ?_
 simp only[ai,cG,yG,ajr,aiQ]
 cases x.addr A.aP T with
 | ref loc off=>cases hl:H[loc]? with
  | none=>simp only[hl,mM];rfl
  | some o=>cases o<;>simp only[hl,mM]<;>rfl
 | lref b g off =>
  cases hb:T b with
  | lbox g' cs=>simp only[hb,mX];cases Nat.beq g g'<;>rfl
  | _=>simp only[hb,mX];rfl
 | eref b g i z off =>
  cases hb:T b with
  | lsl g' e =>
   simp only[hb,oS,rT]
   cases Nat.beq g g' with
   | false=>rfl
   | true =>
    simp only[cond_true]
    cases e[i]? with
    | none=>rfl
    | some r=>simp only[aiP];cases Nat.beq r.length z<;>rfl
  | _=>simp only[hb,oS];rfl
 | _=>rfl
theorem TC{agg:Bool}{sz b g i z off:Nat} : yG T H agg sz (.eref b g i z off)=oS (T b) g i z agg sz off:=rfl
theorem YA{g g' i z:Nat}{e:List (List AV)}{agg:Bool}{sz off:Nat} : oS (.lsl g e) g' i z agg sz off=cond (Nat.beq g' g) (rT (e[i]?) z agg sz off) none:=rfl
theorem YR{r:List AV}{z:Nat}{agg:Bool}{sz off:Nat} : rT (some r) z agg sz off=cond (Nat.beq r.length z) (an false agg sz off r) none:=rfl
theorem Ty{agg:Bool}{sz:Nat}{cs:List AV} : yG T H agg sz (.eptr cs)=an false agg sz 0 cs:=rfl
theorem TA{agg:Bool}{sz loc off:Nat} : yG T H agg sz (.ref loc off)=mM H[loc]? agg sz off:=rfl
theorem Ym{ty:TypeId}{cs:List AV}{agg:Bool}{sz off:Nat} : mM (some (.box ty cs)) agg sz off=an false agg sz off cs:=rfl
theorem Tz{agg:Bool}{sz b g off:Nat} : yG T H agg sz (.lref b g off)=mX (T b) g agg sz off:=rfl
theorem Tw{g g' : Nat}{cs:List AV}{agg:Bool}{sz off:Nat} : mX (.lbox g cs) g' agg sz off=cond (Nat.beq g' g) (an false agg sz off cs) none:=rfl
theorem OQ{sz off:Nat}{cs:List AV} : an false true sz off cs=cond (Nat.ble (off+sz) cs.length) (some (.agg (((cs.drop off).take sz).map AV.drop))) none:=rfl
theorem OP{sz off:Nat}{cs:List AV} : an false false sz off cs=(cs[off]?).map AV.drop:=by
 simp only[an,aiQ]
theorem abM{op:BinOp}{q:se}{x y:ak} : WO A d (⟨some t,none,.bin op q x y⟩ :: os) ⟨T,H,lo,gen⟩ K=cM A d (uT op q (n7 x || n7 y) (x.eval A.aP T) (y.eval A.aP T)) t os T H lo gen K:=dW rfl
theorem aeZ{mx:Bool}{x y:ak} : WO A d (⟨some t,none,.mm mx x y⟩ :: os) ⟨T,H,lo,gen⟩ K=cM A d (Ov mx (x.eval A.aP T) (y.eval A.aP T)) t os T H lo gen K:=dW rfl
theorem aca{k j:IntKind}{mx:Bool}{a b:Int} : Ov mx (.int k a) (.int j b)=cond (decide (k=j)) (some (.int k (cond mx (if b>a then b else a) (if b<a then b else a)))) none:=rfl
theorem ae1{op:UnOp}{x:ak} : WO A d (⟨some t,none,.un op x⟩ :: os) ⟨T,H,lo,gen⟩ K=cM A d (AY op (x.eval A.aP T)) t os T H lo gen K:=dW rfl
theorem Ys{c:uO}{x:ak} : WO A d (⟨some t,none,.conv c x⟩ :: os) ⟨T,H,lo,gen⟩ K=cM A d (jH c (x.eval A.aP T)) t os T H lo gen K:=dW rfl
theorem TN{k:sk}{x:ak}{l h m:Option ak} : WO A d (⟨some t,none,.slice k x l h m⟩ :: os) ⟨T,H,lo,gen⟩ K=cM A d (gB k (x.eval A.aP T) (GI A.aP T l) (GI A.aP T h) (GI A.aP T m)) t os T H lo gen K:=by
 refine dW ?_
 cases l<;>cases h<;>cases m<;>rfl
theorem abL{op:BinOp}{q:se}{c:Bool}{j k:IntKind}{a b:Int} : uT op q c (.int j a) (.int k b)=cond (decide (j=k)) (aa op j a b) none:=rfl
theorem abQ{op:BinOp}{q:se}{c:Bool}{a b:List UInt8} : uT op q c (.str a) (.str b)=jE op a b:=rfl
theorem abK{op:BinOp}{c:Bool}{a b:Bool} : uT op .bool c (.bool a) (.bool b)=jY op (a==b):=rfl
theorem Dl{off:Nat}{x:ak} : WO A d (⟨some t,none,.fieldAddr off x⟩ :: os) ⟨T,H,lo,gen⟩ K=cM A d (UG T off (x.addr A.aP T)) t os T H lo gen K:=by
 refine dW ?_
 simp only[ai,UG]
 cases x.addr A.aP T with
 | lref b g o =>
  cases hb:T b with
  | lbox g' cs=>simp only[hb,bO,fK,lR];cases Nat.beq g g'<;>rfl
  | _=>simp only[hb,bO,lR];rfl
 | eref b g i z o =>
  cases hb:T b with
  | lsl g' e=>simp only[hb,bO,fK,nG];cases (Nat.beq g g'&&Nat.blt i e.length)<;>rfl
  | _=>simp only[hb,bO,nG];rfl
 | _=>rfl
theorem abX{off:Nat}{cs:List AV} : UG T off (.eptr cs)=some (.eptr (cs.drop off)):=rfl
theorem abZ{off l o:Nat} : UG T off (.ref l o)=some (.ref l (o+off)):=rfl
theorem abY{off b g o:Nat} : UG T off (.lref b g o)=lR (T b) g (.lref b g (o+off)):=rfl
theorem GV{g g' : Nat}{cs:List AV}{r:AV} : lR (.lbox g cs) g' r=cond (Nat.beq g' g) (some r) none:=rfl
theorem ab0{off b g i z o:Nat} : UG T off (.eref b g i z o)=nG (T b) g i (.eref b g i z (o+off)):=rfl
theorem JS{g g' i:Nat}{e:List (List AV)}{r:AV} : nG (.lsl g e) g' i r=cond (Nat.beq g' g&&Nat.blt i e.length) (some r) none:=rfl
theorem Tv{n sz:Nat}{x i:ak} : WO A d (⟨some t,none,.ixArr n sz x i⟩ :: os) ⟨T,H,lo,gen⟩ K=cM A d ((asNat (i.eval A.aP T)).bind fun k=>cond (Nat.blt k n) (UG T (k*sz) (x.addr A.aP T)) none) t os T H lo gen K:=by
 refine dW ?_
 simp only[ai]
 cases asNat (i.eval A.aP T) with
 | none=>rfl
 | some k =>
  simp only[aiP]
  cases Nat.blt k n with
  | false=>rfl
  | true =>
   simp only[ajo,cond_true,UG]
   cases x.addr A.aP T with
   | lref b g o =>
    cases hb:T b with
    | lbox g' cs=>simp only[hb,bO,fK,lR];cases Nat.beq g g'<;>rfl
    | _=>simp only[hb,bO,lR];rfl
   | eref b g i z o =>
    cases hb:T b with
    | lsl g' e=>simp only[hb,bO,fK,nG];cases (Nat.beq g g'&&Nat.blt i e.length)<;>rfl
    | _=>simp only[hb,bO,nG];rfl
   | _=>rfl
theorem OR{agg:Bool}{off sz:Nat}{cs:List AV} : V9 (.agg cs) agg sz off=an false agg sz off cs:=rfl
theorem Yu{sz:Nat}{x i:ak} : WO A d (⟨some t,none,.ixSl sz x i⟩ :: os) ⟨T,H,lo,gen⟩ K=cM A d (ixV T sz (x.addr A.aP T) (asNat (i.eval A.aP T))) t os T H lo gen K:=by
 refine dW ?_
 simp only[ai,ixV]
 cases x.addr A.aP T with
 | slice e own =>
  cases asNat (i.eval A.aP T) with
  | none=>rfl
  | some n =>
   simp only[aiP,GZ]
   cases e[n]? with
   | none=>rfl
   | some r=>simp only[aiP];cases Nat.beq r.length sz<;>rfl
 | sref l o m z =>
  cases asNat (i.eval A.aP T) with
  | none=>rfl
  | some n=>simp only[aiP];cases Nat.blt n m<;>rfl
 | lsr s g =>
  cases hs:T s with
  | lsl g' e =>
   simp only[hs]
   cases Nat.beq g g' with
   | false=>rfl
   | true =>
    simp only[cond_true]
    cases asNat (i.eval A.aP T) with
    | none=>rfl
    | some n =>
     simp only[aiP,GZ]
     cases e[n]? with
     | none=>rfl
     | some r=>simp only[aiP];cases Nat.beq r.length sz<;>rfl
  | _=>simp[hs]
 | _=>rfl
theorem ab9{sz n:Nat}{e:List (List AV)}{own:Bool} : ixV T sz (.slice e own) (some n)=GZ sz (e[n]?) .eptr:=rfl
theorem ab8{sz n l o m z:Nat} : ixV T sz (.sref l o m z) (some n)=cond (Nat.blt n m) (some (.ref l (o+n*sz))) none:=rfl
theorem ab7{sz n s g:Nat} : ixV T sz (.lsr s g) (some n)=(match T s with|.lsl g' e=>cond (Nat.beq g g') (GZ sz (e[n]?) fun _=>.eref s g n sz 0) none|_=>none):=rfl
theorem YS{sz:Nat}{r:List AV}{f:List AV->AV} : GZ sz (some r) f=cond (Nat.beq r.length sz) (some (f r)) none:=rfl
theorem Tu{agg:Bool}{n sz:Nat}{x i:ak} : WO A d (⟨some t,none,.index agg n sz x i⟩ :: os) ⟨T,H,lo,gen⟩ K=cM A d (Gc agg n sz (x.eval A.aP T) (asNat (i.eval A.aP T))) t os T H lo gen K:=by
 refine dW ?_
 simp only[ai,Gc]
 cases asNat (i.eval A.aP T) with
 | none=>cases x.eval A.aP T<;>rfl
 | some k =>
  simp only[aiP]
  cases Nat.blt k n with
  | false=>cases x.eval A.aP T<;>rfl
  | true=>cases x.eval A.aP T<;>rfl
theorem OS{agg:Bool}{n sz k:Nat}{cs:List AV} : Gc agg n sz (.agg cs) (some k)=cond (Nat.blt k n) (an false agg sz (k*sz) cs) none:=rfl
theorem GU{x i:ak} : WO A d (⟨some t,none,.indexStr x i⟩ :: os) ⟨T,H,lo,gen⟩ K=cM A d (KP (x.eval A.aP T) (asNat (i.eval A.aP T))) t os T H lo gen K:=by
 refine dW ?_
 simp only[ai,KP]
 cases x.eval A.aP T with
 | str l =>
  cases asNat (i.eval A.aP T) with
  | none=>rfl
  | some n=>simp only[aiP];cases l[n]?<;>rfl
 | _=>rfl
theorem Tg{l:List UInt8}{n:Nat} : KP (.str l) (some n)=Fb (l[n]?):=rfl
theorem OO{b:UInt8} : Fb (some b)=some (.int .u8 b.toNat):=rfl
theorem JR{x:ak}{i:Nat} : WO A d (⟨some t,none,.extract x i⟩ :: os) ⟨T,H,lo,gen⟩ K=cM A d (Li (x.eval A.aP T) i) t os T H lo gen K:=by
 refine dW ?_
 simp only[ai,Li]
 cases x.eval A.aP T with
 | tuple vs=>simp only;cases vs[i]?<;>rfl
 | _=>rfl
theorem Ts{vs:List AV}{i:Nat} : Li (.tuple vs) i=(vs[i]?).map AV.bf:=rfl
theorem ab'{k:j5}{x:ak} : WO A d (⟨some t,none,.len k x⟩ :: os) ⟨T,H,lo,gen⟩ K=cM A d (Gw T k (x.addr A.aP T)) t os T H lo gen K:=by
 refine dW ?_
 simp only[ai,Gw]
 cases x.addr A.aP T with
 | lsr s g =>
  cases hs:T s with
  | lsl g' e=>simp only[hs];cases Nat.beq g g'<;>rfl
  | _=>simp[hs]
 | _=>rfl
theorem Yy{l:List UInt8} : Gw T .str (.str l)=some (.int .i64 l.length):=rfl
theorem Yv{e:List (List AV)}{own:Bool} : Gw T .sl (.slice e own)=some (.int .i64 e.length):=rfl
theorem Yx{l o m z:Nat} : Gw T .sl (.sref l o m z)=some (.int .i64 m):=rfl
theorem Yw{k:j5}{s g:Nat} : Gw T k (.lsr s g)=(match T s with|.lsl g' e=>cond (Nat.beq g g') (jL k (.slice e false)) none|_=>none):=rfl
theorem Yp{f:FuncId}{args:List ak} : WO A d (⟨some t,none,.call (.fn f) args⟩ :: os) ⟨T,H,lo,gen⟩ K=(jb A.aP T args=true/\oz A d (aA A f (lB A.aP T args) H) t os T H lo gen K):=by
 rw[fa]
 simp only[bQ,ai,ak.eval,mJ,ow,oz,aj5,ajh]
 refine propext ?_
 cases jb A.aP T args with
 | false=>simp[bn]
 | true =>
  simp only[cond_true,ald]
  cases aA A f (lB A.aP T args) H with
  | none=>simp[bn]
  | some r =>
   obtain⟨v,c⟩:=r
   cases c with
   | none=>simp only[aiV,ak',aiP];cases (d&&(aQ v).isSome)<;>simp[bn,AS.ca]
   | some c=>simp only[aiV,aiP];cases d<;>simp[bn,AS.ca]
theorem Tj{f:FuncId}{args:List ak} : WO A d (⟨none,none,.call (.fn f) args⟩ :: os) ⟨T,H,lo,gen⟩ K=(jb A.aP T args=true/\xV A d (aA A f (lB A.aP T args) H) os T H lo gen K):=by
 rw[fa]
 simp only[bQ,ai,ak.eval,mJ,ow,xV,aj5,ajh]
 refine propext ?_
 cases jb A.aP T args with
 | false=>simp[bn]
 | true =>
  simp only[cond_true,ald]
  cases aA A f (lB A.aP T args) H with
  | none=>simp[bn]
  | some r =>
   obtain⟨v,c⟩:=r
   cases c with
   | none=>simp only[aiV,ak',aiP];cases (d&&(aQ v).isSome)<;>simp[bn,AS.ca]
   | some c=>simp only[aiV,aiP];cases d<;>simp[bn,AS.ca]
theorem Tk{i:Nat}{args:List ak} : WO A d (⟨some t,none,.call (.tmp i) args⟩ :: os) ⟨T,H,lo,gen⟩ K=(jb A.aP T args=true/\KS A d (T i) (lB A.aP T args) t os T H lo gen K):=by
 rw[fa]
 simp only[bQ,ai,ak.eval,mJ,ow,KS,oz]
 refine propext ?_
 cases hT:T i with
 | func fn fs cs =>
  cases fn with
  | func n =>
   cases jb A.aP T args with
   | false=>simp[bn]
   | true =>
    simp only[cond_true,ald]
    cases aA A n (fs++lB A.aP T args++cs) H with
    | none=>simp[bn]
    | some r =>
     obtain⟨v,c⟩:=r
     cases c with
     | none=>simp only[aiV,ak',aiP];cases (d&&(aQ v).isSome)<;>simp[bn,AS.ca]
     | some c=>simp only[aiV,aiP];cases d<;>simp[bn,AS.ca]
  | _=>simp[bn]
 | _=>simp[bn]
theorem Th{n:FuncId}{fs vs cs:List AV} : KS A d (.func (.func n) fs cs) vs t os T H lo gen K=oz A d (aA A n (fs++vs++cs) H) t os T H lo gen K:=rfl
theorem ach{v:AV} : oz A false (some (v,none)) t os T H lo gen K=WO A false os ⟨T.put t v,H,lo,gen⟩ K:=by
 simp[oz,av,AS.bz]
theorem YP{v:AV} : oz A true (some (v,none)) t os T H lo gen K=cM A true (some v) t os T H lo gen K:=by
 simp only[oz,cM,aiP]
 cases (aQ v).isSome<;>simp[bn,AS.bz]
theorem YO{v:AV}{h:ag}{l:Nat} : oz A false (some (v,some ⟨h,l⟩)) t os T H lo gen K=WO A false os ⟨T.put t v,h,cond (Nat.blt l lo) l lo,gen⟩ K:=by
 simp[oz,av,AS.bz,AS.dZ]
theorem YQ{v:AV} : xV A false (some (v,none)) os T H lo gen K=WO A false os ⟨T,H,lo,gen⟩ K:=by
 simp[xV,av]
theorem TM{v:AV}{h:ag}{l:Nat} : xV A false (some (v,some ⟨h,l⟩)) os T H lo gen K=WO A false os ⟨T,h,cond (Nat.blt l lo) l lo,gen⟩ K:=by
 simp[xV,av,AS.dZ]
theorem ON{b:Bool}{sz bytes i:Nat}{y:ak} : WO A false (⟨some t,none,.append b false sz bytes (.tmp i) y⟩ :: os) ⟨T,H,lo,gen⟩ K=P0 A b sz bytes i (T i) (y.eval A.aP T) t os T H lo gen K:=by
 rw[fa]
 simp only[bQ,ai,dX,P0]
 cases hT:T i with
 | slice e own =>
  simp only[aiQ,Option.map_eq_map]
  cases aq b sz bytes (.slice e own) (y.eval A.aP T) with
  | none=>simp[bn]
  | some z=>simp[bn,AS.ca,AS.bz]
 | lsl g e =>
  simp only[ajr,aiQ]
  cases dG sz (y.eval A.aP T)<;>simp[bn]
 | ay =>
  simp only[aiQ]
  cases aq b sz bytes (.slice [] true) (y.eval A.aP T) with
  | none=>simp[bn]
  | some z=>simp[bn,AS.ca,AS.bz]
 | _=>simp[bn]
theorem Yj{b:Bool}{sz bytes i:Nat}{y:AV} : P0 A b sz bytes i .ay y t os T H lo gen K=bn (aq b sz bytes (.slice [] true) y) fun z=>WO A false os ⟨T.put t z,H,lo,gen⟩ K:=rfl
theorem Yh{b:Bool}{sz bytes i:Nat}{e:List (List AV)}{own:Bool}{y:AV} : P0 A b sz bytes i (.slice e own) y t os T H lo gen K=bn (aq b sz bytes (.slice e own) y) fun z=>WO A false os ⟨(T.put i (.slice e false)).put t z,H,lo,gen⟩ K:=rfl
theorem Yl{b:Bool}{sz bytes:Nat}{v:AV}{y:ak} : WO A false (⟨some t,none,.append b false sz bytes (.a8 v) y⟩ :: os) ⟨T,H,lo,gen⟩ K=cM A false (aq b sz bytes v (y.eval A.aP T)) t os T H lo gen K:=by
 refine dW ?_
 simp only[ai,dX,aiQ,ak.eval]
theorem TO{dst:Option Nat}{sz:Nat}{a v:ak} : WO A d (⟨dst,none,.store sz a v⟩ :: os) ⟨T,H,lo,gen⟩ K=bn (bQ A.aP (aA A) d ⟨T,H,lo,gen⟩ ⟨dst,none,.store sz a v⟩) fun s'=>WO A d os s' K:=fa
theorem TB{dst:Option Nat}{agg:Bool}{sz:Nat}{x:ak} : WO A d (⟨dst,none,.load true agg sz x⟩ :: os) ⟨T,H,lo,gen⟩ K=bn (bQ A.aP (aA A) d ⟨T,H,lo,gen⟩ ⟨dst,none,.load true agg sz x⟩) fun s'=>WO A d os s' K:=fa
theorem GX{dst:Option Nat}{x:ak} : WO A d (⟨dst,none,.nilCheck x⟩ :: os) ⟨T,H,lo,gen⟩ K=bn (bQ A.aP (aA A) d ⟨T,H,lo,gen⟩ ⟨dst,none,.nilCheck x⟩) fun s'=>WO A d os s' K:=fa
theorem OU{dst:Option Nat}{f:Fn}{a b:List ak} : WO A d (⟨dst,none,.mkfunc f a b⟩ :: os) ⟨T,H,lo,gen⟩ K=bn (bQ A.aP (aA A) d ⟨T,H,lo,gen⟩ ⟨dst,none,.mkfunc f a b⟩) fun s'=>WO A d os s' K:=fa
end
theorem Tc{G:Nat->List AV}{T:aC}{v:AV} : ak.addr G T (.a8 v)=v:=rfl
theorem Te{G:Nat->List AV}{T:aC}{g:Nat} : ak.addr G T (.aP g)=.eptr (G g):=rfl
theorem Td{G:Nat->List AV}{T:aC}{f:FuncId} : ak.addr G T (.fn f)=.func (.func f) [] []:=rfl
def spK(sz:Nat)(es:List (List AV))(i:Nat)(o:Option (List AV))(r:List (Nat × AV)):Option (List (List AV)):=match o with
 | none=>none
 | some cs=>cond (Nat.blt i es.length) (bL sz (es.set i cs) r) none
theorem ack{sz:Nat}{es:List (List AV)} : bL sz es []=some es:=rfl
theorem aci{sz i:Nat}{es:List (List AV)}{v:AV}{r:List (Nat × AV)} : bL sz es ((i,v) :: r)=spK sz es i (v.elem sz) r:=by
 simp only[bL,spK]
 cases v.elem sz<;>rfl
theorem acj{sz i:Nat}{es:List (List AV)}{cs:List AV}{r:List (Nat × AV)} : spK sz es i (some cs) r=cond (Nat.blt i es.length) (bL sz (es.set i cs) r) none:=rfl
theorem Tn{sz:Nat}{cs:List AV} : AV.elem sz (.agg cs)=cond (Nat.beq (cs.map AV.drop).length sz&&(cs.map AV.drop).all AV.plain) (some (cs.map AV.drop)) none:=rfl
theorem Tp{k:IntKind}{n:Int} : AV.elem 1 (.int k n)=some [.int k n]:=rfl
theorem Tr{l:List UInt8} : AV.elem 1 (.str l)=some [.str l]:=rfl
theorem To{b:Bool} : AV.elem 1 (.bool b)=some [.bool b]:=rfl
theorem Tq{e:List (List AV)}{o:Bool} : AV.elem 1 (.slice e o)=some [.slice e false]:=rfl
def bpK(cells:List AV)(off sz:Nat)(o:Option (List AV))(r:List (Nat × Nat × AV)):Option (List AV):=match o with
 | none=>none
 | some cs=>cond (Nat.beq cs.length sz&&Nat.ble (off+cs.length) cells.length) (cF (putAt cells off (cs.map AV.drop)) r) none
theorem abP{cells:List AV} : cF cells []=some cells:=rfl
theorem abN{cells:List AV}{off sz:Nat}{v:AV}{r:List (Nat × Nat × AV)} : cF cells ((off,sz,v) :: r)=bpK cells off sz v.cells r:=by
 simp only[cF,bpK]
 cases v.cells<;>rfl
theorem abO{cells cs:List AV}{off sz:Nat}{r:List (Nat × Nat × AV)} : bpK cells off sz (some cs) r=cond (Nat.beq cs.length sz&&Nat.ble (off+cs.length) cells.length) (cF (putAt cells off (cs.map AV.drop)) r) none:=rfl
def Vc:AV->Bool
 | .int .u8 _=>false
 | .any=>false
 | _=>true
def PV:List AV->Bool
 | []=>true
 | x :: r=>Vc x&&PV r
def nb:List (List AV)->Bool
 | []=>true
 | r :: e=>PV r&&nb e
theorem Ox:∀ r:List AV,(r.all fun|.int .u8 _=>false|.any=>false|_=>true)=PV r
 | []=>rfl
 | x :: r=>by
  rw[ajV,PV,<- Ox r]
  congr 1
theorem Oy:∀ e:List (List AV),gd e=nb e
 | []=>rfl
 | r :: e=>by
  have:=Oy e
  simp only[gd] at this
  simp only[gd,ajV,nb,this]
  rw[<- Ox];rfl
theorem OY{E:List (List AV)} : ji false E=nb E:=by simp only[ji,aiQ,Oy]
theorem ae0{E:List (List AV)} : gd E=nb E:=Oy E
theorem acd:nb []=true:=rfl
theorem acf{r:List AV}{e:List (List AV)} : nb (r :: e)=(PV r&&nb e):=rfl
theorem OV:PV []=true:=rfl
theorem OW{x:AV}{r:List AV} : PV (x :: r)=(Vc x&&PV r):=rfl
theorem Vh{n:Int} : Vc (.int .i64 n)=true:=rfl
theorem Vj{l:List UInt8} : Vc (.str l)=true:=rfl
theorem ace{b:Bool} : Vc (.bool b)=true:=rfl
theorem Vi{e:List (List AV)}{o:Bool} : Vc (.slice e o)=true:=rfl
theorem acg{cs:List AV} : Vc (.agg cs)=true:=rfl
theorem sX{E:List (List AV)}(h:∀ r∈E,PV r=true):nb E=true:=by
 induction E with
 | nil=>rfl
 | cons r E ih=>rw[nb,h r (ai8 ..),ih fun r hr=>h r (ajZ _ hr)];rfl
theorem yJ:∀ {e f:List (List AV)},nb (e++f)=(nb e&&nb f)
 | [],f=>by simp[nb]
 | r :: e,f=>by simp only[aj7,nb,yJ,Bool.and_assoc]
def tA(sz:Nat)(e:List (List AV)):Prop:=(∀ r∈e,r.length=sz)/\nb e=true
theorem sO{sz:Nat}{e:List (List AV)}(h:∀ r∈e,r.length=sz):fR sz e=true:=by
 cases e with
 | nil=>rfl
 | cons r e=>simp[fR,h r (ai8 ..)]
theorem sq{sz bytes:Nat}{e f:List (List AV)}{o:Bool}(h1:tA sz e)(h2:tA sz f)(hb:(e.length+f.length)*bytes<=70368744177664)(hl:e.length+f.length<=70368744177664) :
  aq false sz bytes (.slice e true) (.slice f o)=some (.slice (e++f) true):=by
 simp only[aq,dG,aiP]
 cases f with
 | nil=>simp
 | cons r f =>
  have hr:ji false (e++r :: f)=true:=by rw[OY,yJ,h1.2,h2.2];rfl
  have hf:b9 sz bytes e (r :: f)=true:=by
   simp only[b9,sO h1.1,sO h2.1,ajX hb,ajX hl,ajN]
  simp only[hr,hf,ajN,cond_true]
theorem P5{b:Bool}{sz bytes:Nat}{e:List (List AV)}{o o' : Bool} : aq b sz bytes (.slice e o) (.slice [] o')=some (.slice e o):=rfl
def vZ(v:AV)(g:Nat):Option AV:=match v with
 | .lsl g' e=>cond (Nat.beq g g') (cond (gd e) (some (.slice e true)) none) none
 | _=>none
def mg(T:aC)(t:Nat)(v:AV):Option AV:=match v with
 | .lsl _ e=>cond (gd e) (some (.slice e true)) none
 | .lsr b g=>vZ (T b) g
 | .lbox ..|.lref ..|.eref ..|.iter ..=>none
 | v=>some v
def aac(base lo:Nat)(H:ag)(o:Option AV):Option (AV × Option fz):=o.bind fun r=>cond (r.leaves base) (some (r,cond (Nat.beq lo base) none (some ⟨H.take base,lo⟩))) none
def wq(o:Option de)(agg:Bool)(sz:Nat):Option AV:=match o with
 | some (.box _ cs)=>an false agg sz 0 cs
 | _=>none
def H2(v:AV)(H:ag)(agg:Bool)(sz:Nat):Option AV:=match v with
 | .lbox _ cs=>an false agg sz 0 cs
 | .ref loc 0=>wq H[loc]? agg sz
 | _=>none
def UE(o:Option AV)(l:Option (List AV)):Option (List AV):=o.bind fun v=>l.map (v.bf :: ·)
section
variable {T:aC}{H:ag}{lo gen base t:Nat}{rs:List fJ}
def tW(base lo:Nat)(H:ag):Bool:=cond (Nat.beq lo base) true (((H.take base).drop lo).all fun o=>match o with|.dL cs=>cs.all (AV.aN base)|_=>true)
theorem TG{n:Nat}{H:ag} : tW n n H=true:=by simp[tW]
theorem ab1:fin base rs ⟨T,H,lo,gen⟩=cond (tW base lo H) (aac base lo H (lZ ⟨T,H,lo,gen⟩ rs)) none:=rfl
theorem Yt{v:AV} : aac base lo H (some v)=cond (v.leaves base) (some (v,cond (Nat.beq lo base) none (some ⟨H.take base,lo⟩))) none:=rfl
theorem YG:lZ ⟨T,H,lo,gen⟩ [.tmp t]=mg T t (T t):=by
 simp only[lZ,nL,mg]
 cases hT:T t with
 | lsl g e=>simp only[hT]
 | lsr b g =>
  cases hb:T b with
  | lsl g' e =>
   simp only[hb,vZ]
   cases Nat.beq g g' with
   | false=>simp only[aiQ,iE,hT];rfl
   | true=>simp only[cond_true,hb]
  | _=>simp only[hb,vZ,iE,hT];rfl
 | _=>simp only[iE,hT];rfl
theorem OX{b g:Nat} : mg T t (.lsr b g)=vZ (T b) g:=rfl
theorem OT{g g' : Nat}{e:List (List AV)} : vZ (.lsl g e) g'=cond (Nat.beq g' g) (cond (gd e) (some (.slice e true)) none) none:=rfl
theorem TJ{a sz:Nat}{agg:Bool} : lZ ⟨T,H,lo,gen⟩ [.cell a agg sz]=iE ⟨T,H,lo,gen⟩ (.cell a agg sz):=rfl
theorem YF:lZ ⟨T,H,lo,gen⟩ []=some (.tuple []):=rfl
theorem YH{r1 r2:fJ}{rs:List fJ} : lZ ⟨T,H,lo,gen⟩ (r1 :: r2 :: rs)=(mD ⟨T,H,lo,gen⟩ (r1 :: r2 :: rs)).map .tuple:=rfl
theorem YK:mD ⟨T,H,lo,gen⟩ []=some []:=rfl
theorem YL{r:fJ}{rs:List fJ} : mD ⟨T,H,lo,gen⟩ (r :: rs)=UE (iE ⟨T,H,lo,gen⟩ r) (mD ⟨T,H,lo,gen⟩ rs):=rfl
theorem Tl{v:AV}{l:List AV} : UE (some v) (some l)=some (v.bf :: l):=rfl
theorem YM:iE ⟨T,H,lo,gen⟩ (.tmp t)=cond (ar (T t)) (some (T t)) none:=rfl
theorem YJ{a sz:Nat}{agg:Bool} : iE ⟨T,H,lo,gen⟩ (.cell a agg sz)=H2 (T a) H agg sz:=by
 simp only[iE,H2]
 cases T a with
 | ref loc off =>
  cases off with
  | zero=>cases hl:H[loc]? with
   | none=>simp only[hl,wq]
   | some o=>cases o<;>simp only[hl,wq]
  | succ n=>rfl
 | _=>rfl
theorem TK{g sz:Nat}{cs:List AV}{agg:Bool} : H2 (.lbox g cs) H agg sz=an false agg sz 0 cs:=rfl
theorem TL{loc sz:Nat}{agg:Bool} : H2 (.ref loc 0) H agg sz=wq H[loc]? agg sz:=rfl
theorem YI{ty:TypeId}{cs:List AV}{sz:Nat}{agg:Bool} : wq (some (.box ty cs)) agg sz=an false agg sz 0 cs:=rfl
theorem TS{b:Bool} : mg T t (AV.bool b)=some (AV.bool b):=rfl
theorem YV{k:IntKind}{n:Int} : mg T t (AV.int k n)=some (AV.int k n):=rfl
theorem YY{l:List UInt8} : mg T t (AV.str l)=some (AV.str l):=rfl
theorem YU:mg T t AV.any=some AV.any:=rfl
theorem JX:mg T t AV.cx=some AV.cx:=rfl
theorem JW:mg T t AV.cw=some AV.cw:=rfl
theorem TU{kz:Nat}{ka va:Bool}{es:List (List AV)} : mg T t (AV.dp kz ka va es)=some (AV.dp kz ka va es):=rfl
theorem G2:mg T t AV.bV=some AV.bV:=rfl
theorem Ds:mg T t AV.bt=some AV.bt:=rfl
theorem O9{e:List (List AV)}{own:Bool} : mg T t (AV.slice e own)=some (AV.slice e own):=rfl
theorem TT{cs:List AV} : mg T t (AV.eptr cs)=some (AV.eptr cs):=rfl
theorem YX{loc off:Nat} : mg T t (AV.ref loc off)=some (AV.ref loc off):=rfl
theorem TX{loc off n z:Nat} : mg T t (AV.sref loc off n z)=some (AV.sref loc off n z):=rfl
theorem TW{loc:Nat} : mg T t (AV.mref loc)=some (AV.mref loc):=rfl
theorem YW{g:Nat}{e:List (List AV)} : mg T t (AV.lsl g e)=cond (gd e) (some (.slice e true)) none:=rfl
theorem TV{fn:Fn}{fs cs:List AV} : mg T t (AV.func fn fs cs)=some (AV.func fn fs cs):=rfl
theorem O8{u:TypeId}{v:AV} : mg T t (AV.iface u v)=some (AV.iface u v):=rfl
theorem YT{cs:List AV} : mg T t (AV.agg cs)=some (AV.agg cs):=rfl
theorem O'{vs:List AV} : mg T t (AV.tuple vs)=some (AV.tuple vs):=rfl
end
def aoK(A:AP)(sz bytes:Nat)(x y:AV)(t:Nat)(os:List az)(T:aC)(H:ag)(lo gen:Nat)(K:AS->Prop):Prop :=
 bn (jr ⟨T,H,lo,gen⟩ sz bytes x y) fun r=>match r.2 with
  | some s'=>WO A false os (s'.bz t r.1) K
  | none=>WO A false os ⟨T.put t r.1,H,lo,gen⟩ K
def abr(k:AV)(kz:Nat)(ka:Bool):Option (List AV):=k.drop.cells.bind fun kc=>cond (Nat.beq kc.length kz&&ka==k.drop.isAgg) (some kc) none
def Vb(H:ag)(ok:Bool)(kz:Nat)(ka va:Bool)(ks:List CK)(zero:List AV)(m k:AV):Option AV :=
 (abr k kz ka).bind fun kc=>match m with
  | .cw=>some (vX ok va zero false)
  | .mc kH kG kQ es=>cond (Nat.beq kz kH&&ka==kG&&va==kQ&&qa es&&Su ks kc) ((fB ks kc es).map (oR ok va zero kz es)) none
  | .dp kH kG kQ es=>cond (Nat.beq kz kH&&ka==kG&&va==kQ) ((fB ks kc es).map (oR ok va zero kz es)) none
  | .mref l=>match H[l]? with
   | some (.map kH kG kQ es)=>cond (Nat.beq kz kH&&ka==kG&&va==kQ) ((fB ks kc es).map (oR ok va zero kz es)) none
   | some (.dp kH kG kQ es)=>cond (Nat.beq kz kH&&ka==kG&&va==kQ) ((fB ks kc es).map (oR ok va zero kz es)) none
   | _=>none
  | _=>none
section
variable {A:AP}{T:aC}{H:ag}{lo gen:Nat}{K:AS->Prop}{d:Bool}{os:List az}{t:Nat}
theorem ma{op:dQ}{x:Option (AV × Option AS)}(h:ai A.aP (aA A) ⟨T,H,lo,gen⟩ op=x):WO A false (⟨some t,none,op⟩ :: os) ⟨T,H,lo,gen⟩ K=bn x fun r=>match r.2 with
  | some s'=>WO A false os (s'.bz t r.1) K
  | none=>WO A false os ⟨T.put t r.1,H,lo,gen⟩ K:=by
 rw[fa]
 simp only[bQ,h]
 cases x with
 | none=>simp[bn]
 | some r =>
  obtain⟨z,s'⟩:=r
  cases s' with
  | none=>simp only[aiP,ajr,aiQ,av];rfl
  | some s'=>simp only[aiP,aiQ,av];rfl
theorem Yk{sz bytes:Nat}{x y:ak} : WO A false (⟨some t,none,.appendO sz bytes x y⟩ :: os) ⟨T,H,lo,gen⟩ K=aoK A sz bytes (x.addr A.aP T) (y.eval A.aP T) t os T H lo gen K:=ma rfl
theorem PZ{sz bytes n l:Nat}{ty:TypeId}{cs:List AV}{f:List (List AV)}{own:Bool}(hl:H[l]?=some (.box ty cs))(hc:cs.length=n*sz)(h1:(n+f.length)*bytes<=70368744177664)(h2:n+f.length<=70368744177664)
  (h3:fR sz f=true) (h4:ff f=true) :
  aoK A sz bytes (.sref l 0 n sz) (.slice f own) t os T H lo gen K=WO A false os ⟨T.put t (.sref H.length 0 (n+f.length) sz),H.set l .dead++[.box cO (cs++f.flatten)],cond (Nat.blt l lo) l lo,gen⟩ K:=by
 have e1:Nat.beq cs.length (n*sz)=true:=by rw[hc];exact akI _
 simp only[aoK,jr,OB,je,dG,aiP,hl,e1,h3,h4,akI,akw,ajX h1,ajX h2,cond_true,av]
 rfl
theorem TD{sz bytes:Nat}{zero:List AV}{n:ak} : WO A false (⟨some t,none,.tU sz bytes zero n⟩ :: os) ⟨T,H,lo,gen⟩ K =
  bn ((asNat (n.eval A.aP T)).bind fun k=>cond (Nat.ble (k*bytes) 70368744177664&&Nat.ble k 70368744177664) (some k) none) fun k=>WO A false os ⟨T.put t (.sref H.length 0 k sz),H++[.box cO (List.replicate k zero).flatten],cond (Nat.blt H.length lo) H.length lo,gen⟩ K:=by
 rw[ma rfl]
 simp only[ai,pg]
 cases asNat (n.eval A.aP T) with
 | none=>simp[bn]
 | some k =>
  simp only[aiP]
  cases (Nat.ble (k*bytes) 70368744177664&&Nat.ble k 70368744177664) with
  | false=>simp[bn]
  | true=>simp only[cond_true,av];rfl
theorem TE{kz:Nat}{ka va:Bool} : WO A false (⟨some t,none,.yI kz ka va⟩ :: os) ⟨T,H,lo,gen⟩ K=WO A false os ⟨T.put t (.mref H.length),H++[.map kz ka va []],cond (Nat.blt H.length lo) H.length lo,gen⟩ K:=by
 rw[ma rfl];simp only[ai,av];rfl
theorem Yz{ok:Bool}{kz:Nat}{ka va:Bool}{ks:List CK}{zero:List AV}{m k:ak} : WO A d (⟨some t,none,.look ok kz ka va ks zero m k⟩ :: os) ⟨T,H,lo,gen⟩ K=cM A d (Vb H ok kz ka va ks zero (m.addr A.aP T) (k.eval A.aP T)) t os T H lo gen K:=by
 refine dW ?_
 simp only[ai,sH,Vb,abr]
 cases (k.eval A.aP T).drop.cells with
 | none=>rfl
 | some kc =>
  simp only[aiP]
  cases (Nat.beq kc.length kz&&ka==(k.eval A.aP T).drop.isAgg) with
  | false=>rfl
  | true =>
   simp only[cond_true,aiP]
   cases m.addr A.aP T with
   | cw=>rfl
   | mc kH kG kQ es =>
    simp only[]
    cases (Nat.beq kz kH&&ka==kG&&va==kQ&&qa es&&Su ks kc) with
    | false=>rfl
    | true=>simp only[cond_true,akK];rfl
   | dp kH kG kQ es =>
    simp only[rN]
    cases (Nat.beq kz kH&&ka==kG&&va==kQ) with
    | false=>rfl
    | true=>simp only[cond_true,aiP,akK];rfl
   | mref l =>
    simp only[rN]
    cases hl:H[l]? with
    | none=>rfl
    | some o =>
     cases o with
     | map kH kG kQ es =>
      simp only[hl]
      cases (Nat.beq kz kH&&ka==kG&&va==kQ) with
      | false=>rfl
      | true=>simp only[cond_true,aiP,akK];rfl
     | dp kH kG kQ es =>
      simp only[hl]
      cases (Nat.beq kz kH&&ka==kG&&va==kQ) with
      | false=>rfl
      | true=>simp only[cond_true,aiP,akK];rfl
     | _=>simp only[hl];rfl
   | _=>rfl
theorem YD{kz vz:Nat}{ka va:Bool}{ks:List CK}{m k v:ak} : WO A false (⟨none,none,.JD kz ka va vz ks m k v⟩ :: os) ⟨T,H,lo,gen⟩ K =
  bn (sI ⟨T,H,lo,gen⟩ kz ka va vz ks (m.addr A.aP T) (k.eval A.aP T) (v.eval A.aP T)) fun s'=>WO A false os (s'.cq v) K:=by
 rw[fa]
 simp only[bQ,ai]
 cases sI ⟨T,H,lo,gen⟩ kz ka va vz ks (m.addr A.aP T) (k.eval A.aP T) (v.eval A.aP T) with
 | none=>simp[bn]
 | some s'=>simp only[aiV,aiP,aiQ,av];rfl
end
end
end Go.Abs
namespace Go.Abs
open Go
section
abbrev zb(n:Int):Prop:=-9223372036854775808<=n/\n<=9223372036854775807
theorem wrap64{n:Int}(h:-9223372036854775808<=n/\n<=9223372036854775807):IntKind.i64.wrap n=n:=by
 exact IntWalk.i64_in _ h
theorem PG{n:Int}(h:0<=n/\n<=255):IntKind.u8.wrap n=n:=IntWalk.u8_in _ h
theorem su{k:IntKind}{n:Nat} : asNat (.int k n)=some n:=by simp[asNat]
theorem Is{k:IntKind}{n:Nat} : asNat (.int k (no_index (@OfNat.ofNat Int n instOfNat)))=some n:=by
 show asNat (.int k ((n:Nat):Int))=some n
 exact su
theorem Ir{k:IntKind}{a n:Nat} : asNat (.int k ((a:Int)+no_index (@OfNat.ofNat Int n instOfNat)))=some (a+n):=by
 show asNat (.int k ((a:Int)+((n:Nat):Int)))=some (a+n)
 rw[<- Int.natCast_add];exact su
theorem fl{k:IntKind}{n:Int}(h:0<=n):asNat (.int k n)=some n.toNat:=by simp[asNat,h]
theorem Hn{a b:Nat} : Nat.ble a b=decide (a<=b):=by
 cases h:Nat.ble a b with
 | true=>simp[Nat.le_of_ble_eq_true h]
 | false=>simp[show ¬ a<=b from fun e=>by rw[ajX e] at h;cases h]
theorem P8{a b:Nat} : Nat.blt a b=decide (a<b):=by
 show Nat.ble (a+1) b=_
 rw[Hn];rfl
theorem dle{a b:Nat}(h:a<=b):decide (a<=b)=true:=by simp[h]
theorem dlt{a b:Nat}(h:a<b):decide (a<b)=true:=by simp[h]
theorem Ma{a b:Int}(h:a<b):decide (a<b)=true:=by simp[h]
theorem L'{a b:Int}(h:b<=a):decide (a<b)=false:=by simp;omega
theorem L9{a b:Int}(h:a<=b):decide (a<=b)=true:=by simp[h]
theorem L8{a b:Int}(h:b<a):decide (a<=b)=false:=by simp;omega
theorem L7{a b:Int}(h:a=b):(a==b)=true:=by simp[h]
theorem L6{a b:Int}(h:a≠b):(a==b)=false:=by simp[h]
theorem Md{a b:Int}(h:a≠b):(a != b)=true:=by simp[h]
theorem Mc{a b:Int}(h:a=b):(a != b)=false:=by simp[h]
theorem X3{a b:Nat}(h:a≠b):Nat.beq a b=false:=by
 cases hb:Nat.beq a b with
 | false=>rfl
 | true=>exact absurd (ajG hb) h
theorem X4{a b:Nat}(h:a=b):Nat.beq a b=true:=by rw[h];exact akI b
theorem VC{n m:Nat}(h:n<=m):Nat.ble n m=true:=by simpa using h
theorem Hm{a b:Int}{p:Prop}{_:Decidable p}(h:a=b↔p):(a==b)=decide p:=by
 by_cases hp:p
 ·rw[h.2 hp];simp[hp]
 ·simp[hp];exact fun e=>hp (h.1 e)
theorem VA:(true==false)=false:=rfl
theorem Vz:(false==true)=false:=rfl
def ints(l:List Int):List (List AV):=l.map fun n=>[.int .i64 n]
def strs(l:List (List UInt8)):List (List AV):=l.map fun n=>[.str n]
theorem lP{l:List Int} : (ints l).length=l.length:=by simp[ints]
theorem aE{l:List (List UInt8)} : (strs l).length=l.length:=by simp[strs]
theorem ints_at{l:List Int}{i:Nat}{n:Int}(h:l[i]?=some n):(ints l)[i]?=some [.int .i64 n]:=by simp[ints,h]
theorem bk{l:List (List UInt8)}{i:Nat}{n:List UInt8}(h:l[i]?=some n):(strs l)[i]?=some [.str n]:=by simp[strs,h]
theorem Me{l:List Int}{i:Nat} : (ints l)[i]?=l[i]?.map fun n=>[.int .i64 n]:=by simp[ints]
theorem kq:∀ {l:List (List UInt8)} {n:Nat},n=l.length->chunks 1 n (l.map .str)=strs l
 | [],0,_=>rfl
 | a :: l,n+1,h=>by
  simp only[aiU,chunks,strs,ajP,ajJ,ako,ajW]
  rw[kq (by simpa using h)];rfl
theorem J3{l:List (List UInt8)}{n:Nat}(h:l.length<=n):(strs l).take n=strs l:=aji (by rw[aE];exact h)
theorem sS{l:List Int} : tA 1 (ints l):=⟨fun r hr=>by simp only[ints,ai5] at hr;obtain⟨n,_,rfl⟩:=hr;rfl,sX fun r hr=>by simp only[ints,ai5] at hr;obtain⟨n,_,rfl⟩:=hr;rfl⟩
theorem tq{l:List (List UInt8)} : tA 1 (strs l):=⟨fun r hr=>by simp only[strs,ai5] at hr;obtain⟨n,_,rfl⟩:=hr;rfl,sX fun r hr=>by simp only[strs,ai5] at hr;obtain⟨n,_,rfl⟩:=hr;rfl⟩
theorem o5:strs []=[]:=rfl
theorem Q5{l:List Int} : nb (ints l)=true:=sS.2
theorem Uf{l:List (List UInt8)} : nb (strs l)=true:=tq.2
theorem Cy{l m:List Int} : ints l++ints m=ints (l++m):=by simp[ints]
theorem DA{l m:List (List UInt8)} : strs l++strs m=strs (l++m):=by simp[strs]
theorem ou{l m:List Int}{o:Bool}(h:l.length+m.length<=1099511627776):aq false 1 8 (.slice (ints l) true) (.slice (ints m) o)=some (.slice (ints (l++m)) true):=by
 rw[sq sS sS (by rw[lP,lP];omega) (by rw[lP,lP];omega),Cy]
theorem P4{l:List Int}{n:Int}{o:Bool}(h:l.length<=1099511627775):aq false 1 8 (.slice (ints l) true) (.slice [[.int .i64 n]] o)=some (.slice (ints (l++[n])) true):=ou (m:=[n]) (by simp;omega)
theorem KA{m:List Int}{n:Int}{o:Bool}(h:m.length<=1099511627775):aq false 1 8 (.slice [[.int .i64 n]] true) (.slice (ints m) o)=some (.slice (ints (n :: m)) true):=ou (l:=[n]) (m:=m) (by simp;omega)
theorem KD{n:Int}{o:Bool} : aq false 1 8 (.slice [] true) (.slice [[.int .i64 n]] o)=some (.slice (ints [n]) true):=ou (l:=[]) (m:=[n]) (by simp)
theorem Ip{m:List Int}{o:Bool}(h:m.length<=1099511627776):aq false 1 8 (.slice [] true) (.slice (ints m) o)=some (.slice (ints m) true):=ou (l:=[]) (by simpa using h)
theorem bR{l m:List (List UInt8)}{o:Bool}(h:l.length+m.length<=1099511627776):aq false 1 16 (.slice (strs l) true) (.slice (strs m) o)=some (.slice (strs (l++m)) true):=by
 rw[sq tq tq (by rw[aE,aE];omega) (by rw[aE,aE];omega),DA]
theorem dF{l:List (List UInt8)}{n:List UInt8}{o:Bool}(h:l.length<=1099511627775):aq false 1 16 (.slice (strs l) true) (.slice [[.str n]] o)=some (.slice (strs (l++[n])) true):=bR (m:=[n]) (by simp;omega)
theorem KE{n:List UInt8}{o:Bool} : aq false 1 16 (.slice [] true) (.slice [[.str n]] o)=some (.slice (strs [n]) true):=bR (l:=[]) (m:=[n]) (by simp)
theorem WR{H l m:ag} : H++l++m=H++(l++m):=akc ..
theorem WS{H l:ag} : List.length (H++l)=H.length+l.length:=List.length_append
theorem LX{H l:ag}{k:Nat} : (H++l)[H.length+k]?=l[k]?:=by rw[ai7 (by omega)];simp
theorem QS{H l:ag} : (H++l)[H.length]?=l[0]?:=LX (k:=0)
theorem LY{H l:ag}{k:Nat}{x:de} : (H++l).set (H.length+k) x=H++l.set k x:=by rw[List.set_append_right _ _ (by omega)];simp
theorem QT{H l:ag}{x:de} : (H++l).set H.length x=H++l.set 0 x:=LY (k:=0)
theorem QU{H l:ag} : (H++l).take H.length=H:=by simp
theorem aaY{n k:Nat} : decide (n+k<n)=false:=by simp
theorem WT{n:Nat} : decide (n<n)=false:=by simp
def KO(A:AP)(ty:TypeId)(v:AV)(t:Nat)(os:List az)(T:aC)(H:ag)(lo gen:Nat)(K:AS->Prop):Prop :=
 bn (v.drop.cells.bind fun cs=>cond (cs.all (aR H.length)) (some (cs.map AV.drop)) none) fun cs=>WO A false os ⟨T.put t (.ref H.length 0),H++[.box ty cs],cond (Nat.blt H.length lo) H.length lo,gen⟩ K
section
variable {A:AP}{T:aC}{H:ag}{lo gen:Nat}{K:AS->Prop}{d:Bool}{os:List az}{t:Nat}
theorem Yn{ty:TypeId}{x:ak} : WO A false (⟨some t,none,.box ty x⟩ :: os) ⟨T,H,lo,gen⟩ K=KO A ty (x.eval A.aP T) t os T H lo gen K:=by
 rw[ma rfl]
 simp only[ai,KO]
 cases (x.eval A.aP T).drop.cells with
 | none=>simp[bn]
 | some cs =>
  simp only[aiP]
  cases cs.all (aR H.length) with
  | false=>simp[bn]
  | true=>simp only[cond_true,av];rfl
theorem VD{ty:TypeId}{cs:List AV} : KO A ty (.agg cs) t os T H lo gen K=bn (cond (cs.all (aR H.length)) (some (cs.map AV.drop)) none) fun cs=>WO A false os ⟨T.put t (.ref H.length 0),H++[.box ty cs],cond (Nat.blt H.length lo) H.length lo,gen⟩ K:=rfl
theorem VE{ty:TypeId}{k:IntKind}{n:Int} : KO A ty (.int k n) t os T H lo gen K=WO A false os ⟨T.put t (.ref H.length 0),H++[.box ty [.int k n]],cond (Nat.blt H.length lo) H.length lo,gen⟩ K:=by
 simp only[KO,AV.drop,AV.cells,aiP];exact av
end
theorem Wl{n:Nat}{k:IntKind}{m:Int} : aR n (.int k m)=true:=rfl
theorem QK{n:Nat}{b:Bool} : aR n (.bool b)=true:=rfl
theorem Wo{n:Nat}{s:List UInt8} : aR n (.str s)=true:=rfl
theorem LF{n:Nat}{e:List (List AV)}{o:Bool} : aR n (.slice e o)=true:=rfl
theorem QL{n l o k z:Nat} : aR n (.sref l o k z)=Nat.ble l n:=rfl
theorem Wn{n l o:Nat} : aR n (.ref l o)=Nat.ble l n:=rfl
theorem Wm{n:Nat} : aR n .cx=true:=rfl
def qV(A:AP)(d:Bool)(v:AV)(w:Bool)(p:Bool)(os:List az)(T:aC)(H:ag)(lo gen:Nat)(K:AS->Prop):Prop :=
 bn (match v with|.bool b=>some (b==w)|.tuple []=>some false|_=>none) fun b=>(b=true->p=true)/\WO A d os ⟨T,H,lo,gen⟩ K
def Ho(A:AP)(v:AV)(t:Nat)(os:List az)(T:aC)(H:ag)(lo gen:Nat)(K:AS->Prop):Prop :=
 bn v.drop.cells fun cs=>WO A false os ⟨T.put t (.lbox gen (cs.map AV.drop)),H,lo,gen+1⟩ K
def zn(A:AP)(d:Bool)(r:Option (AV × Option fz))(t:Nat)(os:List az)(T:aC)(H:ag)(lo gen:Nat)(K:AS->Prop):Prop :=
 bn (r.bind fun r=>match r.2 with
  | none=>cond (d&&(aQ r.1).isSome) none (some r.1)
  | some _=>none) fun v=>WO A d os ⟨T.put t v,H,lo,gen⟩ K
section
variable {A:AP}{T:aC}{H:ag}{lo gen:Nat}{K:AS->Prop}{d:Bool}{os:List az}{t:Nat}
theorem abT{c:J'}{x:ak} : WO A d (⟨none,none,.qN c x⟩ :: os) ⟨T,H,lo,gen⟩ K=(fA c (x.addr A.aP T)=true/\WO A d os ⟨T,H,lo,gen⟩ K):=by
 rw[fa]
 simp only[bQ,ai]
 refine propext ?_
 cases fA c (x.addr A.aP T) with
 | false=>simp[bn]
 | true=>simp[bn,aQ,AS.ca]
theorem Yr{g:Nat}{w:Bool}{c:J'}{x:ak} : WO A d (⟨none,some (g,w),.qN c x⟩ :: os) ⟨T,H,lo,gen⟩ K=qV A d (T g) w (fA c (x.addr A.aP T)) os T H lo gen K:=by
 rw[fa]
 simp only[qV]
 unfold bQ
 simp only[ai]
 cases hT:T g with
 | bool b =>
  cases hb:(b==w) with
  | true =>
   refine propext ?_
   cases fA c (x.addr A.aP T) with
   | false=>simp[hb,bn]
   | true=>simp[hb,bn,aQ,AS.ca]
  | false=>simp[hb,bn,AS.ca]
 | tuple l =>
  cases l with
  | nil=>simp[bn,AS.ca]
  | cons a l=>simp[bn]
 | _=>simp[bn]
theorem abV{p:Bool} : qV A d (.bool true) true p os T H lo gen K=(p=true/\WO A d os ⟨T,H,lo,gen⟩ K):=by simp[qV,av]
theorem abR{p:Bool} : qV A d (.bool false) false p os T H lo gen K=(p=true/\WO A d os ⟨T,H,lo,gen⟩ K):=by simp[qV,av]
theorem abU{p:Bool} : qV A d (.bool true) false p os T H lo gen K=WO A d os ⟨T,H,lo,gen⟩ K:=by simp[qV,av]
theorem abS{p:Bool} : qV A d (.bool false) true p os T H lo gen K=WO A d os ⟨T,H,lo,gen⟩ K:=by simp[qV,av]
theorem abW{p w:Bool} : qV A d (.tuple []) w p os T H lo gen K=WO A d os ⟨T,H,lo,gen⟩ K:=by simp[qV,av]
theorem Yq{b w:Bool} : qV A d (.bool b) w true os T H lo gen K=WO A d os ⟨T,H,lo,gen⟩ K:=by simp[qV,av]
theorem Yo{x:ak} : WO A false (⟨some t,none,.boxL x⟩ :: os) ⟨T,H,lo,gen⟩ K=Ho A (x.eval A.aP T) t os T H lo gen K:=by
 rw[ma rfl]
 simp only[ai,Ho]
 cases (x.eval A.aP T).drop.cells with
 | none=>simp[bn]
 | some cs=>simp only[aiV,av];rfl
theorem VB{cs:List AV} : Ho A (.agg cs) t os T H lo gen K=WO A false os ⟨T.put t (.lbox gen (cs.map AV.drop)),H,lo,gen+1⟩ K:=by
 simp only[Ho,AV.drop,AV.cells];exact av
theorem Ti{f:FuncId}{args:List ak} : WO A d (⟨some t,none,.iP (.fn f) args⟩ :: os) ⟨T,H,lo,gen⟩ K=(jb A.aP T args=true/\zn A d (aA A f (lB A.aP T args) H) t os T H lo gen K):=by
 rw[fa]
 simp only[bQ,ai,ak.eval,mJ,ow,zn,aj5,ajh]
 refine propext ?_
 cases jb A.aP T args with
 | false=>simp[bn]
 | true =>
  simp only[cond_true,ald]
  cases aA A f (lB A.aP T args) H with
  | none=>simp[bn]
  | some r =>
   obtain⟨v,c⟩:=r
   cases c with
   | none=>simp only[aiP];cases (d&&(aQ v).isSome)<;>simp[bn,AS.ca,AS.bz]
   | some c=>simp[bn]
theorem YN{v:AV} : zn A false (some (v,none)) t os T H lo gen K=WO A false os ⟨T.put t v,H,lo,gen⟩ K:=by
 simp[zn,av]
theorem TF{sz:Nat}{z:List (List AV)}{ps:List (Nat × ak)} : WO A false (⟨some t,none,.lS sz z ps⟩ :: os) ⟨T,H,lo,gen⟩ K =
  bn ((bL sz z (lF A.aP T ps)).bind fun E=>cond (ff E) (some E) none) fun E=>WO A false os ⟨T.put t (.sref H.length 0 E.length sz),H++[.box cO E.flatten],cond (Nat.blt H.length lo) H.length lo,gen⟩ K:=by
 rw[ma rfl]
 simp only[ai,sE]
 cases bL sz z (lF A.aP T ps) with
 | none=>simp[bn]
 | some E =>
  simp only[aiP]
  cases ff E with
  | false=>simp[bn]
  | true=>simp only[cond_true,av];rfl
end
section
variable {b g o l n z:Nat}{e:List (List AV)}{own:Bool}{cs:List AV}{s:List UInt8}
theorem ZQ{b' : Nat} : fA (.frame b) (.lref b' g o)=Nat.beq b b':=rfl
theorem ZX:fA .heap (.ref l o)=true:=rfl
theorem ZU:fA .heap (.eptr cs)=true:=rfl
theorem ZY:fA .heap (.slice e own)=true:=rfl
theorem ZS:fA .heap (.sref l o n z)=true:=rfl
theorem ZV:fA .heap (.mref l)=true:=rfl
theorem ZW:fA .heap .cx=true:=rfl
theorem ZR:fA .heap .cw=true:=rfl
theorem ZZ:fA .heap (.str s)=true:=rfl
theorem ZT:fA .heap (.agg cs)=true:=rfl
theorem Z0:fA .Q4 (.eptr cs)=true:=rfl
theorem Z1:fA .Q4 (.slice e own)=true:=rfl
end
section
variable {A:AP}{T:aC}{H:ag}{lo gen:Nat}{K:AS->Prop}{os:List az}{t:Nat}
end
def Bi(A:AP)(sz bytes i:Nat)(v y:AV)(t:Nat)(os:List az)(T:aC)(H:ag)(lo gen:Nat)(K:AS->Prop):Prop:=match v with
 | .ay=>bn ((dG sz y).bind fun f=>cond (b9 sz bytes [] f) (some f) none) fun f=>WO A false os ⟨(T.put i .any).put t (.lsl gen f),H,lo,gen+1⟩ K
 | .slice e own=>bn ((dG sz y).bind fun f=>cond (e.isEmpty&&own&&b9 sz bytes [] f) (some f) none) fun f=>WO A false os ⟨(T.put i .any).put t (.lsl gen f),H,lo,gen+1⟩ K
 | .lsl _ e=>bn ((dG sz y).bind fun f=>cond (b9 sz bytes e f) (some (e++f)) none) fun f=>WO A false os ⟨(T.put i .any).put t (.lsl gen f),H,lo,gen+1⟩ K
 | _=>False
section
variable {A:AP}{T:aC}{H:ag}{lo gen:Nat}{K:AS->Prop}{os:List az}{t:Nat}
theorem Yi{b:Bool}{sz bytes i:Nat}{y:ak} : WO A false (⟨some t,none,.append b true sz bytes (.tmp i) y⟩ :: os) ⟨T,H,lo,gen⟩ K=Bi A sz bytes i (T i) (y.eval A.aP T) t os T H lo gen K:=by
 rw[fa]
 simp only[bQ,ai,dX,Bi]
 cases hT:T i with
 | ay =>
  simp only[cond_true]
  cases dG sz (y.eval A.aP T) with
  | none=>simp[bn]
  | some f=>simp only[aiP];cases b9 sz bytes [] f<;>simp[bn,AS.ca,AS.bz]
 | lsl g e =>
  simp only[ajo]
  cases dG sz (y.eval A.aP T) with
  | none=>simp[bn]
  | some f=>simp only[aiP];cases b9 sz bytes e f<;>simp[bn,AS.ca,AS.bz]
 | slice e own =>
  simp only[cond_true]
  cases dG sz (y.eval A.aP T) with
  | none=>simp[bn]
  | some f=>simp only[aiP];cases (e.isEmpty&&own&&b9 sz bytes [] f)<;>simp[bn,AS.ca,AS.bz]
 | _=>simp[bn]
theorem Vv{sz bytes i:Nat}{e:List (List AV)}{own:Bool} : Bi A sz bytes i .ay (.slice e own) t os T H lo gen K=bn (cond (b9 sz bytes [] e) (some e) none) fun f=>WO A false os ⟨(T.put i .any).put t (.lsl gen f),H,lo,gen+1⟩ K:=rfl
theorem ZM{sz bytes i:Nat}{e f:List (List AV)}{o own:Bool} : Bi A sz bytes i (.slice e o) (.slice f own) t os T H lo gen K=bn (cond (e.isEmpty&&o&&b9 sz bytes [] f) (some f) none) fun f=>WO A false os ⟨(T.put i .any).put t (.lsl gen f),H,lo,gen+1⟩ K:=rfl
theorem Vu{sz bytes i g:Nat}{e f:List (List AV)}{own:Bool} : Bi A sz bytes i (.lsl g e) (.slice f own) t os T H lo gen K=bn (cond (b9 sz bytes e f) (some (e++f)) none) fun f=>WO A false os ⟨(T.put i .any).put t (.lsl gen f),H,lo,gen+1⟩ K:=rfl
end
section
variable {A:AP}{T:aC}{H:ag}{lo gen:Nat}{K:AS->Prop}{d:Bool}{os:List az}{t:Nat}
theorem Pp:cM A d (some AV.ay) t os T H lo gen K=WO A d os ⟨T.put t AV.ay,H,lo,gen⟩ K:=b7 rfl
theorem Oq{take obj:Bool}{i:Nat} : gZ A d take obj i AV.ay t os T H lo gen K=WO A d os ⟨T.put t AV.ay,H,lo,gen⟩ K:=av
theorem Bf{s:Nat} : gl s AV.ay=.ay:=rfl
theorem Cg:aQ AV.ay=none:=rfl
theorem Gx{T:aC} : Gw T .sl .ay=some (.int .i64 0):=rfl
theorem xf{base:Nat} : AV.aN base .ay=AV.plain .ay:=rfl
theorem xH{base:Nat} : AV.bg base .ay=AV.aN base .ay:=rfl
end
def aZ.pre:Nat->aZ->aZ
 | 0,.seq a _=>a
 | n+1,.seq a b=>.seq a (aZ.pre n b)
 | _,c=>c
def aZ.post:Nat->aZ->aZ
 | 0,.seq _ b=>b
 | n+1,.seq _ b=>aZ.post n b
 | _,_=>.skip
theorem ib{A:AP}(n:Nat){c:aZ}{s:AS}{Q:bC->AS->Prop}(R:AS->Prop)(h1:W A (c.pre n) s (andThen R Q))(h2:∀ s',R s'->W A (c.post n) s' Q):W A c s Q:=by
 induction n generalizing c s with
 | zero =>
  cases c with
  | seq a b=>exact Bc R h1 h2
  | _ =>
   refine p9 h1 (fun e s' h=>?_)
   cases e with
   | normal =>
    have:=h2 s' h
    obtain⟨n,e,s'',h3,h4⟩:=this
    simp only[aZ.post,gL,aiG,aiH] at h3
    obtain⟨rfl,rfl⟩:=h3
    exact h4
   | _=>exact h
 | succ n ih =>
  cases c with
  | seq a b =>
   simp only[aZ.pre,Kv] at h1 ⊢
   refine p9 h1 (fun e s' h=>?_)
   cases e with
   | normal=>exact ih h h2
   | _=>exact h
  | _ =>
   refine p9 h1 (fun e s' h=>?_)
   cases e with
   | normal =>
    have:=h2 s' h
    obtain⟨n,e,s'',h3,h4⟩:=this
    simp only[aZ.post,gL,aiG,aiH] at h3
    obtain⟨rfl,rfl⟩:=h3
    exact h4
   | _=>exact h
section
variable {o:Option (List (List AV))}{base:Nat}{A:AP}{T:aC}{H:ag}{lo gen:Nat}{K:AS->Prop}{d:Bool}{os:List az}{t:Nat}
theorem JE:Vc AV.ay=true:=rfl
theorem LD:aR base AV.ay=true:=rfl
theorem Al:AV.leaves base AV.ay=true:=rfl
end
end
end Go.Abs
namespace Go.Proofs.YtocbgffdpfiidaaGreatDoor
open Go Go.Abs Go.Proofs
def Sz:au:={ bK:=[76,6,8,9,10,11,12,13,14,15,16,17,18,54,67,75,86,90,121,136,140,700007],locals:=[7,999997],muts:=[12,56],nt:=148,np:=3,results:=[.tmp 6],body:=.seq (.region false [⟨some 6,none,.mov true false (.a8 (.bool false))⟩]) (.seq (.region false [⟨some 19,none,.mov false false (.tmp 0)⟩,⟨some 20,none,.call (.fn 5) [.tmp 19]⟩,⟨some 7,none,.allocL [.str [],.ay,.ay,.ay,.str []]⟩,⟨none,none,.store 5 (.tmp 7) (.tmp 20)⟩]) (.seq (.seq (.region false [⟨some 8,none,.mov true false (.a8 (.int .i64 0))⟩]) (.block 0 (.loop (.seq (.seq (.region false [⟨some 21,none,.mov false false (.tmp 8)⟩,⟨some 22,none,.fieldAddr 2 (.tmp 7)⟩,⟨some 23,none,.load false false 1 (.tmp 22)⟩,⟨some 24,none,.len (.sl) (.tmp 23)⟩,⟨some 25,none,.bin (.lss) (.other) (.tmp 21) (.tmp 24)⟩]) (.cond (.tmp 25) (.skip) (.exit 0))) (.seq (.block 1 (.seq (.region false [⟨some 28,none,.fieldAddr 2 (.tmp 7)⟩,⟨some 29,none,.load false false 1 (.tmp 28)⟩,⟨some 30,none,.mov false false (.tmp 8)⟩,⟨some 31,none,.ixSl 14 (.tmp 29) (.tmp 30)⟩,⟨some 32,none,.load false true 14 (.tmp 31)⟩,⟨some 33,none,.call (.fn 8) [.tmp 32]⟩,⟨some 9,none,.mov true false (.tmp 33)⟩]) (.seq (.region false [⟨some 34,none,.mov false false (.tmp 9)⟩,⟨some 35,none,.call (.fn 9) [.tmp 34]⟩,⟨some 10,none,.mov true false (.tmp 35)⟩]) (.seq (.seq (.region false [⟨some 36,none,.fieldAddr 2 (.tmp 7)⟩,⟨some 37,none,.load false false 1 (.tmp 36)⟩,⟨some 38,none,.mov false false (.tmp 8)⟩,⟨some 39,none,.ixSl 14 (.tmp 37) (.tmp 38)⟩,⟨some 40,none,.fieldAddr 13 (.tmp 39)⟩,⟨some 41,none,.load false false 1 (.tmp 40)⟩,⟨some 42,none,.len (.sl) (.tmp 41)⟩,⟨some 43,none,.bin (.gtr) (.other) (.tmp 42) (.a8 (.int .i64 0))⟩]) (.cond (.tmp 43) (.region false [⟨some 44,none,.fieldAddr 2 (.tmp 7)⟩,⟨some 45,none,.load false false 1 (.tmp 44)⟩,⟨some 46,none,.mov false false (.tmp 8)⟩,⟨some 47,none,.ixSl 14 (.tmp 45) (.tmp 46)⟩,⟨some 48,none,.fieldAddr 13 (.tmp 47)⟩,⟨some 49,none,.load false false 1 (.tmp 48)⟩,⟨some 10,none,.mov true false (.tmp 49)⟩]) (.skip))) (.seq (.region false [⟨some 50,none,.mov false false (.tmp 1)⟩,⟨some 51,none,.mov false false (.tmp 9)⟩,⟨some 52,none,.len (.sl) (.tmp 51)⟩,⟨some 53,none,.call (.fn 7) [.tmp 50,.tmp 52]⟩,⟨some 11,none,.mov true false (.tmp 53)⟩]) (.seq (.region false [⟨some 54,none,.mkslice false 1 [] []⟩,⟨some 55,none,.mov false false (.tmp 9)⟩,⟨some 56,none,.append false true 1 16 (.tmp 54) (.tmp 55)⟩,⟨some 12,none,.mov true true (.tmp 56)⟩]) (.seq (.region false [⟨some 57,none,.mov false false (.tmp 12)⟩,⟨some 58,none,.mov false false (.tmp 11)⟩,⟨some 59,none,.mov false false (.tmp 2)⟩,⟨some 60,none,.call (.fn 14) [.tmp 59]⟩,⟨some 61,none,.ixSl 1 (.tmp 57) (.tmp 58)⟩,⟨none,none,.store 1 (.tmp 61) (.tmp 60)⟩]) (.seq (.seq (.region false [⟨some 62,none,.mov false false (.tmp 10)⟩,⟨some 63,none,.mov false false (.tmp 11)⟩,⟨none,none,.qN (.heap) (.tmp 62)⟩,⟨some 64,none,.ixSl 1 (.tmp 62) (.tmp 63)⟩,⟨none,none,.qN (.heap) (.tmp 64)⟩,⟨some 65,none,.load false false 1 (.tmp 64)⟩,⟨some 66,none,.bin (.neq) (.other) (.tmp 65) (.a8 (.str [32]))⟩,⟨some 67,none,.mov true false (.tmp 66)⟩,⟨some 68,some (67,false),.mov false false (.tmp 10)⟩,⟨some 69,some (67,false),.mov false false (.tmp 11)⟩,⟨some 70,some (67,false),.bin (.add) (.other) (.tmp 69) (.a8 (.int .i64 1))⟩,⟨none,some (67,false),.qN (.heap) (.tmp 68)⟩,⟨some 71,some (67,false),.ixSl 1 (.tmp 68) (.tmp 70)⟩,⟨none,some (67,false),.qN (.heap) (.tmp 71)⟩,⟨some 72,some (67,false),.load false false 1 (.tmp 71)⟩,⟨some 73,some (67,false),.bin (.eql) (.other) (.tmp 72) (.a8 (.str []))⟩,⟨some 74,none,.pick (.tmp 67) (.a8 (.bool true)) (.tmp 73)⟩,⟨some 75,none,.mov true false (.tmp 74)⟩,⟨some 76,some (75,false),.mov true false (.tmp 12)⟩,⟨some 77,some (75,false),.mov false false (.tmp 11)⟩,⟨none,some (75,false),.qN (.heap) (.tmp 76)⟩,⟨some 78,some (75,false),.ixSl 1 (.tmp 76) (.tmp 77)⟩,⟨none,some (75,false),.qN (.heap) (.tmp 78)⟩,⟨some 79,some (75,false),.load false false 1 (.tmp 78)⟩,⟨some 80,some (75,false),.mov false false (.tmp 9)⟩,⟨some 81,some (75,false),.mov false false (.tmp 11)⟩,⟨none,some (75,false),.qN (.heap) (.tmp 80)⟩,⟨some 82,some (75,false),.ixSl 1 (.tmp 80) (.tmp 81)⟩,⟨none,some (75,false),.qN (.heap) (.tmp 82)⟩,⟨some 83,some (75,false),.load false false 1 (.tmp 82)⟩,⟨some 84,some (75,false),.bin (.eql) (.other) (.tmp 79) (.tmp 83)⟩,⟨some 85,none,.pick (.tmp 75) (.a8 (.bool true)) (.tmp 84)⟩,⟨some 86,none,.mov true false (.tmp 85)⟩,⟨some 87,some (86,false),.mov false false (.tmp 11)⟩,⟨some 88,some (86,false),.bin (.eql) (.other) (.tmp 87) (.a8 (.int .i64 0))⟩,⟨some 89,none,.pick (.tmp 86) (.a8 (.bool true)) (.tmp 88)⟩,⟨some 90,none,.mov true false (.tmp 89)⟩,⟨some 91,some (90,false),.mov false false (.tmp 12)⟩,⟨some 92,some (90,false),.call (.fn 15) [.tmp 91]⟩,⟨some 93,some (90,false),.mov false false (.tmp 11)⟩,⟨none,some (90,false),.qN (.heap) (.tmp 92)⟩,⟨some 94,some (90,false),.ixSl 1 (.tmp 92) (.tmp 93)⟩,⟨none,some (90,false),.qN (.heap) (.tmp 94)⟩,⟨some 95,some (90,false),.load false false 1 (.tmp 94)⟩,⟨some 96,some (90,false),.bin (.neq) (.other) (.tmp 95) (.a8 (.str [32]))⟩,⟨some 97,none,.pick (.tmp 90) (.a8 (.bool true)) (.tmp 96)⟩]) (.cond (.tmp 97) (.exit 1) (.skip))) (.seq (.region false [⟨some 13,none,.mov true false (.a8 (.str []))⟩]) (.seq (.seq (.region false [⟨some 14,none,.mov true false (.a8 (.int .i64 0))⟩]) (.block 2 (.loop (.seq (.seq (.region false [⟨some 98,none,.mov false false (.tmp 14)⟩,⟨some 99,none,.mov false false (.tmp 9)⟩,⟨some 100,none,.len (.sl) (.tmp 99)⟩,⟨some 101,none,.bin (.lss) (.other) (.tmp 98) (.tmp 100)⟩]) (.cond (.tmp 101) (.skip) (.exit 2))) (.seq (.block 3 (.region false [⟨some 104,none,.mov false false (.tmp 13)⟩,⟨some 105,none,.mov false false (.tmp 10)⟩,⟨some 106,none,.mov false false (.tmp 14)⟩,⟨none,none,.qN (.heap) (.tmp 105)⟩,⟨some 107,none,.ixSl 1 (.tmp 105) (.tmp 106)⟩,⟨none,none,.qN (.heap) (.tmp 107)⟩,⟨some 108,none,.load false false 1 (.tmp 107)⟩,⟨some 109,none,.bin (.add) (.other) (.tmp 104) (.tmp 108)⟩,⟨some 110,none,.mov false false (.tmp 12)⟩,⟨some 111,none,.mov false false (.tmp 14)⟩,⟨none,none,.qN (.heap) (.tmp 110)⟩,⟨some 112,none,.ixSl 1 (.tmp 110) (.tmp 111)⟩,⟨none,none,.qN (.heap) (.tmp 112)⟩,⟨some 113,none,.load false false 1 (.tmp 112)⟩,⟨some 114,none,.bin (.add) (.other) (.tmp 109) (.tmp 113)⟩,⟨some 13,none,.mov true false (.tmp 114)⟩])) (.region false [⟨some 102,none,.mov false false (.tmp 14)⟩,⟨some 103,none,.bin (.add) (.other) (.tmp 102) (.a8 (.int .i64 1))⟩,⟨some 14,none,.mov true false (.tmp 103)⟩])))))) (.seq (.region false [⟨some 115,none,.mov false false (.tmp 12)⟩,⟨some 116,none,.mov false false (.tmp 10)⟩,⟨some 117,none,.mov false false (.tmp 9)⟩,⟨some 118,none,.mov false false (.tmp 12)⟩,⟨some 119,none,.call (.fn 10) [.tmp 116,.tmp 117,.tmp 118]⟩,⟨some 120,none,.call (.fn 12) [.tmp 115,.tmp 119]⟩,⟨some 15,none,.mov true false (.tmp 120)⟩]) (.seq (.region false [⟨some 122,none,.mov false false (.tmp 15)⟩,⟨some 123,none,.call (.fn 16) [.tmp 122]⟩,⟨some 121,none,.mov true false (.tmp 123)⟩,⟨some 124,none,.extract (.tmp 121) 0⟩,⟨some 125,none,.extract (.tmp 121) 1⟩,⟨some 126,none,.extract (.tmp 121) 2⟩,⟨some 16,none,.mov true false (.tmp 124)⟩,⟨some 17,none,.mov true false (.tmp 125)⟩,⟨some 18,none,.mov true false (.tmp 126)⟩]) (.seq (.region false [⟨some 127,none,.mov false false (.tmp 15)⟩,⟨some 128,none,.mov false false (.tmp 13)⟩,⟨some 129,none,.mov false false (.tmp 10)⟩,⟨some 130,none,.mov false false (.tmp 9)⟩,⟨some 131,none,.len (.sl) (.tmp 130)⟩,⟨some 132,none,.ixSl 1 (.tmp 129) (.tmp 131)⟩,⟨some 133,none,.load false false 1 (.tmp 132)⟩,⟨some 134,none,.bin (.add) (.other) (.tmp 128) (.tmp 133)⟩,⟨some 135,none,.bin (.neq) (.other) (.tmp 127) (.tmp 134)⟩,⟨some 136,none,.mov true false (.tmp 135)⟩,⟨some 137,some (136,false),.mov false false (.tmp 18)⟩,⟨some 138,some (136,false),.bin (.neq) (.other) (.tmp 137) (.a8 (.int .i64 (-1)))⟩,⟨some 139,none,.pick (.tmp 136) (.a8 (.bool true)) (.tmp 138)⟩,⟨some 140,none,.mov true false (.tmp 139)⟩,⟨some 141,some (140,false),.mov false false (.tmp 16)⟩,⟨some 142,some (140,false),.mov false false (.tmp 17)⟩,⟨some 143,some (140,false),.call (.fn 17) [.tmp 141,.tmp 142]⟩,⟨some 144,some (140,false),.mov false false (.tmp 15)⟩,⟨some 145,some (140,false),.bin (.neq) (.other) (.tmp 143) (.tmp 144)⟩,⟨some 146,none,.pick (.tmp 140) (.a8 (.bool true)) (.tmp 145)⟩]) (.cond (.tmp 146) (.seq (.region false [⟨some 6,none,.mov true false (.a8 (.bool false))⟩]) (.ret)) (.skip))))))))))))))) (.region false [⟨some 26,none,.mov false false (.tmp 8)⟩,⟨some 27,none,.bin (.add) (.other) (.tmp 26) (.a8 (.int .i64 1))⟩,⟨some 8,none,.mov true false (.tmp 27)⟩])))))) (.seq (.region false [⟨some 147,none,.call (.fn 6) []⟩,⟨some 6,none,.mov true false (.tmp 147)⟩]) (.ret)))) }
theorem XQ:mQ Tryz.prog [76,6,8,9,10,11,12,13,14,15,16,17,18,54,67,75,86,90,121,136,140,700007] [7,999997] [12,56] Tryz.f4=some Sz:=by kernel_rfl
def Sx:au:={ bK:=[2,3,4,6,23,27,31,40,47,54,61],locals:=[999999],muts:=[],nt:=66,np:=1,results:=[.tmp 2],body:=.seq (.region false [⟨some 2,none,.mov true false (.a8 (.slice [] true))⟩]) (.seq (.region false [⟨some 7,none,.mkslice false 1 [[.str []]] [(0,.a8 (.str []))]⟩,⟨some 3,none,.mov true false (.tmp 7)⟩]) (.seq (.seq (.region false [⟨some 4,none,.mov true false (.a8 (.int .i64 1))⟩]) (.block 0 (.loop (.seq (.seq (.region false [⟨some 8,none,.mov false false (.tmp 4)⟩,⟨some 9,none,.mov false false (.tmp 0)⟩,⟨some 10,none,.len (.sl) (.tmp 9)⟩,⟨some 11,none,.bin (.leq) (.other) (.tmp 8) (.tmp 10)⟩]) (.cond (.tmp 11) (.skip) (.exit 0))) (.seq (.block 1 (.seq (.region false [⟨some 5,none,.mov false false (.a8 (.str [32]))⟩]) (.seq (.region false [⟨some 14,none,.mov false false (.tmp 0)⟩,⟨some 15,none,.mov false false (.tmp 4)⟩,⟨some 16,none,.bin (.sub) (.other) (.tmp 15) (.a8 (.int .i64 1))⟩,⟨some 17,none,.ixSl 1 (.tmp 14) (.tmp 16)⟩,⟨some 18,none,.load false false 1 (.tmp 17)⟩,⟨some 6,none,.mov true false (.tmp 18)⟩]) (.seq (.seq (.region false [⟨some 19,none,.mov false false (.tmp 4)⟩,⟨some 20,none,.mov false false (.tmp 0)⟩,⟨some 21,none,.len (.sl) (.tmp 20)⟩,⟨some 22,none,.bin (.eql) (.other) (.tmp 19) (.tmp 21)⟩,⟨some 23,none,.mov true false (.tmp 22)⟩,⟨some 24,some (23,false),.mov false false (.tmp 6)⟩,⟨some 25,some (23,false),.bin (.eql) (.other) (.tmp 24) (.a8 (.str [40]))⟩,⟨some 26,none,.pick (.tmp 23) (.a8 (.bool true)) (.tmp 25)⟩,⟨some 27,none,.mov true false (.tmp 26)⟩,⟨some 28,some (27,false),.mov false false (.tmp 6)⟩,⟨some 29,some (27,false),.bin (.eql) (.other) (.tmp 28) (.a8 (.str [91]))⟩,⟨some 30,none,.pick (.tmp 27) (.a8 (.bool true)) (.tmp 29)⟩,⟨some 31,none,.mov true false (.tmp 30)⟩,⟨some 32,some (31,false),.mov false false (.tmp 6)⟩,⟨some 33,some (31,false),.bin (.eql) (.other) (.tmp 32) (.a8 (.str [46]))⟩,⟨some 34,none,.pick (.tmp 31) (.a8 (.bool true)) (.tmp 33)⟩]) (.cond (.tmp 34) (.region false [⟨some 5,none,.mov false false (.a8 (.str []))⟩]) (.seq (.region false [⟨some 35,none,.mov false false (.tmp 0)⟩,⟨some 36,none,.mov false false (.tmp 4)⟩,⟨some 37,none,.ixSl 1 (.tmp 35) (.tmp 36)⟩,⟨some 38,none,.load false false 1 (.tmp 37)⟩,⟨some 39,none,.bin (.eql) (.other) (.tmp 38) (.a8 (.str [41]))⟩,⟨some 40,none,.mov true false (.tmp 39)⟩,⟨some 41,some (40,false),.mov false false (.tmp 0)⟩,⟨some 42,some (40,false),.mov false false (.tmp 4)⟩,⟨some 43,some (40,false),.ixSl 1 (.tmp 41) (.tmp 42)⟩,⟨some 44,some (40,false),.load false false 1 (.tmp 43)⟩,⟨some 45,some (40,false),.bin (.eql) (.other) (.tmp 44) (.a8 (.str [93]))⟩,⟨some 46,none,.pick (.tmp 40) (.a8 (.bool true)) (.tmp 45)⟩,⟨some 47,none,.mov true false (.tmp 46)⟩,⟨some 48,some (47,false),.mov false false (.tmp 0)⟩,⟨some 49,some (47,false),.mov false false (.tmp 4)⟩,⟨some 50,some (47,false),.ixSl 1 (.tmp 48) (.tmp 49)⟩,⟨some 51,some (47,false),.load false false 1 (.tmp 50)⟩,⟨some 52,some (47,false),.bin (.eql) (.other) (.tmp 51) (.a8 (.str [44]))⟩,⟨some 53,none,.pick (.tmp 47) (.a8 (.bool true)) (.tmp 52)⟩,⟨some 54,none,.mov true false (.tmp 53)⟩,⟨some 55,some (54,false),.mov false false (.tmp 0)⟩,⟨some 56,some (54,false),.mov false false (.tmp 4)⟩,⟨some 57,some (54,false),.ixSl 1 (.tmp 55) (.tmp 56)⟩,⟨some 58,some (54,false),.load false false 1 (.tmp 57)⟩,⟨some 59,some (54,false),.bin (.eql) (.other) (.tmp 58) (.a8 (.str [46]))⟩,⟨some 60,none,.pick (.tmp 54) (.a8 (.bool true)) (.tmp 59)⟩]) (.cond (.tmp 60) (.region false [⟨some 5,none,.mov false false (.a8 (.str []))⟩]) (.skip))))) (.region false [⟨some 61,none,.mov true false (.tmp 3)⟩,⟨some 62,none,.mov false false (.tmp 5)⟩,⟨some 63,none,.mkslice false 1 [[.str []]] [(0,.tmp 62)]⟩,⟨some 64,none,.append false false 1 16 (.tmp 61) (.tmp 63)⟩,⟨some 3,none,.mov true false (.tmp 64)⟩]))))) (.region false [⟨some 12,none,.mov false false (.tmp 4)⟩,⟨some 13,none,.bin (.add) (.other) (.tmp 12) (.a8 (.int .i64 1))⟩,⟨some 4,none,.mov true false (.tmp 13)⟩])))))) (.seq (.region false [⟨some 65,none,.mov false false (.tmp 3)⟩,⟨some 2,none,.mov true false (.tmp 65)⟩]) (.ret)))) }
theorem Sy:mQ Tryz.prog [2,3,4,6,23,27,31,40,47,54,61] [999999] [] Tryz.f15=some Sx:=by kernel_rfl
end Go.Proofs.YtocbgffdpfiidaaGreatDoor
