/-
  A part of the proof of SyntaxLossless: V11.
-/
import Derived.Test.YtkoebdjmmgckdaaGreatDoorQ16
set_option linter.unusedSimpArgs false
set_option linter.unusedVariables false
set_option linter.defProp false
set_option maxRecDepth 100000
noncomputable section
namespace Go.Proofs.YtkoebdjmmgckdaaGreatDoor
open Go Go.Abs Go.Proofs
theorem aq0{n:Nat} : lP Tryz.prog (PL n):=by
 refine⟨we.mixed,fun f qA h=>?_,fun f g h=>?_⟩
 ·unfold PL at h
  dsimp only at h;split at h
  ·exact fo Tryz.func7 h
  ·cases h
 ·show gx Tryz.prog BS f g
  unfold PL at h;dsimp only at h;split at h
  ·cases h
  ·grind [sFn]
  ·injection h with h;subst h;exact ot On
def LH:gx Tryz.prog BS 7 vY:=by
 intro args H r c he;unfold vY at he;split at he
 ·rename_i s
  obtain⟨h0,he⟩:=ay he;injection he with he
  injection he with e1 e2
  subst e1 e2;exact ot (aq0 (n:=80000)) _ _ _ _ (WM (ax5 h0) H)
 ·cases he
def ahg(f:FuncId)(g:List AV->aa->Option (AV × Option fw))(h:ovX f=some g):gx Tryz.prog BS f g:=by
 unfold ovX at h;split at h
 ·injection h with h
  subst h;intro args H r c he;unfold amo at he;split at he
  ·rename_i s
   cases hb:Nat.blt s.length 100 with
   | false=>rw[hb] at he;cases he
   | true =>
    rw[hb,cond_true] at he;have hl:s.length<100:=by simpa [axp] using hb
    rw[Sp hl,axa] at he;refine LH _ _ _ _ ?_;unfold vY;simp only;rw[axH (show s.length<=4611686018427387904 by omega),cond_true,he]
  ·cases he
 ·exact adN f g h
def aaN:lP Tryz.prog AX:=⟨we.mixed,Ix,ahg⟩
def Wg:gx Tryz.prog BS 8 CL:=by
 intro args H r c he;unfold CL at he;split at he
 ·injection he with he
  injection he with e1 e2
  subst e1 e2;exact ot aaN _ _ _ _ (Rg _ _ _ _ _ Si)
 ·cases he
def Zn(f:FuncId)(qA:aD)(h:aeU f=some qA):∃ fn dB locals muts,Tryz.prog.funcs[f]?=some fn/\aR Tryz.prog dB locals muts fn=some qA:=by
 unfold aeU at h;split at h
 ·exact fo Tryz.func3 h
 ·exact fo Tryz.func10 h
 ·cases h
def ahf(f:FuncId)(g:List AV->aa->Option (AV × Option fw))(h:ov9 f=some g):gx Tryz.prog A9.aX f g:=by
 unfold ov9 at h;split at h
 ·cases h
 ·cases h
 ·injection h with h;subst h;exact LH
 ·injection h with h;subst h;exact Wg
 ·injection h with h;subst h;exact ot On
def aaM:lP Tryz.prog A9:=⟨we.mixed,Zn,ahf⟩
end Go.Proofs.YtkoebdjmmgckdaaGreatDoor
end
