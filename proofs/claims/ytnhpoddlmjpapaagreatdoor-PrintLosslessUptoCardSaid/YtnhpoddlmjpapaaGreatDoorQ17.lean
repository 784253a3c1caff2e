/-
  A part of the proof of PrintLossless: AbsOKL.
-/
import Derived.Test.YtnhpoddlmjpapaaGreatDoorQ16
set_option linter.unusedSimpArgs false
set_option linter.unusedVariables false
set_option linter.defProp false
set_option maxRecDepth 100000
noncomputable section
namespace Go.Proofs.YtnhpoddlmjpapaaGreatDoor
open Go Go.Abs Go.Proofs
theorem aoP{n:Nat} : lL Tryz.prog (PL n):=by
 refine⟨vB.mixed,fun f qd h=>?_,fun f g h=>?_⟩
 ·unfold PL at h
  dsimp only at h;split at h
  ·exact fo Tryz.func8 h
  ·cases h
 ·show fU Tryz.prog xN f g
  unfold PL at h;dsimp only at h;split at h
  ·cases h
  ·grind [sFn]
  ·injection h with h;subst h;exact nT Ns
def KH:fU Tryz.prog xN 8 sW:=by
 intro args H r c he;unfold sW at he;split at he
 ·rename_i s
  obtain⟨h0,he⟩:=al he;injection he with he
  injection he with e1 e2
  subst e1 e2;exact nT (aoP (n:=80000)) _ _ _ _ (Vd (avS h0) H)
 ·cases he
theorem afd(f:FuncId)(g:List AV->ae->Option (AV × Option fR))(h:ovX f=some g):fU Tryz.prog xN f g:=by
 unfold ovX at h;split at h
 ·injection h with h
  subst h;intro args H r c he;unfold aj4 at he;split at he
  ·rename_i s
   obtain⟨h0,he⟩:=al he;have hs:s=Xu:=eq_of_beq h0;subst hs;refine KH _ _ _ _ ?_;have:sW [.str Xu] H=some (.tuple [.agg (nu (jz Xu).1),.int .i64 (jz Xu).2],none):=by simp only[sW];rw[show Nat.ble Xu.length 4611686018427387904=true from rfl,cond_true]
   grind [S6]
  ·cases he
 ·grind [L8]
 ·grind [Jm]
 ·grind [Jo]
 ·exact abM f g h
def Y4:lL Tryz.prog AX:=⟨vB.mixed,HG,afd⟩
def UM:fU Tryz.prog xN 10 BR:=by
 intro args H r c he;unfold BR at he;split at he
 ·injection he with he
  injection he with e1 e2
  subst e1 e2;exact nT Y4 _ _ _ _ (PX _ _ _ _ _ QU)
 ·cases he
def XC(f:FuncId)(qd:ax)(h:ac1 f=some qd):∃ fn dW locals muts,Tryz.prog.funcs[f]?=some fn/\bo Tryz.prog dW locals muts fn=some qd:=by
 unfold ac1 at h;split at h
 ·exact fo Tryz.func3 h
 ·cases h
def afc(f:FuncId)(g:List AV->ae->Option (AV × Option fR))(h:ov9 f=some g):fU Tryz.prog A9.aW f g:=by
 unfold ov9 at h;split at h
 ·cases h
 ·injection h with h;subst h;exact KH
 ·injection h with h;subst h;exact UM
 ·injection h with h;subst h;exact nT Ns
def Y3:lL Tryz.prog A9:=⟨vB.mixed,XC,afc⟩
end Go.Proofs.YtnhpoddlmjpapaaGreatDoor
end
