/-
  A part of the proof of SyntaxErrors: V11.
-/
import Derived.Test.YtbadnagdfefbnaaGreatDoorQ16
set_option linter.unusedSimpArgs false
set_option linter.unusedVariables false
set_option linter.defProp false
set_option maxRecDepth 100000
noncomputable section
namespace Go.Proofs.YtbadnagdfefbnaaGreatDoor
open Go Go.Abs Go.Proofs
theorem aoh{n:Nat} : lV Tryz.prog (PL n):=by
 refine⟨vL.mixed,fun f qw h=>?_,fun f g h=>?_⟩
 ·unfold PL at h
  dsimp only at h;split at h
  ·exact fo Tryz.func11 h
  ·cases h
 ·show gQ Tryz.prog Bg f g
  unfold PL at h;dsimp only at h;split at h
  ·cases h
  ·grind [sFn]
  ·injection h with h;subst h;exact oa M7
def Kv:gQ Tryz.prog Bg 11 vH:=by
 intro args H r c he;unfold vH at he;split at he
 ·rename_i s
  obtain⟨h0,he⟩:=al he;injection he with he
  injection he with e1 e2
  subst e1 e2;exact oa (aoh (n:=80000)) _ _ _ _ (Vq (av6 h0) H)
 ·cases he
def afc(f:FuncId)(g:List AV->ae->Option (AV × Option fP))(h:ovX f=some g):gQ Tryz.prog Bg f g:=by
 unfold ovX at h;split at h
 ·injection h with h
  subst h;intro args H r c he;unfold ajF at he;split at he
  ·rename_i s
   cases hb:Nat.blt s.length 100 with
   | false=>rw[hb] at he;cases he
   | true =>
    rw[hb,cond_true] at he;have hl:s.length<100:=by simpa [avn] using hb
    rw[QU hl,ave] at he;refine Kv _ _ _ _ ?_;unfold vH;simp only;rw[avT (show s.length<=4611686018427387904 by omega),cond_true,he]
  ·cases he
 ·exact abW f g h
def Y9:lV Tryz.prog AX:=⟨vL.mixed,HC,afc⟩
def U0:gQ Tryz.prog Bg 12 B3:=by
 intro args H r c he;unfold B3 at he;split at he
 ·injection he with he
  injection he with e1 e2
  subst e1 e2;exact oa Y9 _ _ _ _ (PJ _ _ _ _ _ QO)
 ·cases he
def XS(f:FuncId)(qw:aB)(h:ac8 f=some qw):∃ fn dI locals muts,Tryz.prog.funcs[f]?=some fn/\bp Tryz.prog dI locals muts fn=some qw:=by
 unfold ac8 at h;split at h
 ·exact fo Tryz.func3 h
 ·cases h
def afb(f:FuncId)(g:List AV->ae->Option (AV × Option fP))(h:ov9 f=some g):gQ Tryz.prog A9.aY f g:=by
 unfold ov9 at h;split at h
 ·cases h
 ·injection h with h;subst h;exact Kv
 ·injection h with h;subst h;exact U0
 ·injection h with h;subst h;exact oa M7
def Y8:lV Tryz.prog A9:=⟨vL.mixed,XS,afb⟩
end Go.Proofs.YtbadnagdfefbnaaGreatDoor
end
