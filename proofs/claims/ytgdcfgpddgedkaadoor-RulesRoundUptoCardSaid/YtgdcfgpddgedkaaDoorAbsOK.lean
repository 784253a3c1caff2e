/-
  The abstract program is the seat's.
-/
import Derived.Test.YtgdcfgpddgedkaaDoorAbsLib7
set_option maxRecDepth 100000
namespace Go.Proofs.YtgdcfgpddgedkaaDoor
open Go Go.Abs Go.Proofs

theorem fns_ok (f : FuncId) (ifn : IFunc) (h : fns f = some ifn) : ∃ fn takes locals muts, Tryd.prog.funcs[f]? = some fn ∧ compF Tryd.prog takes locals muts fn = some ifn := by
  unfold fns at h
  split at h
  · injection h with h; subst h; exact ⟨_, _, _, _, Tryd.func3, ir3_ok⟩
  · injection h with h; subst h; exact ⟨_, _, _, _, Tryd.func4, ir4_ok⟩
  · injection h with h; subst h; exact ⟨_, _, _, _, Tryd.func5, ir5_ok⟩
  · injection h with h; subst h; exact ⟨_, _, _, _, Tryd.func6, ir6_ok⟩
  · injection h with h; subst h; exact ⟨_, _, _, _, Tryd.func8, ir8_ok⟩
  · injection h with h; subst h; exact ⟨_, _, _, _, Tryd.func9, ir9_ok⟩
  · injection h with h; subst h; exact ⟨_, _, _, _, Tryd.func10, ir10_ok⟩
  · injection h with h; subst h; exact ⟨_, _, _, _, Tryd.func11, ir11_ok⟩
  · injection h with h; subst h; exact ⟨_, _, _, _, Tryd.func12, ir12_ok⟩
  · injection h with h; subst h; exact ⟨_, _, _, _, Tryd.func13, ir13_ok⟩
  · injection h with h; subst h; exact ⟨_, _, _, _, Tryd.func14, ir14_ok⟩
  · injection h with h; subst h; exact ⟨_, _, _, _, Tryd.func15, ir15_ok⟩
  · injection h with h; subst h; exact ⟨_, _, _, _, Tryd.func16, ir16_ok⟩
  · injection h with h; subst h; exact ⟨_, _, _, _, Tryd.func17, ir17_ok⟩
  · injection h with h; subst h; exact ⟨_, _, _, _, Tryd.func18, ir18_ok⟩
  · injection h with h; subst h; exact ⟨_, _, _, _, Tryd.func19, ir19_ok⟩
  · injection h with h; subst h; exact ⟨_, _, _, _, Tryd.func20, ir20_ok⟩
  · injection h with h; subst h; exact ⟨_, _, _, _, Tryd.func21, ir21_ok⟩
  · injection h with h; subst h; exact ⟨_, _, _, _, Tryd.func23, ir23_ok⟩
  · injection h with h; subst h; exact ⟨_, _, _, _, Tryd.func24, ir24_ok⟩
  · injection h with h; subst h; exact ⟨_, _, _, _, Tryd.func26, ir26_ok⟩
  · injection h with h; subst h; exact ⟨_, _, _, _, Tryd.func27, ir27_ok⟩
  · injection h with h; subst h; exact ⟨_, _, _, _, Tryd.func28, ir28_ok⟩
  · injection h with h; subst h; exact ⟨_, _, _, _, Tryd.func29, ir29_ok⟩
  · injection h with h; subst h; exact ⟨_, _, _, _, Tryd.func30, ir30_ok⟩
  · injection h with h; subst h; exact ⟨_, _, _, _, Tryd.func31, ir31_ok⟩
  · injection h with h; subst h; exact ⟨_, _, _, _, Tryd.func32, ir32_ok⟩
  · injection h with h; subst h; exact ⟨_, _, _, _, Tryd.func33, ir33_ok⟩
  · injection h with h; subst h; exact ⟨_, _, _, _, Tryd.func34, ir34_ok⟩
  · injection h with h; subst h; exact ⟨_, _, _, _, Tryd.func35, ir35_ok⟩
  · injection h with h; subst h; exact ⟨_, _, _, _, Tryd.func36, ir36_ok⟩
  · injection h with h; subst h; exact ⟨_, _, _, _, Tryd.func37, ir37_ok⟩
  · injection h with h; subst h; exact ⟨_, _, _, _, Tryd.func38, ir38_ok⟩
  · injection h with h; subst h; exact ⟨_, _, _, _, Tryd.func41, ir41_ok⟩
  · injection h with h; subst h; exact ⟨_, _, _, _, Tryd.func42, ir42_ok⟩
  · injection h with h; subst h; exact ⟨_, _, _, _, Tryd.func43, ir43_ok⟩
  · injection h with h; subst h; exact ⟨_, _, _, _, Tryd.func44, ir44_ok⟩
  · injection h with h; subst h; exact ⟨_, _, _, _, Tryd.func45, ir45_ok⟩
  · injection h with h; subst h; exact ⟨_, _, _, _, Tryd.func46, ir46_ok⟩
  · injection h with h; subst h; exact ⟨_, _, _, _, Tryd.func47, ir47_ok⟩
  · injection h with h; subst h; exact ⟨_, _, _, _, Tryd.func48, ir48_ok⟩
  · injection h with h; subst h; exact ⟨_, _, _, _, Tryd.func49, ir49_ok⟩
  · injection h with h; subst h; exact ⟨_, _, _, _, Tryd.func50, ir50_ok⟩
  · injection h with h; subst h; exact ⟨_, _, _, _, Tryd.func51, ir51_ok⟩
  · injection h with h; subst h; exact ⟨_, _, _, _, Tryd.func52, ir52_ok⟩
  · injection h with h; subst h; exact ⟨_, _, _, _, Tryd.func57, ir57_ok⟩
  · injection h with h; subst h; exact ⟨_, _, _, _, Tryd.func59, ir59_ok⟩
  · injection h with h; subst h; exact ⟨_, _, _, _, Tryd.func63, ir63_ok⟩
  · injection h with h; subst h; exact ⟨_, _, _, _, Tryd.func108, ir108_ok⟩
  · injection h with h; subst h; exact ⟨_, _, _, _, Tryd.func109, ir109_ok⟩
  · cases h

theorem ov_ok (f : FuncId) (g : List AV → AHeap → Option (AV × Option Chg)) (h : ov f = some g) : OvSound Tryd.prog tab f g := by
  unfold ov at h
  split at h
  · injection h with h; subst h; exact enough_sound
  · injection h with h; subst h; exact itoa_sound
  · injection h with h; subst h; exact string_sound
  · injection h with h; subst h; exact copy_sound
  · injection h with h; subst h; exact index_sound
  · injection h with h; subst h; exact atoi_sound
  · cases h

theorem progOK : ProgOK Tryd.prog A := ⟨by kernel_rfl, fns_ok, ov_ok⟩

#print axioms progOK
end Go.Proofs.YtgdcfgpddgedkaaDoor
