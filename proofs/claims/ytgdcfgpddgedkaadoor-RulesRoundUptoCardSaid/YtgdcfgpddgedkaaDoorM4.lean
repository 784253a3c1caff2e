/-
  The round trip, joined: AbsIr7, R1, R2, R3, E24, E25, L7, L8.
-/
import Derived.Test.YtgdcfgpddgedkaaDoorAbsIr
import Derived.Test.YtgdcfgpddgedkaaDoorProg
import Derived.KernelRfl
import Derived.Test.YtgdcfgpddgedkaaDoorM2
import Derived.Test.YtgdcfgpddgedkaaDoorAbsOK
set_option linter.unusedSimpArgs false
set_option linter.unusedVariables false
/-! The abstract form of the functions, and that it is theirs. Printed by a program of mine. -/
set_option maxRecDepth 100000
namespace Go.Proofs.YtgdcfgpddgedkaaDoor
open Go Go.Abs Go.Proofs

/-- splicery/splicerylaw36.RulesRound -/
def ir7 : IFunc := { takes := [6, 7, 8, 9, 10, 11, 12, 13, 14, 15, 16, 17, 18, 24, 33, 66, 76, 84, 87, 99, 103, 112, 116], locals := [], muts := [], nt := 123, np := 3, results := [.tmp 6], body := .seq (.region false [⟨some 6, none, .mov true false (.con (.bool false))⟩]) (.seq (.region false [⟨some 19, none, .mov false false (.tmp 0)⟩, ⟨some 20, none, .mkslice false 1 [[.str []], [.str []], [.str []]] [(0, .con (.str [109, 105, 108, 108])), (1, .con (.str [109, 49])), (2, .con (.str [111, 102]))]⟩, ⟨some 21, none, .call (.fn 9) [.tmp 19, .tmp 20, .con (.int .i64 6)]⟩, ⟨some 7, none, .mov true false (.tmp 21)⟩]) (.seq (.region false [⟨some 22, none, .mov false false (.tmp 7)⟩, ⟨some 23, none, .call (.fn 21) [.tmp 22]⟩, ⟨some 8, none, .mov true false (.tmp 23)⟩]) (.seq (.region false [⟨some 25, none, .mov false false (.tmp 8)⟩, ⟨some 26, none, .call (.fn 24) [.tmp 25]⟩, ⟨some 24, none, .mov true false (.tmp 26)⟩, ⟨some 27, none, .extract (.tmp 24) 0⟩, ⟨some 28, none, .extract (.tmp 24) 1⟩, ⟨some 29, none, .extract (.tmp 24) 2⟩, ⟨some 9, none, .mov true false (.tmp 27)⟩, ⟨some 10, none, .mov true false (.tmp 28)⟩, ⟨some 11, none, .mov true false (.tmp 29)⟩]) (.seq (.seq (.region false [⟨some 30, none, .mov false false (.tmp 7)⟩, ⟨some 31, none, .call (.fn 19) [.tmp 30]⟩, ⟨some 32, none, .un (.not) (.tmp 31)⟩, ⟨some 33, none, .mov true false (.tmp 32)⟩, ⟨some 34, some (33, false), .mov false false (.tmp 11)⟩, ⟨some 35, some (33, false), .bin (.neq) (.other) (.tmp 34) (.con (.int .i64 (-1)))⟩, ⟨some 36, none, .pick (.tmp 33) (.con (.bool true)) (.tmp 35)⟩]) (.cond (.tmp 36) (.seq (.region false [⟨some 6, none, .mov true false (.con (.bool false))⟩]) (.ret)) (.skip))) (.seq (.seq (.region false [⟨some 12, none, .mov true false (.con (.int .i64 0))⟩]) (.block 0 (.loop (.seq (.seq (.region false [⟨some 37, none, .mov false false (.tmp 12)⟩, ⟨some 38, none, .mov false false (.tmp 9)⟩, ⟨some 39, none, .len (.sl) (.tmp 38)⟩, ⟨some 40, none, .bin (.lss) (.other) (.tmp 37) (.tmp 39)⟩]) (.cond (.tmp 40) (.skip) (.exit 0))) (.seq (.block 1 (.region false [⟨some 43, none, .mov false false (.tmp 9)⟩, ⟨some 44, none, .mov false false (.tmp 12)⟩, ⟨some 45, none, .mov false false (.tmp 1)⟩, ⟨some 46, none, .mov false false (.tmp 12)⟩, ⟨some 47, none, .call (.fn 13) [.tmp 45, .tmp 46, .con (.int .i64 4000)]⟩, ⟨some 48, none, .mov false false (.tmp 12)⟩, ⟨some 49, none, .call (.fn 12) [.tmp 47, .tmp 48]⟩, ⟨some 50, none, .ixSl 2 (.tmp 43) (.tmp 44)⟩, ⟨some 51, none, .fieldAddr 1 (.tmp 50)⟩, ⟨none, none, .store 1 (.tmp 51) (.tmp 49)⟩])) (.region false [⟨some 41, none, .mov false false (.tmp 12)⟩, ⟨some 42, none, .bin (.add) (.other) (.tmp 41) (.con (.int .i64 1))⟩, ⟨some 12, none, .mov true false (.tmp 42)⟩])))))) (.seq (.region false [⟨some 52, none, .mov false false (.tmp 8)⟩, ⟨some 53, none, .mov false false (.tmp 9)⟩, ⟨some 54, none, .call (.fn 25) [.tmp 53, .con (.str [35, 32, 101, 110, 100])]⟩, ⟨some 55, none, .mov false false (.tmp 2)⟩, ⟨some 56, none, .mov false false (.tmp 8)⟩, ⟨some 57, none, .mov false false (.tmp 2)⟩, ⟨some 58, none, .bin (.add) (.other) (.tmp 56) (.tmp 57)⟩, ⟨some 59, none, .mkslice false 1 [[.str []], [.str []], [.str []], [.str []]] [(0, .tmp 52), (1, .tmp 54), (2, .tmp 55), (3, .tmp 58)]⟩, ⟨some 13, none, .mov true false (.tmp 59)⟩]) (.seq (.seq (.region false [⟨some 14, none, .mov true false (.con (.int .i64 0))⟩]) (.block 2 (.loop (.seq (.seq (.region false [⟨some 60, none, .mov false false (.tmp 14)⟩, ⟨some 61, none, .mov false false (.tmp 13)⟩, ⟨some 62, none, .len (.sl) (.tmp 61)⟩, ⟨some 63, none, .bin (.lss) (.other) (.tmp 60) (.tmp 62)⟩]) (.cond (.tmp 63) (.skip) (.exit 2))) (.seq (.block 3 (.seq (.region false [⟨some 67, none, .mov false false (.tmp 13)⟩, ⟨some 68, none, .mov false false (.tmp 14)⟩, ⟨some 69, none, .ixSl 1 (.tmp 67) (.tmp 68)⟩, ⟨some 70, none, .load false false 1 (.tmp 69)⟩, ⟨some 71, none, .call (.fn 14) [.tmp 70]⟩, ⟨some 66, none, .mov true false (.tmp 71)⟩, ⟨some 72, none, .extract (.tmp 66) 0⟩, ⟨some 73, none, .extract (.tmp 66) 1⟩, ⟨some 15, none, .mov true false (.tmp 72)⟩, ⟨some 16, none, .mov true false (.tmp 73)⟩]) (.seq (.seq (.region false [⟨some 74, none, .mov false false (.tmp 14)⟩, ⟨some 75, none, .bin (.lss) (.other) (.tmp 74) (.con (.int .i64 2))⟩, ⟨some 76, none, .mov true false (.tmp 75)⟩, ⟨some 77, some (76, true), .mov false false (.tmp 13)⟩, ⟨some 78, some (76, true), .mov false false (.tmp 14)⟩, ⟨some 79, some (76, true), .ixSl 1 (.tmp 77) (.tmp 78)⟩, ⟨some 80, some (76, true), .load false false 1 (.tmp 79)⟩, ⟨some 81, some (76, true), .len (.str) (.tmp 80)⟩, ⟨some 82, some (76, true), .bin (.leq) (.other) (.tmp 81) (.con (.int .i64 8192))⟩, ⟨some 83, none, .pick (.tmp 76) (.tmp 82) (.con (.bool false))⟩, ⟨some 84, none, .mov true false (.tmp 83)⟩, ⟨some 85, some (84, true), .mov false false (.tmp 16)⟩, ⟨some 86, some (84, true), .bin (.neq) (.other) (.tmp 85) (.con (.int .i64 (-1)))⟩, ⟨some 87, some (84, true), .mov true false (.tmp 86)⟩, ⟨some 88, some (87, false), .mov false false (.tmp 7)⟩, ⟨some 89, some (87, false), .mov false false (.tmp 15)⟩, ⟨some 90, some (87, false), .call (.fn 16) [.tmp 88, .tmp 89]⟩, ⟨some 91, some (87, false), .un (.not) (.tmp 90)⟩, ⟨some 92, some (84, true), .pick (.tmp 87) (.con (.bool true)) (.tmp 91)⟩, ⟨some 93, none, .pick (.tmp 84) (.tmp 92) (.con (.bool false))⟩]) (.cond (.tmp 93) (.seq (.region false [⟨some 6, none, .mov true false (.con (.bool false))⟩]) (.ret)) (.skip))) (.seq (.seq (.region false [⟨some 94, none, .mov false false (.tmp 16)⟩, ⟨some 95, none, .bin (.neq) (.other) (.tmp 94) (.con (.int .i64 (-1)))⟩]) (.cond (.tmp 95) (.seq (.seq (.region false [⟨some 96, none, .mov false false (.tmp 15)⟩, ⟨some 97, none, .len (.sl) (.tmp 96)⟩, ⟨some 98, none, .bin (.gtr) (.other) (.tmp 97) (.con (.int .i64 0))⟩, ⟨some 99, none, .mov true false (.tmp 98)⟩, ⟨some 100, some (99, false), .mov false false (.tmp 16)⟩, ⟨some 101, some (99, false), .bin (.lss) (.other) (.tmp 100) (.con (.int .i64 0))⟩, ⟨some 102, none, .pick (.tmp 99) (.con (.bool true)) (.tmp 101)⟩]) (.cond (.tmp 102) (.seq (.region false [⟨some 6, none, .mov true false (.con (.bool false))⟩]) (.ret)) (.skip))) (.exit 3)) (.skip))) (.seq (.region false [⟨some 104, none, .mov false false (.tmp 15)⟩, ⟨some 105, none, .call (.fn 21) [.tmp 104]⟩, ⟨some 106, none, .call (.fn 14) [.tmp 105]⟩, ⟨some 103, none, .mov true false (.tmp 106)⟩, ⟨some 107, none, .extract (.tmp 103) 0⟩, ⟨some 108, none, .extract (.tmp 103) 1⟩, ⟨some 17, none, .mov true false (.tmp 107)⟩, ⟨some 18, none, .mov true false (.tmp 108)⟩]) (.seq (.region false [⟨some 109, none, .mov false false (.tmp 15)⟩, ⟨some 110, none, .call (.fn 19) [.tmp 109]⟩, ⟨some 111, none, .un (.not) (.tmp 110)⟩, ⟨some 112, none, .mov true false (.tmp 111)⟩, ⟨some 113, some (112, false), .mov false false (.tmp 18)⟩, ⟨some 114, some (112, false), .bin (.neq) (.other) (.tmp 113) (.con (.int .i64 (-1)))⟩, ⟨some 115, none, .pick (.tmp 112) (.con (.bool true)) (.tmp 114)⟩, ⟨some 116, none, .mov true false (.tmp 115)⟩, ⟨some 117, some (116, false), .mov false false (.tmp 15)⟩, ⟨some 118, some (116, false), .mov false false (.tmp 17)⟩, ⟨some 119, some (116, false), .call (.fn 16) [.tmp 117, .tmp 118]⟩, ⟨some 120, some (116, false), .un (.not) (.tmp 119)⟩, ⟨some 121, none, .pick (.tmp 116) (.con (.bool true)) (.tmp 120)⟩]) (.cond (.tmp 121) (.seq (.region false [⟨some 6, none, .mov true false (.con (.bool false))⟩]) (.ret)) (.skip)))))))) (.region false [⟨some 64, none, .mov false false (.tmp 14)⟩, ⟨some 65, none, .bin (.add) (.other) (.tmp 64) (.con (.int .i64 1))⟩, ⟨some 14, none, .mov true false (.tmp 65)⟩])))))) (.seq (.region false [⟨some 122, none, .call (.fn 17) []⟩, ⟨some 6, none, .mov true false (.tmp 122)⟩]) (.ret))))))))) }

theorem ir7_ok : compF Tryd.prog [6, 7, 8, 9, 10, 11, 12, 13, 14, 15, 16, 17, 18, 24, 33, 66, 76, 84, 87, 99, 103, 112, 116] [] [] Tryd.f7 = some ir7 := by kernel_rfl

/-- splicery/lex.Scan -/
def ir24p : IFunc := { takes := [2, 3, 4, 5, 6, 7, 8, 9, 38], locals := [], muts := [5, 38, 48], nt := 53, np := 1, results := [.tmp 2, .tmp 3, .tmp 4], body := .seq (.region false [⟨some 2, none, .mov true false (.con (.slice [] true))⟩, ⟨some 3, none, .mov true false (.con (.str []))⟩, ⟨some 4, none, .mov true false (.con (.int .i64 0))⟩]) (.seq (.seq (.region false [⟨some 10, none, .mov false false (.tmp 0)⟩, ⟨some 11, none, .len (.str) (.tmp 10)⟩, ⟨some 12, none, .bin (.gtr) (.other) (.tmp 11) (.con (.int .i64 8192))⟩]) (.cond (.tmp 12) (.seq (.region false [⟨some 2, none, .mov true false (.con (.slice [] true))⟩, ⟨some 3, none, .mov true false (.con (.str []))⟩, ⟨some 4, none, .mov true false (.con (.int .i64 8192))⟩]) (.ret)) (.skip))) (.seq (.region false [⟨some 5, none, .mov true true (.con (.slice [] true))⟩]) (.seq (.region false [⟨some 6, none, .mov true false (.con (.int .i64 0))⟩]) (.seq (.skip) (.block 0 (.loop (.block 1 (.seq (.region false [⟨some 13, none, .mov false false (.tmp 0)⟩, ⟨some 14, none, .mov false false (.tmp 6)⟩, ⟨some 15, none, .slice (.str) (.tmp 13) (some (.tmp 14)) none none⟩, ⟨some 16, none, .call (.fn 43) [.tmp 15]⟩, ⟨some 7, none, .mov true false (.tmp 16)⟩]) (.seq (.region false [⟨some 17, none, .mov false false (.tmp 0)⟩, ⟨some 18, none, .mov false false (.tmp 6)⟩, ⟨some 19, none, .mov false false (.tmp 6)⟩, ⟨some 20, none, .mov false false (.tmp 7)⟩, ⟨some 21, none, .bin (.add) (.other) (.tmp 19) (.tmp 20)⟩, ⟨some 22, none, .slice (.str) (.tmp 17) (some (.tmp 18)) (some (.tmp 21)) none⟩, ⟨some 8, none, .mov true false (.tmp 22)⟩]) (.seq (.region false [⟨some 23, none, .mov false false (.tmp 6)⟩, ⟨some 24, none, .mov false false (.tmp 7)⟩, ⟨some 25, none, .bin (.add) (.other) (.tmp 23) (.tmp 24)⟩, ⟨some 6, none, .mov true false (.tmp 25)⟩]) (.seq (.seq (.region false [⟨some 26, none, .mov false false (.tmp 6)⟩, ⟨some 27, none, .mov false false (.tmp 0)⟩, ⟨some 28, none, .len (.str) (.tmp 27)⟩, ⟨some 29, none, .bin (.eql) (.other) (.tmp 26) (.tmp 28)⟩]) (.cond (.tmp 29) (.seq (.region false [⟨some 30, none, .mov false false (.tmp 5)⟩, ⟨some 31, none, .mov false false (.tmp 8)⟩, ⟨some 2, none, .mov true false (.tmp 30)⟩, ⟨some 3, none, .mov true false (.tmp 31)⟩, ⟨some 4, none, .mov true false (.con (.int .i64 (-1)))⟩]) (.ret)) (.skip))) (.seq (.seq (.region false [⟨some 32, none, .mov false false (.tmp 0)⟩, ⟨some 33, none, .mov false false (.tmp 6)⟩, ⟨some 34, none, .slice (.str) (.tmp 32) (some (.tmp 33)) none none⟩, ⟨some 35, none, .call (.fn 44) [.tmp 34]⟩, ⟨some 9, none, .mov true false (.tmp 35)⟩]) (.seq (.region false [⟨some 36, none, .mov false false (.tmp 9)⟩, ⟨some 37, none, .bin (.gtr) (.other) (.tmp 36) (.con (.int .i64 0))⟩]) (.cond (.tmp 37) (.seq (.region false [⟨some 38, none, .mov true true (.tmp 5)⟩, ⟨some 39, none, .mov false false (.tmp 0)⟩, ⟨some 40, none, .mov false false (.tmp 6)⟩, ⟨some 41, none, .mov false false (.tmp 6)⟩, ⟨some 42, none, .mov false false (.tmp 9)⟩, ⟨some 43, none, .bin (.add) (.other) (.tmp 41) (.tmp 42)⟩, ⟨some 44, none, .slice (.str) (.tmp 39) (some (.tmp 40)) (some (.tmp 43)) none⟩, ⟨some 45, none, .mov false false (.tmp 8)⟩, ⟨some 46, none, .build [.str [], .str []] [(0, 1, .tmp 44), (1, 1, .tmp 45)]⟩, ⟨some 47, none, .mkslice false 2 [[.str [], .str []]] [(0, .tmp 46)]⟩, ⟨some 48, none, .append false true 2 32 (.tmp 38) (.tmp 47)⟩, ⟨some 5, none, .mov true true (.tmp 48)⟩]) (.seq (.region false [⟨some 49, none, .mov false false (.tmp 6)⟩, ⟨some 50, none, .mov false false (.tmp 9)⟩, ⟨some 51, none, .bin (.add) (.other) (.tmp 49) (.tmp 50)⟩, ⟨some 6, none, .mov true false (.tmp 51)⟩]) (.exit 1))) (.skip)))) (.seq (.region false [⟨some 52, none, .mov false false (.tmp 6)⟩, ⟨some 2, none, .mov true false (.con (.slice [] true))⟩, ⟨some 3, none, .mov true false (.con (.str []))⟩, ⟨some 4, none, .mov true false (.tmp 52)⟩]) (.ret)))))))))))))) }

theorem ir24p_ok : compF Tryd.prog [2, 3, 4, 5, 6, 7, 8, 9, 38] [] [5, 38, 48] Tryd.f24 = some ir24p := by kernel_rfl

/-- splicery/lex.Text -/
def ir25 : IFunc := { takes := [4, 10], locals := [7], muts := [], nt := 24, np := 2, results := [.tmp 4], body := .seq (.region false [⟨some 4, none, .mov true false (.con (.str []))⟩]) (.seq (.region false [⟨some 5, none, .allocH 80 [.nilptr, .slice [] true]⟩]) (.seq (.seq (.region false [⟨some 8, none, .mov false false (.tmp 0)⟩, ⟨some 9, none, .len (.sl) (.tmp 8)⟩, ⟨some 10, none, .mov true false (.con (.int .i64 0))⟩]) (.block 0 (.loop (.seq (.region false [⟨some 11, none, .bin (.lss) (.other) (.tmp 10) (.tmp 9)⟩]) (.seq (.cond (.tmp 11) (.skip) (.exit 0)) (.seq (.block 1 (.seq (.region false [⟨some 12, none, .ixSl 2 (.tmp 8) (.tmp 10)⟩, ⟨some 13, none, .load false true 2 (.tmp 12)⟩, ⟨some 7, none, .allocL [.str [], .str []]⟩, ⟨none, none, .store 2 (.tmp 7) (.tmp 13)⟩]) (.region false [⟨some 14, none, .fieldAddr 1 (.tmp 7)⟩, ⟨some 15, none, .load false false 1 (.tmp 14)⟩, ⟨some 16, none, .fieldAddr 0 (.tmp 7)⟩, ⟨some 17, none, .load false false 1 (.tmp 16)⟩, ⟨some 18, none, .bin (.add) (.other) (.tmp 15) (.tmp 17)⟩, ⟨some 19, none, .call (.fn 38) [.tmp 5, .tmp 18]⟩]))) (.region false [⟨some 20, none, .bin (.add) (.other) (.tmp 10) (.con (.int .i64 1))⟩, ⟨some 10, none, .mov true false (.tmp 20)⟩]))))))) (.seq (.region false [⟨some 21, none, .call (.fn 40) [.tmp 5]⟩, ⟨some 22, none, .mov false false (.tmp 1)⟩, ⟨some 23, none, .bin (.add) (.other) (.tmp 21) (.tmp 22)⟩, ⟨some 4, none, .mov true false (.tmp 23)⟩]) (.ret)))) }

theorem ir25_ok : compF Tryd.prog [4, 10] [7] [] Tryd.f25 = some ir25 := by kernel_rfl

end Go.Proofs.YtgdcfgpddgedkaaDoor

/-! The round trip's plain law, 1: a text of tokens with blanks between them is read as these tokens. -/
namespace Go.Proofs.YtgdcfgpddgedkaaDoor
open Go Go.Abs Go.Proofs

/-- Blanks whose last comment has ended. -/
def closed : Bool → Str → Bool
  | c, [] => !c
  | c, b :: r => if b.toNat = 10 then closed false r else if b.toNat = 35 then closed true r else if b.toNat ≠ 32 ∧ c = false then false else closed c r

theorem skip_closed : ∀ (s rest : Str) (c : Bool), closed c s = true → skipL c (s ++ rest) = s.length + skipL false rest
  | [], rest, c, h => by
    have : c = false := by simpa [closed] using h
    subst this; simp
  | b :: r, rest, c, h => by
    simp only [closed] at h
    simp only [List.cons_append, skipL, List.length_cons]
    by_cases h1 : b.toNat = 10
    · rw [if_pos h1] at h ⊢; rw [skip_closed r rest _ h]; omega
    · rw [if_neg h1] at h ⊢
      by_cases h2 : b.toNat = 35
      · rw [if_pos h2] at h ⊢; rw [skip_closed r rest _ h]; omega
      · rw [if_neg h2] at h ⊢
        by_cases h3 : b.toNat ≠ 32 ∧ c = false
        · rw [if_pos h3] at h; cases h
        · rw [if_neg h3] at h ⊢; rw [skip_closed r rest _ h]; omega

theorem closed_append : ∀ (a b : Str) (c : Bool), closed c a = true → closed false b = true → closed c (a ++ b) = true
  | [], b, c, h, hb => by
    have : c = false := by simpa [closed] using h
    subst this; simpa using hb
  | x :: a, b, c, h, hb => by
    simp only [closed] at h
    simp only [List.cons_append, closed]
    by_cases h1 : x.toNat = 10
    · rw [if_pos h1] at h ⊢; exact closed_append a b _ h hb
    · rw [if_neg h1] at h ⊢
      by_cases h2 : x.toNat = 35
      · rw [if_pos h2] at h ⊢; exact closed_append a b _ h hb
      · rw [if_neg h2] at h ⊢
        by_cases h3 : x.toNat ≠ 32 ∧ c = false
        · rw [if_pos h3] at h; cases h
        · rw [if_neg h3] at h ⊢; exact closed_append a b _ h hb

/-- The first byte of a text, if there is one, is no part of a word or number. -/
def stops (s : Str) : Prop := ∀ b r, s = b :: r → kindOf b = 0

theorem stops_nil : stops [] := fun b r h => by cases h
theorem stops_cons {b : UInt8} {r : Str} (h : kindOf b = 0) : stops (b :: r) := fun b' r' e => by injection e with e; subst e; exact h

/-- The first byte of blanks. -/
theorem stops_closed {s rest : Str} (h : closed false s = true) (hne : s ≠ []) : stops (s ++ rest) := by
  cases s with
  | nil => exact absurd rfl hne
  | cons b r =>
    refine stops_cons ?_
    simp only [closed] at h
    have hb : b.toNat = 10 ∨ b.toNat = 35 ∨ b.toNat = 32 := by
      by_cases h1 : b.toNat = 10
      · exact .inl h1
      · rw [if_neg h1] at h
        by_cases h2 : b.toNat = 35
        · exact .inr (.inl h2)
        · rw [if_neg h2] at h
          by_cases h3 : b.toNat = 32
          · exact .inr (.inr h3)
          · simp [h3] at h
    unfold kindOf isLetter isDigit
    rcases hb with h | h | h <;> rw [h] <;> rfl

/-- A token's text: a word, a number, or one of two signs. -/
inductive Good : Str → Prop where
  | word (b : UInt8) (r : Str) (h : 0 < kindOf b) (hr : wordRun (kindOf b) r = r.length) (hl : r.length < 16) : Good (b :: r)
  | colon : Good [58]
  | comma : Good [44]

theorem run_ext {k : Int} : ∀ (r rest : Str), wordRun k r = r.length → stops rest → wordRun k (r ++ rest) = r.length
  | [], rest, _, hs => by
    cases rest with
    | nil => rfl
    | cons b q =>
      have hb := hs b q rfl
      simp [wordRun, hb]
  | c :: r, rest, h, hs => by
    simp only [wordRun, List.cons_append, List.length_cons] at h ⊢
    by_cases hc : kindOf c = 2 ∨ kindOf c = 1 ∧ k = 1
    · rw [if_pos hc] at h ⊢
      rw [run_ext r rest (by omega) hs]; omega
    · rw [if_neg hc] at h; omega

theorem Good.len {t : Str} (h : Good t) : t ≠ [] ∧ t.length ≤ 16 := by
  cases h with
  | word b r h hr hl => exact ⟨by simp, by simp; omega⟩
  | colon => exact ⟨by simp, by simp⟩
  | comma => exact ⟨by simp, by simp⟩

theorem sign_ext {c : UInt8} {rest : Str} (hk : kindOf c = 0) (h1 : isSign [c] = true) (h2 : ∀ d, isSign [c, d] = false) : tokL (c :: rest) = 1 := by
  simp only [tokL]
  rw [if_neg (by omega)]
  have h3 : ¬ (1 ≤ rest.length ∧ isSign ((c :: rest).take 2) = true) := by
    rintro ⟨h, h'⟩
    cases rest with
    | nil => simp at h
    | cons d q => simp only [List.take_succ_cons, List.take_zero] at h'; rw [h2] at h'; cases h'
  rw [if_neg h3, if_pos h1]

theorem sign_two {c : UInt8} (h1 : c ≠ 61) (h2 : c ≠ 45) (d : UInt8) : isSign [c, d] = false := by
  simp [isSign, h1, h2]

theorem Good.tok {t rest : Str} (h : Good t) (hs : stops rest ∨ t = [58] ∨ t = [44]) : tokL (t ++ rest) = t.length ∧ skipL false (t ++ rest) = 0 := by
  cases h with
  | word b r hb hr hl =>
    have hs : stops rest := by
      rcases hs with hs | hs | hs
      · exact hs
      · injection hs with e; subst e; exact absurd hb (by decide)
      · injection hs with e; subst e; exact absurd hb (by decide)
    constructor
    · simp only [List.cons_append, tokL]
      rw [if_pos hb, run_ext r rest hr hs, if_neg (by omega)]; simp; omega
    · simp only [List.cons_append, skipL]
      have n1 : ¬ b.toNat = 10 := fun e => by unfold kindOf isLetter isDigit at hb; rw [e] at hb; exact absurd hb (by decide)
      have n2 : ¬ b.toNat = 35 := fun e => by unfold kindOf isLetter isDigit at hb; rw [e] at hb; exact absurd hb (by decide)
      have n3 : ¬ b.toNat = 32 := fun e => by unfold kindOf isLetter isDigit at hb; rw [e] at hb; exact absurd hb (by decide)
      rw [if_neg n1, if_neg n2, if_pos ⟨n3, trivial⟩]
  | colon => exact ⟨sign_ext (by decide) (by decide) (sign_two (by decide) (by decide)), rfl⟩
  | comma => exact ⟨sign_ext (by decide) (by decide) (sign_two (by decide) (by decide)), rfl⟩

/-- A text: tokens, each with what stands before it, and an end. -/
def render (L : List Tok) (e : Str) : Str := L.flatMap (fun t => t.before ++ t.text) ++ e

theorem render_nil (e : Str) : render [] e = e := rfl
theorem render_cons (t : Tok) (L : List Tok) (e : Str) : render (t :: L) e = t.before ++ (t.text ++ render L e) := by simp [render]

/-- Blanks stand where they must. -/
def Apart (e : Str) : List Tok → Prop
  | [] => skipL false e = e.length
  | t :: L => closed false t.before = true ∧ Good t.text ∧ (stops (render L e) ∨ t.text = [58] ∨ t.text = [44]) ∧ Apart e L

theorem scan_render (e : Str) : ∀ (L : List Tok) (off : Nat), Apart e L → scanL (render L e) off = (L, e, -1)
  | [], off, h => by
    have h : skipL false e = e.length := h
    rw [render_nil, scanL, if_pos h]
  | t :: L, off, h => by
    obtain ⟨hb, hg, hs, hL⟩ := h
    obtain ⟨h1, h2⟩ := hg.tok hs
    obtain ⟨hne, _⟩ := hg.len
    have hpos : 0 < t.text.length := List.length_pos_iff.2 hne
    have hsk : skipL false (render (t :: L) e) = t.before.length := by rw [render_cons, skip_closed _ _ _ hb, h2]; omega
    have hdrop : (render (t :: L) e).drop t.before.length = t.text ++ render L e := by rw [render_cons, List.drop_left]
    have hlen : (render (t :: L) e).length = t.before.length + (t.text.length + (render L e).length) := by rw [render_cons]; simp
    have hdrop2 : (render (t :: L) e).drop (t.before.length + t.text.length) = render L e := by rw [← List.drop_drop, hdrop, List.drop_left]
    rw [scanL, hsk, hdrop, h1, if_neg (by omega), dif_neg (by omega), hdrop2, scan_render e L _ hL]
    simp only [if_pos trivial]
    rw [List.take_left, render_cons, List.take_left]

theorem scanS_render (e : Str) (L : List Tok) (h : Apart e L) (hl : (render L e).length ≤ 8192) : scanS (render L e) = (L, e, -1) := by
  unfold scanS; rw [if_neg (by omega), scan_render e L 0 h]

end Go.Proofs.YtgdcfgpddgedkaaDoor

/-! The round trip's plain law, 2: tokens of rules are read as these rules; what is read is valid. -/
namespace Go.Proofs.YtgdcfgpddgedkaaDoor
open Go Go.Abs Go.Proofs

def texts (L : List Tok) : List Str := L.map (·.text)

def joinT : List Int → List Str
  | [] => []
  | [w] => [dig w]
  | w :: v :: l => dig w :: [44] :: joinT (v :: l)

def ruleT (r : Rule) : List Str := [r.what] ++ (if r.mod = [] then [] else [[105, 110], r.mod]) ++ [[58], dig r.n, [111, 102]] ++ joinT r.who

theorem texts_cons {l : List Tok} {s : Str} {rest : List Str} (h : texts l = s :: rest) : ∃ t l', l = t :: l' ∧ t.text = s ∧ texts l' = rest := by
  cases l with
  | nil => cases h
  | cons t l' => injection h with h1 h2; exact ⟨t, l', rfl, h1, h2⟩

theorem texts_nil {l : List Tok} (h : texts l = []) : l = [] := by
  cases l with
  | nil => rfl
  | cons t l' => cases h

theorem nextS_texts {l : List Tok} {s : Str} {rest : List Str} (h : texts l = s :: rest) : nextS l = s := by
  obtain ⟨t, l', rfl, h1, _⟩ := texts_cons h
  exact h1

theorem expect_ok {p : Str → Bool} {l : List Tok} {k : Str → List Tok → Res} {s : Str} {rest : List Str} (h : texts l = s :: rest) (hp : p s = true) : ∃ l', texts l' = rest ∧ expect p l k = k s l' := by
  obtain ⟨t, l', rfl, rfl, h2⟩ := texts_cons h
  exact ⟨l', h2, by simp only [expect]; rw [if_pos hp]⟩

theorem expect_inv {p : Str → Bool} {l : List Tok} {k : Str → List Tok → Res} {x : Rule} {l' : List Tok} (h : expect p l k = .ok x l') : ∃ t l1, l = t :: l1 ∧ p t.text = true ∧ k t.text l1 = .ok x l' := by
  cases l with
  | nil => cases h
  | cons t l1 =>
    simp only [expect] at h
    by_cases hp : p t.text = true
    · rw [if_pos hp] at h; exact ⟨t, l1, rfl, hp, h⟩
    · rw [if_neg hp] at h; cases h

theorem numOf_digit {v : Int} (h0 : 0 ≤ v) (h9 : v ≤ 9) : numOf (dig v) = v := by
  have : dig v = [UInt8.ofNat (48 + v.toNat)] := by unfold dig; congr 2; omega
  rw [this, numOf_dig h0 h9]

theorem numIs_dig {v lo hi : Int} (h0 : 0 ≤ v) (h9 : v ≤ 9) (h1 : lo ≤ v) (h2 : v ≤ hi) : numIs lo hi (dig v) = true := by
  unfold numIs; rw [numOf_digit h0 h9]; simp [h1, h2]

theorem incr_cons {last w : Int} {r : List Int} : incr last (w :: r) = (decide (last < w) && decide (w ≤ 7) && incr w r) := rfl

theorem next_not {l : List Tok} {rest : List Str} (h : texts l = rest) (hr : rest.head? ≠ some [44]) : nextS l ≠ [44] := by
  cases l with
  | nil => intro h'; cases h'
  | cons t l' =>
    subst h
    intro h'
    exact hr (by simp only [texts, List.map_cons, List.head?_cons, Option.some.injEq]; exact h')

theorem whos_read (w m : Str) (n : Int) : ∀ (ws acc : List Int) (least : Int) (l : List Tok) (rest : List Str), ws ≠ [] → texts l = joinT ws ++ rest → rest.head? ≠ some [44] → incr (least - 1) ws = true → 0 ≤ least → n ≤ (acc.length + ws.length : Nat) →
    ∃ l', texts l' = rest ∧ whosL w m n acc least l = .ok ⟨w, m, n, acc ++ ws⟩ l'
  | [], _, _, _, _, h, _, _, _, _, _ => absurd rfl h
  | [v], acc, least, l, rest, _, ht, hr, hi, h0, hn => by
    simp only [incr_cons, Bool.and_eq_true, decide_eq_true_eq] at hi
    obtain ⟨l', h2, e⟩ := expect_ok (s := dig v) (rest := rest) (p := numIs least 7) (k := fun c l => whosK w m n acc (numOf c) l) (by simpa [joinT] using ht) (numIs_dig (by omega) (by omega) (by omega) (by omega))
    have hd := numOf_digit (v := v) (by omega) (by omega)
    refine ⟨l', h2, ?_⟩
    rw [whosL_eq, e, hd, whosK, if_pos ⟨by simp at hn ⊢; omega, next_not h2 hr⟩]
  | v :: v2 :: ws, acc, least, l, rest, _, ht, hr, hi, h0, hn => by
    rw [incr_cons] at hi
    simp only [Bool.and_eq_true, decide_eq_true_eq] at hi
    obtain ⟨l', h2, e⟩ := expect_ok (s := dig v) (rest := [44] :: (joinT (v2 :: ws) ++ rest)) (p := numIs least 7) (k := fun c l => whosK w m n acc (numOf c) l) (by simpa [joinT] using ht) (numIs_dig (by omega) (by omega) (by omega) (by omega))
    have h3 := nextS_texts h2
    obtain ⟨l2, h4, e2⟩ := expect_ok (p := fun s => s == [44]) (k := fun _ l2 => whosL w m n (acc ++ [v]) (v + 1) l2) h2 (by simp)
    have hd := numOf_digit (v := v) (by omega) (by omega)
    obtain ⟨l3, k1, k2⟩ := whos_read w m n (v2 :: ws) (acc ++ [v]) (v + 1) l2 rest (by simp) h4 hr (by rw [show v + 1 - 1 = v by omega]; exact hi.2) (by omega) (by simp at hn ⊢; omega)
    refine ⟨l3, k1, ?_⟩
    rw [whosL_eq, e, hd, whosK, if_neg (fun h => h.2 h3), e2, k2]; simp

theorem rule_read (r : Rule) (hv : validRule r = true) (l : List Tok) (rest : List Str) (ht : texts l = ruleT r ++ rest) (hr : rest.head? ≠ some [44]) : ∃ l', texts l' = rest ∧ readRule l = .ok r l' := by
  have hf := valid_facts hv
  unfold validRule at hv
  simp only [Bool.and_eq_true, Bool.or_eq_true, beq_iff_eq, decide_eq_true_eq] at hv
  obtain ⟨⟨⟨⟨hw, hm⟩, hn1⟩, hn2⟩, hi⟩ := hv
  obtain ⟨_, _, _, hn8, hne, _, _⟩ := hf
  have tail : ∀ (l1 : List Tok), texts l1 = [58] :: dig r.n :: [111, 102] :: (joinT r.who ++ rest) → ∃ l', texts l' = rest ∧ afterMod r.what r.mod l1 = .ok r l' := by
    intro l1 h1
    unfold afterMod
    obtain ⟨l2, h2, e2⟩ := expect_ok (p := fun s => s == [58]) (k := fun _ l => expect (numIs 1 8) l fun c l => expect (fun s => s == [111, 102]) l fun _ l => whosL r.what r.mod (numOf c) [] 0 l) h1 (by simp)
    obtain ⟨l3, h3, e3⟩ := expect_ok (p := numIs 1 8) (k := fun c l => expect (fun s => s == [111, 102]) l fun _ l => whosL r.what r.mod (numOf c) [] 0 l) h2 (numIs_dig (by omega) (by omega) (by omega) (by omega))
    obtain ⟨l4, h4, e4⟩ := expect_ok (p := fun s => s == [111, 102]) (k := fun _ l => whosL r.what r.mod (numOf (dig r.n)) [] 0 l) h3 (by simp)
    obtain ⟨l5, h5, e5⟩ := whos_read r.what r.mod r.n r.who [] 0 l4 rest hne h4 hr hi (by omega) (by simpa using hn2)
    refine ⟨l5, h5, ?_⟩
    rw [e2, e3, e4, numOf_digit (by omega) (by omega), e5]
    simp
  unfold readRule
  by_cases hmod : r.mod = []
  · have ht' : texts l = r.what :: [58] :: dig r.n :: [111, 102] :: (joinT r.who ++ rest) := by rw [ht]; simp [ruleT, hmod]
    obtain ⟨l1, h1, e1⟩ := expect_ok (p := isWhat) (k := fun w l => if nextS l = [105, 110] then expect (fun _ => true) l fun _ l => expect isWord l fun m l => afterMod w m l else afterMod w [] l) ht' hw
    obtain ⟨l', k1, k2⟩ := tail l1 h1
    refine ⟨l', k1, ?_⟩
    rw [e1, nextS_texts h1, if_neg (by decide)]
    rw [← k2, hmod]
  · have ht' : texts l = r.what :: [105, 110] :: r.mod :: [58] :: dig r.n :: [111, 102] :: (joinT r.who ++ rest) := by rw [ht]; simp [ruleT, hmod]
    obtain ⟨l1, h1, e1⟩ := expect_ok (p := isWhat) (k := fun w l => if nextS l = [105, 110] then expect (fun _ => true) l fun _ l => expect isWord l fun m l => afterMod w m l else afterMod w [] l) ht' hw
    obtain ⟨l2, h2, e2⟩ := expect_ok (p := fun _ => true) (k := fun _ l => expect isWord l fun m l => afterMod r.what m l) h1 rfl
    obtain ⟨l3, h3, e3⟩ := expect_ok (p := isWord) (k := fun m l => afterMod r.what m l) h2 (by rcases hm with hm | hm; exact absurd hm hmod; exact hm)
    obtain ⟨l', k1, k2⟩ := tail l3 h3
    refine ⟨l', k1, ?_⟩
    rw [e1, nextS_texts h1, if_pos rfl, e2, e3, k2]

theorem what_not_comma {s : Str} (h : isWhat s = true) : s ≠ [44] := by
  rintro rfl
  exact absurd h (by decide)

theorem head_rules : ∀ (x : List Rule), (∀ r ∈ x, validRule r = true) → (x.flatMap ruleT).head? ≠ some [44]
  | [], _ => by simp
  | r :: x, h => by
    have hv := h r (by simp)
    unfold validRule at hv
    simp only [Bool.and_eq_true] at hv
    have := what_not_comma hv.1.1.1.1
    simp [ruleT, this]

theorem parse_read : ∀ (x out : List Rule) (l : List Tok), (∀ r ∈ x, validRule r = true) → texts l = x.flatMap ruleT → out.length + x.length ≤ 64 → parseG out l = (some (out ++ x), [])
  | [], out, l, _, ht, _ => by
    have : l = [] := texts_nil (by simpa using ht)
    subst this
    rw [parseG_nil]; simp
  | r :: x, out, l, hv, ht, hl => by
    have hx : ∀ r ∈ x, validRule r = true := fun r h => hv r (by simp [h])
    obtain ⟨l', h1, h2⟩ := rule_read r (hv r (by simp)) l (x.flatMap ruleT) (by rw [ht]; simp) (head_rules x hx)
    have hne : l ≠ [] := by rintro rfl; simp [texts, ruleT] at ht
    rw [parseG_ok hne (by simp at hl; omega) h2, parse_read x (out ++ [r]) l' hx h1 (by simp at hl ⊢; omega)]
    simp

/-! ### what is read is valid -/

theorem whos_valid (w m : Str) (n : Int) : ∀ (k : Nat) (l l' : List Tok) (acc : List Int) (least : Int) (x : Rule), l.length ≤ k → whosL w m n acc least l = .ok x l' → incr (-1) acc = true → (∀ v ∈ acc, v < least) → 0 ≤ least →
    x.what = w ∧ x.mod = m ∧ x.n = n ∧ incr (-1) x.who = true ∧ n ≤ (x.who.length : Int)
  | 0, l, l', acc, least, x, hk, h, _, _, _ => by
    rw [whosL_eq] at h
    obtain ⟨t, l1, rfl, _⟩ := expect_inv h
    simp at hk
  | k + 1, l, l', acc, least, x, hk, h, hi, hl, h0 => by
    rw [whosL_eq] at h
    obtain ⟨t, l1, rfl, hn, h⟩ := expect_inv h
    simp only [numIs, Bool.and_eq_true, decide_eq_true_eq] at hn
    have hi' : incr (-1) (acc ++ [numOf t.text]) = true := incr_append hn.2 hi (fun v hv => by have := hl v hv; omega) (by omega)
    unfold whosK at h
    by_cases hc : n ≤ ((acc ++ [numOf t.text]).length : Int) ∧ nextS l1 ≠ [44]
    · rw [if_pos hc] at h
      injection h with h1 h2
      subst h1
      exact ⟨rfl, rfl, rfl, hi', hc.1⟩
    · rw [if_neg hc] at h
      obtain ⟨c, l2, rfl, _, h⟩ := expect_inv h
      refine whos_valid w m n k l2 l' (acc ++ [numOf t.text]) (numOf t.text + 1) x (by simp at hk; omega) h hi' (fun v hv => ?_) (by omega)
      rcases List.mem_append.1 hv with hv | hv
      · have := hl v hv; omega
      · simp at hv; omega

theorem rule_valid {l l' : List Tok} {x : Rule} (h : readRule l = .ok x l') : validRule x = true := by
  have fin : ∀ {w m : Str} {l : List Tok}, isWhat w = true → (m = [] ∨ isWord m = true) → afterMod w m l = .ok x l' → validRule x = true := by
    intro w m l hw hm h
    obtain ⟨t1, l1, rfl, _, h⟩ := expect_inv h
    obtain ⟨t2, l2, rfl, hn, h⟩ := expect_inv h
    obtain ⟨t3, l3, rfl, _, h⟩ := expect_inv h
    obtain ⟨k1, k2, k3, k4, k5⟩ := whos_valid w m (numOf t2.text) _ l3 l' [] 0 x (Nat.le_refl _) h rfl (fun v hv => by cases hv) (by omega)
    simp only [numIs, Bool.and_eq_true, decide_eq_true_eq] at hn
    unfold validRule
    simp only [Bool.and_eq_true, Bool.or_eq_true, beq_iff_eq, decide_eq_true_eq, k1, k2, k3]
    exact ⟨⟨⟨⟨hw, hm⟩, hn.1⟩, k5⟩, k4⟩
  obtain ⟨t, l1, rfl, hw, h⟩ := expect_inv h
  by_cases hin : nextS l1 = [105, 110]
  · rw [if_pos hin] at h
    obtain ⟨t2, l2, rfl, _, h⟩ := expect_inv h
    obtain ⟨t3, l3, rfl, hm, h⟩ := expect_inv h
    exact fin hw (.inr hm) h
  · rw [if_neg hin] at h
    exact fin hw (.inl rfl) h

theorem parse_valid : ∀ (k : Nat) (l l' : List Tok) (out y : List Rule), l.length ≤ k → parseG out l = (some y, l') → (∀ r ∈ out, validRule r = true) → out.length ≤ 64 → (∀ r ∈ y, validRule r = true) ∧ y.length ≤ 64
  | k, l, l', out, y, hk, h, hv, ho => by
    by_cases hne : l = []
    · subst hne
      rw [parseG_nil] at h
      injection h with h1 h2
      injection h1 with h1
      subst h1
      exact ⟨hv, ho⟩
    · by_cases h64 : out.length = 64
      · rw [parseG_full hne h64] at h; cases h
      · cases hr : readRule l with
        | bad l1 => rw [parseG_bad hne h64 hr] at h; cases h
        | ok x l1 =>
          have hlt := readRule_lt hr
          rw [parseG_ok hne h64 hr] at h
          cases k with
          | zero => omega
          | succ k =>
            refine parse_valid k l1 l' (out ++ [x]) y (by omega) h (fun r hm => ?_) (by simp; omega)
            rcases List.mem_append.1 hm with hm | hm
            · exact hv r hm
            · simp at hm; subst hm; exact rule_valid hr

theorem parseS_valid {s : Str} (h : (parseS s).2 = -1) : validRules (parseS s).1 = true := by
  unfold parseS at h ⊢
  by_cases hs : (scanS s).2.2 ≠ -1
  · rw [if_pos hs] at h; exact absurd h hs
  · rw [if_neg hs] at h ⊢
    cases hp : parseG [] (scanS s).1 with
    | mk o l' =>
      rw [hp] at h
      have hoff : ∀ (L : List Tok) (t : Tok), offs L + (t.before.length : Int) ≠ -1 := by
        intro L t
        have : 0 ≤ offs L := by
          unfold offs
          induction L with
          | nil => simp
          | cons a L ih => simp only [List.map_cons, List.sum_cons]; omega
        omega
      cases o with
      | some y =>
        obtain ⟨h1, h2⟩ := parse_valid _ _ _ _ _ (Nat.le_refl _) hp (fun r h => by cases h) (by simp)
        show validRules y = true
        unfold validRules
        simp only [Bool.and_eq_true, List.all_eq_true, decide_eq_true_eq]
        exact ⟨h1, h2⟩
      | none =>
        cases l' with
        | nil => simp only [finS] at h; omega
        | cons t r => exact absurd h (hoff _ _)

/-- Where something cannot stand there, nothing is returned. -/
theorem parseS_bad {s : Str} (h : (parseS s).2 ≠ -1) : (parseS s).1 = [] ∧ 0 ≤ (parseS s).2 := by
  unfold parseS at h ⊢
  by_cases hs : (scanS s).2.2 ≠ -1
  · rw [if_pos hs] at h ⊢
    exact ⟨rfl, by rcases scanS_at s with e | e; exact absurd e hs; exact e.1⟩
  · rw [if_neg hs] at h ⊢
    cases hp : parseG [] (scanS s).1 with
    | mk o l' =>
      rw [hp] at h
      cases o with
      | some y => exact absurd rfl h
      | none =>
        cases l' with
        | nil => exact ⟨rfl, by simp only [finS]; omega⟩
        | cons t r =>
          refine ⟨rfl, ?_⟩
          simp only [finS]
          have : ∀ L : List Tok, 0 ≤ offs L := by
            intro L
            unfold offs
            induction L with
            | nil => simp
            | cons a L ih => simp only [List.map_cons, List.sum_cons]; omega
          have := this ((scanS s).1.take ((scanS s).1.length - (t :: r).length))
          omega

/-- A text of the tokens of valid rules. -/
theorem parseS_render {x : List Rule} {L : List Tok} {e : Str} (hv : validRules x = true) (ht : texts L = x.flatMap ruleT) (ha : Apart e L) (hl : (render L e).length ≤ 8192) : parseS (render L e) = (x, -1) := by
  unfold validRules at hv
  simp only [Bool.and_eq_true, List.all_eq_true, decide_eq_true_eq] at hv
  unfold parseS
  rw [scanS_render e L ha hl]
  simp only [ne_eq, not_true_eq_false, if_false]
  rw [parse_read x [] L hv.1 ht (by simpa using hv.2)]
  simp [finS]

end Go.Proofs.YtgdcfgpddgedkaaDoor

/-! The round trip's plain law, 3: what is printed, and the same tokens with other blanks. -/
namespace Go.Proofs.YtgdcfgpddgedkaaDoor
open Go Go.Abs Go.Proofs

/-- A token behind another one. -/
def Behind (t : Tok) : Prop := closed false t.before = true ∧ Good t.text ∧ (t.before ≠ [] ∨ t.text = [58] ∨ t.text = [44])

theorem stops_render {e : Str} (he : stops e) : ∀ {L : List Tok}, (∀ t ∈ L, Behind t) → stops (render L e)
  | [], _ => he
  | t :: L, h => by
    obtain ⟨h1, h2, h3⟩ := h t (by simp)
    rw [render_cons]
    by_cases hb : t.before = []
    · rw [hb, List.nil_append]
      rcases h3 with h3 | h3 | h3
      · exact absurd hb h3
      · rw [h3]; exact stops_cons (by decide)
      · rw [h3]; exact stops_cons (by decide)
    · exact stops_closed h1 hb

theorem apart_of {e : Str} (he : stops e) (hs : skipL false e = e.length) : ∀ {L : List Tok}, (∀ t ∈ L, closed false t.before = true ∧ Good t.text) → (∀ t ∈ L.tail, Behind t) → Apart e L
  | [], _, _ => hs
  | t :: L, h, ht => by
    obtain ⟨h1, h2⟩ := h t (by simp)
    refine ⟨h1, h2, .inl (stops_render he ht), apart_of he hs (fun u hu => h u (by simp [hu])) (fun u hu => ht u ?_)⟩
    simp only [List.tail_cons]
    exact List.mem_of_mem_tail hu

/-! ### the tokens of rules -/

def whoP : List Int → List Tok
  | [] => []
  | w :: l => ⟨[44], []⟩ :: ⟨dig w, [32]⟩ :: whoP l

def whoP1 : List Int → List Tok
  | [] => []
  | w :: l => ⟨dig w, [32]⟩ :: whoP l

def ruleP (b : Str) (r : Rule) : List Tok := ⟨r.what, b⟩ :: ((if r.mod = [] then [] else [⟨[105, 110], [32]⟩, ⟨r.mod, [32]⟩]) ++ (⟨[58], []⟩ :: ⟨dig r.n, [32]⟩ :: ⟨[111, 102], [32]⟩ :: whoP1 r.who))

def rulesP : Str → List Rule → List Tok
  | _, [] => []
  | b, r :: x => ruleP b r ++ rulesP [10] x

theorem render_append (L M : List Tok) (e : Str) : render (L ++ M) e = render L (render M e) := by simp [render]

theorem render_who (e : Str) : ∀ l, render (whoP l) e = whoR false l ++ e
  | [] => rfl
  | w :: l => by
    simp only [whoP, render_cons, render_who e l, whoR]
    simp

theorem render_who1 (e : Str) : ∀ l, render (whoP1 l) e = whoR true l ++ e
  | [] => rfl
  | w :: l => by
    simp only [whoP1, render_cons, render_who e l, whoR]
    simp

theorem render_rule (b : Str) (r : Rule) (e : Str) : render (ruleP b r) ([10] ++ e) = b ++ printRule r ++ e := by
  unfold ruleP printRule
  rw [render_cons, render_append]
  simp only [render_cons, render_who1]
  by_cases hm : r.mod = []
  · simp [hm, render_nil]
  · simp [hm, render_cons, render_nil]

theorem render_rules : ∀ (x : List Rule) (b : Str), x ≠ [] → render (rulesP b x) [10] = b ++ x.flatMap printRule
  | [], _, h => absurd rfl h
  | [r], b, _ => by
    have := render_rule b r []
    simp only [rulesP, List.append_nil] at this ⊢
    rw [this]; simp
  | r :: r2 :: x, b, _ => by
    rw [rulesP, render_append, render_rules (r2 :: x) [10] (by simp), render_rule]
    simp

theorem texts_who : ∀ l, texts (whoP1 l) = joinT l
  | [] => rfl
  | [w] => rfl
  | w :: v :: l => by
    have := texts_who (v :: l)
    simp only [texts, whoP1, whoP, List.map_cons, joinT] at this ⊢
    rw [this]

theorem texts_rule (b : Str) (r : Rule) : texts (ruleP b r) = ruleT r := by
  have h := texts_who r.who
  unfold ruleP ruleT
  by_cases hm : r.mod = []
  · simp only [texts, hm, if_true, List.map_cons, List.nil_append, List.map_append, List.map_nil] at h ⊢
    rw [h]; rfl
  · simp only [texts, hm, if_false, List.map_cons, List.map_append, List.map_nil] at h ⊢
    rw [h]; simp

theorem texts_rules : ∀ (x : List Rule) (b : Str), texts (rulesP b x) = x.flatMap ruleT
  | [], _ => rfl
  | r :: x, b => by
    have h1 := texts_rule b r
    have h2 := texts_rules x [10]
    simp only [texts, rulesP, List.map_append, List.flatMap_cons] at h1 h2 ⊢
    rw [h1, h2]

theorem good_what {s : Str} (h : isWhat s = true) : Good s := by
  have hm : s ∈ whatsS := by simpa [isWhat] using h
  simp only [whatsS, List.mem_cons, List.not_mem_nil, or_false] at hm
  rcases hm with rfl | rfl | rfl | rfl | rfl | rfl | rfl <;> exact .word _ _ (by decide) (by decide) (by decide)

theorem good_word {s : Str} (h : isWord s = true) : Good s := by
  cases s with
  | nil => cases h
  | cons b r =>
    simp only [isWord, Bool.and_eq_true, decide_eq_true_eq] at h
    obtain ⟨⟨hk, _⟩, ht⟩ := h
    simp only [tokL, List.length_cons] at ht
    rw [if_pos (by omega)] at ht
    by_cases h16 : 16 < 1 + wordRun (kindOf b) r
    · rw [if_pos h16] at ht; omega
    · rw [if_neg h16] at ht
      exact .word b r (by omega) (by omega) (by omega)

theorem good_dig {n : Int} (h0 : 0 ≤ n) (h9 : n ≤ 9) : Good (dig n) := by
  have h : (UInt8.ofNat (48 + n).toNat).toNat = (48 + n).toNat := by rw [UInt8.toNat_ofNat']; omega
  refine .word _ [] ?_ rfl (by simp)
  unfold kindOf isLetter isDigit
  rw [h]
  have e : (((48 + n).toNat : Nat) : Int) = 48 + n := by omega
  rw [e]
  have a1 : decide ((97 : Int) ≤ 48 + n) = false := by simp; omega
  have a2 : decide ((65 : Int) ≤ 48 + n) = false := by simp; omega
  have a3 : decide ((48 : Int) ≤ 48 + n) = true := by simp; omega
  have a4 : decide (48 + n ≤ (57 : Int)) = true := by simp; omega
  rw [a1, a2, a3, a4]
  simp

theorem c32 : closed false [32] = true := by decide

theorem behind_who : ∀ (l : List Int), (∀ w ∈ l, 0 ≤ w ∧ w ≤ 7) → ∀ t ∈ whoP l, Behind t
  | [], _, t, h => by cases h
  | w :: l, hw, t, h => by
    have h7 := hw w (by simp)
    simp only [whoP, List.mem_cons] at h
    rcases h with rfl | rfl | h
    · exact ⟨rfl, .comma, .inr (.inr rfl)⟩
    · exact ⟨c32, good_dig (by omega) (by omega), .inl (by simp)⟩
    · exact behind_who l (fun w h => hw w (by simp [h])) t h

theorem behind_rule {b : Str} {r : Rule} (hv : validRule r = true) (hb : closed false b = true) : (∀ t ∈ ruleP b r, closed false t.before = true ∧ Good t.text) ∧ ∀ t ∈ (ruleP b r).tail, Behind t := by
  have hf := valid_facts hv
  unfold validRule at hv
  simp only [Bool.and_eq_true, Bool.or_eq_true, beq_iff_eq, decide_eq_true_eq] at hv
  obtain ⟨⟨⟨⟨hw, hm⟩, hn1⟩, hn2⟩, hi⟩ := hv
  obtain ⟨_, _, _, hn8, _, _, hwho⟩ := hf
  have tail : ∀ t ∈ (ruleP b r).tail, Behind t := by
    intro t ht
    simp only [ruleP, List.tail_cons, List.mem_append, List.mem_cons] at ht
    rcases ht with ht | rfl | rfl | rfl | ht
    · by_cases hmod : r.mod = []
      · rw [if_pos hmod] at ht; cases ht
      · rw [if_neg hmod] at ht
        simp only [List.mem_cons, List.not_mem_nil, or_false] at ht
        rcases ht with rfl | rfl
        · exact ⟨by decide, .word _ _ (by decide) (by decide) (by decide), .inl (by simp)⟩
        · exact ⟨c32, good_word (by rcases hm with hm | hm; exact absurd hm hmod; exact hm), .inl (by simp)⟩
    · exact ⟨rfl, .colon, .inr (.inl rfl)⟩
    · exact ⟨c32, good_dig (by omega) (by omega), .inl (by simp)⟩
    · exact ⟨by decide, .word _ _ (by decide) (by decide) (by decide), .inl (by simp)⟩
    · cases hwl : r.who with
      | nil => rw [hwl] at ht; cases ht
      | cons w l =>
        rw [hwl] at ht hwho
        have h7 := hwho w (by simp)
        simp only [whoP1, List.mem_cons] at ht
        rcases ht with rfl | ht
        · exact ⟨c32, good_dig (by omega) (by omega), .inl (by simp)⟩
        · exact behind_who l (fun w h => hwho w (by simp [h])) t ht
  refine ⟨fun t ht => ?_, tail⟩
  have e : ruleP b r = ⟨r.what, b⟩ :: (ruleP b r).tail := rfl
  rw [e] at ht
  simp only [List.mem_cons] at ht
  rcases ht with rfl | ht
  · exact ⟨hb, good_what hw⟩
  · obtain ⟨h1, h2, _⟩ := tail t ht
    exact ⟨h1, h2⟩

theorem behind_rules : ∀ (x : List Rule) (b : Str), (∀ r ∈ x, validRule r = true) → closed false b = true → (∀ t ∈ rulesP b x, closed false t.before = true ∧ Good t.text) ∧ ∀ t ∈ (rulesP b x).tail, Behind t
  | [], _, _, _ => ⟨(fun t h => by cases h), fun t h => by cases h⟩
  | r :: x, b, hv, hb => by
    obtain ⟨h1, h2⟩ := behind_rule (b := b) (hv r (by simp)) hb
    obtain ⟨h3, h4⟩ := behind_rules x [10] (fun r h => hv r (by simp [h])) (by decide)
    refine ⟨fun t ht => ?_, fun t ht => ?_⟩
    · simp only [rulesP, List.mem_append] at ht
      rcases ht with ht | ht
      · exact h1 t ht
      · exact h3 t ht
    · have e : (rulesP b (r :: x)).tail = (ruleP b r).tail ++ rulesP [10] x := rfl
      rw [e, List.mem_append] at ht
      rcases ht with ht | ht
      · exact h2 t ht
      · cases x with
        | nil => cases ht
        | cons r2 x =>
          have e2 : rulesP [10] (r2 :: x) = ⟨r2.what, [10]⟩ :: (rulesP [10] (r2 :: x)).tail := rfl
          rw [e2, List.mem_cons] at ht
          rcases ht with rfl | ht
          · obtain ⟨k1, k2⟩ := h3 ⟨r2.what, [10]⟩ (by rw [e2]; simp)
            exact ⟨k1, k2, .inl (by simp)⟩
          · exact h4 t ht

theorem printRule_len {r : Rule} (h : validRule r = true) : (printRule r).length ≤ 60 := by
  obtain ⟨h1, h2, _, _, _, h3, _⟩ := valid_facts h
  have h4 := whoR_len r.who true
  unfold printRule
  by_cases hm : r.mod = []
  · simp [hm, dig]; omega
  · simp [hm, dig]; omega

theorem printRules_len {x : List Rule} (h : validRules x = true) : (printRules x).length ≤ 8192 := by
  unfold printRules
  rw [if_pos h]
  unfold validRules at h
  simp only [Bool.and_eq_true, List.all_eq_true, decide_eq_true_eq] at h
  have : ∀ l : List Rule, (∀ r ∈ l, validRule r = true) → (l.flatMap printRule).length ≤ 60 * l.length := by
    intro l
    induction l with
    | nil => intro _; simp
    | cons r l ih =>
      intro hl
      have h1 := printRule_len (hl r (by simp))
      have h2 := ih (fun r h => hl r (by simp [h]))
      simp only [List.flatMap_cons, List.length_append, List.length_cons]; omega
  have := this x h.1
  omega

/-- What stands behind the last rule. -/
def endP (x : List Rule) : Str := if x = [] then [] else [10]

theorem print_render {x : List Rule} (h : validRules x = true) : printRules x = render (rulesP [] x) (endP x) := by
  unfold printRules endP
  rw [if_pos h]
  by_cases hx : x = []
  · subst hx; rfl
  · rw [if_neg hx, render_rules x [] hx]; rfl

theorem apart_print {x : List Rule} (h : validRules x = true) : Apart (endP x) (rulesP [] x) := by
  unfold validRules at h
  simp only [Bool.and_eq_true, List.all_eq_true, decide_eq_true_eq] at h
  obtain ⟨h1, h2⟩ := behind_rules x [] h.1 rfl
  unfold endP
  by_cases hx : x = []
  · rw [if_pos hx]; exact apart_of stops_nil rfl h1 h2
  · rw [if_neg hx]; exact apart_of (stops_cons (by decide)) (by decide) h1 h2

theorem scan_print {x : List Rule} (h : validRules x = true) : scanS (printRules x) = (rulesP [] x, endP x, -1) := by
  have hl := printRules_len h
  rw [print_render h] at hl ⊢
  exact scanS_render _ _ (apart_print h) hl

theorem parse_print {x : List Rule} (h : validRules x = true) : parseS (printRules x) = (x, -1) := by
  have hl := printRules_len h
  rw [print_render h] at hl ⊢
  exact parseS_render h (texts_rules x []) (apart_print h) hl

/-- The same tokens with other blanks. -/
theorem parse_gaps {x : List Rule} (h : validRules x = true) {L : List Tok} (ht : texts L = texts (rulesP [] x)) (hc : ∀ t ∈ L, closed false t.before = true) (hb : ∀ t ∈ L.tail, t.before ≠ [])
    (hl : (render L [35, 32, 101, 110, 100]).length ≤ 8192) : parseS (render L [35, 32, 101, 110, 100]) = (x, -1) := by
  have h' := h
  unfold validRules at h'
  simp only [Bool.and_eq_true, List.all_eq_true, decide_eq_true_eq] at h'
  obtain ⟨h1, _⟩ := behind_rules x [] h'.1 rfl
  have hg : ∀ t ∈ L, Good t.text := by
    intro t hm
    have : t.text ∈ texts (rulesP [] x) := by rw [← ht]; exact List.mem_map_of_mem hm
    obtain ⟨u, hu, e⟩ := List.mem_map.1 this
    rw [← e]; exact (h1 u hu).2
  refine parseS_render h (by rw [ht, texts_rules]) (apart_of (stops_cons (by decide)) (by decide) (fun t hm => ⟨hc t hm, hg t hm⟩) (fun t hm => ?_)) hl
  have hm' := List.mem_of_mem_tail hm
  exact ⟨hc t hm', hg t hm', .inl (hb t hm)⟩

end Go.Proofs.YtgdcfgpddgedkaaDoor

/-! The round trip's own abstract program: lex.Scan hands its tokens over as an object, the law writes into it, lex.Text reads it; all else as before. -/
set_option maxRecDepth 100000
namespace Go.Proofs.YtgdcfgpddgedkaaDoor
open Go Go.Abs Go.Proofs

def fns7 (f : FuncId) : Option IFunc :=
  match f with
  | 7 => some ir7
  | 24 => some ir24p
  | 25 => some ir25
  | _ => none

noncomputable def ov7 (f : FuncId) : Option (List AV → AHeap → Option (AV × Option Chg)) :=
  match f with
  | 7 => none
  | 24 => none
  | 25 => none
  | f => some (callD A f)

noncomputable def A7 : AP := ⟨fns7, ov7, A.glob⟩

theorem fns7_ok (f : FuncId) (ifn : IFunc) (h : fns7 f = some ifn) : ∃ fn takes locals muts, Tryd.prog.funcs[f]? = some fn ∧ compF Tryd.prog takes locals muts fn = some ifn := by
  unfold fns7 at h
  split at h
  · injection h with h; subst h; exact ⟨_, _, _, _, Tryd.func7, ir7_ok⟩
  · injection h with h; subst h; exact ⟨_, _, _, _, Tryd.func24, ir24p_ok⟩
  · injection h with h; subst h; exact ⟨_, _, _, _, Tryd.func25, ir25_ok⟩
  · cases h

theorem callD_sound {f : FuncId} : OvSound Tryd.prog A.glob f (callD A f) := by
  intro args H r c h
  obtain ⟨n, hn⟩ := callD_eq.1 h
  exact evF_sound progOK n f args H r c hn

theorem ov7_ok (f : FuncId) (g : List AV → AHeap → Option (AV × Option Chg)) (h : ov7 f = some g) : OvSound Tryd.prog A.glob f g := by
  unfold ov7 at h
  split at h
  · cases h
  · cases h
  · cases h
  · injection h with h; subst h; exact callD_sound

theorem progOK7 : ProgOK Tryd.prog A7 := ⟨progOK.mixed, fns7_ok, ov7_ok⟩

theorem c7 {f : FuncId} (h : A7.ov f = some (callD A f)) {args : List AV} {H : AHeap} {r : AV × Option Chg} (hr : callD A f args H = some r) : callD A7 f args H = some r := callD_ov (g := callD A f) h hr

/-! ### the gaps -/

theorem lit8' : ∀ j : Nat, j < 8 → ∃ x : Str, ([[.str []], [.str [32]], [.str [10]], [.str [32, 32]], [.str [35, 32, 97, 32, 40, 98, 10]], [.str [32, 35, 10, 32]], [.str [10, 10]], [.str [35, 255, 35, 32, 49, 10]]] : List (List AV))[j]? = some [.str x] ∧ x.length ≤ 7 ∧ closed false x = true
  | 0, _ => ⟨[], rfl, by decide, by decide⟩
  | 1, _ => ⟨[32], rfl, by decide, by decide⟩
  | 2, _ => ⟨[10], rfl, by decide, by decide⟩
  | 3, _ => ⟨[32, 32], rfl, by decide, by decide⟩
  | 4, _ => ⟨[35, 32, 97, 32, 40, 98, 10], rfl, by decide, by decide⟩
  | 5, _ => ⟨[32, 35, 10, 32], rfl, by decide, by decide⟩
  | 6, _ => ⟨[10, 10], rfl, by decide, by decide⟩
  | 7, _ => ⟨[35, 255, 35, 32, 49, 10], rfl, by decide, by decide⟩
  | _ + 8, h => by omega

theorem gap2_D (n some' : Int) (H : AHeap) (hn : I64 n) : ∃ r, callD A 12 [.int .i64 n, .int .i64 some'] H = some r ∧ ∃ s : Str, r = (.str s, none) ∧ s.length ≤ 14 ∧ closed false s = true ∧ (some' ≠ 0 → s ≠ []) := by
  refine callD_WP (fn := ir12) rfl rfl rfl ?_
  unfold ir12
  have hr := around_range (n := n) (k := 1000000) (by omega)
  simp (disch := omega) only [evA, argsV, argsOK, partsV, elemsV, optV, evOper, evOp, evAppend, IArg.eval, AS.putD, ↓reduceIte, Nat.reduceEqDiff, Option.isSome, Option.isNone, cond_true, cond_false, Nat.reduceBEq, Nat.reduceAdd, Nat.reduceMul, binInt, binStr, eq_self, reduceCtorEq, unAV, lenAV, convAV, sliceAV, bound, isCon, AS.spent, liveAddr, offAddr, elemsOf, Nat.reduceLeDiff, nilCmp, putAt, Int.reduceEq, Int.reduceLT, Int.reduceLE, Int.reduceBEq, Int.reduceBNe, Int.reduceAdd, Int.reduceNeg, Int.reduceSub, Int.reduceMul, ilt_t, ilt_f, ile_t, ile_f, ieq_t, ieq_f, ine_t, ine_f, around_D n 1000000 H hn (by omega)]
  generalize around n 1000000 = k at hr
  have h8 : k.tmod 8 = ((k.toNat % 8 : Nat) : Int) := by rw [Int.tmod_eq_emod_of_nonneg hr.1]; omega
  have hq : k.tdiv 8 = ((k.toNat / 8 : Nat) : Int) := by rw [Int.tdiv_eq_ediv_of_nonneg hr.1]; omega
  have hq8 : (((k.toNat / 8 : Nat) : Int)).tmod 8 = ((k.toNat / 8 % 8 : Nat) : Int) := by rw [Int.tmod_eq_emod_of_nonneg (by omega)]; omega
  have h3 : k.tmod 3 = k % 3 := Int.tmod_eq_emod_of_nonneg hr.1
  obtain ⟨x, hx, hxl, hxc⟩ := lit8' (k.toNat % 8) (by omega)
  obtain ⟨y, hy, hyl, hyc⟩ := lit8' (k.toNat / 8 % 8) (by omega)
  generalize k.toNat % 8 = i at h8 hx
  generalize k.toNat / 8 % 8 = j at hq8 hy
  by_cases hk3 : k % 3 = 0
  · have hzl : (x ++ y).length ≤ 14 := by rw [List.length_append]; omega
    have hzc := closed_append x y _ hxc hyc
    generalize hz : x ++ y = z at hzl hzc
    by_cases he : z = []
    · have he' : (z == []) = true := by simp [he]
      by_cases hs : some' = 0
      · simp (disch := omega) only [evA, argsV, argsOK, partsV, elemsV, optV, evOper, evOp, evAppend, IArg.eval, AS.putD, ↓reduceIte, Nat.reduceEqDiff, Option.isSome, Option.isNone, cond_true, cond_false, Nat.reduceBEq, Nat.reduceAdd, Nat.reduceMul, binInt, binStr, eq_self, reduceCtorEq, unAV, lenAV, convAV, sliceAV, bound, isCon, AS.spent, liveAddr, offAddr, elemsOf, Nat.reduceLeDiff, nilCmp, putAt, Int.reduceEq, Int.reduceLT, Int.reduceLE, Int.reduceBEq, Int.reduceBNe, Int.reduceAdd, Int.reduceNeg, Int.reduceSub, Int.reduceMul, ilt_t, ilt_f, ile_t, ile_f, ieq_t, ieq_f, ine_t, ine_f, h8, h3, hx, hk3, hq, hq8, hy, hz, he', hs]
        exact ⟨_, rfl, by omega, hzc, fun h => absurd rfl h⟩
      · simp (disch := omega) only [evA, argsV, argsOK, partsV, elemsV, optV, evOper, evOp, evAppend, IArg.eval, AS.putD, ↓reduceIte, Nat.reduceEqDiff, Option.isSome, Option.isNone, cond_true, cond_false, Nat.reduceBEq, Nat.reduceAdd, Nat.reduceMul, binInt, binStr, eq_self, reduceCtorEq, unAV, lenAV, convAV, sliceAV, bound, isCon, AS.spent, liveAddr, offAddr, elemsOf, Nat.reduceLeDiff, nilCmp, putAt, Int.reduceEq, Int.reduceLT, Int.reduceLE, Int.reduceBEq, Int.reduceBNe, Int.reduceAdd, Int.reduceNeg, Int.reduceSub, Int.reduceMul, ilt_t, ilt_f, ile_t, ile_f, ieq_t, ieq_f, ine_t, ine_f, h8, h3, hx, hk3, hq, hq8, hy, hz, he', hs]
        exact ⟨_, rfl, by decide, by decide, fun _ => by simp⟩
    · have he' : (z == []) = false := by simpa using he
      simp (disch := omega) only [evA, argsV, argsOK, partsV, elemsV, optV, evOper, evOp, evAppend, IArg.eval, AS.putD, ↓reduceIte, Nat.reduceEqDiff, Option.isSome, Option.isNone, cond_true, cond_false, Nat.reduceBEq, Nat.reduceAdd, Nat.reduceMul, binInt, binStr, eq_self, reduceCtorEq, unAV, lenAV, convAV, sliceAV, bound, isCon, AS.spent, liveAddr, offAddr, elemsOf, Nat.reduceLeDiff, nilCmp, putAt, Int.reduceEq, Int.reduceLT, Int.reduceLE, Int.reduceBEq, Int.reduceBNe, Int.reduceAdd, Int.reduceNeg, Int.reduceSub, Int.reduceMul, ilt_t, ilt_f, ile_t, ile_f, ieq_t, ieq_f, ine_t, ine_f, h8, h3, hx, hk3, hq, hq8, hy, hz, he']
      exact ⟨_, rfl, by omega, hzc, fun _ => he⟩
  · by_cases he : x = []
    · have he' : (x == []) = true := by simp [he]
      by_cases hs : some' = 0
      · simp (disch := omega) only [evA, argsV, argsOK, partsV, elemsV, optV, evOper, evOp, evAppend, IArg.eval, AS.putD, ↓reduceIte, Nat.reduceEqDiff, Option.isSome, Option.isNone, cond_true, cond_false, Nat.reduceBEq, Nat.reduceAdd, Nat.reduceMul, binInt, binStr, eq_self, reduceCtorEq, unAV, lenAV, convAV, sliceAV, bound, isCon, AS.spent, liveAddr, offAddr, elemsOf, Nat.reduceLeDiff, nilCmp, putAt, Int.reduceEq, Int.reduceLT, Int.reduceLE, Int.reduceBEq, Int.reduceBNe, Int.reduceAdd, Int.reduceNeg, Int.reduceSub, Int.reduceMul, ilt_t, ilt_f, ile_t, ile_f, ieq_t, ieq_f, ine_t, ine_f, h8, h3, hx, hk3, he', hs]
        exact ⟨_, rfl, by omega, hxc, fun h => absurd rfl h⟩
      · simp (disch := omega) only [evA, argsV, argsOK, partsV, elemsV, optV, evOper, evOp, evAppend, IArg.eval, AS.putD, ↓reduceIte, Nat.reduceEqDiff, Option.isSome, Option.isNone, cond_true, cond_false, Nat.reduceBEq, Nat.reduceAdd, Nat.reduceMul, binInt, binStr, eq_self, reduceCtorEq, unAV, lenAV, convAV, sliceAV, bound, isCon, AS.spent, liveAddr, offAddr, elemsOf, Nat.reduceLeDiff, nilCmp, putAt, Int.reduceEq, Int.reduceLT, Int.reduceLE, Int.reduceBEq, Int.reduceBNe, Int.reduceAdd, Int.reduceNeg, Int.reduceSub, Int.reduceMul, ilt_t, ilt_f, ile_t, ile_f, ieq_t, ieq_f, ine_t, ine_f, h8, h3, hx, hk3, he', hs]
        exact ⟨_, rfl, by decide, by decide, fun _ => by simp⟩
    · have he' : (x == []) = false := by simpa using he
      simp (disch := omega) only [evA, argsV, argsOK, partsV, elemsV, optV, evOper, evOp, evAppend, IArg.eval, AS.putD, ↓reduceIte, Nat.reduceEqDiff, Option.isSome, Option.isNone, cond_true, cond_false, Nat.reduceBEq, Nat.reduceAdd, Nat.reduceMul, binInt, binStr, eq_self, reduceCtorEq, unAV, lenAV, convAV, sliceAV, bound, isCon, AS.spent, liveAddr, offAddr, elemsOf, Nat.reduceLeDiff, nilCmp, putAt, Int.reduceEq, Int.reduceLT, Int.reduceLE, Int.reduceBEq, Int.reduceBNe, Int.reduceAdd, Int.reduceNeg, Int.reduceSub, Int.reduceMul, ilt_t, ilt_f, ile_t, ile_f, ieq_t, ieq_f, ine_t, ine_f, h8, h3, hx, hk3, he']
      exact ⟨_, rfl, by omega, hxc, fun _ => he⟩

/-! ### the tokens as an object -/

theorem flat_len (L : List Tok) : (encToks L).flatten.length = 2 * L.length := by
  induction L with
  | nil => rfl
  | cons t L ih => simp only [encToks, List.map_cons, List.flatten_cons, List.length_append, List.length_cons, encTok, List.length_nil] at ih ⊢; omega

theorem flat_drop : ∀ (L : List Tok) (i : Nat), (encToks L).flatten.drop (i * 2) = (encToks (L.drop i)).flatten
  | L, 0 => by simp
  | [], i + 1 => by simp [encToks]
  | t :: L, i + 1 => by
    have e : (i + 1) * 2 = (encTok t).length + i * 2 := by simp [encTok]; omega
    rw [show encToks (t :: L) = encTok t :: encToks L from rfl, List.flatten_cons, e, ← List.drop_drop, List.drop_left, flat_drop L i]; rfl

theorem flat_row {L : List Tok} {i : Nat} {t : Tok} (h : L[i]? = some t) : (((encToks L).flatten.drop (i * 2)).take 2).map AV.drop = encTok t := by
  obtain ⟨hi, he⟩ := List.getElem?_eq_some_iff.1 h
  rw [flat_drop, List.drop_eq_getElem_cons hi, he]
  rfl

theorem flat_put : ∀ {L : List Tok} {i : Nat} {t : Tok} (g : Str), L[i]? = some t → putAt (encToks L).flatten (i * 2 + 1) [.str g] = (encToks (L.set i ⟨t.text, g⟩)).flatten
  | [], _, _, _, h => by simp at h
  | u :: L, 0, t, g, h => by simp at h; subst h; rfl
  | u :: L, i + 1, t, g, h => by
    have ih := flat_put (L := L) (i := i) g (by simpa using h)
    have hi : i < L.length := by have := (List.getElem?_eq_some_iff.1 h).1; simpa using this
    have hl := flat_len L
    simp only [putAt, List.length_cons, List.length_nil] at ih ⊢
    rw [show encToks (u :: L) = encTok u :: encToks L from rfl, List.flatten_cons, List.set_cons_succ, show encToks (u :: L.set i ⟨t.text, g⟩) = encTok u :: encToks (L.set i ⟨t.text, g⟩) from rfl, List.flatten_cons, ← ih]
    rw [show (i + 1) * 2 + 1 = 2 + (i * 2 + 1) by omega, show 2 + (i * 2 + 1) + (0 + 1) = 2 + (i * 2 + 1 + (0 + 1)) by omega]
    have e2 : (encTok u).length = 2 := rfl
    rw [← e2, List.take_length_add_append, List.drop_length_add_append]
    simp

theorem flat_plain (L : List Tok) : ((encToks L).all fun r => r.all AV.plain) = true := by
  simp [encToks, encTok, AV.plain, List.all_eq_true]

theorem pub3 {T : AFrame} {H : AHeap} {lo gen base g : Nat} {L : List Tok} {x : Str} {y : Int} (h2 : T 2 = .lsr 5 g) (h5 : T 5 = .lsl g (encToks L)) (h3 : T 3 = .str x) (h4 : T 4 = .int .i64 y) (hne : L ≠ []) :
    finPub base [.tmp 2, .tmp 3, .tmp 4] ⟨T, H, lo, gen⟩ = some (.tuple [.sref base 0 L.length, .str x, .int .i64 y], some ⟨H.take base ++ [.box freeTy (encToks L).flatten], lo⟩) := by
  have hb : Nat.beq g g = true := Nat.beq_refl g
  have hne' : (encToks L).isEmpty = false := by cases L with | nil => exact absurd rfl hne | cons => rfl
  have hp := flat_plain L
  simp only [finPub, resPub, resRow, resOf, h2, h3, h4, h5, hb, hne', hp, frameCell, AV.dropAll, AV.drop, AV.partOut, AV.cellOut, AV.plain, cond_true, Option.bind_some, Option.map_some, Option.isNone_none, Bool.not_false, Bool.and_self, toks_len, List.length_cons, List.length_nil]
  rfl

theorem x_pret {base : Nat} {fn : IFunc} {P : AV × Option Chg → Prop} {T : AFrame} {H : AHeap} {lo gen : Nat} : donePub base fn P .ret ⟨T, H, lo, gen⟩ = ∃ r, finish base fn ⟨T, H, lo, gen⟩ = some r ∧ P r := rfl

/-- What a slot keeps of the tokens so far. -/
def keptT (g : Nat) (acc : List Tok) : AV := if acc = [] then .slice [] true else .lsl g (encToks acc)

theorem scanPub_D (s : Str) (H : AHeap) (L : List Tok) (e : Str) (hR : scanS s = (L, e, -1)) (hne : L ≠ []) (hbig : ¬ 8192 < s.length) :
    callD A7 24 [.str s] H = some (.tuple [.sref H.length 0 L.length, .str e, .int .i64 (-1)], some ⟨H ++ [.box freeTy (encToks L).flatten], H.length⟩) := by
  have key : ∃ r, callD A7 24 [.str s] H = some r ∧ r = (.tuple [.sref H.length 0 L.length, .str e, .int .i64 (-1)], some ⟨H ++ [.box freeTy (encToks L).flatten], H.length⟩) := by
    refine callD_Pub (fn := ir24p) rfl rfl rfl ?_
    unfold ir24p
    have he := ahead_nil s hbig
    rw [hR] at he
    simp (disch := omega) only [evA, argsV, argsOK, partsV, elemsV, optV, evOper, evOp, evAppend, IArg.eval, AS.putD, ↓reduceIte, Nat.reduceEqDiff, Option.isSome, Option.isNone, cond_true, cond_false, Nat.reduceBEq, Nat.reduceAdd, Nat.reduceMul, binInt, binStr, eq_self, reduceCtorEq, unAV, lenAV, convAV, sliceAV, bound, isCon, AS.spent, liveAddr, offAddr, elemsOf, Nat.reduceLeDiff, nilCmp, putAt, Int.reduceEq, Int.reduceLT, Int.reduceLE, Int.reduceBEq, Int.reduceBNe, Int.reduceAdd, Int.reduceNeg, Int.reduceSub, Int.reduceMul, ilt_t, ilt_f, ile_t, ile_f, ieq_t, ieq_f, ine_t, ine_f]
    refine W_loopm 0 (fun k => HdG (fun T => ∃ (off : Nat) (acc : List Tok) (g : Nat), T 0 = .str s ∧ T 5 = keptT g acc ∧ T 6 = .int .i64 off ∧ off ≤ s.length ∧ k = s.length - off ∧ acc.length ≤ off ∧ ahead acc (scanL (s.drop off) off) = (L, e, -1)) H H.length)
      (fun _ => False) (HdG (fun T => ∃ g, T 2 = .lsr 5 g ∧ T 5 = .lsl g (encToks L) ∧ T 3 = .str e ∧ T 4 = .int .i64 (-1)) H H.length) ?_ (fun _ h => h.elim) ?_ s.length _ ?_
    · rintro k st hst
      obtain ⟨T, gg, rfl, off, acc, g, h0, h5, h6, hoff, hk, hacc, hc⟩ := hst.out
      have hsk := c7 (f := 43) rfl (blanks_D (s.drop off) H (by rw [List.length_drop]; omega))
      have hle := skipL_le false (s.drop off)
      rw [List.length_drop] at hle
      by_cases hend : skipL false (s.drop off) = (s.drop off).length
      · rw [scan_end hend] at hc
        injection hc with hc1 hc2
        injection hc2 with hc2 _
        subst hc1
        rw [List.length_drop] at hend
        rw [hend] at hsk
        rw [keptT, if_neg hne] at h5
        have e1 : (off : Int) + ((s.length - off : Nat) : Int) = (s.length : Int) := by omega
        generalize s.length - off = q at hsk e1
        simp (disch := omega) only [evA, argsV, argsOK, partsV, elemsV, optV, evOper, evOp, evAppend, IArg.eval, AS.putD, ↓reduceIte, Nat.reduceEqDiff, Option.isSome, Option.isNone, cond_true, cond_false, Nat.reduceBEq, Nat.reduceAdd, Nat.reduceMul, binInt, binStr, eq_self, reduceCtorEq, unAV, lenAV, convAV, sliceAV, bound, isCon, AS.spent, liveAddr, offAddr, elemsOf, Nat.reduceLeDiff, nilCmp, putAt, Int.reduceEq, Int.reduceLT, Int.reduceLE, Int.reduceBEq, Int.reduceBNe, Int.reduceAdd, Int.reduceNeg, Int.reduceSub, Int.reduceMul, ilt_t, ilt_f, ile_t, ile_f, ieq_t, ieq_f, ine_t, ine_f, h0, h5, h6, hsk, List.take_length, e1]
        exact ⟨g, rfl, rfl, hc2⟩
      · have hlt : skipL false (s.drop off) < s.length - off := by rw [List.length_drop] at hend; omega
        have hen := c7 (f := 44) rfl (token_D (s.drop (off + skipL false (s.drop off))) H (fun e => by have := congrArg List.length e; rw [List.length_drop, List.length_nil] at this; omega) (by rw [List.length_drop]; omega))
        have htl := tokL_le (s.drop (off + skipL false (s.drop off)))
        rw [List.length_drop] at htl
        by_cases hbad : tokL (s.drop (off + skipL false (s.drop off))) = 0
        · rw [scan_bad hend (by rw [List.drop_drop]; exact hbad)] at hc
          simp only [Prod.mk.injEq] at hc
          omega
        · generalize hk' : skipL false (s.drop off) = k at hsk hen hlt hbad htl
          generalize hn' : tokL (s.drop (off + k)) = n at hen hbad htl
          rw [scan_tok' hk' hn' (by omega) hbad] at hc
          have hle2 : off + k + n ≤ s.length := by omega
          have hn0 : 0 < n := by omega
          have e1 : (off : Int) + (k : Int) = ((off + k : Nat) : Int) := by omega
          generalize hm : off + k = m at hsk hen hc hle2 e1
          have hm1 : off ≤ m := by omega
          have hm2 : m < s.length := by omega
          clear hm hk' hn' htl hlt hend hle
          have e2 : (m : Int) + (n : Int) = ((m + n : Nat) : Int) := by omega
          generalize hp : m + n = p at hc hle2 e2
          have hp1 : m < p := by omega
          clear hp
          by_cases ha : acc = []
          · subst ha
            rw [keptT, if_pos rfl] at h5
            have hfit : ∀ a b : Str, fitsRows 2 32 [] [[.str a, .str b]] = true := fun a b => rfl
            simp (disch := omega) only [evA, argsV, argsOK, partsV, elemsV, optV, evOper, evOp, evAppend, IArg.eval, AS.putD, ↓reduceIte, Nat.reduceEqDiff, Option.isSome, Option.isNone, cond_true, cond_false, Nat.reduceBEq, Nat.reduceAdd, Nat.reduceMul, binInt, binStr, eq_self, reduceCtorEq, unAV, lenAV, convAV, sliceAV, bound, isCon, AS.spent, liveAddr, offAddr, elemsOf, Nat.reduceLeDiff, nilCmp, putAt, Int.reduceEq, Int.reduceLT, Int.reduceLE, Int.reduceBEq, Int.reduceBNe, Int.reduceAdd, Int.reduceNeg, Int.reduceSub, Int.reduceMul, ilt_t, ilt_f, ile_t, ile_f, ieq_t, ieq_f, ine_t, ine_f, h0, h5, h6, hsk, hen, List.take_length, e1, e2, hfit, List.isEmpty_nil]
            exact ⟨s.length - p, by omega, p, [] ++ [_], _, rfl, rfl, by omega, rfl, by simp; omega, hc⟩
          · rw [keptT, if_neg ha] at h5
            have hfit : ∀ a b : Str, fitsRows 2 32 (encToks acc) [[.str a, .str b]] = true := fun a b => fits_ok toks_rows (toks_rows (l := [⟨a, b⟩])) (by rw [toks_len]; simp only [List.length_cons, List.length_nil]; omega) (by rw [toks_len]; simp only [List.length_cons, List.length_nil]; omega)
            simp (disch := omega) only [evA, argsV, argsOK, partsV, elemsV, optV, evOper, evOp, evAppend, IArg.eval, AS.putD, ↓reduceIte, Nat.reduceEqDiff, Option.isSome, Option.isNone, cond_true, cond_false, Nat.reduceBEq, Nat.reduceAdd, Nat.reduceMul, binInt, binStr, eq_self, reduceCtorEq, unAV, lenAV, convAV, sliceAV, bound, isCon, AS.spent, liveAddr, offAddr, elemsOf, Nat.reduceLeDiff, nilCmp, putAt, Int.reduceEq, Int.reduceLT, Int.reduceLE, Int.reduceBEq, Int.reduceBNe, Int.reduceAdd, Int.reduceNeg, Int.reduceSub, Int.reduceMul, ilt_t, ilt_f, ile_t, ile_f, ieq_t, ieq_f, ine_t, ine_f, h0, h5, h6, hsk, hen, List.take_length, e1, e2, hfit]
            refine ⟨s.length - p, by omega, p, acc ++ [_], gg + 1 + 1, ?_, rfl, by omega, rfl, by simp; omega, hc⟩
            rw [keptT, if_neg (by simp)]; simp [encToks, encTok]
    · intro st hst
      obtain ⟨T, gg, rfl, g, h2, h5, h3, h4⟩ := hst.out
      simp (disch := omega) only [evA, argsV, argsOK, partsV, elemsV, optV, evOper, evOp, evAppend, IArg.eval, AS.putD, ↓reduceIte, Nat.reduceEqDiff, Option.isSome, Option.isNone, cond_true, cond_false, Nat.reduceBEq, Nat.reduceAdd, Nat.reduceMul, binInt, binStr, eq_self, reduceCtorEq, unAV, lenAV, convAV, sliceAV, bound, isCon, AS.spent, liveAddr, offAddr, elemsOf, Nat.reduceLeDiff, nilCmp, putAt, Int.reduceEq, Int.reduceLT, Int.reduceLE, Int.reduceBEq, Int.reduceBNe, Int.reduceAdd, Int.reduceNeg, Int.reduceSub, Int.reduceMul, x_pret]
      refine ⟨_, pub_finish (pub3 h2 h5 h3 h4 hne), ?_⟩
      rw [List.take_of_length_le (Nat.le_refl _)]
    · simp (disch := omega) only [evA, argsV, argsOK, partsV, elemsV, optV, evOper, evOp, evAppend, IArg.eval, AS.putD, ↓reduceIte, Nat.reduceEqDiff, Option.isSome, Option.isNone, cond_true, cond_false, Nat.reduceBEq, Nat.reduceAdd, Nat.reduceMul, binInt, binStr, eq_self, reduceCtorEq, unAV, lenAV, convAV, sliceAV, bound, isCon, AS.spent, liveAddr, offAddr, elemsOf, Nat.reduceLeDiff, nilCmp, putAt, Int.reduceEq, Int.reduceLT, Int.reduceLE, Int.reduceBEq, Int.reduceBNe, Int.reduceAdd, Int.reduceNeg, Int.reduceSub, Int.reduceMul, List.drop_zero, Int.natCast_zero]
      exact ⟨0, [], 0, rfl, rfl, by omega, by omega, by simp, by simpa using he⟩
  obtain ⟨r, h1, rfl⟩ := key
  exact h1

end Go.Proofs.YtgdcfgpddgedkaaDoor

/-! The round trip: lex.Text of tokens that lie as an object. -/
namespace Go.Proofs.YtgdcfgpddgedkaaDoor
open Go Go.Abs Go.Proofs

theorem text_D (L : List Tok) (e : Str) (H : AHeap) (l : Nat) (ty : TypeId) (hH : H[l]? = some (.box ty (encToks L).flatten)) (hl : L.length ≤ 8192) (ht : ∀ t ∈ L, t.text.length ≤ 8192 ∧ t.before.length ≤ 8192) (he : e.length ≤ 1000) :
    callD A7 25 [.sref l 0 L.length, .str e] H = some (.str (render L e), none) := by
  refine callD_W (fn := ir25) rfl rfl rfl ?_
  unfold ir25
  have hlt : l < H.length := (List.getElem?_eq_some_iff.1 hH).1
  have hb : ∀ o : AObj, (H ++ [o])[l]? = some (.box ty (encToks L).flatten) := fun o => by rw [List.getElem?_append_left hlt]; exact hH
  have hfl := flat_len L
  simp (disch := omega) only [evA, argsV, argsOK, partsV, elemsV, optV, evOper, evOp, evAppend, IArg.eval, AS.putD, ↓reduceIte, Nat.reduceEqDiff, Option.isSome, Option.isNone, cond_true, cond_false, Nat.reduceBEq, Nat.reduceAdd, Nat.reduceMul, binInt, binStr, eq_self, reduceCtorEq, unAV, lenAV, convAV, sliceAV, bound, isCon, AS.spent, liveAddr, offAddr, elemsOf, Nat.reduceLeDiff, nilCmp, putAt, Int.reduceEq, Int.reduceLT, Int.reduceLE, Int.reduceBEq, Int.reduceBNe, Int.reduceAdd, Int.reduceNeg, Int.reduceSub, Int.reduceMul, ilt_t, ilt_f, ile_t, ile_f, ieq_t, ieq_f, ine_t, ine_f, Nat.lt_irrefl]
  refine W_countx L.length 0 (fun i st => ∃ (p : AV) (s : Str), HdG (fun T => T 1 = .str e ∧ T 5 = .ref H.length 0 ∧ T 8 = .sref l 0 L.length ∧ T 9 = .int .i64 L.length ∧ T 10 = .int .i64 i) (H ++ [.box 80 [p, .slice (bytesR s) true]]) H.length st ∧
      (p = .nilptr ∨ p = .ref H.length 0) ∧ s.length ≤ 16384 * i ∧ s ++ render (L.drop i) [] = render L [])
    (fun st => ∃ (p : AV), HdG (fun T => T 1 = .str e ∧ T 5 = .ref H.length 0) (H ++ [.box 80 [p, .slice (bytesR (render L [])) true]]) H.length st ∧ (render L []).length ≤ 16384 * 8192) (fun _ => False) ?_ ?_ (fun _ h => h.elim) 0 _ (by omega) ?_
  · rintro i st hi ⟨p, s, hst, hp, hs, hc⟩
    obtain ⟨T, g3, rfl, h1, h5, h8, h9, h10⟩ := hst.out
    by_cases h : i < L.length
    · have hg : L[i]? = some L[i] := List.getElem?_eq_getElem h
      have hrow := flat_row hg
      have htt := ht L[i] (List.getElem_mem h)
      have hdr : L.drop i = L[i] :: L.drop (i + 1) := List.drop_eq_getElem_cons h
      generalize L[i] = t at hrow htt hdr
      obtain ⟨tx, bf⟩ := t
      simp only [encTok] at hrow
      simp only at htt
      have hw := c7 (f := 38) rfl (write_D H p s (bf ++ tx) hp (by rw [List.length_append]; omega))
      have hbl : decide (bf.length + tx.length ≤ 4611686018427387904) = true := by simp; omega
      simp (disch := omega) only [evA, argsV, argsOK, partsV, elemsV, optV, evOper, evOp, evAppend, IArg.eval, AS.putD, ↓reduceIte, Nat.reduceEqDiff, Option.isSome, Option.isNone, cond_true, cond_false, Nat.reduceBEq, Nat.reduceAdd, Nat.reduceMul, binInt, binStr, eq_self, reduceCtorEq, unAV, lenAV, convAV, sliceAV, bound, isCon, AS.spent, liveAddr, offAddr, elemsOf, Nat.reduceLeDiff, nilCmp, putAt, Int.reduceEq, Int.reduceLT, Int.reduceLE, Int.reduceBEq, Int.reduceBNe, Int.reduceAdd, Int.reduceNeg, Int.reduceSub, Int.reduceMul, ilt_t, ilt_f, ile_t, ile_f, ieq_t, ieq_f, ine_t, ine_f, h1, h5, h8, h9, h10, hb, hrow, hfl, hw, storeAV, hbl, Nat.lt_irrefl, List.drop_zero, List.nil_append]
      refine ⟨by omega, _, s ++ (bf ++ tx), rfl, .inr rfl, by simp only [List.length_append]; omega, ?_⟩
      rw [← hc, hdr, render_cons]; simp
    · have e1 : L.length = i := by omega
      simp (disch := omega) only [evA, argsV, argsOK, partsV, elemsV, optV, evOper, evOp, evAppend, IArg.eval, AS.putD, ↓reduceIte, Nat.reduceEqDiff, Option.isSome, Option.isNone, cond_true, cond_false, Nat.reduceBEq, Nat.reduceAdd, Nat.reduceMul, binInt, binStr, eq_self, reduceCtorEq, unAV, lenAV, convAV, sliceAV, bound, isCon, AS.spent, liveAddr, offAddr, elemsOf, Nat.reduceLeDiff, nilCmp, putAt, Int.reduceEq, Int.reduceLT, Int.reduceLE, Int.reduceBEq, Int.reduceBNe, Int.reduceAdd, Int.reduceNeg, Int.reduceSub, Int.reduceMul, ilt_t, ilt_f, ile_t, ile_f, ieq_t, ieq_f, ine_t, ine_f, h1, h5, h8, h9, h10]
      subst e1
      rw [List.drop_length, render_nil, List.append_nil] at hc
      subst hc
      exact ⟨p, rfl, by omega⟩
  · rintro st ⟨p, hst, hlen⟩
    obtain ⟨T, g3, rfl, h1, h5⟩ := hst.out
    have hstr := c7 (f := 40) rfl (string_D H p (render L []) (by omega))
    have hbl : decide ((render L []).length + e.length ≤ 4611686018427387904) = true := by simp; omega
    have hr : render L [] ++ e = render L e := by simp [render]
    simp (disch := omega) only [evA, argsV, argsOK, partsV, elemsV, optV, evOper, evOp, evAppend, IArg.eval, AS.putD, ↓reduceIte, Nat.reduceEqDiff, Option.isSome, Option.isNone, cond_true, cond_false, Nat.reduceBEq, Nat.reduceAdd, Nat.reduceMul, binInt, binStr, eq_self, reduceCtorEq, unAV, lenAV, convAV, sliceAV, bound, isCon, AS.spent, liveAddr, offAddr, elemsOf, Nat.reduceLeDiff, nilCmp, putAt, Int.reduceEq, Int.reduceLT, Int.reduceLE, Int.reduceBEq, Int.reduceBNe, Int.reduceAdd, Int.reduceNeg, Int.reduceSub, Int.reduceMul, ilt_t, ilt_f, ile_t, ile_f, ieq_t, ieq_f, ine_t, ine_f, h1, h5, hstr, hbl, hr, take_last]
  · simp (disch := omega) only [evA, argsV, argsOK, partsV, elemsV, optV, evOper, evOp, evAppend, IArg.eval, AS.putD, ↓reduceIte, Nat.reduceEqDiff, Option.isSome, Option.isNone, cond_true, cond_false, Nat.reduceBEq, Nat.reduceAdd, Nat.reduceMul, binInt, binStr, eq_self, reduceCtorEq, unAV, lenAV, convAV, sliceAV, bound, isCon, AS.spent, liveAddr, offAddr, elemsOf, Nat.reduceLeDiff, nilCmp, putAt, Int.reduceEq, Int.reduceLT, Int.reduceLE, Int.reduceBEq, Int.reduceBNe, Int.reduceAdd, Int.reduceNeg, Int.reduceSub, Int.reduceMul, List.drop_zero]
    exact ⟨.nilptr, [], rfl, .inl rfl, by simp, by simp⟩

end Go.Proofs.YtgdcfgpddgedkaaDoor

/-! RulesRound runs to true. -/
set_option maxRecDepth 100000
namespace Go.Proofs.YtgdcfgpddgedkaaDoor
open Go Go.Abs Go.Proofs

theorem lives_run1 (X : AObj) : evF A 200 17 [] [X] = some (.bool true, none) := by kernel_rfl

theorem lives_any (H : AHeap) (hH : H = [] ∨ ∃ X, H = [X]) : callD A7 17 [] H = some (.bool true, none) := by
  refine c7 (f := 17) rfl ?_
  rcases hH with rfl | ⟨X, rfl⟩
  · exact callD_eq.2 ⟨200, lives_run⟩
  · exact callD_eq.2 ⟨200, lives_run1 X⟩

/-- Tokens with other blanks, the first k of them. -/
structure Filled (L L' : List Tok) (k : Nat) : Prop where
  texts : texts L' = texts L
  ok : ∀ (j : Nat) (t : Tok), j < k → L'[j]? = some t → closed false t.before = true ∧ t.before.length ≤ 14 ∧ (j ≠ 0 → t.before ≠ [])

theorem Filled.len {L L' : List Tok} {k : Nat} (h : Filled L L' k) : L'.length = L.length := by
  have := congrArg List.length h.texts
  simpa [Go.Proofs.YtgdcfgpddgedkaaDoor.texts] using this

theorem Filled.step {L L' : List Tok} {k : Nat} (h : Filled L L' k) {t : Tok} (ht : L'[k]? = some t) {s : Str} (h1 : closed false s = true) (h2 : s.length ≤ 14) (h3 : (k : Int) ≠ 0 → s ≠ []) : Filled L (L'.set k ⟨t.text, s⟩) (k + 1) := by
  obtain ⟨hk, he⟩ := List.getElem?_eq_some_iff.1 ht
  refine ⟨?_, fun j u hj hu => ?_⟩
  · rw [← h.texts]
    unfold Go.Proofs.YtgdcfgpddgedkaaDoor.texts
    rw [List.map_set]
    refine List.ext_getElem? fun j => ?_
    rw [List.getElem?_set]
    split
    · rename_i e
      subst e
      simp [hk, he]
    · rfl
  · rw [List.getElem?_set] at hu
    split at hu
    · rename_i e
      subst e
      injection hu with hu
      subst hu
      exact ⟨h1, h2, fun h0 => h3 (by omega)⟩
    · exact h.ok j u (by omega) hu

theorem fill_loop (L : List Tok) (m : List Int) (hm : ∀ n ∈ m, I64 n) (hL : L.length ≤ 1000000) (a2 a7 a8 : AV) (T : AFrame) (g : Nat) (Q : IExit → AS → Prop)
    (h1 : T 1 = .slice (ints m) false) (h2 : T 2 = a2) (h7 : T 7 = a7) (h8 : T 8 = a8) (h9 : T 9 = .sref 0 0 L.length) (h12 : T 12 = .int .i64 0)
    (hQ : ∀ T' L', Filled L L' L.length → T' 2 = a2 → T' 7 = a7 → T' 8 = a8 → T' 9 = .sref 0 0 L'.length → Q (.exit 0) ⟨T', [.box freeTy (encToks L').flatten], 0, g⟩) :
    W A7 (ir7.body.sub [true, true, true, true, true, false, true, false]) ⟨T, [.box freeTy (encToks L).flatten], 0, g⟩ Q := by
  unfold ir7
  simp only [ICode.sub]
  refine W_countx L.length 0 (fun i st => ∃ L', Hd (fun T => T 1 = .slice (ints m) false ∧ T 2 = a2 ∧ T 7 = a7 ∧ T 8 = a8 ∧ T 9 = .sref 0 0 L.length ∧ T 12 = .int .i64 i) [.box freeTy (encToks L').flatten] 0 g st ∧ Filled L L' i)
    (fun st => ∃ L', Hd (fun T => T 2 = a2 ∧ T 7 = a7 ∧ T 8 = a8 ∧ T 9 = .sref 0 0 L'.length) [.box freeTy (encToks L').flatten] 0 g st ∧ Filled L L' L.length) (fun _ => False) ?_ ?_ (fun _ h => h.elim) 0 _ (by omega) ?_
  · rintro i st hi ⟨L', hst, hf⟩
    obtain ⟨T, rfl, h1, h2, h7, h8, h9, h12⟩ := hst.out
    have hlen := hf.len
    by_cases h : i < L.length
    · have hg : L'[i]? = some L'[i] := List.getElem?_eq_getElem (by omega)
      generalize L'[i] = t at hg
      have hfl := flat_len L'
      have hr := atZ_range (l := m) (i := i) (k := 4000) (by omega)
      have hat := c7 (f := 13) rfl (at_D m i 4000 [.box freeTy (encToks L').flatten] hm (by omega))
      obtain ⟨r, hgap, s, rfl, hs1, hs2, hs3⟩ := gap2_D (atZ m i 4000) i [.box freeTy (encToks L').flatten] ⟨by omega, by omega⟩
      have hgap := c7 (f := 12) rfl hgap
      have hput := flat_put s hg
      simp (disch := omega) only [evA, argsV, argsOK, partsV, elemsV, optV, evOper, evOp, evAppend, IArg.eval, AS.putD, ↓reduceIte, Nat.reduceEqDiff, Option.isSome, Option.isNone, cond_true, cond_false, Nat.reduceBEq, Nat.reduceAdd, Nat.reduceMul, binInt, binStr, eq_self, reduceCtorEq, unAV, lenAV, convAV, sliceAV, bound, isCon, AS.spent, liveAddr, offAddr, elemsOf, Nat.reduceLeDiff, nilCmp, putAt, Int.reduceEq, Int.reduceLT, Int.reduceLE, Int.reduceBEq, Int.reduceBNe, Int.reduceAdd, Int.reduceNeg, Int.reduceSub, Int.reduceMul, ilt_t, ilt_f, ile_t, ile_f, ieq_t, ieq_f, ine_t, ine_f, h1, h2, h7, h8, h9, h12, hat, hgap, storeAV, heapCell, hfl, Nat.lt_irrefl]
      refine ⟨h, L'.set i ⟨t.text, s⟩, ?_, hf.step hg hs2 hs1 hs3⟩
      rw [← hput]; simp [putAt]
    · have e1 : L.length = i := by omega
      subst e1
      simp (disch := omega) only [evA, argsV, argsOK, partsV, elemsV, optV, evOper, evOp, evAppend, IArg.eval, AS.putD, ↓reduceIte, Nat.reduceEqDiff, Option.isSome, Option.isNone, cond_true, cond_false, Nat.reduceBEq, Nat.reduceAdd, Nat.reduceMul, binInt, binStr, eq_self, reduceCtorEq, unAV, lenAV, convAV, sliceAV, bound, isCon, AS.spent, liveAddr, offAddr, elemsOf, Nat.reduceLeDiff, nilCmp, putAt, Int.reduceEq, Int.reduceLT, Int.reduceLE, Int.reduceBEq, Int.reduceBNe, Int.reduceAdd, Int.reduceNeg, Int.reduceSub, Int.reduceMul, ilt_t, ilt_f, ile_t, ile_f, ieq_t, ieq_f, ine_t, ine_f, h1, h2, h7, h8, h9, h12]
      exact ⟨L', by simp [hlen], hf⟩
  · rintro st ⟨L', hst, hf⟩
    obtain ⟨T, rfl, h2, h7, h8, h9⟩ := hst.out
    exact hQ T L' hf h2 h7 h8 h9
  · simp (disch := omega) only [evA, argsV, argsOK, partsV, elemsV, optV, evOper, evOp, evAppend, IArg.eval, AS.putD, ↓reduceIte, Nat.reduceEqDiff, Option.isSome, Option.isNone, cond_true, cond_false, Nat.reduceBEq, Nat.reduceAdd, Nat.reduceMul, binInt, binStr, eq_self, reduceCtorEq, unAV, lenAV, convAV, sliceAV, bound, isCon, AS.spent, liveAddr, offAddr, elemsOf, Nat.reduceLeDiff, nilCmp, putAt, Int.reduceEq, Int.reduceLT, Int.reduceLE, Int.reduceBEq, Int.reduceBNe, Int.reduceAdd, Int.reduceNeg, Int.reduceSub, Int.reduceMul, h1, h2, h7, h8, h9, h12, Int.natCast_zero]
    exact ⟨L, by simp, ⟨rfl, fun j t h => absurd h (Nat.not_lt_zero _)⟩⟩

theorem valid_ok {r : Rule} (h : validRule r = true) : RuleOK r := by
  obtain ⟨_, h2, h3, h4, _, h6, h7⟩ := valid_facts h
  exact ⟨by omega, ⟨by omega, by omega⟩, by omega, fun w hw => by have := h7 w hw; constructor <;> omega⟩

theorem rules_ok {x : List Rule} (h : validRules x = true) : (∀ r ∈ x, RuleOK r) ∧ x.length ≤ 64 ∧ ∀ r ∈ x, r.who.length ≤ 8 := by
  unfold validRules at h
  simp only [Bool.and_eq_true, List.all_eq_true, decide_eq_true_eq] at h
  exact ⟨fun r hr => valid_ok (h.1 r hr), h.2, fun r hr => (valid_facts (h.1 r hr)).2.2.2.2.2.1⟩

/-- The texts that are read. -/
theorem round_loop (x : List Rule) (hx : validRules x = true) (all : List Str) (hn : all.length = 4) (hl : ∀ s ∈ all, s.length ≤ 1000000000) (h01 : ∀ (i : Nat) (s : Str), i < 2 → all[i]? = some s → s.length ≤ 8192 → parseS s = (x, -1))
    (H : AHeap) (T : AFrame) (g : Nat) (Q : IExit → AS → Prop) (h7 : T 7 = .slice (encRules x) false) (h13 : T 13 = .slice (strs all) true) (h14 : T 14 = .int .i64 0) (hQ : ∀ T', Q (.exit 2) ⟨T', H, 0, g⟩) :
    W A7 (ir7.body.sub [true, true, true, true, true, true, true, false, true, false]) ⟨T, H, 0, g⟩ Q := by
  unfold ir7
  simp only [ICode.sub]
  refine W_countx all.length 2 (fun i => Hd (fun T => T 7 = .slice (encRules x) false ∧ T 13 = .slice (strs all) true ∧ T 14 = .int .i64 i) H 0 g) (Hd (fun T => True) H 0 g) (fun _ => False) ?_ ?_ (fun _ h => h.elim) 0 _ (by omega) ?_
  · rintro i st hi hst
    obtain ⟨T, rfl, h7, h13, h14⟩ := hst.out
    by_cases h : i < all.length
    · have hg0 := List.getElem?_eq_getElem h
      have hg := strs_at hg0
      have hy := hl _ (List.getElem_mem h)
      have h01' := fun h2 => h01 i _ h2 hg0
      generalize all[i] = s at hg hy h01'
      have p1 := c7 (f := 14) rfl (parseP_D s H (by omega))
      obtain ⟨x1, x2, x3⟩ := rules_ok hx
      by_cases hat : (parseS s).2 = -1
      · have hv := parseS_valid hat
        have hpp := parse_print hv
        have hpl := printRules_len hv
        obtain ⟨y1, y2, y3⟩ := rules_ok hv
        have p2 := c7 (f := 21) rfl (printP_D (parseS s).1 H (by omega) y1)
        have p3 := c7 (f := 14) rfl (parseP_D (printRules (parseS s).1) H (by omega))
        have p4 := c7 (f := 19) rfl (validP_D (parseS s).1 H (by omega) y1)
        have p5 := c7 (f := 16) rfl (sameRules_D (parseS s).1 (parseS s).1 H (by omega) (fun r hr => by have := y3 r hr; omega) rfl)
        rw [hpp] at p3
        rw [hv] at p4
        have hsame : i < 2 → s.length ≤ 8192 → callD A7 16 [.slice (encRules x) false, .slice (encRules (parseS s).1) false] H = some (.bool true, none) := by
          intro hi2 hs2
          have := h01' hi2 hs2
          rw [this]
          exact c7 (f := 16) rfl (sameRules_D x x H (by omega) (fun r hr => by have := x3 r hr; omega) rfl)
        rw [hat] at p1
        generalize (parseS s).1 = y at p1 p2 p3 p4 p5 hsame
        simp only at p3
        by_cases hi2 : i < 2
        · by_cases hs2 : s.length ≤ 8192
          · have p6 := hsame hi2 hs2
            simp (disch := omega) only [evA, argsV, argsOK, partsV, elemsV, optV, evOper, evOp, evAppend, IArg.eval, AS.putD, ↓reduceIte, Nat.reduceEqDiff, Option.isSome, Option.isNone, cond_true, cond_false, Nat.reduceBEq, Nat.reduceAdd, Nat.reduceMul, binInt, binStr, eq_self, reduceCtorEq, unAV, lenAV, convAV, sliceAV, bound, isCon, AS.spent, liveAddr, offAddr, elemsOf, Nat.reduceLeDiff, nilCmp, putAt, Int.reduceEq, Int.reduceLT, Int.reduceLE, Int.reduceBEq, Int.reduceBNe, Int.reduceAdd, Int.reduceNeg, Int.reduceSub, Int.reduceMul, ilt_t, ilt_f, ile_t, ile_f, ieq_t, ieq_f, ine_t, ine_f, h7, h13, h14, strs_len, hg, p1, p2, p3, p4, p5, p6]
            exact h
          · simp (disch := omega) only [evA, argsV, argsOK, partsV, elemsV, optV, evOper, evOp, evAppend, IArg.eval, AS.putD, ↓reduceIte, Nat.reduceEqDiff, Option.isSome, Option.isNone, cond_true, cond_false, Nat.reduceBEq, Nat.reduceAdd, Nat.reduceMul, binInt, binStr, eq_self, reduceCtorEq, unAV, lenAV, convAV, sliceAV, bound, isCon, AS.spent, liveAddr, offAddr, elemsOf, Nat.reduceLeDiff, nilCmp, putAt, Int.reduceEq, Int.reduceLT, Int.reduceLE, Int.reduceBEq, Int.reduceBNe, Int.reduceAdd, Int.reduceNeg, Int.reduceSub, Int.reduceMul, ilt_t, ilt_f, ile_t, ile_f, ieq_t, ieq_f, ine_t, ine_f, h7, h13, h14, strs_len, hg, p1, p2, p3, p4, p5]
            exact h
        · simp (disch := omega) only [evA, argsV, argsOK, partsV, elemsV, optV, evOper, evOp, evAppend, IArg.eval, AS.putD, ↓reduceIte, Nat.reduceEqDiff, Option.isSome, Option.isNone, cond_true, cond_false, Nat.reduceBEq, Nat.reduceAdd, Nat.reduceMul, binInt, binStr, eq_self, reduceCtorEq, unAV, lenAV, convAV, sliceAV, bound, isCon, AS.spent, liveAddr, offAddr, elemsOf, Nat.reduceLeDiff, nilCmp, putAt, Int.reduceEq, Int.reduceLT, Int.reduceLE, Int.reduceBEq, Int.reduceBNe, Int.reduceAdd, Int.reduceNeg, Int.reduceSub, Int.reduceMul, ilt_t, ilt_f, ile_t, ile_f, ieq_t, ieq_f, ine_t, ine_f, h7, h13, h14, strs_len, hg, p1, p2, p3, p4, p5]
          exact h
      · obtain ⟨b1, b2⟩ := parseS_bad hat
        rw [b1] at p1
        have hb : i < 2 → ¬ s.length ≤ 8192 := by
          intro hi2 hs2
          exact hat (by rw [h01' hi2 hs2])
        generalize (parseS s).2 = k at p1 hat b2
        change callD A7 14 [.str s] H = some (.tuple [.slice [] false, .int .i64 k], none) at p1
        have hk1 : (k == -1) = false := by simpa using hat
        by_cases hi2 : i < 2
        · have hs2 := hb hi2
          simp (disch := omega) only [evA, argsV, argsOK, partsV, elemsV, optV, evOper, evOp, evAppend, IArg.eval, AS.putD, ↓reduceIte, Nat.reduceEqDiff, Option.isSome, Option.isNone, cond_true, cond_false, Nat.reduceBEq, Nat.reduceAdd, Nat.reduceMul, binInt, binStr, eq_self, reduceCtorEq, unAV, lenAV, convAV, sliceAV, bound, isCon, AS.spent, liveAddr, offAddr, elemsOf, Nat.reduceLeDiff, nilCmp, putAt, Int.reduceEq, Int.reduceLT, Int.reduceLE, Int.reduceBEq, Int.reduceBNe, Int.reduceAdd, Int.reduceNeg, Int.reduceSub, Int.reduceMul, ilt_t, ilt_f, ile_t, ile_f, ieq_t, ieq_f, ine_t, ine_f, h7, h13, h14, strs_len, hg, p1]
          exact h
        · simp (disch := omega) only [evA, argsV, argsOK, partsV, elemsV, optV, evOper, evOp, evAppend, IArg.eval, AS.putD, ↓reduceIte, Nat.reduceEqDiff, Option.isSome, Option.isNone, cond_true, cond_false, Nat.reduceBEq, Nat.reduceAdd, Nat.reduceMul, binInt, binStr, eq_self, reduceCtorEq, unAV, lenAV, convAV, sliceAV, bound, isCon, AS.spent, liveAddr, offAddr, elemsOf, Nat.reduceLeDiff, nilCmp, putAt, Int.reduceEq, Int.reduceLT, Int.reduceLE, Int.reduceBEq, Int.reduceBNe, Int.reduceAdd, Int.reduceNeg, Int.reduceSub, Int.reduceMul, ilt_t, ilt_f, ile_t, ile_f, ieq_t, ieq_f, ine_t, ine_f, h7, h13, h14, strs_len, hg, p1]
          exact h
    · have : i = all.length := by omega
      subst this
      simp (disch := omega) only [evA, argsV, argsOK, partsV, elemsV, optV, evOper, evOp, evAppend, IArg.eval, AS.putD, ↓reduceIte, Nat.reduceEqDiff, Option.isSome, Option.isNone, cond_true, cond_false, Nat.reduceBEq, Nat.reduceAdd, Nat.reduceMul, binInt, binStr, eq_self, reduceCtorEq, unAV, lenAV, convAV, sliceAV, bound, isCon, AS.spent, liveAddr, offAddr, elemsOf, Nat.reduceLeDiff, nilCmp, putAt, Int.reduceEq, Int.reduceLT, Int.reduceLE, Int.reduceBEq, Int.reduceBNe, Int.reduceAdd, Int.reduceNeg, Int.reduceSub, Int.reduceMul, ilt_t, ilt_f, ile_t, ile_f, ieq_t, ieq_f, ine_t, ine_f, h7, h13, h14, strs_len]
  · intro st hst
    obtain ⟨T, rfl, _⟩ := hst.out
    exact hQ T
  · simp (disch := omega) only [evA, argsV, argsOK, partsV, elemsV, optV, evOper, evOp, evAppend, IArg.eval, AS.putD, ↓reduceIte, Nat.reduceEqDiff, Option.isSome, Option.isNone, cond_true, cond_false, Nat.reduceBEq, Nat.reduceAdd, Nat.reduceMul, binInt, binStr, eq_self, reduceCtorEq, unAV, lenAV, convAV, sliceAV, bound, isCon, AS.spent, liveAddr, offAddr, elemsOf, Nat.reduceLeDiff, nilCmp, putAt, Int.reduceEq, Int.reduceLT, Int.reduceLE, Int.reduceBEq, Int.reduceBNe, Int.reduceAdd, Int.reduceNeg, Int.reduceSub, Int.reduceMul, h7, h13, h14, Int.natCast_zero]

end Go.Proofs.YtgdcfgpddgedkaaDoor

/-! RulesRound runs to true: the law. -/
set_option maxRecDepth 100000
namespace Go.Proofs.YtgdcfgpddgedkaaDoor
open Go Go.Abs Go.Proofs

theorem scan_nil (H : AHeap) : callD A7 24 [.str []] H = some (.tuple [.slice [] false, .str [], .int .i64 (-1)], none) := by
  refine callD_W (fn := ir24p) rfl rfl rfl ?_
  unfold ir24p
  have hb := c7 (f := 43) rfl (blanks_D [] H (by simp))
  have h0 : skipL false [] = 0 := rfl
  rw [h0] at hb
  simp (disch := omega) only [evA, argsV, argsOK, partsV, elemsV, optV, evOper, evOp, evAppend, IArg.eval, AS.putD, ↓reduceIte, Nat.reduceEqDiff, Option.isSome, Option.isNone, cond_true, cond_false, Nat.reduceBEq, Nat.reduceAdd, Nat.reduceMul, binInt, binStr, eq_self, reduceCtorEq, unAV, lenAV, convAV, sliceAV, bound, isCon, AS.spent, liveAddr, offAddr, elemsOf, Nat.reduceLeDiff, nilCmp, putAt, Int.reduceEq, Int.reduceLT, Int.reduceLE, Int.reduceBEq, Int.reduceBNe, Int.reduceAdd, Int.reduceNeg, Int.reduceSub, Int.reduceMul, ilt_t, ilt_f, ile_t, ile_f, ieq_t, ieq_f, ine_t, ine_f]
  refine W_countx 0 0 (fun i => Hd (fun T => T 0 = .str [] ∧ T 5 = .slice [] true ∧ T 6 = .int .i64 0) H H.length 0) (fun _ => False) (Hd (fun T => T 2 = .slice [] false ∧ T 3 = .str [] ∧ T 4 = .int .i64 (-1)) H H.length 0) ?_ (fun _ h => h.elim) ?_ 0 _ (by omega) ?_
  · rintro i st hi hst
    obtain ⟨T, rfl, h0, h5, h6⟩ := hst.out
    have hz : asNat (.int .i64 0) = some 0 := rfl
    simp (disch := omega) only [evA, argsV, argsOK, partsV, elemsV, optV, evOper, evOp, evAppend, IArg.eval, AS.putD, ↓reduceIte, Nat.reduceEqDiff, Option.isSome, Option.isNone, cond_true, cond_false, Nat.reduceBEq, Nat.reduceAdd, Nat.reduceMul, binInt, binStr, eq_self, reduceCtorEq, unAV, lenAV, convAV, sliceAV, bound, isCon, AS.spent, liveAddr, offAddr, elemsOf, Nat.reduceLeDiff, nilCmp, putAt, Int.reduceEq, Int.reduceLT, Int.reduceLE, Int.reduceBEq, Int.reduceBNe, Int.reduceAdd, Int.reduceNeg, Int.reduceSub, Int.reduceMul, ilt_t, ilt_f, ile_t, ile_f, ieq_t, ieq_f, ine_t, ine_f, h0, h5, h6, hb, hz, List.drop_nil, List.take_nil, Int.natCast_zero, Int.add_zero]
  · intro st hst
    obtain ⟨T, rfl, h2, h3, h4⟩ := hst.out
    simp (disch := omega) only [evA, argsV, argsOK, partsV, elemsV, optV, evOper, evOp, evAppend, IArg.eval, AS.putD, ↓reduceIte, Nat.reduceEqDiff, Option.isSome, Option.isNone, cond_true, cond_false, Nat.reduceBEq, Nat.reduceAdd, Nat.reduceMul, binInt, binStr, eq_self, reduceCtorEq, unAV, lenAV, convAV, sliceAV, bound, isCon, AS.spent, liveAddr, offAddr, elemsOf, Nat.reduceLeDiff, nilCmp, putAt, Int.reduceEq, Int.reduceLT, Int.reduceLE, Int.reduceBEq, Int.reduceBNe, Int.reduceAdd, Int.reduceNeg, Int.reduceSub, Int.reduceMul, h2, h3, h4]
  · simp (disch := omega) only [evA, argsV, argsOK, partsV, elemsV, optV, evOper, evOp, evAppend, IArg.eval, AS.putD, ↓reduceIte, Nat.reduceEqDiff, Option.isSome, Option.isNone, cond_true, cond_false, Nat.reduceBEq, Nat.reduceAdd, Nat.reduceMul, binInt, binStr, eq_self, reduceCtorEq, unAV, lenAV, convAV, sliceAV, bound, isCon, AS.spent, liveAddr, offAddr, elemsOf, Nat.reduceLeDiff, nilCmp, putAt, Int.reduceEq, Int.reduceLT, Int.reduceLE, Int.reduceBEq, Int.reduceBNe, Int.reduceAdd, Int.reduceNeg, Int.reduceSub, Int.reduceMul, Int.natCast_zero]

theorem text_nil (e : Str) (he : e.length ≤ 1000) (H : AHeap) : callD A7 25 [.slice [] false, .str e] H = some (.str e, none) := by
  refine callD_W (fn := ir25) rfl rfl rfl ?_
  unfold ir25
  simp (disch := omega) only [evA, argsV, argsOK, partsV, elemsV, optV, evOper, evOp, evAppend, IArg.eval, AS.putD, ↓reduceIte, Nat.reduceEqDiff, Option.isSome, Option.isNone, cond_true, cond_false, Nat.reduceBEq, Nat.reduceAdd, Nat.reduceMul, binInt, binStr, eq_self, reduceCtorEq, unAV, lenAV, convAV, sliceAV, bound, isCon, AS.spent, liveAddr, offAddr, elemsOf, Nat.reduceLeDiff, nilCmp, putAt, Int.reduceEq, Int.reduceLT, Int.reduceLE, Int.reduceBEq, Int.reduceBNe, Int.reduceAdd, Int.reduceNeg, Int.reduceSub, Int.reduceMul, ilt_t, ilt_f, ile_t, ile_f, ieq_t, ieq_f, ine_t, ine_f, Nat.lt_irrefl]
  refine W_countx 0 0 (fun i st => HdG (fun T => T 1 = .str e ∧ T 5 = .ref H.length 0 ∧ T 8 = .slice [] false ∧ T 9 = .int .i64 0 ∧ T 10 = .int .i64 0) (H ++ [.box 80 [.nilptr, .slice (bytesR []) true]]) H.length st)
    (HdG (fun T => T 1 = .str e ∧ T 5 = .ref H.length 0) (H ++ [.box 80 [.nilptr, .slice (bytesR []) true]]) H.length) (fun _ => False) ?_ ?_ (fun _ h => h.elim) 0 _ (by omega) ?_
  · rintro i st hi hst
    obtain ⟨T, g3, rfl, h1, h5, h8, h9, h10⟩ := hst.out
    simp (disch := omega) only [evA, argsV, argsOK, partsV, elemsV, optV, evOper, evOp, evAppend, IArg.eval, AS.putD, ↓reduceIte, Nat.reduceEqDiff, Option.isSome, Option.isNone, cond_true, cond_false, Nat.reduceBEq, Nat.reduceAdd, Nat.reduceMul, binInt, binStr, eq_self, reduceCtorEq, unAV, lenAV, convAV, sliceAV, bound, isCon, AS.spent, liveAddr, offAddr, elemsOf, Nat.reduceLeDiff, nilCmp, putAt, Int.reduceEq, Int.reduceLT, Int.reduceLE, Int.reduceBEq, Int.reduceBNe, Int.reduceAdd, Int.reduceNeg, Int.reduceSub, Int.reduceMul, ilt_t, ilt_f, ile_t, ile_f, ieq_t, ieq_f, ine_t, ine_f, h1, h5, h8, h9, h10]
  · rintro st hst
    obtain ⟨T, g3, rfl, h1, h5⟩ := hst.out
    have hstr := c7 (f := 40) rfl (string_D H .nilptr [] (by simp))
    have hbl : decide (([] : Str).length + e.length ≤ 4611686018427387904) = true := by simp; omega
    simp (disch := omega) only [evA, argsV, argsOK, partsV, elemsV, optV, evOper, evOp, evAppend, IArg.eval, AS.putD, ↓reduceIte, Nat.reduceEqDiff, Option.isSome, Option.isNone, cond_true, cond_false, Nat.reduceBEq, Nat.reduceAdd, Nat.reduceMul, binInt, binStr, eq_self, reduceCtorEq, unAV, lenAV, convAV, sliceAV, bound, isCon, AS.spent, liveAddr, offAddr, elemsOf, Nat.reduceLeDiff, nilCmp, putAt, Int.reduceEq, Int.reduceLT, Int.reduceLE, Int.reduceBEq, Int.reduceBNe, Int.reduceAdd, Int.reduceNeg, Int.reduceSub, Int.reduceMul, ilt_t, ilt_f, ile_t, ile_f, ieq_t, ieq_f, ine_t, ine_f, h1, h5, hstr, hbl, take_last]
  · simp (disch := omega) only [evA, argsV, argsOK, partsV, elemsV, optV, evOper, evOp, evAppend, IArg.eval, AS.putD, ↓reduceIte, Nat.reduceEqDiff, Option.isSome, Option.isNone, cond_true, cond_false, Nat.reduceBEq, Nat.reduceAdd, Nat.reduceMul, binInt, binStr, eq_self, reduceCtorEq, unAV, lenAV, convAV, sliceAV, bound, isCon, AS.spent, liveAddr, offAddr, elemsOf, Nat.reduceLeDiff, nilCmp, putAt, Int.reduceEq, Int.reduceLT, Int.reduceLE, Int.reduceBEq, Int.reduceBNe, Int.reduceAdd, Int.reduceNeg, Int.reduceSub, Int.reduceMul, Int.natCast_zero]
    rfl

theorem names_words : ∀ m ∈ ([[109, 105, 108, 108], [109, 49], [111, 102]] : List Str), isWord m = true := by decide

theorem lawRound (l m : List Int) (raw : Str) (hl : ∀ n ∈ l, I64 n) (_ : l.length ≤ 1048576) (hm : ∀ n ∈ m, I64 n) (_ : m.length ≤ 1048576) (hraw : raw.length ≤ 1048576) :
    callD A7 7 [.slice (ints l) false, .slice (ints m) false, .str raw] [] = some (.bool true, none) := by
  obtain ⟨_, e1, x, rfl, hx1, hx2⟩ := rules_D l [[109, 105, 108, 108], [109, 49], [111, 102]] 6 [] hl (by simp) (by omega) (by omega)
  have hs : strs [[109, 105, 108, 108], [109, 49], [111, 102]] = [[.str [109, 105, 108, 108]], [.str [109, 49]], [.str [111, 102]]] := rfl
  rw [hs] at e1
  have e1 := c7 (f := 9) rfl e1
  have hv : validRules x = true := by
    unfold validRules
    simp only [Bool.and_eq_true, List.all_eq_true, decide_eq_true_eq]
    exact ⟨fun r hr => (hx2 r hr).valid names_words, by omega⟩
  obtain ⟨x1, x2, x3⟩ := rules_ok hv
  have hp := c7 (f := 21) rfl (printP_D x [] (by omega) x1)
  have hvd : ∀ H, callD A7 19 [.slice (encRules x) false] H = some (.bool true, none) := fun H => by
    have := c7 (f := 19) rfl (validP_D x H (by omega) x1)
    rw [hv] at this; exact this
  have hpl := printRules_len hv
  have hpp := parse_print hv
  have hsc := scan_print hv
  have hen : ([35, 32, 101, 110, 100] : Str).length ≤ 1000 := by decide
  refine callD_W (fn := ir7) rfl rfl rfl ?_
  unfold ir7
  by_cases hx0 : x = []
  · subst hx0
    have hp0 : printRules [] = [] := rfl
    rw [hp0] at hp
    have hsn := scan_nil []
    have htn := text_nil [35, 32, 101, 110, 100] hen []
    simp (disch := omega) only [evA, argsV, argsOK, partsV, elemsV, optV, evOper, evOp, evAppend, IArg.eval, AS.putD, ↓reduceIte, Nat.reduceEqDiff, Option.isSome, Option.isNone, cond_true, cond_false, Nat.reduceBEq, Nat.reduceAdd, Nat.reduceMul, binInt, binStr, eq_self, reduceCtorEq, unAV, lenAV, convAV, sliceAV, bound, isCon, AS.spent, liveAddr, offAddr, elemsOf, Nat.reduceLeDiff, nilCmp, putAt, Int.reduceEq, Int.reduceLT, Int.reduceLE, Int.reduceBEq, Int.reduceBNe, Int.reduceAdd, Int.reduceNeg, Int.reduceSub, Int.reduceMul, ilt_t, ilt_f, ile_t, ile_f, ieq_t, ieq_f, ine_t, ine_f, e1, hp, hsn, hvd, bne_self_eq_false]
    refine W_countx 0 0 (fun i => Hd (fun T => T 2 = .str raw ∧ T 7 = .slice (encRules []) false ∧ T 8 = .str [] ∧ T 9 = .slice [] false ∧ T 12 = .int .i64 0) [] 0 0) (Hd (fun T => T 2 = .str raw ∧ T 7 = .slice (encRules []) false ∧ T 8 = .str [] ∧ T 9 = .slice [] false) [] 0 0) (fun _ => False) ?_ ?_ (fun _ h => h.elim) 0 _ (by omega) ?_
    · rintro i st hi hst
      obtain ⟨T, rfl, h2, h7, h8, h9, h12⟩ := hst.out
      simp (disch := omega) only [evA, argsV, argsOK, partsV, elemsV, optV, evOper, evOp, evAppend, IArg.eval, AS.putD, ↓reduceIte, Nat.reduceEqDiff, Option.isSome, Option.isNone, cond_true, cond_false, Nat.reduceBEq, Nat.reduceAdd, Nat.reduceMul, binInt, binStr, eq_self, reduceCtorEq, unAV, lenAV, convAV, sliceAV, bound, isCon, AS.spent, liveAddr, offAddr, elemsOf, Nat.reduceLeDiff, nilCmp, putAt, Int.reduceEq, Int.reduceLT, Int.reduceLE, Int.reduceBEq, Int.reduceBNe, Int.reduceAdd, Int.reduceNeg, Int.reduceSub, Int.reduceMul, ilt_t, ilt_f, ile_t, ile_f, ieq_t, ieq_f, ine_t, ine_f, h2, h7, h8, h9, h12]
    · intro st hst
      obtain ⟨T, rfl, h2, h7, h8, h9⟩ := hst.out
      simp (disch := omega) only [evA, argsV, argsOK, partsV, elemsV, optV, evOper, evOp, evAppend, IArg.eval, AS.putD, ↓reduceIte, Nat.reduceEqDiff, Option.isSome, Option.isNone, cond_true, cond_false, Nat.reduceBEq, Nat.reduceAdd, Nat.reduceMul, binInt, binStr, eq_self, reduceCtorEq, unAV, lenAV, convAV, sliceAV, bound, isCon, AS.spent, liveAddr, offAddr, elemsOf, Nat.reduceLeDiff, nilCmp, putAt, Int.reduceEq, Int.reduceLT, Int.reduceLE, Int.reduceBEq, Int.reduceBNe, Int.reduceAdd, Int.reduceNeg, Int.reduceSub, Int.reduceMul, ilt_t, ilt_f, ile_t, ile_f, ieq_t, ieq_f, ine_t, ine_f, h2, h7, h8, h9, htn]
      refine round_loop [] hv [[], [35, 32, 101, 110, 100], raw, raw] rfl ?_ ?_ [] _ 0 _ ?_ ?_ ?_ ?_
      · intro z hz
        simp only [List.mem_cons, List.not_mem_nil, or_false] at hz
        rcases hz with rfl | rfl | rfl | rfl
        · simp
        · simp
        · omega
        · omega
      · intro i z hi hz _
        match i with
        | 0 => simp at hz; subst hz; exact hpp
        | 1 =>
          simp at hz; subst hz
          exact parse_gaps hv (L := []) rfl (fun t h => by cases h) (fun t h => by cases h) (by decide)
        | i + 2 => omega
      case refine_6 =>
        intro T'
        simp (disch := omega) only [evA, argsV, argsOK, partsV, elemsV, optV, evOper, evOp, evAppend, IArg.eval, AS.putD, ↓reduceIte, Nat.reduceEqDiff, Option.isSome, Option.isNone, cond_true, cond_false, Nat.reduceBEq, Nat.reduceAdd, Nat.reduceMul, binInt, binStr, eq_self, reduceCtorEq, unAV, lenAV, convAV, sliceAV, bound, isCon, AS.spent, liveAddr, offAddr, elemsOf, Nat.reduceLeDiff, nilCmp, putAt, Int.reduceEq, Int.reduceLT, Int.reduceLE, Int.reduceBEq, Int.reduceBNe, Int.reduceAdd, Int.reduceNeg, Int.reduceSub, Int.reduceMul, lives_any [] (.inl rfl)]
      all_goals first | (simp (disch := omega) only [evA, argsV, argsOK, partsV, elemsV, optV, evOper, evOp, evAppend, IArg.eval, AS.putD, ↓reduceIte, Nat.reduceEqDiff, Option.isSome, Option.isNone, cond_true, cond_false, Nat.reduceBEq, Nat.reduceAdd, Nat.reduceMul, binInt, binStr, eq_self, reduceCtorEq, unAV, lenAV, convAV, sliceAV, bound, isCon, AS.spent, liveAddr, offAddr, elemsOf, Nat.reduceLeDiff, nilCmp, putAt, Int.reduceEq, Int.reduceLT, Int.reduceLE, Int.reduceBEq, Int.reduceBNe, Int.reduceAdd, Int.reduceNeg, Int.reduceSub, Int.reduceMul, h7]; done) | (simp (disch := omega) only [evA, argsV, argsOK, partsV, elemsV, optV, evOper, evOp, evAppend, IArg.eval, AS.putD, ↓reduceIte, Nat.reduceEqDiff, Option.isSome, Option.isNone, cond_true, cond_false, Nat.reduceBEq, Nat.reduceAdd, Nat.reduceMul, binInt, binStr, eq_self, reduceCtorEq, unAV, lenAV, convAV, sliceAV, bound, isCon, AS.spent, liveAddr, offAddr, elemsOf, Nat.reduceLeDiff, nilCmp, putAt, Int.reduceEq, Int.reduceLT, Int.reduceLE, Int.reduceBEq, Int.reduceBNe, Int.reduceAdd, Int.reduceNeg, Int.reduceSub, Int.reduceMul, h7]; rfl)
    · simp (disch := omega) only [evA, argsV, argsOK, partsV, elemsV, optV, evOper, evOp, evAppend, IArg.eval, AS.putD, ↓reduceIte, Nat.reduceEqDiff, Option.isSome, Option.isNone, cond_true, cond_false, Nat.reduceBEq, Nat.reduceAdd, Nat.reduceMul, binInt, binStr, eq_self, reduceCtorEq, unAV, lenAV, convAV, sliceAV, bound, isCon, AS.spent, liveAddr, offAddr, elemsOf, Nat.reduceLeDiff, nilCmp, putAt, Int.reduceEq, Int.reduceLT, Int.reduceLE, Int.reduceBEq, Int.reduceBNe, Int.reduceAdd, Int.reduceNeg, Int.reduceSub, Int.reduceMul, Int.natCast_zero]
  · have hne : rulesP [] x ≠ [] := by
      cases x with
      | nil => exact absurd rfl hx0
      | cons r x => simp [rulesP, ruleP]
    have hTL := scanS_TL (printRules x)
    have hpub := scanPub_D (printRules x) [] (rulesP [] x) (endP x) hsc hne (by omega)
    rw [hsc] at hTL
    simp only at hTL
    have hll := hTL.len
    generalize hL : rulesP [] x = L at hpub hTL hll
    generalize printRules x = s at hp hpl hpp hpub
    simp (disch := omega) only [evA, argsV, argsOK, partsV, elemsV, optV, evOper, evOp, evAppend, IArg.eval, AS.putD, ↓reduceIte, Nat.reduceEqDiff, Option.isSome, Option.isNone, cond_true, cond_false, Nat.reduceBEq, Nat.reduceAdd, Nat.reduceMul, binInt, binStr, eq_self, reduceCtorEq, unAV, lenAV, convAV, sliceAV, bound, isCon, AS.spent, liveAddr, offAddr, elemsOf, Nat.reduceLeDiff, nilCmp, putAt, Int.reduceEq, Int.reduceLT, Int.reduceLE, Int.reduceBEq, Int.reduceBNe, Int.reduceAdd, Int.reduceNeg, Int.reduceSub, Int.reduceMul, ilt_t, ilt_f, ile_t, ile_f, ieq_t, ieq_f, ine_t, ine_f, e1, hp, hpub, hvd, bne_self_eq_false]
    refine fill_loop L m hm (by omega) (.str raw) (.slice (encRules x) false) (.str s) _ 0 _ ?_ ?_ ?_ ?_ ?_ ?_ ?_
    case refine_7 =>
      intro T L' hf h2 h7 h8 h9
      have hlen := hf.len
      have hok : ∀ t ∈ L', closed false t.before = true ∧ t.before.length ≤ 14 := fun t ht => by
        obtain ⟨j, hj⟩ := List.getElem?_of_mem ht
        obtain ⟨a, b, _⟩ := hf.ok j t (by have := (List.getElem?_eq_some_iff.1 hj).1; omega) hj
        exact ⟨a, b⟩
      have htl : ∀ t ∈ L'.tail, t.before ≠ [] := fun t ht => by
        obtain ⟨j, hj⟩ := List.getElem?_of_mem ht
        rw [List.getElem?_tail] at hj
        exact (hf.ok (j + 1) t (by have := (List.getElem?_eq_some_iff.1 hj).1; omega) hj).2.2 (by omega)
      have htt : ∀ t ∈ L', t.text.length ≤ 8192 := fun t ht => by
        have : t.text ∈ texts L := by rw [← hf.texts]; exact List.mem_map_of_mem ht
        obtain ⟨u, hu, e⟩ := List.mem_map.1 this
        rw [← e]; exact (hTL.text u hu).2
      have htx := text_D L' [35, 32, 101, 110, 100] [.box freeTy (encToks L').flatten] 0 freeTy rfl (by omega) (fun t ht => ⟨htt t ht, by have := (hok t ht).2; omega⟩) hen
      have hpg := parse_gaps hv (L := L') (by rw [hf.texts, hL]) (fun t ht => (hok t ht).1) htl
      have hrl : (render L' [35, 32, 101, 110, 100]).length ≤ 500000000 := by
        have : ∀ M : List Tok, (∀ t ∈ M, t.text.length ≤ 8192 ∧ t.before.length ≤ 14) → (render M [35, 32, 101, 110, 100]).length ≤ 5 + 8206 * M.length := by
          intro M
          induction M with
          | nil => intro _; simp [render]
          | cons t M ih =>
            intro h
            have h1 := h t (by simp)
            have h2 := ih (fun t ht => h t (by simp [ht]))
            rw [render_cons]
            simp only [List.length_append, List.length_cons]; omega
        have := this L' (fun t ht => ⟨htt t ht, (hok t ht).2⟩)
        omega
      generalize render L' [35, 32, 101, 110, 100] = tx at htx hpg hrl
      simp (disch := omega) only [evA, argsV, argsOK, partsV, elemsV, optV, evOper, evOp, evAppend, IArg.eval, AS.putD, ↓reduceIte, Nat.reduceEqDiff, Option.isSome, Option.isNone, cond_true, cond_false, Nat.reduceBEq, Nat.reduceAdd, Nat.reduceMul, binInt, binStr, eq_self, reduceCtorEq, unAV, lenAV, convAV, sliceAV, bound, isCon, AS.spent, liveAddr, offAddr, elemsOf, Nat.reduceLeDiff, nilCmp, putAt, Int.reduceEq, Int.reduceLT, Int.reduceLE, Int.reduceBEq, Int.reduceBNe, Int.reduceAdd, Int.reduceNeg, Int.reduceSub, Int.reduceMul, ilt_t, ilt_f, ile_t, ile_f, ieq_t, ieq_f, ine_t, ine_f, h2, h7, h8, h9, htx]
      refine round_loop x hv [s, tx, raw, s ++ raw] rfl ?_ ?_ [.box freeTy (encToks L').flatten] _ 0 _ ?_ ?_ ?_ ?_
      · intro z hz
        simp only [List.mem_cons, List.not_mem_nil, or_false] at hz
        rcases hz with rfl | rfl | rfl | rfl
        · omega
        · omega
        · omega
        · rw [List.length_append]; omega
      · intro i z hi hz hz2
        match i with
        | 0 => simp at hz; subst hz; exact hpp
        | 1 => simp at hz; subst hz; exact hpg hz2
        | i + 2 => omega
      case refine_6 =>
        intro T'
        simp (disch := omega) only [evA, argsV, argsOK, partsV, elemsV, optV, evOper, evOp, evAppend, IArg.eval, AS.putD, ↓reduceIte, Nat.reduceEqDiff, Option.isSome, Option.isNone, cond_true, cond_false, Nat.reduceBEq, Nat.reduceAdd, Nat.reduceMul, binInt, binStr, eq_self, reduceCtorEq, unAV, lenAV, convAV, sliceAV, bound, isCon, AS.spent, liveAddr, offAddr, elemsOf, Nat.reduceLeDiff, nilCmp, putAt, Int.reduceEq, Int.reduceLT, Int.reduceLE, Int.reduceBEq, Int.reduceBNe, Int.reduceAdd, Int.reduceNeg, Int.reduceSub, Int.reduceMul, lives_any [.box freeTy (encToks L').flatten] (.inr ⟨_, rfl⟩)]
      all_goals first | (simp (disch := omega) only [evA, argsV, argsOK, partsV, elemsV, optV, evOper, evOp, evAppend, IArg.eval, AS.putD, ↓reduceIte, Nat.reduceEqDiff, Option.isSome, Option.isNone, cond_true, cond_false, Nat.reduceBEq, Nat.reduceAdd, Nat.reduceMul, binInt, binStr, eq_self, reduceCtorEq, unAV, lenAV, convAV, sliceAV, bound, isCon, AS.spent, liveAddr, offAddr, elemsOf, Nat.reduceLeDiff, nilCmp, putAt, Int.reduceEq, Int.reduceLT, Int.reduceLE, Int.reduceBEq, Int.reduceBNe, Int.reduceAdd, Int.reduceNeg, Int.reduceSub, Int.reduceMul, h7]; done) | (simp (disch := omega) only [evA, argsV, argsOK, partsV, elemsV, optV, evOper, evOp, evAppend, IArg.eval, AS.putD, ↓reduceIte, Nat.reduceEqDiff, Option.isSome, Option.isNone, cond_true, cond_false, Nat.reduceBEq, Nat.reduceAdd, Nat.reduceMul, binInt, binStr, eq_self, reduceCtorEq, unAV, lenAV, convAV, sliceAV, bound, isCon, AS.spent, liveAddr, offAddr, elemsOf, Nat.reduceLeDiff, nilCmp, putAt, Int.reduceEq, Int.reduceLT, Int.reduceLE, Int.reduceBEq, Int.reduceBNe, Int.reduceAdd, Int.reduceNeg, Int.reduceSub, Int.reduceMul, h7]; rfl)
    all_goals first | (simp (disch := omega) only [evA, argsV, argsOK, partsV, elemsV, optV, evOper, evOp, evAppend, IArg.eval, AS.putD, ↓reduceIte, Nat.reduceEqDiff, Option.isSome, Option.isNone, cond_true, cond_false, Nat.reduceBEq, Nat.reduceAdd, Nat.reduceMul, binInt, binStr, eq_self, reduceCtorEq, unAV, lenAV, convAV, sliceAV, bound, isCon, AS.spent, liveAddr, offAddr, elemsOf, Nat.reduceLeDiff, nilCmp, putAt, Int.reduceEq, Int.reduceLT, Int.reduceLE, Int.reduceBEq, Int.reduceBNe, Int.reduceAdd, Int.reduceNeg, Int.reduceSub, Int.reduceMul]; done) | (simp (disch := omega) only [evA, argsV, argsOK, partsV, elemsV, optV, evOper, evOp, evAppend, IArg.eval, AS.putD, ↓reduceIte, Nat.reduceEqDiff, Option.isSome, Option.isNone, cond_true, cond_false, Nat.reduceBEq, Nat.reduceAdd, Nat.reduceMul, binInt, binStr, eq_self, reduceCtorEq, unAV, lenAV, convAV, sliceAV, bound, isCon, AS.spent, liveAddr, offAddr, elemsOf, Nat.reduceLeDiff, nilCmp, putAt, Int.reduceEq, Int.reduceLT, Int.reduceLE, Int.reduceBEq, Int.reduceBNe, Int.reduceAdd, Int.reduceNeg, Int.reduceSub, Int.reduceMul]; rfl)

end Go.Proofs.YtgdcfgpddgedkaaDoor

