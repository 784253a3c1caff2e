/-
  strings.Builder's text.
-/
import Derived.Test.YtgdcfgpddgedkaaDoorAbsLib2
set_option linter.unusedVariables false
set_option linter.unusedSimpArgs false
set_option maxHeartbeats 1000000
set_option maxRecDepth 100000
namespace Go.Proofs.YtgdcfgpddgedkaaDoor
open Go Go.Abs Go.Proofs Go.Shelf RowKit

/-- String, by the runs of its two built-ins. -/
theorem string_gen (b : Nat) (a q : Option Addr) (n cap : Nat) (s : ByteArray) (w W1 W : World) (c1 : w.drew.cell? ⟨b, 1, none⟩ = some (.slice a n cap)) (c2 : W1.cell? ⟨b, 1, none⟩ = some (.slice a n cap))
    (hSD : (Builtin.unsafeSliceData_ #[78] 93 #[.slice a n cap]).run Tryd.prog w.drew = .ok (.pointer q) W1)
    (hUS : (Builtin.unsafeString_ #[93, 3] 9 #[.pointer q, .int .i64 n]).run Tryd.prog W1 = .ok (.string s) W) :
    Calls Tryd.prog 40 #[.pointer (some ⟨b, 0, none⟩)] w fun e w' => e = .returned (.string s) ∧ w' = W := by
  have mixed : Tryd.prog.follows .mixedOrders = true := by kernel_rfl
  go_enter Tryd.func40, Tryd.ntmps40
  go_wp2
  go_region_o
  all_goals (go_wp2; go_ret; exact ⟨rfl, rfl⟩)

end Go.Proofs.YtgdcfgpddgedkaaDoor
