/-
  A part of the proof of SyntaxTokens: LvT8.
-/
import Derived.Test.YtbdhkgiakaegdaaGreatDoorP09
set_option linter.unusedSimpArgs false
set_option linter.unusedVariables false
set_option linter.defProp false
set_option maxRecDepth 100000
namespace Go.Proofs.YtbdhkgiakaegdaaGreatDoor
open Go Go.Abs Go.Proofs
def en8:dP:=⟨38,[.str [109,111,100,117,108,101,32,109,32,102,117,110,32,102,32,40]],[],(.tuple [.agg [.str [],.af,.af,.af,.str []],.int .i64 16],none)⟩
theorem Z3:RN 108 en8:=mo (by kernel_rfl)
end Go.Proofs.YtbdhkgiakaegdaaGreatDoor
