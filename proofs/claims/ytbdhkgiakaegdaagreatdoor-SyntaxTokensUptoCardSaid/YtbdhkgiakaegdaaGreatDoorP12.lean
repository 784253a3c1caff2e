/-
  A part of the proof of SyntaxTokens: LvT3.
-/
import Derived.Test.YtbdhkgiakaegdaaGreatDoorP09
set_option linter.unusedSimpArgs false
set_option linter.unusedVariables false
set_option linter.defProp false
set_option maxRecDepth 100000
namespace Go.Proofs.YtbdhkgiakaegdaaGreatDoor
open Go Go.Abs Go.Proofs
def en3:dP:=⟨37,[.str [110,111,116,32,97,32,61,61,32,98]],[],(.tuple [.agg [.int .i64 4,.int .i64 6,.str [],.str [],.str [],.af,.slice [[.int .i64 4,.int .i64 9,.str [],.str [],.str [],.af,.slice [[.int .i64 2,.int .i64 0,.str [97],.str [],.str [],.af,.af,.slice [] false]] false,.slice [] false],[.int .i64 2,.int .i64 0,.str [98],.str [],.str [],.af,.af,.slice [] false]] false,.slice [] false],.bool true],none)⟩
theorem ZY:RN 108 en3:=mo (by kernel_rfl)
end Go.Proofs.YtbdhkgiakaegdaaGreatDoor
