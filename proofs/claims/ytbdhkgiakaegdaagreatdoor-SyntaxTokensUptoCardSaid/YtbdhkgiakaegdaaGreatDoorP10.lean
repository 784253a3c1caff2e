/-
  A part of the proof of SyntaxTokens: LvT1.
-/
import Derived.Test.YtbdhkgiakaegdaaGreatDoorP09
set_option linter.unusedSimpArgs false
set_option linter.unusedVariables false
set_option linter.defProp false
set_option maxRecDepth 100000
namespace Go.Proofs.YtbdhkgiakaegdaaGreatDoor
open Go Go.Abs Go.Proofs
def en1:dP:=⟨37,[.str [97,32,43,32,98,32,42,32,50,32,45,32,99]],[],(.tuple [.agg [.int .i64 4,.int .i64 1,.str [],.str [],.str [],.af,.slice [[.int .i64 4,.int .i64 0,.str [],.str [],.str [],.af,.slice [[.int .i64 2,.int .i64 0,.str [97],.str [],.str [],.af,.af,.slice [] false],[.int .i64 4,.int .i64 2,.str [],.str [],.str [],.af,.slice [[.int .i64 2,.int .i64 0,.str [98],.str [],.str [],.af,.af,.slice [] false],[.int .i64 0,.int .i64 2,.str [],.str [],.str [],.af,.af,.slice [] false]] false,.slice [] false]] false,.slice [] false],[.int .i64 2,.int .i64 0,.str [99],.str [],.str [],.af,.af,.slice [] false]] false,.slice [] false],.bool true],none)⟩
theorem ZW:RN 108 en1:=mo (by kernel_rfl)
end Go.Proofs.YtbdhkgiakaegdaaGreatDoor
