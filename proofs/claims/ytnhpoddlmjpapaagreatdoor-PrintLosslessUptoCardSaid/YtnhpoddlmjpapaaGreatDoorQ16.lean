/-
  A part of the proof of PrintLossless: Y10.
-/
import Derived.Test.YtnhpoddlmjpapaaGreatDoorQ15
set_option linter.unusedSimpArgs false
set_option linter.unusedVariables false
set_option linter.defProp false
set_option maxRecDepth 1000000
noncomputable section
namespace Go.Proofs.YtnhpoddlmjpapaaGreatDoor
open Go Go.Abs Go.Proofs
def aj4(args:List AV)(H:ae):Option (AV × Option fR) :=
 match args with
 | [.str s]=>cond (s==Xu) (some (.tuple [.agg (nu exS),.int .i64 (-1)],none)) none
 | _=>none
def ovX:FuncId->Option (List AV->ae->Option (AV × Option fR))
 | 8=>some aj4
 | 73=>some nY
 | 113=>some nY
 | 114=>some nY
 | f=>ov f
def AX:AP:={ fns:=fns,ov:=ovX,aW:=xN }
def QU:D3 AX 60 10 [] []=some (.bool true,none):=by kernel_rfl
end Go.Proofs.YtnhpoddlmjpapaaGreatDoor
end
