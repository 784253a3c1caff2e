/-
  A part of the proof of SyntaxErrors: V10.
-/
import Derived.KernelRfl
import Derived.Test.YtbadnagdfefbnaaGreatDoorQ15
set_option linter.unusedSimpArgs false
set_option linter.unusedVariables false
set_option linter.defProp false
set_option maxRecDepth 1000000
noncomputable section
namespace Go.Proofs.YtbadnagdfefbnaaGreatDoor
open Go Go.Abs Go.Proofs
def M3(s:ay):Option (So × Int) :=
 bif decide ((wJ 100 s 0).2.2=-1) then (oo (aq (iP (wJ 100 s 0).1)) 80000).map (uY (iP (wJ 100 s 0).1) (wJ 100 s 0).2.1 s.length) else some (so0,(wJ 100 s 0).2.2)
def QU{s:ay}(hl:s.length<100):M3 s=some (lX s):=by
 have e:bB s=wJ 100 s 0:=by unfold bB;rw[if_neg (by omega),KQ 100 s 0 hl]
 rw[<- uZ s];unfold M3 p7;rw[e]
 by_cases h:(wJ 100 s 0).2.2=-1
 ·rw[if_pos h,decide_eq_true h,cond_true]
 ·rw[if_neg h,av1 h,cond_false]
def ajF(args:List AV)(H:ae):Option (AV × Option fP) :=
 match args with
 | [.str s]=>bif Nat.blt s.length 100 then (M3 s).map fun r=>(.tuple [.agg (qt r.1),.int .i64 r.2],none) else none
 | _=>none
def ovX:FuncId->Option (List AV->ae->Option (AV × Option fP))
 | 11=>some ajF
 | f=>ov f
def AX:AP:={ fns:=fns,ov:=ovX,aY:=Bg }
def QO:D4 AX 60 12 [] []=some (.bool true,none):=by kernel_rfl
end Go.Proofs.YtbadnagdfefbnaaGreatDoor
end
