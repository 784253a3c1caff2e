/-
  A part of the proof of SyntaxLossless: V10.
-/
import Derived.KernelRfl
import Derived.Test.YtkoebdjmmgckdaaGreatDoorQ15
set_option linter.unusedSimpArgs false
set_option linter.unusedVariables false
set_option linter.defProp false
set_option maxRecDepth 1000000
noncomputable section
namespace Go.Proofs.YtkoebdjmmgckdaaGreatDoor
open Go Go.Abs Go.Proofs
def Oj(s:av):Option (So × Int) :=
 bif decide ((xf 100 s 0).2.2=-1) then (qS (aq (iv (xf 100 s 0).1)) 80000).map (vm (iv (xf 100 s 0).1) (xf 100 s 0).2.1 s.length) else some (so0,(xf 100 s 0).2.2)
def Sp{s:av}(hl:s.length<100):Oj s=some (gW s):=by
 have e:bO s=xf 100 s 0:=by unfold bO;rw[if_neg (by omega),L6 100 s 0 hl]
 rw[<- vn s];unfold Oj qg;rw[e]
 by_cases h:(xf 100 s 0).2.2=-1
 ·rw[if_pos h,decide_eq_true h,cond_true]
 ·rw[if_neg h,ax1 h,cond_false]
def amo(args:List AV)(H:aa):Option (AV × Option fw) :=
 match args with
 | [.str s]=>bif Nat.blt s.length 100 then (Oj s).map fun r=>(.tuple [.agg (mz r.1),.int .i64 r.2],none) else none
 | _=>none
def ovX:FuncId->Option (List AV->aa->Option (AV × Option fw))
 | 7=>some amo
 | f=>ov f
def AX:AP:={ fns:=fns,ov:=ovX,aX:=BS }
def Si:FV AX 60 8 [] []=some (.bool true,none):=by kernel_rfl
end Go.Proofs.YtkoebdjmmgckdaaGreatDoor
end
