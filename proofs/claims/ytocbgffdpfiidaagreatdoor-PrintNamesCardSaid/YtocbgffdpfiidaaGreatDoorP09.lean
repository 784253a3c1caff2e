/-
  A part of the proof of PrintNames: AbsLivesS.
-/
import Derived.KernelRfl
import Derived.Test.YtocbgffdpfiidaaGreatDoorP08
set_option linter.unusedSimpArgs false
set_option linter.unusedVariables false
set_option linter.defProp false
set_option maxRecDepth 100000
namespace Go.Proofs.YtocbgffdpfiidaaGreatDoor
open Go Go.Abs Go.Proofs
def LW:ag:=[]
def hp1:ag:=[.dL [.str [102,117,110],.str [102],.str [40],.str [97],.str [73,110,116],.str [41],.str [73,110,116],.str [61],.str [97]]]
def WQ:ag:=[.dL [.str [102,117,110],.str [102],.str [40],.str [97],.str [73,110,116],.str [41],.str [73,110,116],.str [61],.str [97]],.dL [.str [102,117,110],.str [103],.str [40],.str [97],.str [73,110,116],.str [41],.str [73,110,116],.str [61],.str [97]]]
def Z2:sj:=⟨10,[.slice [[.str []],[.str [32]],[.str [32]],[.str []],[.str [32]],[.str []],[.str [32]],[.str [32]],[.str [32,32]],[.str [32,35,32,120,10]]] false,.sref 0 0 9 1,.sref 1 0 9 1],WQ,(.slice [[.str []],[.str [32]],[.str [32]],[.str []],[.str [32]],[.str []],[.str [32]],[.str [32]],[.str [32,32]],[.str [32,35,32,120,10]]] false,none)⟩
theorem VH:BX A0 58 Z2.f Z2.args Z2.heap=some Z2.out:=by kernel_rfl
def Z3:sj:=⟨25,[.str [109,111,100,117,108,101,32,109,10,102,117,110,32,102,32,40,97,32,73,110,116,41,32,73,110,116,32,61,32,32,97,32,35,32,120,10]],WQ,(.tuple [.agg [.str [109],.ay,.slice [[.int .i64 2,.str [102],.slice [[.str [97],.str [73,110,116],.ay,.int .i64 0]] false,.str [73,110,116],.ay,.int .i64 2,.int .i64 0,.str [97],.str [],.str [],.ay,.ay,.ay,.slice [[.str []],[.str [32]],[.str [32]],[.str []],[.str [32]],[.str []],[.str [32]],[.str [32]],[.str [32,32]],[.str [32,35,32,120,10]]] false]] false,.slice [[.str []],[.str [32]],[.str [10]]] false,.str []],.int .i64 (-1)],none)⟩
theorem VI:BX A0 58 Z3.f Z3.args Z3.heap=some Z3.out:=by kernel_rfl
def Z4:sj:=⟨26,[.slice [[.str []],[.str [32]],[.str [32]],[.str []],[.str [32]],[.str []],[.str [32]],[.str [32]],[.str [32,32]],[.str [32,35,32,120,10]]] false,.slice [[.str []],[.str [32]],[.str [32]],[.str []],[.str [32]],[.str []],[.str [32]],[.str [32]],[.str [32,32]],[.str [32,35,32,120,10]]] false],WQ,(.bool true,none)⟩
theorem VJ:BX A0 58 Z4.f Z4.args Z4.heap=some Z4.out:=by kernel_rfl
def Z5:sj:=⟨27,[.agg [.str [109],.ay,.slice [[.int .i64 2,.str [102],.slice [[.str [97],.str [73,110,116],.ay,.int .i64 0]] false,.str [73,110,116],.ay,.int .i64 2,.int .i64 0,.str [97],.str [],.str [],.ay,.ay,.ay,.slice [[.str []],[.str [32]],[.str [32]],[.str []],[.str [32]],[.str []],[.str [32]],[.str [32]],[.str [32,32]],[.str [32,35,32,120,10]]] false]] false,.slice [[.str []],[.str [32]],[.str [10]]] false,.str []]],WQ,(.agg [.str [109],.slice [] false,.slice [[.int .i64 2,.str [102],.slice [[.str [97],.str [73,110,116],.slice [] false,.int .i64 0]] false,.str [73,110,116],.slice [] false,.int .i64 2,.int .i64 0,.str [97],.str [],.str [],.slice [] false,.slice [] false,.slice [] false,.slice [] false]] false,.slice [] false,.str []],none)⟩
theorem VK:BX A0 58 Z5.f Z5.args Z5.heap=some Z5.out:=by kernel_rfl
def Z6:sj:=⟨28,[.agg [.int .i64 2,.str [102],.slice [[.str [97],.str [73,110,116],.ay,.int .i64 0]] false,.str [73,110,116],.ay,.int .i64 2,.int .i64 0,.str [97],.str [],.str [],.ay,.ay,.ay,.slice [[.str []],[.str [32]],[.str [32]],[.str []],[.str [32]],[.str []],[.str [32]],[.str [32]],[.str [32,32]],[.str [32,35,32,120,10]]] false]],WQ,(.str [102,117,110,32,102,32,40,97,32,73,110,116,41,32,73,110,116,32,61,32,32,97,32,35,32,120,10],none)⟩
theorem VL:BX A0 58 Z6.f Z6.args Z6.heap=some Z6.out:=by kernel_rfl
def Z7:sj:=⟨29,[.agg [.str [109],.ay,.slice [[.int .i64 2,.str [102],.slice [[.str [97],.str [73,110,116],.ay,.int .i64 0]] false,.str [73,110,116],.ay,.int .i64 2,.int .i64 0,.str [97],.str [],.str [],.ay,.ay,.ay,.slice [[.str []],[.str [32]],[.str [32]],[.str []],[.str [32]],[.str []],[.str [32]],[.str [32]],[.str [32,32]],[.str [32,35,32,120,10]]] false]] false,.slice [[.str []],[.str [32]],[.str [10]]] false,.str []]],WQ,(.str [109,111,100,117,108,101,32,109,10,102,117,110,32,102,32,40,97,32,73,110,116,41,32,73,110,116,32,61,32,32,97,32,35,32,120,10],none)⟩
theorem VM:BX A0 58 Z7.f Z7.args Z7.heap=some Z7.out:=by kernel_rfl
def Z8:sj:=⟨29,[.agg [.str [109],.slice [] false,.slice [[.int .i64 2,.str [102],.slice [[.str [97],.str [73,110,116],.slice [] false,.int .i64 0]] false,.str [73,110,116],.slice [] false,.int .i64 2,.int .i64 0,.str [97],.str [],.str [],.slice [] false,.slice [] false,.slice [] false,.slice [] false]] false,.slice [] false,.str []]],WQ,(.str [109,111,100,117,108,101,32,109,10,102,117,110,32,102,32,40,97,32,73,110,116,41,32,73,110,116,32,61,32,97,10],none)⟩
theorem VN:BX A0 58 Z8.f Z8.args Z8.heap=some Z8.out:=by kernel_rfl
def tbl:List sj:=[Z2,Z3,Z4,Z5,Z6,Z7,Z8]
theorem Y9:∀ e∈tbl,BX A0 58 e.f e.args e.heap=some e.out:=by
 intro e he
 simp only[tbl,aja,aks,alq] at he
 rcases he with rfl|rfl|rfl|rfl|rfl|rfl|rfl
 ·exact VH
 ·exact VI
 ·exact VJ
 ·exact VK
 ·exact VL
 ·exact VM
 ·exact VN
theorem Jy:BX A0 59 6 [] []=some (.bool true,none):=by
 rw[K7 (fn:=ir6) (tb:=tbl) rfl rfl Y9]
 kernel_rfl
end Go.Proofs.YtocbgffdpfiidaaGreatDoor
