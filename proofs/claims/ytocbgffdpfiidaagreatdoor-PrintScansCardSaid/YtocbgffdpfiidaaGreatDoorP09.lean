/-
  A part of the proof of PrintScans: AbsLivesS.
-/
import Derived.KernelRfl
import Derived.Test.YtocbgffdpfiidaaGreatDoorP08
set_option linter.unusedSimpArgs false
set_option linter.unusedVariables false
set_option linter.defProp false
set_option maxRecDepth 100000
namespace Go.Proofs.YtocbgffdpfiidaaGreatDoor
open Go Go.Abs Go.Proofs
def LB:ag:=[]
def hp1:ag:=[.dM [.str [102,117,110],.str [102],.str [40],.str [97],.str [73,110,116],.str [41],.str [73,110,116],.str [61],.str [97]]]
def Wb:ag:=[.dM [.str [102,117,110],.str [102],.str [40],.str [97],.str [73,110,116],.str [41],.str [73,110,116],.str [61],.str [97]],.dM [.str [102,117,110],.str [103],.str [40],.str [97],.str [73,110,116],.str [41],.str [73,110,116],.str [61],.str [97]]]
def Zs:rX:=⟨10,[.slice [[.str []],[.str [32]],[.str [32]],[.str []],[.str [32]],[.str []],[.str [32]],[.str [32]],[.str [32,32]],[.str [32,35,32,120,10]]] false,.sref 0 0 9 1,.sref 1 0 9 1],Wb,(.slice [[.str []],[.str [32]],[.str [32]],[.str []],[.str [32]],[.str []],[.str [32]],[.str [32]],[.str [32,32]],[.str [32,35,32,120,10]]] false,none)⟩
theorem U' : BA A0 58 Zs.f Zs.args Zs.heap=some Zs.out:=by kernel_rfl
def Zt:rX:=⟨25,[.str [109,111,100,117,108,101,32,109,10,102,117,110,32,102,32,40,97,32,73,110,116,41,32,73,110,116,32,61,32,32,97,32,35,32,120,10]],Wb,(.tuple [.agg [.str [109],.ay,.slice [[.int .i64 2,.str [102],.slice [[.str [97],.str [73,110,116],.ay,.int .i64 0]] false,.str [73,110,116],.ay,.int .i64 2,.int .i64 0,.str [97],.str [],.str [],.ay,.ay,.ay,.slice [[.str []],[.str [32]],[.str [32]],[.str []],[.str [32]],[.str []],[.str [32]],[.str [32]],[.str [32,32]],[.str [32,35,32,120,10]]] false]] false,.slice [[.str []],[.str [32]],[.str [10]]] false,.str []],.int .i64 (-1)],none)⟩
theorem Va:BA A0 58 Zt.f Zt.args Zt.heap=some Zt.out:=by kernel_rfl
def Zu:rX:=⟨26,[.slice [[.str []],[.str [32]],[.str [32]],[.str []],[.str [32]],[.str []],[.str [32]],[.str [32]],[.str [32,32]],[.str [32,35,32,120,10]]] false,.slice [[.str []],[.str [32]],[.str [32]],[.str []],[.str [32]],[.str []],[.str [32]],[.str [32]],[.str [32,32]],[.str [32,35,32,120,10]]] false],Wb,(.bool true,none)⟩
theorem Vb:BA A0 58 Zu.f Zu.args Zu.heap=some Zu.out:=by kernel_rfl
def Zv:rX:=⟨27,[.agg [.str [109],.ay,.slice [[.int .i64 2,.str [102],.slice [[.str [97],.str [73,110,116],.ay,.int .i64 0]] false,.str [73,110,116],.ay,.int .i64 2,.int .i64 0,.str [97],.str [],.str [],.ay,.ay,.ay,.slice [[.str []],[.str [32]],[.str [32]],[.str []],[.str [32]],[.str []],[.str [32]],[.str [32]],[.str [32,32]],[.str [32,35,32,120,10]]] false]] false,.slice [[.str []],[.str [32]],[.str [10]]] false,.str []]],Wb,(.agg [.str [109],.slice [] false,.slice [[.int .i64 2,.str [102],.slice [[.str [97],.str [73,110,116],.slice [] false,.int .i64 0]] false,.str [73,110,116],.slice [] false,.int .i64 2,.int .i64 0,.str [97],.str [],.str [],.slice [] false,.slice [] false,.slice [] false,.slice [] false]] false,.slice [] false,.str []],none)⟩
theorem Vc:BA A0 58 Zv.f Zv.args Zv.heap=some Zv.out:=by kernel_rfl
def Zw:rX:=⟨28,[.agg [.int .i64 2,.str [102],.slice [[.str [97],.str [73,110,116],.ay,.int .i64 0]] false,.str [73,110,116],.ay,.int .i64 2,.int .i64 0,.str [97],.str [],.str [],.ay,.ay,.ay,.slice [[.str []],[.str [32]],[.str [32]],[.str []],[.str [32]],[.str []],[.str [32]],[.str [32]],[.str [32,32]],[.str [32,35,32,120,10]]] false]],Wb,(.str [102,117,110,32,102,32,40,97,32,73,110,116,41,32,73,110,116,32,61,32,32,97,32,35,32,120,10],none)⟩
theorem Vd:BA A0 58 Zw.f Zw.args Zw.heap=some Zw.out:=by kernel_rfl
def Zx:rX:=⟨29,[.agg [.str [109],.ay,.slice [[.int .i64 2,.str [102],.slice [[.str [97],.str [73,110,116],.ay,.int .i64 0]] false,.str [73,110,116],.ay,.int .i64 2,.int .i64 0,.str [97],.str [],.str [],.ay,.ay,.ay,.slice [[.str []],[.str [32]],[.str [32]],[.str []],[.str [32]],[.str []],[.str [32]],[.str [32]],[.str [32,32]],[.str [32,35,32,120,10]]] false]] false,.slice [[.str []],[.str [32]],[.str [10]]] false,.str []]],Wb,(.str [109,111,100,117,108,101,32,109,10,102,117,110,32,102,32,40,97,32,73,110,116,41,32,73,110,116,32,61,32,32,97,32,35,32,120,10],none)⟩
theorem Ve:BA A0 58 Zx.f Zx.args Zx.heap=some Zx.out:=by kernel_rfl
def Zy:rX:=⟨29,[.agg [.str [109],.slice [] false,.slice [[.int .i64 2,.str [102],.slice [[.str [97],.str [73,110,116],.slice [] false,.int .i64 0]] false,.str [73,110,116],.slice [] false,.int .i64 2,.int .i64 0,.str [97],.str [],.str [],.slice [] false,.slice [] false,.slice [] false,.slice [] false]] false,.slice [] false,.str []]],Wb,(.str [109,111,100,117,108,101,32,109,10,102,117,110,32,102,32,40,97,32,73,110,116,41,32,73,110,116,32,61,32,97,10],none)⟩
theorem Vf:BA A0 58 Zy.f Zy.args Zy.heap=some Zy.out:=by kernel_rfl
def tbl:List rX:=[Zs,Zt,Zu,Zv,Zw,Zx,Zy]
theorem Yz:∀ e∈tbl,BA A0 58 e.f e.args e.heap=some e.out:=by
 intro e he
 simp only[tbl,aii,ajz,akw] at he
 rcases he with rfl|rfl|rfl|rfl|rfl|rfl|rfl
 ·exact U'
 ·exact Va
 ·exact Vb
 ·exact Vc
 ·exact Vd
 ·exact Ve
 ·exact Vf
theorem Jk:BA A0 59 6 [] []=some (.bool true,none):=by
 rw[KQ (fn:=ir6) (tb:=tbl) rfl rfl Yz]
 kernel_rfl
end Go.Proofs.YtocbgffdpfiidaaGreatDoor
