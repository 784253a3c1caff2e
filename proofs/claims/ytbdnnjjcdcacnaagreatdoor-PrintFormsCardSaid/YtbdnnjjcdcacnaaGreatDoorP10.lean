/-
  A part of the proof of PrintForms: AbsLivesF.
-/
import Derived.KernelRfl
import Derived.Test.YtbdnnjjcdcacnaaGreatDoorP09
set_option linter.unusedSimpArgs false
set_option linter.unusedVariables false
set_option linter.defProp false
set_option maxRecDepth 100000
namespace Go.Proofs.YtbdnnjjcdcacnaaGreatDoor
open Go Go.Abs Go.Proofs
def Pq:ah:=[]
def hp1:ah:=[.cS [.str [102,117,110],.str [102],.str [40],.str [97],.str [73,110,116],.str [41],.str [73,110,116],.str [61],.str [97]]]
def Pr:ah:=[.cS [.str [102,117,110],.str [102],.str [40],.str [97],.str [73,110,116],.str [41],.str [73,110,116],.str [61],.str [97]],.cS [.str [102,117,110],.str [103],.str [40],.str [97],.str [73,110,116],.str [41],.str [73,110,116],.str [61],.str [97]]]
def ZF:vj:=⟨30,[.slice [[.str []],[.str [32]],[.str [32]],[.str []],[.str [32]],[.str []],[.str [32]],[.str [32]],[.str [32,32]],[.str [32,35,32,120,10]]] false,.sref 0 0 9 1,.sref 1 0 9 1],Pr,(.slice [[.str []],[.str [32]],[.str [32]],[.str []],[.str [32]],[.str []],[.str [32]],[.str [32]],[.str [32,32]],[.str [32,35,32,120,10]]] false,none)⟩
theorem ZG:FC A0 58 ZF.f ZF.args ZF.heap=some ZF.out:=by kernel_rfl
def en3:vj:=⟨31,[.str [109,111,100,117,108,101,32,109,10,102,117,110,32,102,32,40,97,32,73,110,116,41,32,73,110,116,32,61,32,32,97,32,35,32,120,10]],Pr,(.tuple [.agg [.str [109],.aj,.slice [[.int .i64 2,.str [102],.slice [[.str [97],.str [73,110,116],.aj,.int .i64 0]] false,.str [73,110,116],.aj,.int .i64 2,.int .i64 0,.str [97],.str [],.str [],.aj,.aj,.aj,.slice [[.str []],[.str [32]],[.str [32]],[.str []],[.str [32]],[.str []],[.str [32]],[.str [32]],[.str [32,32]],[.str [32,35,32,120,10]]] false]] false,.slice [[.str []],[.str [32]],[.str [10]]] false,.str []],.int .i64 (-1)],none)⟩
theorem ZH:FC A0 58 en3.f en3.args en3.heap=some en3.out:=by kernel_rfl
def en4:vj:=⟨32,[.slice [[.str []],[.str [32]],[.str [32]],[.str []],[.str [32]],[.str []],[.str [32]],[.str [32]],[.str [32,32]],[.str [32,35,32,120,10]]] false,.slice [[.str []],[.str [32]],[.str [32]],[.str []],[.str [32]],[.str []],[.str [32]],[.str [32]],[.str [32,32]],[.str [32,35,32,120,10]]] false],Pr,(.bool true,none)⟩
theorem ZI:FC A0 58 en4.f en4.args en4.heap=some en4.out:=by kernel_rfl
def en5:vj:=⟨33,[.agg [.str [109],.aj,.slice [[.int .i64 2,.str [102],.slice [[.str [97],.str [73,110,116],.aj,.int .i64 0]] false,.str [73,110,116],.aj,.int .i64 2,.int .i64 0,.str [97],.str [],.str [],.aj,.aj,.aj,.slice [[.str []],[.str [32]],[.str [32]],[.str []],[.str [32]],[.str []],[.str [32]],[.str [32]],[.str [32,32]],[.str [32,35,32,120,10]]] false]] false,.slice [[.str []],[.str [32]],[.str [10]]] false,.str []]],Pr,(.agg [.str [109],.slice [] false,.slice [[.int .i64 2,.str [102],.slice [[.str [97],.str [73,110,116],.slice [] false,.int .i64 0]] false,.str [73,110,116],.slice [] false,.int .i64 2,.int .i64 0,.str [97],.str [],.str [],.slice [] false,.slice [] false,.slice [] false,.slice [] false]] false,.slice [] false,.str []],none)⟩
theorem ZJ:FC A0 58 en5.f en5.args en5.heap=some en5.out:=by kernel_rfl
def en6:vj:=⟨9,[.agg [.int .i64 2,.str [102],.slice [[.str [97],.str [73,110,116],.aj,.int .i64 0]] false,.str [73,110,116],.aj,.int .i64 2,.int .i64 0,.str [97],.str [],.str [],.aj,.aj,.aj,.slice [[.str []],[.str [32]],[.str [32]],[.str []],[.str [32]],[.str []],[.str [32]],[.str [32]],[.str [32,32]],[.str [32,35,32,120,10]]] false]],Pr,(.str [102,117,110,32,102,32,40,97,32,73,110,116,41,32,73,110,116,32,61,32,32,97,32,35,32,120,10],none)⟩
theorem ZK:FC A0 58 en6.f en6.args en6.heap=some en6.out:=by kernel_rfl
def en7:vj:=⟨6,[.agg [.str [109],.aj,.slice [[.int .i64 2,.str [102],.slice [[.str [97],.str [73,110,116],.aj,.int .i64 0]] false,.str [73,110,116],.aj,.int .i64 2,.int .i64 0,.str [97],.str [],.str [],.aj,.aj,.aj,.slice [[.str []],[.str [32]],[.str [32]],[.str []],[.str [32]],[.str []],[.str [32]],[.str [32]],[.str [32,32]],[.str [32,35,32,120,10]]] false]] false,.slice [[.str []],[.str [32]],[.str [10]]] false,.str []]],Pr,(.str [109,111,100,117,108,101,32,109,10,102,117,110,32,102,32,40,97,32,73,110,116,41,32,73,110,116,32,61,32,32,97,32,35,32,120,10],none)⟩
theorem ZL:FC A0 58 en7.f en7.args en7.heap=some en7.out:=by kernel_rfl
def en8:vj:=⟨6,[.agg [.str [109],.slice [] false,.slice [[.int .i64 2,.str [102],.slice [[.str [97],.str [73,110,116],.slice [] false,.int .i64 0]] false,.str [73,110,116],.slice [] false,.int .i64 2,.int .i64 0,.str [97],.str [],.str [],.slice [] false,.slice [] false,.slice [] false,.slice [] false]] false,.slice [] false,.str []]],Pr,(.str [109,111,100,117,108,101,32,109,10,102,117,110,32,102,32,40,97,32,73,110,116,41,32,73,110,116,32,61,32,97,10],none)⟩
theorem ZM:FC A0 58 en8.f en8.args en8.heap=some en8.out:=by kernel_rfl
def tbl:List vj:=[ZF,en3,en4,en5,en6,en7,en8]
theorem acX:∀ e∈tbl,FC A0 58 e.f e.args e.heap=some e.out:=by
 intro e he
 simp only[tbl,aoN,apK,aqH] at he
 rcases he with rfl|rfl|rfl|rfl|rfl|rfl|rfl
 ·exact ZG
 ·exact ZH
 ·exact ZI
 ·exact ZJ
 ·exact ZK
 ·exact ZL
 ·exact ZM
theorem MM:FC A0 59 12 [] []=some (.bool true,none):=by
 rw[Oy (fn:=Uy) (tb:=tbl) rfl rfl acX]
 kernel_rfl
end Go.Proofs.YtbdnnjjcdcacnaaGreatDoor
