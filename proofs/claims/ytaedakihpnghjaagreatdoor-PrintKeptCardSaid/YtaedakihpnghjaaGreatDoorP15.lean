/-
  A part of the proof of PrintKept: AbsLivesK.
-/
import Derived.KernelRfl
import Derived.Test.YtaedakihpnghjaaGreatDoorP14
set_option linter.unusedSimpArgs false
set_option linter.unusedVariables false
section
set_option maxRecDepth 100000
namespace Go.Proofs.YtaedakihpnghjaaGreatDoor
open Go Go.Abs Go.Proofs
def hp0:AHeap:=[]
def hp2:AHeap:=[.obox [.str [102,117,110],.str [102],.str [40],.str [97],.str [73,110,116],.str [41],.str [73,110,116],.str [61],.str [97]],.obox [.str [102,117,110],.str [103],.str [40],.str [97],.str [73,110,116],.str [41],.str [73,110,116],.str [61],.str [97]]]
def en2:Memo:=⟨5,[.slice [[.str []],[.str [32]],[.str [32]],[.str []],[.str [32]],[.str []],[.str [32]],[.str [32]],[.str [32,32]],[.str [32,35,32,120,10]]] false,.sref 0 0 9 1,.sref 1 0 9 1],hp2,(.slice [[.str []],[.str [32]],[.str [32]],[.str []],[.str [32]],[.str []],[.str [32]],[.str [32]],[.str [32,32]],[.str [32,35,32,120,10]]] false,none)⟩
theorem en2_ok:evN A 58 en2.f en2.args en2.heap=some en2.out:=by kernel_rfl
def en3:Memo:=⟨13,[.str [109,111,100,117,108,101,32,109,10,102,117,110,32,102,32,40,97,32,73,110,116,41,32,73,110,116,32,61,32,32,97,32,35,32,120,10]],hp2,(.tuple [.agg [.str [109],.nilsl,.slice [[.int .i64 2,.str [102],.slice [[.str [97],.str [73,110,116],.nilsl,.int .i64 0]] false,.str [73,110,116],.nilsl,.int .i64 2,.int .i64 0,.str [97],.str [],.str [],.nilsl,.nilsl,.nilsl,.slice [[.str []],[.str [32]],[.str [32]],[.str []],[.str [32]],[.str []],[.str [32]],[.str [32]],[.str [32,32]],[.str [32,35,32,120,10]]] false]] false,.slice [[.str []],[.str [32]],[.str [10]]] false,.str []],.int .i64 (-1)],none)⟩
theorem en3_ok:evN A 58 en3.f en3.args en3.heap=some en3.out:=by kernel_rfl
def en4:Memo:=⟨4,[.slice [[.str []],[.str [32]],[.str [32]],[.str []],[.str [32]],[.str []],[.str [32]],[.str [32]],[.str [32,32]],[.str [32,35,32,120,10]]] false,.slice [[.str []],[.str [32]],[.str [32]],[.str []],[.str [32]],[.str []],[.str [32]],[.str [32]],[.str [32,32]],[.str [32,35,32,120,10]]] false],hp2,(.bool true,none)⟩
theorem en4_ok:evN A 58 en4.f en4.args en4.heap=some en4.out:=by kernel_rfl
def en5:Memo:=⟨14,[.agg [.str [109],.nilsl,.slice [[.int .i64 2,.str [102],.slice [[.str [97],.str [73,110,116],.nilsl,.int .i64 0]] false,.str [73,110,116],.nilsl,.int .i64 2,.int .i64 0,.str [97],.str [],.str [],.nilsl,.nilsl,.nilsl,.slice [[.str []],[.str [32]],[.str [32]],[.str []],[.str [32]],[.str []],[.str [32]],[.str [32]],[.str [32,32]],[.str [32,35,32,120,10]]] false]] false,.slice [[.str []],[.str [32]],[.str [10]]] false,.str []]],hp2,(.agg [.str [109],.slice [] false,.slice [[.int .i64 2,.str [102],.slice [[.str [97],.str [73,110,116],.slice [] false,.int .i64 0]] false,.str [73,110,116],.slice [] false,.int .i64 2,.int .i64 0,.str [97],.str [],.str [],.slice [] false,.slice [] false,.slice [] false,.slice [] false]] false,.slice [] false,.str []],none)⟩
theorem en5_ok:evN A 58 en5.f en5.args en5.heap=some en5.out:=by kernel_rfl
def en6:Memo:=⟨15,[.agg [.int .i64 2,.str [102],.slice [[.str [97],.str [73,110,116],.nilsl,.int .i64 0]] false,.str [73,110,116],.nilsl,.int .i64 2,.int .i64 0,.str [97],.str [],.str [],.nilsl,.nilsl,.nilsl,.slice [[.str []],[.str [32]],[.str [32]],[.str []],[.str [32]],[.str []],[.str [32]],[.str [32]],[.str [32,32]],[.str [32,35,32,120,10]]] false]],hp2,(.str [102,117,110,32,102,32,40,97,32,73,110,116,41,32,73,110,116,32,61,32,32,97,32,35,32,120,10],none)⟩
theorem en6_ok:evN A 58 en6.f en6.args en6.heap=some en6.out:=by kernel_rfl
def en7:Memo:=⟨16,[.agg [.str [109],.nilsl,.slice [[.int .i64 2,.str [102],.slice [[.str [97],.str [73,110,116],.nilsl,.int .i64 0]] false,.str [73,110,116],.nilsl,.int .i64 2,.int .i64 0,.str [97],.str [],.str [],.nilsl,.nilsl,.nilsl,.slice [[.str []],[.str [32]],[.str [32]],[.str []],[.str [32]],[.str []],[.str [32]],[.str [32]],[.str [32,32]],[.str [32,35,32,120,10]]] false]] false,.slice [[.str []],[.str [32]],[.str [10]]] false,.str []]],hp2,(.str [109,111,100,117,108,101,32,109,10,102,117,110,32,102,32,40,97,32,73,110,116,41,32,73,110,116,32,61,32,32,97,32,35,32,120,10],none)⟩
theorem en7_ok:evN A 58 en7.f en7.args en7.heap=some en7.out:=by kernel_rfl
def en8:Memo:=⟨16,[.agg [.str [109],.slice [] false,.slice [[.int .i64 2,.str [102],.slice [[.str [97],.str [73,110,116],.slice [] false,.int .i64 0]] false,.str [73,110,116],.slice [] false,.int .i64 2,.int .i64 0,.str [97],.str [],.str [],.slice [] false,.slice [] false,.slice [] false,.slice [] false]] false,.slice [] false,.str []]],hp2,(.str [109,111,100,117,108,101,32,109,10,102,117,110,32,102,32,40,97,32,73,110,116,41,32,73,110,116,32,61,32,97,10],none)⟩
theorem en8_ok:evN A 58 en8.f en8.args en8.heap=some en8.out:=by kernel_rfl
def tbl:List Memo:=[en2,en3,en4,en5,en6,en7,en8]
theorem tbl_ok:∀ e∈tbl,evN A 58 e.f e.args e.heap=some e.out:=by
 intro e he
 simp only[tbl,List.mem_cons,List.not_mem_nil,or_false] at he
 rcases he with rfl|rfl|rfl|rfl|rfl|rfl|rfl
 ·exact en2_ok
 ·exact en3_ok
 ·exact en4_ok
 ·exact en5_ok
 ·exact en6_ok
 ·exact en7_ok
 ·exact en8_ok
theorem lives_run:evN A 59 8 [] []=some (.bool true,none):=by
 rw[evN_memo (fn:=ir8) (tb:=tbl) rfl rfl tbl_ok]
 kernel_rfl
end Go.Proofs.YtaedakihpnghjaaGreatDoor
end
