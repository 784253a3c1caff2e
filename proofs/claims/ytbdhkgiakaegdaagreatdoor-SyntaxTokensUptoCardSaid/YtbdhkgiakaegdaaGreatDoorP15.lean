/-
  A part of the proof of SyntaxTokens: LvT6.
-/
import Derived.Test.YtbdhkgiakaegdaaGreatDoorP09
set_option linter.unusedSimpArgs false
set_option linter.unusedVariables false
set_option linter.defProp false
set_option maxRecDepth 100000
namespace Go.Proofs.YtbdhkgiakaegdaaGreatDoor
open Go Go.Abs Go.Proofs
def K2:dP:=⟨103,[.ref 0 0],[(gl uY 9 false),cI,gK,cI,.ba (gd 5 0 [] [])],(.agg (fN 2 0 [97] []),some ⟨[(gl uY 10 false),cI,gK,cI,.ba (gd 5 0 [] [])],0⟩)⟩
theorem I6:RN 104 K2:=mo (by kernel_rfl)
def F4:dP:=⟨103,[.ref 0 0],[(gl uY 11 false),cI,gK,cI,.ba [.int .i64 5,.int .i64 0,.str [],.str [],.str [],.af,.sref 5 0 1 8,.af],.box 4294967295 (fN 2 0 [97] [])],(.agg (fN 2 0 [98] []),some ⟨[(gl uY 12 false),cI,gK,cI,.ba [.int .i64 5,.int .i64 0,.str [],.str [],.str [],.af,.sref 5 0 1 8,.af],.box 4294967295 (fN 2 0 [97] [])],0⟩)⟩
theorem F5:RN 103 F4:=mo (by kernel_rfl)
def K3:dP:=⟨117,[.str [116,104,101,110],.ref 3 0,.ref 4 0],[(gl uY 10 false),cI,gK,cI,.ba [.int .i64 5,.int .i64 0,.str [],.str [],.str [],.af,.sref 5 0 1 8,.af],.box 4294967295 (fN 2 0 [97] [])],(.tuple [],some ⟨[(gl uY 12 false),cI,gK,cI,.ba [.int .i64 5,.int .i64 0,.str [],.str [],.str [],.af,.sref 6 0 2 8,.af],.dead,.box 4294967295 [.int .i64 2,.int .i64 0,.str [97],.str [],.str [],.slice [] false,.slice [] false,.slice [] false,.int .i64 2,.int .i64 0,.str [98],.str [],.str [],.slice [] false,.slice [] false,.slice [] false]],0⟩)⟩
theorem I7:RN 104 K3:=dr (fn:=GS) (tb:=[F4]) rfl rfl (jU F5 kW) (by kernel_rfl)
def F6:dP:=⟨103,[.ref 0 0],[(gl uY 13 false),cI,gK,cI,.ba [.int .i64 5,.int .i64 0,.str [],.str [],.str [],.af,.sref 6 0 2 8,.af],.dead,.box 4294967295 [.int .i64 2,.int .i64 0,.str [97],.str [],.str [],.slice [] false,.slice [] false,.slice [] false,.int .i64 2,.int .i64 0,.str [98],.str [],.str [],.slice [] false,.slice [] false,.slice [] false]],(.agg (vY 8 (.slice [(fN 2 0 [99] []),(fN 2 0 [97] [])] false)),some ⟨[(gl uY 16 false),cI,gK,cI,.ba [.int .i64 5,.int .i64 0,.str [],.str [],.str [],.af,.sref 6 0 2 8,.af],.dead,.box 4294967295 [.int .i64 2,.int .i64 0,.str [97],.str [],.str [],.slice [] false,.slice [] false,.slice [] false,.int .i64 2,.int .i64 0,.str [98],.str [],.str [],.slice [] false,.slice [] false,.slice [] false]],0⟩)⟩
theorem F7:RN 103 F6:=mo (by kernel_rfl)
def K4:dP:=⟨117,[.str [101,108,115,101],.ref 3 0,.ref 4 0],[(gl uY 12 false),cI,gK,cI,.ba [.int .i64 5,.int .i64 0,.str [],.str [],.str [],.af,.sref 6 0 2 8,.af],.dead,.box 4294967295 [.int .i64 2,.int .i64 0,.str [97],.str [],.str [],.slice [] false,.slice [] false,.slice [] false,.int .i64 2,.int .i64 0,.str [98],.str [],.str [],.slice [] false,.slice [] false,.slice [] false]],(.tuple [],some ⟨[(gl uY 16 false),cI,gK,cI,.ba [.int .i64 5,.int .i64 0,.str [],.str [],.str [],.af,.sref 7 0 3 8,.af],.dead,.dead,.box 4294967295 [.int .i64 2,.int .i64 0,.str [97],.str [],.str [],.slice [] false,.slice [] false,.slice [] false,.int .i64 2,.int .i64 0,.str [98],.str [],.str [],.slice [] false,.slice [] false,.slice [] false,.int .i64 4,.int .i64 8,.str [],.str [],.str [],.slice [] false,.slice [(fN 2 0 [99] []),(fN 2 0 [97] [])] false,.slice [] false]],0⟩)⟩
theorem I8:RN 104 K4:=dr (fn:=GS) (tb:=[F6]) rfl rfl (jU F7 kW) (by kernel_rfl)
def O3:dP:=⟨103,[.ref 0 0],[(gl uY 8 false),cI,gK],(.agg [.int .i64 5,.int .i64 0,.str [],.str [],.str [],.slice [] false,.slice [(fN 2 0 [97] []),(fN 2 0 [98] []),(vY 8 (.slice [(fN 2 0 [99] []),(fN 2 0 [97] [])] false))] false,.slice [] false],some ⟨[(gl uY 16 false),cI,gK],0⟩)⟩
theorem Mv:RN 105 O3:=dr (fn:=w7) (tb:=[K2,K3,K4]) rfl rfl (jU I6 (jU I7 (jU I8 kW))) (by kernel_rfl)
def YD:dP:=⟨73,[.ref 0 0],[(gl uY 2 false)],(.agg [.int .i64 2,.str [102],.slice [] false,.str [73,110,116],.slice [] false,.int .i64 5,.int .i64 0,.str [],.str [],.str [],.slice [] false,.slice [(fN 2 0 [97] []),(fN 2 0 [98] []),(vY 8 (.slice [(fN 2 0 [99] []),(fN 2 0 [97] [])] false))] false,.slice [] false,.slice [] false],some ⟨[(gl uY 16 false)],0⟩)⟩
theorem O2:RN 106 YD:=dr (fn:=GY) (tb:=[O3]) rfl rfl (jU Mv kW) (by kernel_rfl)
def aec:dP:=⟨38,[.str [109,111,100,117,108,101,32,109,32,102,117,110,32,102,32,40,41,32,73,110,116,32,61,32,105,102,32,97,32,116,104,101,110,32,98,32,101,108,115,101,32,99,32,111,114,32,97]],[],(.tuple [.agg [.str [109],.af,.slice [[.int .i64 2,.str [102],.slice [] false,.str [73,110,116],.slice [] false,.int .i64 5,.int .i64 0,.str [],.str [],.str [],.slice [] false,.slice [(fN 2 0 [97] []),(fN 2 0 [98] []),(vY 8 (.slice [(fN 2 0 [99] []),(fN 2 0 [97] [])] false))] false,.slice [] false,.slice [[.str []],[.str [32]],[.str [32]],[.str []],[.str [32]],[.str [32]],[.str [32]],[.str [32]],[.str [32]],[.str [32]],[.str [32]],[.str [32]],[.str [32]],[.str [32]],[.str []]] false]] false,.slice [[.str []],[.str [32]],[.str [32]]] false,.str []],.int .i64 (-1)],none)⟩
theorem TH:RN 107 aec:=dr (fn:=GX) (tb:=[YD]) rfl rfl (jU O2 kW) (by kernel_rfl)
def en6:dP:=⟨37,[.str [105,102,32,97,32,116,104,101,110,32,98,32,101,108,115,101,32,99,32,111,114,32,97]],[],(.tuple [.agg [.int .i64 5,.int .i64 0,.str [],.str [],.str [],.af,.slice [[.int .i64 2,.int .i64 0,.str [97],.str [],.str [],.af,.af,.slice [] false],[.int .i64 2,.int .i64 0,.str [98],.str [],.str [],.af,.af,.slice [] false],[.int .i64 4,.int .i64 8,.str [],.str [],.str [],.af,.slice [[.int .i64 2,.int .i64 0,.str [99],.str [],.str [],.af,.af,.slice [] false],[.int .i64 2,.int .i64 0,.str [97],.str [],.str [],.af,.af,.slice [] false]] false,.slice [] false]] false,.slice [] false],.bool true],none)⟩
theorem Z1:RN 108 en6:=dr (fn:=JU) (tb:=[aec]) rfl rfl (jU TH kW) (by kernel_rfl)
end Go.Proofs.YtbdhkgiakaegdaaGreatDoor
