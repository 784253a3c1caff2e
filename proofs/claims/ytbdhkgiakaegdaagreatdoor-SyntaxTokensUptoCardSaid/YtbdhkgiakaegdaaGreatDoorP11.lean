/-
  A part of the proof of SyntaxTokens: LvT2.
-/
import Derived.Test.YtbdhkgiakaegdaaGreatDoorP09
set_option linter.unusedSimpArgs false
set_option linter.unusedVariables false
set_option linter.defProp false
set_option maxRecDepth 100000
namespace Go.Proofs.YtbdhkgiakaegdaaGreatDoor
open Go Go.Abs Go.Proofs
def qb:dP:=⟨103,[.ref 0 0],[(gl nQ 9 false),cI,gK,cI,.ba (gd 0 0 [] []),tY,.ba (gd 0 0 [] [])],(.agg (vY 0 (.slice [(fN 2 0 [97] []),(fN 2 0 [98] [])] false)),some ⟨[(gl nQ 12 false),cI,gK,cI,.ba (gd 0 0 [] []),tY,.ba (gd 0 0 [] [])],0⟩)⟩
theorem sX:RN 96 qb:=mo (by kernel_rfl)
def qG:dP:=⟨129,[.ref 0 0],[(gl nQ 8 false),cI,gK,cI,.ba (gd 0 0 [] []),tY],(.agg (vY 0 (.slice [(fN 2 0 [97] []),(fN 2 0 [98] [])] false)),some ⟨[(gl nQ 13 false),cI,gK,cI,.ba (gd 0 0 [] []),tY],0⟩)⟩
theorem uy:RN 97 qG:=dr (fn:=zi) (tb:=[qb]) rfl rfl (jU sX kW) (by kernel_rfl)
def sx:dP:=⟨118,[.ref 0 0,.int .i64 7],[(gl nQ 8 false),cI,gK,cI,.ba (gd 0 0 [] [])],(.agg (vY 0 (.slice [(fN 2 0 [97] []),(fN 2 0 [98] [])] false)),some ⟨[(gl nQ 13 false),cI,gK,cI,.ba (gd 0 0 [] [])],0⟩)⟩
theorem vJ:RN 98 sx:=dr (fn:=ij) (tb:=[qG]) rfl rfl (jU uy kW) (by kernel_rfl)
def ux:dP:=⟨118,[.ref 0 0,.int .i64 6],[(gl nQ 8 false),cI,gK,cI,.ba (gd 0 0 [] [])],(.agg [.int .i64 4,.int .i64 2,.str [],.str [],.str [],.slice [] false,.slice [(vY 0 (.slice [(fN 2 0 [97] []),(fN 2 0 [98] [])] false)),(fN 0 2 [] [])] false,.slice [] false],some ⟨[(gl nQ 15 false),cI,gK,cI,.ba (gd 0 0 [] [])],0⟩)⟩
theorem xn:RN 99 ux:=dr (fn:=ij) (tb:=[sx]) rfl rfl (jU vJ kW) (by kernel_rfl)
def wJ:dP:=⟨118,[.ref 0 0,.int .i64 5],[(gl nQ 8 false),cI,gK,cI,.ba (gd 0 0 [] [])],(.agg [.int .i64 4,.int .i64 2,.str [],.str [],.str [],.slice [] false,.slice [(vY 0 (.slice [(fN 2 0 [97] []),(fN 2 0 [98] [])] false)),(fN 0 2 [] [])] false,.slice [] false],some ⟨[(gl nQ 15 false),cI,gK,cI,.ba (gd 0 0 [] [])],0⟩)⟩
theorem yJ:RN 100 wJ:=dr (fn:=ij) (tb:=[ux]) rfl rfl (jU xn kW) (by kernel_rfl)
def yI:dP:=⟨118,[.ref 0 0,.int .i64 4],[(gl nQ 8 false),cI,gK,cI,.ba (gd 0 0 [] [])],(.agg [.int .i64 4,.int .i64 2,.str [],.str [],.str [],.slice [] false,.slice [(vY 0 (.slice [(fN 2 0 [97] []),(fN 2 0 [98] [])] false)),(fN 0 2 [] [])] false,.slice [] false],some ⟨[(gl nQ 15 false),cI,gK,cI,.ba (gd 0 0 [] [])],0⟩)⟩
theorem AD:RN 101 yI:=dr (fn:=ij) (tb:=[wJ]) rfl rfl (jU yJ kW) (by kernel_rfl)
def Bj:dP:=⟨118,[.ref 0 0,.int .i64 3],[(gl nQ 8 false),cI,gK,cI,.ba (gd 0 0 [] [])],(.agg [.int .i64 4,.int .i64 2,.str [],.str [],.str [],.slice [] false,.slice [(vY 0 (.slice [(fN 2 0 [97] []),(fN 2 0 [98] [])] false)),(fN 0 2 [] [])] false,.slice [] false],some ⟨[(gl nQ 15 false),cI,gK,cI,.ba (gd 0 0 [] [])],0⟩)⟩
theorem CN:RN 102 Bj:=dr (fn:=ij) (tb:=[yI]) rfl rfl (jU AD kW) (by kernel_rfl)
def FY:dP:=⟨118,[.ref 0 0,.int .i64 2],[(gl nQ 8 false),cI,gK,cI,.ba (gd 0 0 [] [])],(.agg [.int .i64 4,.int .i64 2,.str [],.str [],.str [],.slice [] false,.slice [(vY 0 (.slice [(fN 2 0 [97] []),(fN 2 0 [98] [])] false)),(fN 0 2 [] [])] false,.slice [] false],some ⟨[(gl nQ 15 false),cI,gK,cI,.ba (gd 0 0 [] [])],0⟩)⟩
theorem FZ:RN 103 FY:=dr (fn:=ij) (tb:=[Bj]) rfl rfl (jU CN kW) (by kernel_rfl)
def KY:dP:=⟨118,[.ref 0 0,.int .i64 1],[(gl nQ 8 false),cI,gK,cI,.ba (gd 0 0 [] [])],(.agg [.int .i64 4,.int .i64 2,.str [],.str [],.str [],.slice [] false,.slice [(vY 0 (.slice [(fN 2 0 [97] []),(fN 2 0 [98] [])] false)),(fN 0 2 [] [])] false,.slice [] false],some ⟨[(gl nQ 15 false),cI,gK,cI,.ba (gd 0 0 [] [])],0⟩)⟩
theorem I3:RN 104 KY:=dr (fn:=ij) (tb:=[FY]) rfl rfl (jU FZ kW) (by kernel_rfl)
def OX:dP:=⟨103,[.ref 0 0],[(gl nQ 8 false),cI,gK],(.agg [.int .i64 4,.int .i64 2,.str [],.str [],.str [],.slice [] false,.slice [(vY 0 (.slice [(fN 2 0 [97] []),(fN 2 0 [98] [])] false)),(fN 0 2 [] [])] false,.slice [] false],some ⟨[(gl nQ 15 false),cI,gK],0⟩)⟩
theorem Ms:RN 105 OX:=dr (fn:=w7) (tb:=[KY]) rfl rfl (jU I3 kW) (by kernel_rfl)
def YA:dP:=⟨73,[.ref 0 0],[(gl nQ 2 false)],(.agg [.int .i64 2,.str [102],.slice [] false,.str [73,110,116],.slice [] false,.int .i64 4,.int .i64 2,.str [],.str [],.str [],.slice [] false,.slice [(vY 0 (.slice [(fN 2 0 [97] []),(fN 2 0 [98] [])] false)),(fN 0 2 [] [])] false,.slice [] false,.slice [] false],some ⟨[(gl nQ 15 false)],0⟩)⟩
theorem OW:RN 106 YA:=dr (fn:=GY) (tb:=[OX]) rfl rfl (jU Ms kW) (by kernel_rfl)
def ad9:dP:=⟨38,[.str [109,111,100,117,108,101,32,109,32,102,117,110,32,102,32,40,41,32,73,110,116,32,61,32,40,97,32,43,32,98,41,32,42,32,50]],[],(.tuple [.agg [.str [109],.af,.slice [[.int .i64 2,.str [102],.slice [] false,.str [73,110,116],.slice [] false,.int .i64 4,.int .i64 2,.str [],.str [],.str [],.slice [] false,.slice [(vY 0 (.slice [(fN 2 0 [97] []),(fN 2 0 [98] [])] false)),(fN 0 2 [] [])] false,.slice [] false,.slice [[.str []],[.str [32]],[.str [32]],[.str []],[.str [32]],[.str [32]],[.str [32]],[.str []],[.str [32]],[.str [32]],[.str []],[.str [32]],[.str [32]],[.str []]] false]] false,.slice [[.str []],[.str [32]],[.str [32]]] false,.str []],.int .i64 (-1)],none)⟩
theorem TE:RN 107 ad9:=dr (fn:=GX) (tb:=[YA]) rfl rfl (jU OW kW) (by kernel_rfl)
def en2:dP:=⟨37,[.str [40,97,32,43,32,98,41,32,42,32,50]],[],(.tuple [.agg [.int .i64 4,.int .i64 2,.str [],.str [],.str [],.af,.slice [[.int .i64 4,.int .i64 0,.str [],.str [],.str [],.af,.slice [[.int .i64 2,.int .i64 0,.str [97],.str [],.str [],.af,.af,.slice [] false],[.int .i64 2,.int .i64 0,.str [98],.str [],.str [],.af,.af,.slice [] false]] false,.slice [] false],[.int .i64 0,.int .i64 2,.str [],.str [],.str [],.af,.af,.slice [] false]] false,.slice [] false],.bool true],none)⟩
theorem ZX:RN 108 en2:=dr (fn:=JU) (tb:=[ad9]) rfl rfl (jU TE kW) (by kernel_rfl)
end Go.Proofs.YtbdhkgiakaegdaaGreatDoor
