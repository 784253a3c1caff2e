/-
  A part of the proof of SyntaxTokens: LvT7.
-/
import Derived.Test.YtbdhkgiakaegdaaGreatDoorP09
set_option linter.unusedSimpArgs false
set_option linter.unusedVariables false
set_option linter.defProp false
set_option maxRecDepth 100000
namespace Go.Proofs.YtbdhkgiakaegdaaGreatDoor
open Go Go.Abs Go.Proofs
def qM:dP:=⟨103,[.ref 0 0],[(gl nR 9 false),cI,gK,cI,.ba (gd 0 0 [] []),tY,.ba (gd 0 0 [] [])],(.agg (vY 2 (.slice [(fN 2 0 [97] []),(fN 2 0 [98] [])] false)),some ⟨[(gl nR 12 false),cI,gK,cI,.ba (gd 0 0 [] []),tY,.ba (gd 0 0 [] [])],0⟩)⟩
theorem uE:RN 97 qM:=mo (by kernel_rfl)
def sB:dP:=⟨129,[.ref 0 0],[(gl nR 8 false),cI,gK,cI,.ba (gd 0 0 [] []),tY],(.agg (vY 2 (.slice [(fN 2 0 [97] []),(fN 2 0 [98] [])] false)),some ⟨[(gl nR 13 false),cI,gK,cI,.ba (gd 0 0 [] []),tY],0⟩)⟩
theorem vM:RN 98 sB:=dr (fn:=zi) (tb:=[qM]) rfl rfl (jU uE kW) (by kernel_rfl)
def uD:dP:=⟨118,[.ref 0 0,.int .i64 7],[(gl nR 8 false),cI,gK,cI,.ba (gd 0 0 [] [])],(.agg (vY 2 (.slice [(fN 2 0 [97] []),(fN 2 0 [98] [])] false)),some ⟨[(gl nR 13 false),cI,gK,cI,.ba (gd 0 0 [] [])],0⟩)⟩
theorem xr:RN 99 uD:=dr (fn:=ij) (tb:=[sB]) rfl rfl (jU vM kW) (by kernel_rfl)
def wM:dP:=⟨118,[.ref 0 0,.int .i64 6],[(gl nR 8 false),cI,gK,cI,.ba (gd 0 0 [] [])],(.agg (vY 2 (.slice [(fN 2 0 [97] []),(fN 2 0 [98] [])] false)),some ⟨[(gl nR 13 false),cI,gK,cI,.ba (gd 0 0 [] [])],0⟩)⟩
theorem yP:RN 100 wM:=dr (fn:=ij) (tb:=[uD]) rfl rfl (jU xr kW) (by kernel_rfl)
def yO:dP:=⟨118,[.ref 0 0,.int .i64 5],[(gl nR 8 false),cI,gK,cI,.ba (gd 0 0 [] [])],(.agg [.int .i64 4,.int .i64 0,.str [],.str [],.str [],.slice [] false,.slice [(vY 2 (.slice [(fN 2 0 [97] []),(fN 2 0 [98] [])] false)),(fN 0 2 [] [])] false,.slice [] false],some ⟨[(gl nR 15 false),cI,gK,cI,.ba (gd 0 0 [] [])],0⟩)⟩
theorem AH:RN 101 yO:=dr (fn:=ij) (tb:=[wM]) rfl rfl (jU yP kW) (by kernel_rfl)
def Bm:dP:=⟨118,[.ref 0 0,.int .i64 4],[(gl nR 8 false),cI,gK,cI,.ba (gd 0 0 [] [])],(.agg [.int .i64 4,.int .i64 0,.str [],.str [],.str [],.slice [] false,.slice [(vY 2 (.slice [(fN 2 0 [97] []),(fN 2 0 [98] [])] false)),(fN 0 2 [] [])] false,.slice [] false],some ⟨[(gl nR 15 false),cI,gK,cI,.ba (gd 0 0 [] [])],0⟩)⟩
theorem CQ:RN 102 Bm:=dr (fn:=ij) (tb:=[yO]) rfl rfl (jU AH kW) (by kernel_rfl)
def F8:dP:=⟨118,[.ref 0 0,.int .i64 3],[(gl nR 8 false),cI,gK,cI,.ba (gd 0 0 [] [])],(.agg [.int .i64 4,.int .i64 0,.str [],.str [],.str [],.slice [] false,.slice [(vY 2 (.slice [(fN 2 0 [97] []),(fN 2 0 [98] [])] false)),(fN 0 2 [] [])] false,.slice [] false],some ⟨[(gl nR 15 false),cI,gK,cI,.ba (gd 0 0 [] [])],0⟩)⟩
theorem F9:RN 103 F8:=dr (fn:=ij) (tb:=[Bm]) rfl rfl (jU CQ kW) (by kernel_rfl)
def K5:dP:=⟨118,[.ref 0 0,.int .i64 2],[(gl nR 8 false),cI,gK,cI,.ba (gd 0 0 [] [])],(.agg [.int .i64 4,.int .i64 0,.str [],.str [],.str [],.slice [] false,.slice [(vY 2 (.slice [(fN 2 0 [97] []),(fN 2 0 [98] [])] false)),(fN 0 2 [] [])] false,.slice [] false],some ⟨[(gl nR 15 false),cI,gK,cI,.ba (gd 0 0 [] [])],0⟩)⟩
theorem I9:RN 104 K5:=dr (fn:=ij) (tb:=[F8]) rfl rfl (jU F9 kW) (by kernel_rfl)
def O5:dP:=⟨118,[.ref 0 0,.int .i64 1],[(gl nR 8 false),cI,gK,cI,.ba (gd 0 0 [] [])],(.agg [.int .i64 4,.int .i64 0,.str [],.str [],.str [],.slice [] false,.slice [(vY 2 (.slice [(fN 2 0 [97] []),(fN 2 0 [98] [])] false)),(fN 0 2 [] [])] false,.slice [] false],some ⟨[(gl nR 15 false),cI,gK,cI,.ba (gd 0 0 [] [])],0⟩)⟩
theorem Mw:RN 105 O5:=dr (fn:=ij) (tb:=[K5]) rfl rfl (jU I9 kW) (by kernel_rfl)
def YE:dP:=⟨103,[.ref 0 0],[(gl nR 8 false),cI,gK],(.agg [.int .i64 4,.int .i64 0,.str [],.str [],.str [],.slice [] false,.slice [(vY 2 (.slice [(fN 2 0 [97] []),(fN 2 0 [98] [])] false)),(fN 0 2 [] [])] false,.slice [] false],some ⟨[(gl nR 15 false),cI,gK],0⟩)⟩
theorem O4:RN 106 YE:=dr (fn:=w7) (tb:=[O5]) rfl rfl (jU Mw kW) (by kernel_rfl)
def aed:dP:=⟨73,[.ref 0 0],[(gl nR 2 false)],(.agg [.int .i64 2,.str [102],.slice [] false,.str [73,110,116],.slice [] false,.int .i64 4,.int .i64 0,.str [],.str [],.str [],.slice [] false,.slice [(vY 2 (.slice [(fN 2 0 [97] []),(fN 2 0 [98] [])] false)),(fN 0 2 [] [])] false,.slice [] false,.slice [] false],some ⟨[(gl nR 15 false)],0⟩)⟩
theorem TI:RN 107 aed:=dr (fn:=GY) (tb:=[YE]) rfl rfl (jU O4 kW) (by kernel_rfl)
def en7:dP:=⟨38,[.str [109,111,100,117,108,101,32,109,32,102,117,110,32,102,32,40,41,32,73,110,116,32,61,32,40,97,32,42,32,98,41,32,43,32,50]],[],(.tuple [.agg [.str [],.af,.af,.af,.str []],.int .i64 24],none)⟩
theorem Z2:RN 108 en7:=dr (fn:=GX) (tb:=[aed]) rfl rfl (jU TI kW) (by kernel_rfl)
end Go.Proofs.YtbdhkgiakaegdaaGreatDoor
