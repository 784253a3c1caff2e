/-
  A part of the proof of SyntaxTokens: LvT5.
-/
import Derived.Test.YtbdhkgiakaegdaaGreatDoorP09
set_option linter.unusedSimpArgs false
set_option linter.unusedVariables false
set_option linter.defProp false
set_option maxRecDepth 100000
namespace Go.Proofs.YtbdhkgiakaegdaaGreatDoor
open Go Go.Abs Go.Proofs
def ni:dP:=⟨103,[.ref 0 0],[(gl ki 12 false),cI,gK,cI,.ba (gd 0 0 [] []),tY,.ba (gd 0 0 [] []),cI,.ba (gd 3 0 [107,46,102] []),.box 1 [.func (Fn.func 136) [.agg [.ref 0 0,.ref 8 0]] []]],(.agg (fN 2 0 [97] []),some ⟨[(gl ki 13 false),cI,gK,cI,.ba (gd 0 0 [] []),tY,.ba (gd 0 0 [] []),cI,.ba (gd 3 0 [107,46,102] []),.box 1 [.func (Fn.func 136) [.agg [.ref 0 0,.ref 8 0]] []]],0⟩)⟩
theorem qo:RN 93 ni:=mo (by kernel_rfl)
def nZ:dP:=⟨136,[.agg [.ref 0 0,.ref 8 0]],[(gl ki 12 false),cI,gK,cI,.ba (gd 0 0 [] []),tY,.ba (gd 0 0 [] []),cI,.ba (gd 3 0 [107,46,102] []),.box 1 [.func (Fn.func 136) [.agg [.ref 0 0,.ref 8 0]] []]],(.tuple [],some ⟨[(gl ki 13 false),cI,gK,cI,.ba (gd 0 0 [] []),tY,.ba (gd 0 0 [] []),cI,.ba [.int .i64 3,.int .i64 0,.str [107,46,102],.str [],.str [],.af,.sref 10 0 1 8,.af],.box 1 [.func (Fn.func 136) [.agg [.ref 0 0,.ref 8 0]] []],.box 4294967295 (fN 2 0 [97] [])],0⟩)⟩
theorem qK:RN 94 nZ:=dr (fn:=BI) (tb:=[ni]) rfl rfl (jU qo kW) (by kernel_rfl)
def nj:dP:=⟨103,[.ref 0 0],[(gl ki 14 false),cI,gK,cI,.ba (gd 0 0 [] []),tY,.ba (gd 0 0 [] []),cI,.ba [.int .i64 3,.int .i64 0,.str [107,46,102],.str [],.str [],.af,.sref 10 0 1 8,.af],.box 1 [.func (Fn.func 136) [.agg [.ref 0 0,.ref 8 0]] []],.box 4294967295 (fN 2 0 [97] [])],(.agg (fN 0 (-3) [] []),some ⟨[(gl ki 16 false),cI,gK,cI,.ba (gd 0 0 [] []),tY,.ba (gd 0 0 [] []),cI,.ba [.int .i64 3,.int .i64 0,.str [107,46,102],.str [],.str [],.af,.sref 10 0 1 8,.af],.box 1 [.func (Fn.func 136) [.agg [.ref 0 0,.ref 8 0]] []],.box 4294967295 (fN 2 0 [97] [])],0⟩)⟩
theorem qp:RN 93 nj:=mo (by kernel_rfl)
def n8:dP:=⟨136,[.agg [.ref 0 0,.ref 8 0]],[(gl ki 14 false),cI,gK,cI,.ba (gd 0 0 [] []),tY,.ba (gd 0 0 [] []),cI,.ba [.int .i64 3,.int .i64 0,.str [107,46,102],.str [],.str [],.af,.sref 10 0 1 8,.af],.box 1 [.func (Fn.func 136) [.agg [.ref 0 0,.ref 8 0]] []],.box 4294967295 (fN 2 0 [97] [])],(.tuple [],some ⟨[(gl ki 16 false),cI,gK,cI,.ba (gd 0 0 [] []),tY,.ba (gd 0 0 [] []),cI,.ba [.int .i64 3,.int .i64 0,.str [107,46,102],.str [],.str [],.af,.sref 11 0 2 8,.af],.box 1 [.func (Fn.func 136) [.agg [.ref 0 0,.ref 8 0]] []],.dead,.box 4294967295 [.int .i64 2,.int .i64 0,.str [97],.str [],.str [],.slice [] false,.slice [] false,.slice [] false,.int .i64 0,.int .i64 (-3),.str [],.str [],.str [],.slice [] false,.slice [] false,.slice [] false]],0⟩)⟩
theorem qL:RN 94 n8:=dr (fn:=BI) (tb:=[nj]) rfl rfl (jU qp kW) (by kernel_rfl)
def oW:dP:=⟨99,[.ref 0 0,.str [41],.func (Fn.func 136) [.agg [.ref 0 0,.ref 8 0]] []],[(gl ki 12 false),cI,gK,cI,.ba (gd 0 0 [] []),tY,.ba (gd 0 0 [] []),cI,.ba (gd 3 0 [107,46,102] []),.box 1 [.func (Fn.func 136) [.agg [.ref 0 0,.ref 8 0]] []]],(.tuple [],some ⟨[(gl ki 17 false),cI,gK,cI,.ba (gd 0 0 [] []),tY,.ba (gd 0 0 [] []),cI,.ba [.int .i64 3,.int .i64 0,.str [107,46,102],.str [],.str [],.af,.sref 11 0 2 8,.af],.box 1 [.func (Fn.func 136) [.agg [.ref 0 0,.ref 8 0]] []],.dead,.box 4294967295 [.int .i64 2,.int .i64 0,.str [97],.str [],.str [],.slice [] false,.slice [] false,.slice [] false,.int .i64 0,.int .i64 (-3),.str [],.str [],.str [],.slice [] false,.slice [] false,.slice [] false]],0⟩)⟩
theorem se:RN 95 oW:=dr (fn:=V0) (tb:=[nZ,n8]) rfl rfl (jU qK (jU qL kW)) (by kernel_rfl)
def qd:dP:=⟨138,[.ref 0 0],[(gl ki 8 false),cI,gK,cI,.ba (gd 0 0 [] []),tY,.ba (gd 0 0 [] [])],(.agg [.int .i64 3,.int .i64 0,.str [107,46,102],.str [],.str [],.slice [] false,.slice [(fN 2 0 [97] []),(fN 0 (-3) [] [])] false,.slice [] false],some ⟨[(gl ki 17 false),cI,gK,cI,.ba (gd 0 0 [] []),tY,.ba (gd 0 0 [] [])],0⟩)⟩
theorem sZ:RN 96 qd:=dr (fn:=GU) (tb:=[oW]) rfl rfl (jU se kW) (by kernel_rfl)
def qJ:dP:=⟨129,[.ref 0 0],[(gl ki 8 false),cI,gK,cI,.ba (gd 0 0 [] []),tY],(.agg [.int .i64 3,.int .i64 0,.str [107,46,102],.str [],.str [],.slice [] false,.slice [(fN 2 0 [97] []),(fN 0 (-3) [] [])] false,.slice [] false],some ⟨[(gl ki 17 false),cI,gK,cI,.ba (gd 0 0 [] []),tY],0⟩)⟩
theorem uC:RN 97 qJ:=dr (fn:=zi) (tb:=[qd]) rfl rfl (jU sZ kW) (by kernel_rfl)
def sA:dP:=⟨118,[.ref 0 0,.int .i64 7],[(gl ki 8 false),cI,gK,cI,.ba (gd 0 0 [] [])],(.agg [.int .i64 3,.int .i64 0,.str [107,46,102],.str [],.str [],.slice [] false,.slice [(fN 2 0 [97] []),(fN 0 (-3) [] [])] false,.slice [] false],some ⟨[(gl ki 17 false),cI,gK,cI,.ba (gd 0 0 [] [])],0⟩)⟩
theorem vL:RN 98 sA:=dr (fn:=ij) (tb:=[qJ]) rfl rfl (jU uC kW) (by kernel_rfl)
def uB:dP:=⟨118,[.ref 0 0,.int .i64 6],[(gl ki 8 false),cI,gK,cI,.ba (gd 0 0 [] [])],(.agg [.int .i64 3,.int .i64 0,.str [107,46,102],.str [],.str [],.slice [] false,.slice [(fN 2 0 [97] []),(fN 0 (-3) [] [])] false,.slice [] false],some ⟨[(gl ki 17 false),cI,gK,cI,.ba (gd 0 0 [] [])],0⟩)⟩
theorem xq:RN 99 uB:=dr (fn:=ij) (tb:=[sA]) rfl rfl (jU vL kW) (by kernel_rfl)
def wL:dP:=⟨118,[.ref 0 0,.int .i64 5],[(gl ki 8 false),cI,gK,cI,.ba (gd 0 0 [] [])],(.agg [.int .i64 3,.int .i64 0,.str [107,46,102],.str [],.str [],.slice [] false,.slice [(fN 2 0 [97] []),(fN 0 (-3) [] [])] false,.slice [] false],some ⟨[(gl ki 17 false),cI,gK,cI,.ba (gd 0 0 [] [])],0⟩)⟩
theorem yN:RN 100 wL:=dr (fn:=ij) (tb:=[uB]) rfl rfl (jU xq kW) (by kernel_rfl)
def yM:dP:=⟨118,[.ref 0 0,.int .i64 4],[(gl ki 8 false),cI,gK,cI,.ba (gd 0 0 [] [])],(.agg [.int .i64 3,.int .i64 0,.str [107,46,102],.str [],.str [],.slice [] false,.slice [(fN 2 0 [97] []),(fN 0 (-3) [] [])] false,.slice [] false],some ⟨[(gl ki 17 false),cI,gK,cI,.ba (gd 0 0 [] [])],0⟩)⟩
theorem AG:RN 101 yM:=dr (fn:=ij) (tb:=[wL]) rfl rfl (jU yN kW) (by kernel_rfl)
def Bl:dP:=⟨118,[.ref 0 0,.int .i64 3],[(gl ki 8 false),cI,gK,cI,.ba (gd 0 0 [] [])],(.agg [.int .i64 3,.int .i64 0,.str [107,46,102],.str [],.str [],.slice [] false,.slice [(fN 2 0 [97] []),(fN 0 (-3) [] [])] false,.slice [] false],some ⟨[(gl ki 17 false),cI,gK,cI,.ba (gd 0 0 [] [])],0⟩)⟩
theorem CP:RN 102 Bl:=dr (fn:=ij) (tb:=[yM]) rfl rfl (jU AG kW) (by kernel_rfl)
def F2:dP:=⟨118,[.ref 0 0,.int .i64 2],[(gl ki 8 false),cI,gK,cI,.ba (gd 0 0 [] [])],(.agg [.int .i64 3,.int .i64 0,.str [107,46,102],.str [],.str [],.slice [] false,.slice [(fN 2 0 [97] []),(fN 0 (-3) [] [])] false,.slice [] false],some ⟨[(gl ki 17 false),cI,gK,cI,.ba (gd 0 0 [] [])],0⟩)⟩
theorem F3:RN 103 F2:=dr (fn:=ij) (tb:=[Bl]) rfl rfl (jU CP kW) (by kernel_rfl)
def K0:dP:=⟨118,[.ref 0 0,.int .i64 1],[(gl ki 8 false),cI,gK,cI,.ba (gd 0 0 [] [])],(.agg [.int .i64 3,.int .i64 0,.str [107,46,102],.str [],.str [],.slice [] false,.slice [(fN 2 0 [97] []),(fN 0 (-3) [] [])] false,.slice [] false],some ⟨[(gl ki 17 false),cI,gK,cI,.ba (gd 0 0 [] [])],0⟩)⟩
theorem I5:RN 104 K0:=dr (fn:=ij) (tb:=[F2]) rfl rfl (jU F3 kW) (by kernel_rfl)
def O1:dP:=⟨103,[.ref 0 0],[(gl ki 8 false),cI,gK],(.agg [.int .i64 3,.int .i64 0,.str [107,46,102],.str [],.str [],.slice [] false,.slice [(fN 2 0 [97] []),(fN 0 (-3) [] [])] false,.slice [] false],some ⟨[(gl ki 17 false),cI,gK],0⟩)⟩
theorem Mu:RN 105 O1:=dr (fn:=w7) (tb:=[K0]) rfl rfl (jU I5 kW) (by kernel_rfl)
def YC:dP:=⟨73,[.ref 0 0],[(gl ki 2 false)],(.agg [.int .i64 2,.str [102],.slice [] false,.str [73,110,116],.slice [] false,.int .i64 3,.int .i64 0,.str [107,46,102],.str [],.str [],.slice [] false,.slice [(fN 2 0 [97] []),(fN 0 (-3) [] [])] false,.slice [] false,.slice [] false],some ⟨[(gl ki 17 false)],0⟩)⟩
theorem O0:RN 106 YC:=dr (fn:=GY) (tb:=[O1]) rfl rfl (jU Mu kW) (by kernel_rfl)
def aeb:dP:=⟨38,[.str [109,111,100,117,108,101,32,109,32,102,117,110,32,102,32,40,41,32,73,110,116,32,61,32,107,46,102,40,97,44,32,45,51,41]],[],(.tuple [.agg [.str [109],.af,.slice [[.int .i64 2,.str [102],.slice [] false,.str [73,110,116],.slice [] false,.int .i64 3,.int .i64 0,.str [107,46,102],.str [],.str [],.slice [] false,.slice [(fN 2 0 [97] []),(fN 0 (-3) [] [])] false,.slice [] false,.slice [[.str []],[.str [32]],[.str [32]],[.str []],[.str [32]],[.str [32]],[.str [32]],[.str []],[.str []],[.str []],[.str []],[.str []],[.str [32]],[.str []],[.str []],[.str []]] false]] false,.slice [[.str []],[.str [32]],[.str [32]]] false,.str []],.int .i64 (-1)],none)⟩
theorem TG:RN 107 aeb:=dr (fn:=GX) (tb:=[YC]) rfl rfl (jU O0 kW) (by kernel_rfl)
def en5:dP:=⟨37,[.str [107,46,102,40,97,44,32,45,51,41]],[],(.tuple [.agg [.int .i64 3,.int .i64 0,.str [107,46,102],.str [],.str [],.af,.slice [[.int .i64 2,.int .i64 0,.str [97],.str [],.str [],.af,.af,.slice [] false],[.int .i64 0,.int .i64 (-3),.str [],.str [],.str [],.af,.af,.slice [] false]] false,.slice [] false],.bool true],none)⟩
theorem Z0:RN 108 en5:=dr (fn:=JU) (tb:=[aeb]) rfl rfl (jU TG kW) (by kernel_rfl)
end Go.Proofs.YtbdhkgiakaegdaaGreatDoor
