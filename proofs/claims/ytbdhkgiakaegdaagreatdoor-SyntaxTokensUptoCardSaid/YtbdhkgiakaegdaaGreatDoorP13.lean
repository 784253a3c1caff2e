/-
  A part of the proof of SyntaxTokens: LvT4.
-/
import Derived.Test.YtbdhkgiakaegdaaGreatDoorP09
set_option linter.unusedSimpArgs false
set_option linter.unusedVariables false
set_option linter.defProp false
set_option maxRecDepth 100000
namespace Go.Proofs.YtbdhkgiakaegdaaGreatDoor
open Go Go.Abs Go.Proofs
def nY:dP:=⟨103,[.ref 0 0],[(gl ma 12 false),cI,gK,cI,.ba (gd 0 0 [] []),tY,.ba (gd 0 0 [] []),cI,.ba (gd 8 0 [80,111,105,110,116] [120]),.box 1 [.func (Fn.func 136) [.agg [.ref 0 0,.ref 8 0]] []]],(.agg (fN 2 0 [112] []),some ⟨[(gl ma 13 false),cI,gK,cI,.ba (gd 0 0 [] []),tY,.ba (gd 0 0 [] []),cI,.ba (gd 8 0 [80,111,105,110,116] [120]),.box 1 [.func (Fn.func 136) [.agg [.ref 0 0,.ref 8 0]] []]],0⟩)⟩
theorem qI:RN 94 nY:=mo (by kernel_rfl)
def oV:dP:=⟨136,[.agg [.ref 0 0,.ref 8 0]],[(gl ma 12 false),cI,gK,cI,.ba (gd 0 0 [] []),tY,.ba (gd 0 0 [] []),cI,.ba (gd 8 0 [80,111,105,110,116] [120]),.box 1 [.func (Fn.func 136) [.agg [.ref 0 0,.ref 8 0]] []]],(.tuple [],some ⟨[(gl ma 13 false),cI,gK,cI,.ba (gd 0 0 [] []),tY,.ba (gd 0 0 [] []),cI,.ba [.int .i64 8,.int .i64 0,.str [80,111,105,110,116],.str [120],.str [],.af,.sref 10 0 1 8,.af],.box 1 [.func (Fn.func 136) [.agg [.ref 0 0,.ref 8 0]] []],.box 4294967295 (fN 2 0 [112] [])],0⟩)⟩
theorem sd:RN 95 oV:=dr (fn:=BI) (tb:=[nY]) rfl rfl (jU qI kW) (by kernel_rfl)
def qc:dP:=⟨138,[.ref 0 0],[(gl ma 8 false),cI,gK,cI,.ba (gd 0 0 [] []),tY,.ba (gd 0 0 [] [])],(.agg [.int .i64 8,.int .i64 0,.str [80,111,105,110,116],.str [120],.str [],.slice [] false,.slice [(fN 2 0 [112] [])] false,.slice [] false],some ⟨[(gl ma 14 false),cI,gK,cI,.ba (gd 0 0 [] []),tY,.ba (gd 0 0 [] [])],0⟩)⟩
theorem sY:RN 96 qc:=dr (fn:=GU) (tb:=[oV]) rfl rfl (jU sd kW) (by kernel_rfl)
def qH:dP:=⟨129,[.ref 0 0],[(gl ma 8 false),cI,gK,cI,.ba (gd 0 0 [] []),tY],(.agg [.int .i64 8,.int .i64 0,.str [80,111,105,110,116],.str [120],.str [],.slice [] false,.slice [(fN 2 0 [112] [])] false,.slice [] false],some ⟨[(gl ma 14 false),cI,gK,cI,.ba (gd 0 0 [] []),tY],0⟩)⟩
theorem uA:RN 97 qH:=dr (fn:=zi) (tb:=[qc]) rfl rfl (jU sY kW) (by kernel_rfl)
def sy:dP:=⟨118,[.ref 0 0,.int .i64 7],[(gl ma 8 false),cI,gK,cI,.ba (gd 0 0 [] [])],(.agg [.int .i64 8,.int .i64 0,.str [80,111,105,110,116],.str [120],.str [],.slice [] false,.slice [(fN 2 0 [112] [])] false,.slice [] false],some ⟨[(gl ma 14 false),cI,gK,cI,.ba (gd 0 0 [] [])],0⟩)⟩
theorem vK:RN 98 sy:=dr (fn:=ij) (tb:=[qH]) rfl rfl (jU uA kW) (by kernel_rfl)
def uz:dP:=⟨118,[.ref 0 0,.int .i64 6],[(gl ma 8 false),cI,gK,cI,.ba (gd 0 0 [] [])],(.agg [.int .i64 8,.int .i64 0,.str [80,111,105,110,116],.str [120],.str [],.slice [] false,.slice [(fN 2 0 [112] [])] false,.slice [] false],some ⟨[(gl ma 14 false),cI,gK,cI,.ba (gd 0 0 [] [])],0⟩)⟩
theorem xp:RN 99 uz:=dr (fn:=ij) (tb:=[sy]) rfl rfl (jU vK kW) (by kernel_rfl)
def wK:dP:=⟨118,[.ref 0 0,.int .i64 5],[(gl ma 8 false),cI,gK,cI,.ba (gd 0 0 [] [])],(.agg [.int .i64 8,.int .i64 0,.str [80,111,105,110,116],.str [120],.str [],.slice [] false,.slice [(fN 2 0 [112] [])] false,.slice [] false],some ⟨[(gl ma 14 false),cI,gK,cI,.ba (gd 0 0 [] [])],0⟩)⟩
theorem yL:RN 100 wK:=dr (fn:=ij) (tb:=[uz]) rfl rfl (jU xp kW) (by kernel_rfl)
def yK:dP:=⟨118,[.ref 0 0,.int .i64 4],[(gl ma 8 false),cI,gK,cI,.ba (gd 0 0 [] [])],(.agg [.int .i64 8,.int .i64 0,.str [80,111,105,110,116],.str [120],.str [],.slice [] false,.slice [(fN 2 0 [112] [])] false,.slice [] false],some ⟨[(gl ma 14 false),cI,gK,cI,.ba (gd 0 0 [] [])],0⟩)⟩
theorem AF:RN 101 yK:=dr (fn:=ij) (tb:=[wK]) rfl rfl (jU yL kW) (by kernel_rfl)
def Bk:dP:=⟨118,[.ref 0 0,.int .i64 3],[(gl ma 8 false),cI,gK,cI,.ba (gd 0 0 [] [])],(.agg [.int .i64 8,.int .i64 0,.str [80,111,105,110,116],.str [120],.str [],.slice [] false,.slice [(fN 2 0 [112] [])] false,.slice [] false],some ⟨[(gl ma 14 false),cI,gK,cI,.ba (gd 0 0 [] [])],0⟩)⟩
theorem CO:RN 102 Bk:=dr (fn:=ij) (tb:=[yK]) rfl rfl (jU AF kW) (by kernel_rfl)
def F0:dP:=⟨118,[.ref 0 0,.int .i64 2],[(gl ma 8 false),cI,gK,cI,.ba (gd 0 0 [] [])],(.agg [.int .i64 8,.int .i64 0,.str [80,111,105,110,116],.str [120],.str [],.slice [] false,.slice [(fN 2 0 [112] [])] false,.slice [] false],some ⟨[(gl ma 14 false),cI,gK,cI,.ba (gd 0 0 [] [])],0⟩)⟩
theorem F1:RN 103 F0:=dr (fn:=ij) (tb:=[Bk]) rfl rfl (jU CO kW) (by kernel_rfl)
def KZ:dP:=⟨118,[.ref 0 0,.int .i64 1],[(gl ma 8 false),cI,gK,cI,.ba (gd 0 0 [] [])],(.agg [.int .i64 8,.int .i64 0,.str [80,111,105,110,116],.str [120],.str [],.slice [] false,.slice [(fN 2 0 [112] [])] false,.slice [] false],some ⟨[(gl ma 14 false),cI,gK,cI,.ba (gd 0 0 [] [])],0⟩)⟩
theorem I4:RN 104 KZ:=dr (fn:=ij) (tb:=[F0]) rfl rfl (jU F1 kW) (by kernel_rfl)
def OZ:dP:=⟨103,[.ref 0 0],[(gl ma 8 false),cI,gK],(.agg [.int .i64 8,.int .i64 0,.str [80,111,105,110,116],.str [120],.str [],.slice [] false,.slice [(fN 2 0 [112] [])] false,.slice [] false],some ⟨[(gl ma 14 false),cI,gK],0⟩)⟩
theorem Mt:RN 105 OZ:=dr (fn:=w7) (tb:=[KZ]) rfl rfl (jU I4 kW) (by kernel_rfl)
def YB:dP:=⟨73,[.ref 0 0],[(gl ma 2 false)],(.agg [.int .i64 2,.str [102],.slice [] false,.str [73,110,116],.slice [] false,.int .i64 8,.int .i64 0,.str [80,111,105,110,116],.str [120],.str [],.slice [] false,.slice [(fN 2 0 [112] [])] false,.slice [] false,.slice [] false],some ⟨[(gl ma 14 false)],0⟩)⟩
theorem OY:RN 106 YB:=dr (fn:=GY) (tb:=[OZ]) rfl rfl (jU Mt kW) (by kernel_rfl)
def aea:dP:=⟨38,[.str [109,111,100,117,108,101,32,109,32,102,117,110,32,102,32,40,41,32,73,110,116,32,61,32,80,111,105,110,116,58,120,91,112,93]],[],(.tuple [.agg [.str [109],.af,.slice [[.int .i64 2,.str [102],.slice [] false,.str [73,110,116],.slice [] false,.int .i64 8,.int .i64 0,.str [80,111,105,110,116],.str [120],.str [],.slice [] false,.slice [(fN 2 0 [112] [])] false,.slice [] false,.slice [[.str []],[.str [32]],[.str [32]],[.str []],[.str [32]],[.str [32]],[.str [32]],[.str []],[.str []],[.str []],[.str []],[.str []],[.str []]] false]] false,.slice [[.str []],[.str [32]],[.str [32]]] false,.str []],.int .i64 (-1)],none)⟩
theorem TF:RN 107 aea:=dr (fn:=GX) (tb:=[YB]) rfl rfl (jU OY kW) (by kernel_rfl)
def en4:dP:=⟨37,[.str [80,111,105,110,116,58,120,91,112,93]],[],(.tuple [.agg [.int .i64 8,.int .i64 0,.str [80,111,105,110,116],.str [120],.str [],.af,.slice [[.int .i64 2,.int .i64 0,.str [112],.str [],.str [],.af,.af,.slice [] false]] false,.slice [] false],.bool true],none)⟩
theorem ZZ:RN 108 en4:=dr (fn:=JU) (tb:=[aea]) rfl rfl (jU TF kW) (by kernel_rfl)
end Go.Proofs.YtbdhkgiakaegdaaGreatDoor
