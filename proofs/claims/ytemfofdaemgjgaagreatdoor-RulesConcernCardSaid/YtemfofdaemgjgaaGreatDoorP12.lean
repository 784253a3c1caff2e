/-
  A part of the proof of RulesConcern: AbsIrC, AbsProgC, AbsLaidC.
-/
import Derived.Test.YtemfofdaemgjgaaGreatDoorProg
import Derived.KernelRfl
import Derived.Lib.ItoaNum
import Derived.Lib.AtoiAll
import Derived.Shelf.Strconv.AtoiAll
import Derived.Shelf.Strconv.Itoa3
import Derived.Shelf.Small.Strs
import Derived.Shelf.Slices.Turned
import Derived.Shelf.Slices.Clone
import Derived.Ground.NamesProg
import Derived.Test.YtemfofdaemgjgaaGreatDoorChecked
import Derived.Test.YtemfofdaemgjgaaGreatDoorP11
set_option linter.unusedSimpArgs false
set_option linter.unusedVariables false
section
set_option maxRecDepth 100000
namespace Go.Proofs.YtemfofdaemgjgaaGreatDoor
open Go Go.Abs Go.Proofs
def ir39:IFunc:={ takes:=[11,12,13,16,17,20,21,52,56,65,86,133],locals:=[6,10,14,15,18,19,22],muts:=[],nt:=154,np:=5,results:=[.cell 10 true 15],body:=.seq (iR [oR 6 (.boxL (iT 1)),oR 10 (.allocL [iZ,iZ,iZ,iZ,iZ,iZ,iZ,iZ,iZ,iZ,iZ,iZ,iE,iE,iE])]) (.seq (.seq (iR [oA 23 0 6,oL 24 1 23,oB 25 .eql (iT 24) (iC 0)]) (.cond (iT 25) (.seq (iR [oM 26 3,oB 27 .rem (iT 26) (iC 9),oB 28 .sub (iT 27) (iC 2),oT 11 28]) (.seq (.seq (iR [oM 29 3,oB 30 .rem (iT 29) (iC 29),oB 31 .eql (iT 30) (iC 3)]) (.cond (iT 31) (iR [oM 32 3,oB 33 .rem (iT 32) (iC 2),oB 34 .sub (iC 1099511627776) (iT 33),oT 11 34]) (.skip))) (.seq (iR [oM 35 0,oM 36 11,oC 37 40 [iT 35,iC 0,iT 36,.con (.slice [] true)],oS 15 10 37]) (.ret)))) (.skip))) (.seq (.seq (iR [oA 38 0 6,oL 39 1 38,oB 40 .eql (iT 39) (iC 1)]) (.cond (iT 40) (.seq (iR [oM 41 0,oM 42 3,oB 43 .rem (iT 42) (iC 2),oC 44 40 [iT 41,iC 1,iT 43,.con (.slice [] true)],oS 15 10 44]) (.ret)) (.skip))) (.seq (.seq (iR [oA 45 0 6,oL 46 1 45,oB 47 .eql (iT 46) (iC 2)]) (.cond (iT 47) (.seq (iR [oR 12 (.mov true false (.con (.slice [] true)))]) (.seq (.seq (iR [oR 13 (.mov true false (iC 0))]) (.block 0 (.loop (.seq (.seq (iR [oM 48 13,oM 49 3,oB 50 .rem (iT 49) (iC 3),oB 51 .lss (iT 48) (iT 50),oT 52 51,oQ 53 52 true (.mov false false (iT 4)),oQ 54 52 true (.bin (.geq) (.other) (iT 53) (iC 0)),oR 55 (.pick (iT 52) (iT 54) (.con (.bool false))),oT 56 55,oQ 57 56 true (.mov false false (iT 0)),oQ 58 56 true (.nilCheck (iT 57)),oQ 59 56 true (.fieldAddr 5 (iT 58)),oQ 60 56 true (.load false false 1 (iT 59)),oQ 61 56 true (.bin (.gtr) (.other) (iT 60) (iC 0)),oR 62 (.pick (iT 56) (iT 61) (.con (.bool false)))]) (.cond (iT 62) (.skip) (.exit 0))) (.seq (.block 1 (iR [oT 65 12,oM 66 0,oA 67 4 6,oL 68 1 67,oR 69 (.ixSl 5 (iT 68) (iC 0)),oG 70 5 69,oM 71 2,oM 72 4,oB 73 .sub (iT 72) (iC 1),oC 74 19 [iT 66,iT 70,iT 71,iT 73],oR 75 (.mkslice false 15 [[iZ,iZ,iZ,iZ,iZ,iZ,iZ,iZ,iZ,iZ,iZ,iZ,.slice [] false,.slice [] false,.slice [] false]] [(0,iT 74)]),oR 76 (.append false false 15 168 (iT 65) (iT 75)),oT 12 76])) (iR [oM 63 13,oB 64 .add (iT 63) (iC 1),oT 13 64])))))) (.seq (iR [oM 77 0,oM 78 12,oC 79 40 [iT 77,iC 11,iC 0,iT 78],oR 14 (.allocL [iZ,iZ,iZ,iZ,iZ,iZ,iZ,iZ,iZ,iZ,iZ,iZ,iE,iE,iE]),oS 15 14 79]) (.seq (iR [oA 80 4 6,oL 81 1 80,oR 82 (.ixSl 5 (iT 81) (iC 0)),oG 83 5 82,oA 84 8 14,oS 5 84 83]) (.seq (iR [oG 85 15 14,oS 15 10 85]) (.ret)))))) (.skip))) (.seq (iR [oM 87 0,oH 87,oR 88 (.nilCheck (iT 87)),oH 88,oA 89 0 88,oH 89,oG 90 2 89,oF 6 6,oA 91 1 6,oF 6 91,oG 92 3 91,oC 93 63 [iT 90,iT 92],oT 86 93,oR 94 (.extract (iT 86) 0),oR 95 (.extract (iT 86) 1),oR 15 (.allocL [iZ,iZ,iZ,iZ,iZ,iZ,iZ,.str [],iE,iZ,iZ,iZ,iZ,iE,iZ,iZ,iZ,iZ,iZ,iZ,iZ,iZ,iZ,iZ,iZ,iZ,iE,iE,iE,iZ,iE]),oF 15 15,oS 31 15 94,oT 16 95]) (.seq (.seq (iR [oA 96 3 15,oL 97 1 96,oB 98 .eql (iT 97) (iC 1)]) (.cond (iT 98) (.seq (iR [oM 99 3,oA 100 8 15,oL 101 1 100,oN 102 101,oB 103 .rem (iT 99) (iT 102),oT 17 103]) (.seq (.seq (iR [oM 104 4,oB 105 .lss (iT 104) (iC 0)]) (.cond (iT 105) (iR [oR 17 (.mov true false (iC 0))]) (.skip))) (.seq (iR [oM 106 0,oA 107 8 15,oL 108 1 107,oM 109 17,oX 110 11 108 109,oA 111 4 110,oG 112 5 111,oM 113 2,oM 114 4,oB 115 .sub (iT 114) (iC 1),oC 116 19 [iT 106,iT 112,iT 113,iT 115],oR 18 (.allocL [iZ,iZ,iZ,iZ,iZ,iZ,iZ,iZ,iZ,iZ,iZ,iZ,iE,iE,iE]),oS 15 18 116]) (.seq (iR [oM 117 0,oM 118 17,oG 119 15 18,oR 120 (.mkslice false 15 [[iZ,iZ,iZ,iZ,iZ,iZ,iZ,iZ,iZ,iZ,iZ,iZ,.slice [] false,.slice [] false,.slice [] false]] [(0,iT 119)]),oC 121 40 [iT 117,iC 9,iT 118,iT 120],oR 19 (.allocL [iZ,iZ,iZ,iZ,iZ,iZ,iZ,iZ,iZ,iZ,iZ,iZ,iE,iE,iE]),oS 15 19 121]) (.seq (iR [oA 122 0 15,oG 123 3 122,oA 124 5 19,oS 3 124 123]) (.seq (iR [oG 125 15 19,oS 15 10 125]) (.ret))))))) (.skip))) (.seq (iR [oR 20 (.mov true false (.con (.slice [] true)))]) (.seq (.seq (iR [oR 21 (.mov true false (iC 0))]) (.block 2 (.loop (.seq (.seq (iR [oM 126 21,oA 127 8 15,oL 128 1 127,oN 129 128,oB 130 .lss (iT 126) (iT 129)]) (.cond (iT 130) (.skip) (.exit 2))) (.seq (.block 3 (iR [oT 133 20,oM 134 0,oA 135 8 15,oL 136 1 135,oM 137 21,oX 138 11 136 137,oA 139 4 138,oG 140 5 139,oM 141 2,oM 142 4,oB 143 .sub (iT 142) (iC 1),oC 144 19 [iT 134,iT 140,iT 141,iT 143],oR 145 (.mkslice false 15 [[iZ,iZ,iZ,iZ,iZ,iZ,iZ,iZ,iZ,iZ,iZ,iZ,.slice [] false,.slice [] false,.slice [] false]] [(0,iT 144)]),oR 146 (.append false false 15 168 (iT 133) (iT 145)),oT 20 146])) (iR [oM 131 21,oB 132 .add (iT 131) (iC 1),oT 21 132])))))) (.seq (iR [oM 147 0,oM 148 20,oC 149 40 [iT 147,iC 7,iC 0,iT 148],oR 22 (.allocL [iZ,iZ,iZ,iZ,iZ,iZ,iZ,iZ,iZ,iZ,iZ,iZ,iE,iE,iE]),oS 15 22 149]) (.seq (iR [oA 150 0 15,oG 151 3 150,oA 152 5 22,oS 3 152 151]) (.seq (iR [oG 153 15 22,oS 15 10 153]) (.ret))))))))))) }
theorem ir39_ok:compF Tryz.prog [11,12,13,16,17,20,21,52,56,65,86,133] [6,10,14,15,18,19,22] [] Tryz.f39=some ir39:=by kernel_rfl
def ir40:IFunc:={ takes:=[28,32],locals:=[8],muts:=[],nt:=33,np:=4,results:=[.cell 8 true 15],body:=.seq (iR [oR 8 (.allocL [iZ,iZ,iZ,iZ,iZ,iZ,iZ,iZ,iZ,iZ,iZ,iZ,iE,iE,iE])]) (.seq (iR [oM 9 0,oR 10 (.nilCheck (iT 9)),oA 11 4 10,oL 12 1 11,oB 13 .add (iT 12) (iC 1),oR 14 (.nilCheck (iT 9)),oA 15 4 14,oS 1 15 13]) (.seq (iR [oM 16 0,oR 17 (.nilCheck (iT 16)),oA 18 5 17,oL 19 1 18,oB 20 .sub (iT 19) (iC 1),oR 21 (.nilCheck (iT 16)),oA 22 5 21,oS 1 22 20]) (.seq (iR [oM 23 0,oR 24 (.nilCheck (iT 23)),oA 25 4 24,oL 26 1 25,oB 27 .sub (iT 26) (iC 1),oR 28 (.build [iZ,iZ,iZ] [(2,1,iT 27)]),oM 29 1,oM 30 2,oM 31 3,oR 32 (.build [iZ,iZ,iZ,iZ,iZ,iZ,iZ,iZ,iZ,iZ,iZ,iZ,.nilsl,.nilsl,.nilsl] [(0,3,iT 28),(3,1,iT 29),(4,1,iT 30),(13,1,iT 31)]),oS 15 8 32]) (.ret)))) }
theorem ir40_ok:compF Tryz.prog [28,32] [8] [] Tryz.f40=some ir40:=by kernel_rfl
def ir41:IFunc:={ takes:=[2],locals:=[],muts:=[],nt:=28,np:=1,results:=[.tmp 2],body:=.seq (iR [oR 2 (.mov true false (.con (.str [])))]) (.seq (iR [oM 3 0,oR 4 (.nilCheck (iT 3)),oA 5 10 4,oL 6 1 5,oB 7 .add (iT 6) (iC 1),oR 8 (.nilCheck (iT 3)),oA 9 10 8,oS 1 9 7]) (.seq (iR [oR 10 (.mkslice false 1 [[.str []],[.str []],[.str []]] [(0,.con (.str [117])),(1,.con (.str [118])),(2,.con (.str [119]))]),oM 11 0,oH 11,oR 12 (.nilCheck (iT 11)),oH 12,oA 13 10 12,oH 13,oL 14 1 13,oB 15 .rem (iT 14) (iC 3),oH 10,oX 16 1 10 15,oH 16,oL 17 1 16,oR 18 (.mkslice false 1 [[.str []],[.str []],[.str []],[.str []],[.str []],[.str []],[.str []],[.str []]] [(0,.con (.str [])),(1,.con (.str [49])),(2,.con (.str [50])),(3,.con (.str [51])),(4,.con (.str [52])),(5,.con (.str [53])),(6,.con (.str [54])),(7,.con (.str [55]))]),oM 19 0,oH 19,oR 20 (.nilCheck (iT 19)),oH 20,oA 21 10 20,oH 21,oL 22 1 21,oB 23 .quo (iT 22) (iC 3),oB 24 .rem (iT 23) (iC 8),oH 18,oX 25 1 18 24,oH 25,oL 26 1 25,oB 27 .add (iT 17) (iT 26),oT 2 27]) (.ret))) }
theorem ir41_ok:compF Tryz.prog [2] [] [] Tryz.f41=some ir41:=by kernel_rfl
def ir42:IFunc:={ takes:=[4,6,8],locals:=[3],muts:=[],nt:=12,np:=2,results:=[.tmp 4],body:=.seq (iR [oR 3 (.boxL (iT 1)),oR 4 (.mov true false (.con (.slice [] true)))]) (.seq (iR [oR 5 (.mov false false (.con (.slice [] true)))]) (.seq (iR [oT 6 5,oM 7 0,oR 8 (.append false false 9 88 (iT 6) (iT 7)),oF 3 3,oG 9 9 3,oR 10 (.mkslice false 9 [[iZ,iZ,iZ,iZ,iZ,iZ,iZ,iZ,.slice [] false]] [(0,iT 9)]),oR 11 (.append false false 9 88 (iT 8) (iT 10)),oT 4 11]) (.ret))) }
theorem ir42_ok:compF Tryz.prog [4,6,8] [3] [] Tryz.f42=some ir42:=by kernel_rfl
def ir43:IFunc:={ takes:=[11,13,15,56,77],locals:=[6,10,12,14],muts:=[],nt:=86,np:=5,results:=[.cell 10 true 15],body:=.seq (iR [oR 6 (.boxL (iT 1)),oR 10 (.allocL [iZ,iZ,iZ,iZ,iZ,iZ,iZ,iZ,iZ,iZ,iZ,iZ,iE,iE,iE])]) (.seq (iR [oM 16 0,oM 17 3,oC 18 64 [iT 16,iC 1,iT 17],oT 11 18]) (.seq (.seq (iR [oM 19 11,oB 20 .lss (iT 19) (iC 0)]) (.cond (iT 20) (.seq (iR [oM 21 0,oG 22 5 6,oM 23 2,oM 24 3,oM 25 4,oC 26 46 [iT 21,iT 22,iT 23,iT 24,iT 25],oS 15 10 26]) (.ret)) (.skip))) (.seq (iR [oM 27 0,oR 28 (.nilCheck (iT 27)),oA 29 0 28,oA 30 1 29,oL 31 1 30,oM 32 11,oX 33 31 31 32,oG 34 31 33,oR 12 (.allocL [iZ,iZ,iZ,iZ,iZ,iZ,iZ,.str [],iE,iZ,iZ,iZ,iZ,iE,iZ,iZ,iZ,iZ,iZ,iZ,iZ,iZ,iZ,iZ,iZ,iZ,iE,iE,iE,iZ,iE]),oS 31 12 34]) (.seq (iR [oM 35 0,oA 36 0 12,oG 37 3 36,oC 38 32 [iT 37],oM 39 2,oM 40 4,oB 41 .sub (iT 40) (iC 2),oC 42 19 [iT 35,iT 38,iT 39,iT 41],oR 43 (.mkslice false 15 [[iZ,iZ,iZ,iZ,iZ,iZ,iZ,iZ,iZ,iZ,iZ,iZ,.slice [] false,.slice [] false,.slice [] false]] [(0,iT 42)]),oT 13 43]) (.seq (iR [oM 44 0,oC 45 40 [iT 44,iC 10,iC 0,.con (.slice [] true)],oR 14 (.allocL [iZ,iZ,iZ,iZ,iZ,iZ,iZ,iZ,iZ,iZ,iZ,iZ,iE,iE,iE]),oS 15 14 45]) (.seq (iR [oA 46 0 12,oG 47 3 46,oA 48 5 14,oS 3 48 47]) (.seq (.seq (iR [oR 15 (.mov true false (iC 0))]) (.block 0 (.loop (.seq (.seq (iR [oM 49 15,oA 50 8 12,oL 51 1 50,oN 52 51,oB 53 .lss (iT 49) (iT 52)]) (.cond (iT 53) (.skip) (.exit 0))) (.seq (.block 1 (.seq (iR [oT 56 13,oM 57 0,oF 6 6,oG 58 5 6,oM 59 2,oF 14 14,oA 60 0 14,oF 14 60,oG 61 3 60,oM 62 15,oF 12 12,oA 63 8 12,oF 12 63,oL 64 1 63,oM 65 15,oH 64,oX 66 11 64 65,oH 66,oA 67 4 66,oH 67,oG 68 5 67,oR 69 (.build [iZ,iZ,iZ,iZ,iZ,iZ,iZ,iZ,iE] [(0,3,iT 61),(3,1,iT 62),(4,5,iT 68)]),oC 70 42 [iT 59,iT 69],oM 71 4,oB 72 .sub (iT 71) (iC 1),oC 73 19 [iT 57,iT 58,iT 70,iT 72],oR 74 (.mkslice false 15 [[iZ,iZ,iZ,iZ,iZ,iZ,iZ,iZ,iZ,iZ,iZ,iZ,.slice [] false,.slice [] false,.slice [] false]] [(0,iT 73)]),oR 75 (.append false false 15 168 (iT 56) (iT 74)),oT 13 75]) (iR [oF 14 14,oA 76 14 14,oF 14 76,oR 77 (.load true false 1 (iT 76)),oM 78 0,oC 79 41 [iT 78],oR 80 (.mkslice false 1 [[.str []]] [(0,iT 79)]),oR 81 (.append false false 1 16 (iT 77) (iT 80)),oF 14 14,oA 82 14 14,oF 14 82,oS 1 82 81]))) (iR [oM 54 15,oB 55 .add (iT 54) (iC 1),oT 15 55])))))) (.seq (iR [oM 83 13,oA 84 13 14,oS 1 84 83]) (.seq (iR [oG 85 15 14,oS 15 10 85]) (.ret)))))))))) }
theorem ir43_ok:compF Tryz.prog [11,13,15,56,77] [6,10,12,14] [] Tryz.f43=some ir43:=by kernel_rfl
def ir44:IFunc:={ takes:=[11,12,14,49,54],locals:=[6,10,13,15],muts:=[],nt:=91,np:=5,results:=[.cell 10 true 15],body:=.seq (iR [oR 6 (.boxL (iT 1)),oR 10 (.allocL [iZ,iZ,iZ,iZ,iZ,iZ,iZ,iZ,iZ,iZ,iZ,iZ,iE,iE,iE])]) (.seq (.seq (iR [oR 11 (.mov true false (iC 0))]) (.block 0 (.loop (.seq (.seq (iR [oM 16 11,oM 17 0,oR 18 (.nilCheck (iT 17)),oA 19 0 18,oA 20 1 19,oL 21 1 20,oN 22 21,oB 23 .lss (iT 16) (iT 22)]) (.cond (iT 23) (.skip) (.exit 0))) (.seq (.block 1 (.seq (iR [oM 26 3,oM 27 11,oB 28 .add (iT 26) (iT 27),oM 29 0,oR 30 (.nilCheck (iT 29)),oA 31 0 30,oA 32 1 31,oL 33 1 32,oN 34 33,oB 35 .rem (iT 28) (iT 34),oT 12 35]) (.seq (iR [oM 36 0,oR 37 (.nilCheck (iT 36)),oA 38 0 37,oA 39 1 38,oL 40 1 39,oM 41 12,oX 42 31 40 41,oG 43 31 42,oR 13 (.allocL [iZ,iZ,iZ,iZ,iZ,iZ,iZ,.str [],iE,iZ,iZ,iZ,iZ,iE,iZ,iZ,iZ,iZ,iZ,iZ,iZ,iZ,iZ,iZ,iZ,iZ,iE,iE,iE,iZ,iE]),oS 31 13 43]) (.seq (iR [oR 14 (.mov true false (iC 0))]) (.block 2 (.loop (.seq (.seq (iR [oM 44 14,oA 45 8 13,oL 46 1 45,oN 47 46,oB 48 .lss (iT 44) (iT 47),oT 49 48,oQ 50 49 true (.fieldAddr 3 (iT 13)),oQ 51 49 true (.load false false 1 (iT 50)),oQ 52 49 true (.bin (.eql) (.other) (iT 51) (iC 0)),oR 53 (.pick (iT 49) (iT 52) (.con (.bool false))),oT 54 53,oQ 55 54 true (.mov false false (iT 0)),oQ 56 54 true (.mov false false (iT 12)),oQ 57 54 true (.call (.fn 65) [iT 55,iT 56]),oR 58 (.pick (iT 54) (iT 57) (.con (.bool false)))]) (.cond (iT 58) (.skip) (.exit 2))) (.seq (.block 3 (.seq (.region true [oA 61 8 13,oL 62 1 61,oM 63 14,oX 64 11 62 63,oA 65 4 64,oG 66 5 65,oG 67 5 6,oC 68 62 [iT 66,iT 67]]) (.cond (iT 68) (.seq (iR [oM 69 0,oM 70 14,oM 71 0,oA 72 0 13,oG 73 3 72,oC 74 32 [iT 73],oM 75 2,oM 76 4,oB 77 .sub (iT 76) (iC 1),oC 78 19 [iT 71,iT 74,iT 75,iT 77],oR 79 (.mkslice false 15 [[iZ,iZ,iZ,iZ,iZ,iZ,iZ,iZ,iZ,iZ,iZ,iZ,.slice [] false,.slice [] false,.slice [] false]] [(0,iT 78)]),oC 80 40 [iT 69,iC 8,iT 70,iT 79],oR 15 (.allocL [iZ,iZ,iZ,iZ,iZ,iZ,iZ,iZ,iZ,iZ,iZ,iZ,iE,iE,iE]),oS 15 15 80]) (.seq (iR [oA 81 0 13,oG 82 3 81,oA 83 5 15,oS 3 83 82]) (.seq (iR [oG 84 15 15,oS 15 10 84]) (.ret)))) (.skip)))) (iR [oM 59 14,oB 60 .add (iT 59) (iC 1),oT 14 60]))))))))) (iR [oM 24 11,oB 25 .add (iT 24) (iC 1),oT 11 25])))))) (.seq (iR [oM 85 0,oG 86 5 6,oM 87 2,oM 88 3,oM 89 4,oC 90 46 [iT 85,iT 86,iT 87,iT 88,iT 89],oS 15 10 90]) (.ret))) }
theorem ir44_ok:compF Tryz.prog [11,12,14,49,54] [6,10,13,15] [] Tryz.f44=some ir44:=by kernel_rfl
def ir45:IFunc:={ takes:=[11,13,14,37,42,55],locals:=[6,10,12,15],muts:=[],nt:=82,np:=5,results:=[.cell 10 true 15],body:=.seq (iR [oR 6 (.boxL (iT 1)),oR 10 (.allocL [iZ,iZ,iZ,iZ,iZ,iZ,iZ,iZ,iZ,iZ,iZ,iZ,iE,iE,iE])]) (.seq (.seq (iR [oR 11 (.mov true false (iC 0))]) (.block 0 (.loop (.seq (.seq (iR [oM 16 11,oM 17 0,oR 18 (.nilCheck (iT 17)),oA 19 0 18,oA 20 1 19,oL 21 1 20,oN 22 21,oB 23 .lss (iT 16) (iT 22)]) (.cond (iT 23) (.skip) (.exit 0))) (.seq (.block 1 (.seq (iR [oM 26 0,oR 27 (.nilCheck (iT 26)),oA 28 0 27,oA 29 1 28,oL 30 1 29,oM 31 11,oX 32 31 30 31,oG 33 31 32,oR 12 (.allocL [iZ,iZ,iZ,iZ,iZ,iZ,iZ,.str [],iE,iZ,iZ,iZ,iZ,iE,iZ,iZ,iZ,iZ,iZ,iZ,iZ,iZ,iZ,iZ,iZ,iZ,iE,iE,iE,iZ,iE]),oS 31 12 33]) (.seq (iR [oA 34 3 12,oL 35 1 34,oB 36 .eql (iT 35) (iC 2),oT 37 36,oQ 38 37 true (.mov false false (iT 0)),oQ 39 37 true (.mov false false (iT 11)),oQ 40 37 true (.call (.fn 65) [iT 38,iT 39]),oR 41 (.pick (iT 37) (iT 40) (.con (.bool false))),oT 42 41,oQ 43 42 true (.fieldAddr 9 (iT 12)),oQ 44 42 true (.load false true 5 (iT 43)),oQ 45 42 true (.load false true 5 (iT 6)),oQ 46 42 true (.call (.fn 62) [iT 44,iT 45]),oR 47 (.pick (iT 42) (iT 46) (.con (.bool false)))]) (.cond (iT 47) (.seq (iR [oR 13 (.mov true false (.con (.slice [] true)))]) (.seq (.seq (iR [oR 14 (.mov true false (iC 0))]) (.block 2 (.loop (.seq (.seq (iR [oM 48 14,oA 49 8 12,oL 50 1 49,oN 51 50,oB 52 .lss (iT 48) (iT 51)]) (.cond (iT 52) (.skip) (.exit 2))) (.seq (.block 3 (iR [oT 55 13,oM 56 0,oA 57 8 12,oL 58 1 57,oM 59 14,oX 60 11 58 59,oA 61 4 60,oG 62 5 61,oM 63 2,oM 64 4,oB 65 .sub (iT 64) (iC 1),oC 66 19 [iT 56,iT 62,iT 63,iT 65],oR 67 (.mkslice false 15 [[iZ,iZ,iZ,iZ,iZ,iZ,iZ,iZ,iZ,iZ,iZ,iZ,.slice [] false,.slice [] false,.slice [] false]] [(0,iT 66)]),oR 68 (.append false false 15 168 (iT 55) (iT 67)),oT 13 68])) (iR [oM 53 14,oB 54 .add (iT 53) (iC 1),oT 14 54])))))) (.seq (iR [oM 69 0,oM 70 13,oC 71 40 [iT 69,iC 3,iC 0,iT 70],oR 15 (.allocL [iZ,iZ,iZ,iZ,iZ,iZ,iZ,iZ,iZ,iZ,iZ,iZ,iE,iE,iE]),oS 15 15 71]) (.seq (iR [oA 72 0 12,oG 73 3 72,oA 74 5 15,oS 3 74 73]) (.seq (iR [oG 75 15 15,oS 15 10 75]) (.ret)))))) (.skip))))) (iR [oM 24 11,oB 25 .add (iT 24) (iC 1),oT 11 25])))))) (.seq (iR [oM 76 0,oG 77 5 6,oM 78 2,oM 79 3,oM 80 4,oC 81 46 [iT 76,iT 77,iT 78,iT 79,iT 80],oS 15 10 81]) (.ret))) }
theorem ir45_ok:compF Tryz.prog [11,13,14,37,42,55] [6,10,12,15] [] Tryz.f45=some ir45:=by kernel_rfl
def ir46:IFunc:={ takes:=[13,114],locals:=[6,10,11,12,14,15],muts:=[],nt:=142,np:=5,results:=[.cell 10 true 15],body:=.seq (iR [oR 6 (.boxL (iT 1)),oR 10 (.allocL [iZ,iZ,iZ,iZ,iZ,iZ,iZ,iZ,iZ,iZ,iZ,iZ,iE,iE,iE])]) (.seq (.seq (iR [oA 16 0 6,oL 17 1 16,oB 18 .eql (iT 17) (iC 0)]) (.cond (iT 18) (.seq (.seq (iR [oM 19 3,oB 20 .rem (iT 19) (iC 6),oB 21 .eql (iT 20) (iC 5)]) (.cond (iT 21) (.seq (iR [oM 22 0,oM 23 0,oR 24 (.build [iZ,iZ,iZ,iZ,iE] []),oC 25 34 [iT 24],oM 26 2,oM 27 4,oB 28 .sub (iT 27) (iC 1),oC 29 19 [iT 23,iT 25,iT 26,iT 28],oR 30 (.mkslice false 15 [[iZ,iZ,iZ,iZ,iZ,iZ,iZ,iZ,iZ,iZ,iZ,iZ,.slice [] false,.slice [] false,.slice [] false]] [(0,iT 29)]),oC 31 40 [iT 22,iC 4,iC 11,iT 30],oS 15 10 31]) (.ret)) (.skip))) (.seq (iR [oM 32 0,oG 33 5 6,oM 34 2,oM 35 4,oB 36 .sub (iT 35) (iC 1),oC 37 19 [iT 32,iT 33,iT 34,iT 36],oR 11 (.allocL [iZ,iZ,iZ,iZ,iZ,iZ,iZ,iZ,iZ,iZ,iZ,iZ,iE,iE,iE]),oS 15 11 37]) (.seq (iR [oM 38 0,oR 39 (.mkslice false 1 [[iZ],[iZ],[iZ],[iZ],[iZ]] [(0,iC 0),(1,iC 1),(2,iC 2),(3,iC 3),(4,iC 4)]),oM 40 3,oB 41 .rem (iT 40) (iC 5),oH 39,oX 42 1 39 41,oI 42,oL 43 1 42,oF 11 11,oG 44 15 11,oM 45 0,oF 6 6,oG 46 5 6,oM 47 2,oM 48 4,oB 49 .sub (iT 48) (iC 1),oC 50 19 [iT 45,iT 46,iT 47,iT 49],oR 51 (.mkslice false 15 [[iZ,iZ,iZ,iZ,iZ,iZ,iZ,iZ,iZ,iZ,iZ,iZ,.slice [] false,.slice [] false,.slice [] false],[iZ,iZ,iZ,iZ,iZ,iZ,iZ,iZ,iZ,iZ,iZ,iZ,.slice [] false,.slice [] false,.slice [] false]] [(0,iT 44),(1,iT 50)]),oC 52 40 [iT 38,iC 4,iT 43,iT 51],oF 10 10,oS 15 10 52]) (.ret)))) (.skip))) (.seq (.seq (iR [oA 53 0 6,oL 54 1 53,oB 55 .eql (iT 54) (iC 1)]) (.cond (iT 55) (.seq (.seq (iR [oM 56 3,oB 57 .rem (iT 56) (iC 6),oB 58 .eql (iT 57) (iC 0)]) (.cond (iT 58) (.seq (iR [oM 59 0,oM 60 0,oG 61 5 6,oM 62 2,oM 63 4,oB 64 .sub (iT 63) (iC 1),oC 65 19 [iT 60,iT 61,iT 62,iT 64],oR 66 (.mkslice false 15 [[iZ,iZ,iZ,iZ,iZ,iZ,iZ,iZ,iZ,iZ,iZ,iZ,.slice [] false,.slice [] false,.slice [] false]] [(0,iT 65)]),oC 67 40 [iT 59,iC 4,iC 9,iT 66],oS 15 10 67]) (.ret)) (.skip))) (.seq (iR [oR 68 (.build [iZ,iZ,iZ,iZ,iE] []),oR 12 (.allocL [iZ,iZ,iZ,iZ,iE]),oS 5 12 68]) (.seq (iR [oR 13 (.mov true false (iC 5))]) (.seq (.seq (iR [oM 69 3,oB 70 .rem (iT 69) (iC 6),oB 71 .eql (iT 70) (iC 2)]) (.cond (iT 71) (iR [oR 13 (.mov true false (iC 6))]) (.skip))) (.seq (.seq (iR [oM 72 3,oB 73 .rem (iT 72) (iC 6),oB 74 .eql (iT 73) (iC 3)]) (.cond (iT 74) (.seq (iR [oR 13 (.mov true false (iC 6))]) (iR [oM 75 2,oM 76 3,oB 77 .quo (iT 76) (iC 6),oM 78 2,oN 79 78,oB 80 .rem (iT 77) (iT 79),oX 81 9 75 80,oA 82 4 81,oG 83 5 82,oS 5 12 83])) (.skip))) (.seq (.seq (iR [oM 84 3,oB 85 .rem (iT 84) (iC 6),oB 86 .geq (iT 85) (iC 4)]) (.cond (iT 86) (.seq (iR [oR 87 (.mkslice false 1 [[iZ],[iZ]] [(0,iC 7),(1,iC 8)]),oM 88 3,oB 89 .rem (iT 88) (iC 6),oB 90 .sub (iT 89) (iC 4),oX 91 1 87 90,oL 92 1 91,oT 13 92]) (iR [oG 93 5 6,oS 5 12 93])) (.skip))) (.seq (iR [oM 94 0,oG 95 5 12,oM 96 2,oM 97 4,oB 98 .sub (iT 97) (iC 1),oC 99 19 [iT 94,iT 95,iT 96,iT 98],oR 14 (.allocL [iZ,iZ,iZ,iZ,iZ,iZ,iZ,iZ,iZ,iZ,iZ,iZ,iE,iE,iE]),oS 15 14 99]) (.seq (iR [oM 100 0,oM 101 13,oF 14 14,oG 102 15 14,oM 103 0,oF 12 12,oG 104 5 12,oM 105 2,oM 106 4,oB 107 .sub (iT 106) (iC 1),oC 108 19 [iT 103,iT 104,iT 105,iT 107],oR 109 (.mkslice false 15 [[iZ,iZ,iZ,iZ,iZ,iZ,iZ,iZ,iZ,iZ,iZ,iZ,.slice [] false,.slice [] false,.slice [] false],[iZ,iZ,iZ,iZ,iZ,iZ,iZ,iZ,iZ,iZ,iZ,iZ,.slice [] false,.slice [] false,.slice [] false]] [(0,iT 102),(1,iT 108)]),oC 110 40 [iT 100,iC 4,iT 101,iT 109],oF 10 10,oS 15 10 110]) (.ret))))))))) (.skip))) (.seq (.seq (iR [oA 111 0 6,oL 112 1 111,oB 113 .eql (iT 112) (iC 2),oT 114 113,oQ 115 114 true (.mov false false (iT 3)),oQ 116 114 true (.bin (.rem) (.other) (iT 115) (iC 2)),oQ 117 114 true (.bin (.eql) (.other) (iT 116) (iC 0)),oR 118 (.pick (iT 114) (iT 117) (.con (.bool false)))]) (.cond (iT 118) (.seq (iR [oM 119 0,oG 120 5 6,oM 121 2,oM 122 4,oB 123 .sub (iT 122) (iC 1),oC 124 19 [iT 119,iT 120,iT 121,iT 123],oR 15 (.allocL [iZ,iZ,iZ,iZ,iZ,iZ,iZ,iZ,iZ,iZ,iZ,iZ,iE,iE,iE]),oS 15 15 124]) (.seq (iR [oM 125 0,oF 15 15,oG 126 15 15,oM 127 0,oF 6 6,oG 128 5 6,oM 129 2,oM 130 4,oB 131 .sub (iT 130) (iC 1),oC 132 19 [iT 127,iT 128,iT 129,iT 131],oR 133 (.mkslice false 15 [[iZ,iZ,iZ,iZ,iZ,iZ,iZ,iZ,iZ,iZ,iZ,iZ,.slice [] false,.slice [] false,.slice [] false],[iZ,iZ,iZ,iZ,iZ,iZ,iZ,iZ,iZ,iZ,iZ,iZ,.slice [] false,.slice [] false,.slice [] false]] [(0,iT 126),(1,iT 132)]),oC 134 40 [iT 125,iC 4,iC 10,iT 133],oF 10 10,oS 15 10 134]) (.ret))) (.skip))) (.seq (iR [oM 135 0,oG 136 5 6,oM 137 2,oM 138 3,oB 139 .quo (iT 138) (iC 2),oM 140 4,oC 141 39 [iT 135,iT 136,iT 137,iT 139,iT 140],oS 15 10 141]) (.ret))))) }
theorem ir46_ok:compF Tryz.prog [13,114] [6,10,11,12,14,15] [] Tryz.f46=some ir46:=by kernel_rfl
def ir47:IFunc:={ takes:=[4],locals:=[],muts:=[],nt:=9,np:=2,results:=[.tmp 4],body:=.seq (iR [oR 4 (.mov true false (.con (.bool false)))]) (.seq (iR [oM 5 0,oM 6 1,oC 7 66 [iT 5,iT 6],oB 8 .geq (iT 7) (iC 0),oT 4 8]) (.ret)) }
theorem ir47_ok:compF Tryz.prog [4] [] [] Tryz.f47=some ir47:=by kernel_rfl
def ir48:IFunc:={ takes:=[3],locals:=[],muts:=[],nt:=8,np:=2,results:=[.tmp 3],body:=.seq (iR [oR 2 (.box 65 (iT 0)),oR 3 (.mov true false (.con (.bool false)))]) (.seq (iR [oA 4 0 2,oG 5 3 4,oG 6 3 1,oR 7 (.bin (.eql) (.flat [.i,.i,.i]) (iT 5) (iT 6)),oT 3 7]) (.ret)) }
theorem ir48_ok:compF Tryz.prog [3] [] [] Tryz.f48=some ir48:=by kernel_rfl
def ir49:IFunc:={ takes:=[2,6],locals:=[],muts:=[],nt:=11,np:=1,results:=[.tmp 2],body:=.seq (iR [oR 1 (.box 63 (iT 0)),oR 2 (.mov true false (.con (.bool false)))]) (.seq (iR [oA 3 3 1,oL 4 1 3,oB 5 .neq (iT 4) (iC 0),oT 6 5,oQ 7 6 true (.fieldAddr 3 (iT 1)),oQ 8 6 true (.load false false 1 (iT 7)),oQ 9 6 true (.bin (.neq) (.other) (iT 8) (iC 1)),oR 10 (.pick (iT 6) (iT 9) (.con (.bool false))),oT 2 10]) (.ret)) }
theorem ir49_ok:compF Tryz.prog [2,6] [] [] Tryz.f49=some ir49:=by kernel_rfl
def ir50:IFunc:={ takes:=[4,9],locals:=[],muts:=[],nt:=15,np:=2,results:=[.tmp 4],body:=.seq (iR [oR 2 (.box 61 (iT 0)),oR 3 (.box 36 (iT 1)),oR 4 (.mov true false (.con (.bool false)))]) (.seq (iR [oA 5 0 2,oG 6 3 5,oG 7 3 3,oR 8 (.bin (.eql) (.flat [.i,.i,.i]) (iT 6) (iT 7)),oT 9 8,oQ 10 9 false (.fieldAddr 13 (iT 2)),oQ 11 9 false (.load false false 1 (iT 10)),oQ 12 9 false (.mkfunc (Fn.func 68) [] [iT 3]),oQ 13 9 false (.call (.fn 67) [iT 11,iT 12]),oR 14 (.pick (iT 9) (.con (.bool true)) (iT 13)),oT 4 14]) (.ret)) }
theorem ir50_ok:compF Tryz.prog [4,9] [] [] Tryz.f50=some ir50:=by kernel_rfl
def ir51:IFunc:={ takes:=[4,5,8],locals:=[],muts:=[],nt:=19,np:=2,results:=[.tmp 4],body:=.seq (iR [oR 3 (.box 36 (iT 1)),oR 4 (.mov true false (iC 0))]) (.seq (.seq (iR [oM 6 0,oN 7 6,oR 8 (.mov true false (iC 0))]) (.block 0 (.loop (.seq (iR [oB 9 .lss (iT 8) (iT 7)]) (.seq (.cond (iT 9) (.skip) (.exit 0)) (.seq (.block 1 (.seq (iR [oM 10 8,oT 5 10]) (.seq (.region true [oG 11 3 3,oM 12 0,oM 13 5,oX 14 3 12 13,oG 15 3 14,oR 16 (.bin (.eql) (.flat [.i,.i,.i]) (iT 11) (iT 15))]) (.cond (iT 16) (.seq (iR [oM 17 5,oT 4 17]) (.ret)) (.skip))))) (iR [oB 18 .add (iT 8) (iC 1),oT 8 18]))))))) (.seq (iR [oR 4 (.mov true false (iC (-1)))]) (.ret))) }
theorem ir51_ok:compF Tryz.prog [4,5,8] [] [] Tryz.f51=some ir51:=by kernel_rfl
def ir52:IFunc:={ takes:=[7,8,10,26],locals:=[9],muts:=[],nt:=66,np:=3,results:=[.tmp 6],body:=.seq (iR [oR 3 (.box 26 (iT 0)),oR 4 (.box 36 (iT 1)),oR 5 (.box 36 (iT 2)),oR 6 (.mov false false (.con (.bool false)))]) (.seq (.seq (iR [oR 7 (.mov true false (iC 0))]) (.block 0 (.loop (.seq (.seq (iR [oM 11 7,oA 12 0 3,oL 13 1 12,oN 14 13,oB 15 .lss (iT 11) (iT 14)]) (.cond (iT 15) (.skip) (.exit 0))) (.seq (.block 1 (.seq (iR [oH 3,oA 18 0 3,oH 18,oL 19 1 18,oM 20 7,oH 19,oX 21 6 19 20,oH 21,oA 22 0 21,oH 22,oG 23 3 22,oH 4,oG 24 3 4,oR 25 (.bin (.eql) (.flat [.i,.i,.i]) (iT 23) (iT 24)),oT 26 25,oP 26 true (.chk (.heap) (iT 4)),oQ 27 26 true (.load false true 3 (iT 4)),oP 26 true (.chk (.heap) (iT 5)),oQ 28 26 true (.load false true 3 (iT 5)),oQ 29 26 true (.bin (.eql) (.flat [.i,.i,.i]) (iT 27) (iT 28)),oR 30 (.pick (iT 26) (iT 29) (.con (.bool false)))]) (.cond (iT 30) (.seq (iR [oR 6 (.mov false false (.con (.bool true)))]) (.ret)) (.skip)))) (iR [oM 16 7,oB 17 .add (iT 16) (iC 1),oT 7 17])))))) (.seq (.seq (iR [oR 8 (.mov true false (iC 0))]) (.block 2 (.loop (.seq (.seq (iR [oM 31 8,oA 32 1 3,oL 33 1 32,oN 34 33,oB 35 .lss (iT 31) (iT 34)]) (.cond (iT 35) (.skip) (.exit 2))) (.seq (.block 3 (.seq (iR [oA 38 1 3,oL 39 1 38,oM 40 8,oX 41 31 39 40,oG 42 31 41,oR 9 (.allocL [iZ,iZ,iZ,iZ,iZ,iZ,iZ,.str [],iE,iZ,iZ,iZ,iZ,iE,iZ,iZ,iZ,iZ,iZ,iZ,iZ,iZ,iZ,iZ,iZ,iZ,iE,iE,iE,iZ,iE]),oS 31 9 42]) (.seq (.seq (iR [oA 43 4 9,oG 44 3 43,oG 45 3 5,oR 46 (.bin (.neq) (.flat [.i,.i,.i]) (iT 44) (iT 45))]) (.cond (iT 46) (.exit 3) (.skip))) (.seq (.seq (iR [oA 47 0 9,oG 48 3 47,oG 49 3 4,oR 50 (.bin (.eql) (.flat [.i,.i,.i]) (iT 48) (iT 49))]) (.cond (iT 50) (.seq (iR [oR 6 (.mov false false (.con (.bool true)))]) (.ret)) (.skip))) (.seq (iR [oR 10 (.mov true false (iC 0))]) (.block 4 (.loop (.seq (.seq (iR [oM 51 10,oA 52 8 9,oL 53 1 52,oN 54 53,oB 55 .lss (iT 51) (iT 54)]) (.cond (iT 55) (.skip) (.exit 4))) (.seq (.block 5 (.seq (.region true [oA 58 8 9,oL 59 1 58,oM 60 10,oX 61 11 59 60,oA 62 0 61,oG 63 3 62,oG 64 3 4,oR 65 (.bin (.eql) (.flat [.i,.i,.i]) (iT 63) (iT 64))]) (.cond (iT 65) (.seq (iR [oR 6 (.mov false false (.con (.bool true)))]) (.ret)) (.skip)))) (iR [oM 56 10,oB 57 .add (iT 56) (iC 1),oT 10 57])))))))))) (iR [oM 36 8,oB 37 .add (iT 36) (iC 1),oT 8 37])))))) (.seq (iR [oR 6 (.mov false false (.con (.bool false)))]) (.ret)))) }
theorem ir52_ok:compF Tryz.prog [7,8,10,26] [9] [] Tryz.f52=some ir52:=by kernel_rfl
def ir53:IFunc:={ takes:=[7,25,30,35],locals:=[8],muts:=[],nt:=41,np:=3,results:=[.tmp 6],body:=.seq (iR [oR 3 (.box 26 (iT 0)),oR 4 (.box 36 (iT 1)),oR 5 (.box 36 (iT 2)),oR 6 (.mov false false (.con (.bool false)))]) (.seq (.seq (iR [oR 7 (.mov true false (iC 0))]) (.block 0 (.loop (.seq (.seq (iR [oM 9 7,oA 10 1 3,oL 11 1 10,oN 12 11,oB 13 .lss (iT 9) (iT 12)]) (.cond (iT 13) (.skip) (.exit 0))) (.seq (.block 1 (.seq (iR [oA 16 1 3,oL 17 1 16,oM 18 7,oX 19 31 17 18,oG 20 31 19,oR 8 (.allocL [iZ,iZ,iZ,iZ,iZ,iZ,iZ,.str [],iE,iZ,iZ,iZ,iZ,iE,iZ,iZ,iZ,iZ,iZ,iZ,iZ,iZ,iZ,iZ,iZ,iZ,iE,iE,iE,iZ,iE]),oS 31 8 20]) (.seq (iR [oA 21 4 8,oG 22 3 21,oG 23 3 5,oR 24 (.bin (.eql) (.flat [.i,.i,.i]) (iT 22) (iT 23)),oT 25 24,oQ 26 25 true (.fieldAddr 3 (iT 8)),oQ 27 25 true (.load false false 1 (iT 26)),oQ 28 25 true (.bin (.neq) (.other) (iT 27) (iC 0)),oR 29 (.pick (iT 25) (iT 28) (.con (.bool false))),oT 30 29,oQ 31 30 true (.fieldAddr 3 (iT 8)),oQ 32 30 true (.load false false 1 (iT 31)),oQ 33 30 true (.bin (.neq) (.other) (iT 32) (iC 1)),oR 34 (.pick (iT 30) (iT 33) (.con (.bool false))),oT 35 34,oQ 36 35 true (.fieldAddr 14 (iT 8)),oQ 37 35 true (.load false true 15 (iT 36)),oQ 38 35 true (.load false true 3 (iT 4)),oQ 39 35 true (.call (.fn 69) [iT 37,iT 38]),oR 40 (.pick (iT 35) (iT 39) (.con (.bool false)))]) (.cond (iT 40) (.seq (iR [oR 6 (.mov false false (.con (.bool true)))]) (.ret)) (.skip))))) (iR [oM 14 7,oB 15 .add (iT 14) (iC 1),oT 7 15])))))) (.seq (iR [oR 6 (.mov false false (.con (.bool false)))]) (.ret))) }
theorem ir53_ok:compF Tryz.prog [7,25,30,35] [8] [] Tryz.f53=some ir53:=by kernel_rfl
def ir54:IFunc:={ takes:=[5,6],locals:=[],muts:=[],nt:=38,np:=2,results:=[.tmp 4],body:=.seq (iR [oR 2 (.box 26 (iT 0)),oR 3 (.box 36 (iT 1)),oR 4 (.mov false false (.con (.bool false)))]) (.seq (.seq (iR [oR 5 (.mov true false (iC 0))]) (.block 0 (.loop (.seq (.seq (iR [oM 7 5,oA 8 0 2,oL 9 1 8,oN 10 9,oB 11 .lss (iT 7) (iT 10)]) (.cond (iT 11) (.skip) (.exit 0))) (.seq (.block 1 (.seq (.region true [oA 14 0 2,oL 15 1 14,oM 16 5,oX 17 6 15 16,oA 18 0 17,oG 19 3 18,oG 20 3 3,oR 21 (.bin (.eql) (.flat [.i,.i,.i]) (iT 19) (iT 20))]) (.cond (iT 21) (.seq (iR [oR 4 (.mov false false (.con (.bool true)))]) (.ret)) (.skip)))) (iR [oM 12 5,oB 13 .add (iT 12) (iC 1),oT 5 13])))))) (.seq (.seq (iR [oR 6 (.mov true false (iC 0))]) (.block 2 (.loop (.seq (.seq (iR [oM 22 6,oA 23 1 2,oL 24 1 23,oN 25 24,oB 26 .lss (iT 22) (iT 25)]) (.cond (iT 26) (.skip) (.exit 2))) (.seq (.block 3 (.seq (.region true [oG 29 2 2,oG 30 3 3,oA 31 1 2,oL 32 1 31,oM 33 6,oX 34 31 32 33,oA 35 4 34,oG 36 3 35,oC 37 52 [iT 29,iT 30,iT 36]]) (.cond (iT 37) (.seq (iR [oR 4 (.mov false false (.con (.bool true)))]) (.ret)) (.skip)))) (iR [oM 27 6,oB 28 .add (iT 27) (iC 1),oT 6 28])))))) (.seq (iR [oR 4 (.mov false false (.con (.bool false)))]) (.ret)))) }
theorem ir54_ok:compF Tryz.prog [5,6] [] [] Tryz.f54=some ir54:=by kernel_rfl
def ir55:IFunc:={ takes:=[2,3,4,5,6,7,8,9,38],locals:=[],muts:=[],nt:=53,np:=1,results:=[.tmp 2,.tmp 3,.tmp 4],body:=.seq (iR [oR 2 (.mov true false (.con (.slice [] true))),oR 3 (.mov true false (.con (.str []))),oR 4 (.mov true false (iC 0))]) (.seq (.seq (iR [oM 10 0,oR 11 (.len (.str) (iT 10)),oB 12 .gtr (iT 11) (iC 8192)]) (.cond (iT 12) (.seq (iR [oR 2 (.mov true false (.con (.slice [] true))),oR 3 (.mov true false (.con (.str []))),oR 4 (.mov true false (iC 8192))]) (.ret)) (.skip))) (.seq (iR [oR 5 (.mov true false (.con (.slice [] true)))]) (.seq (iR [oR 6 (.mov true false (iC 0))]) (.seq (.skip) (.block 0 (.loop (.block 1 (.seq (iR [oM 13 0,oM 14 6,oR 15 (.slice (.str) (iT 13) (some (iT 14)) none none),oC 16 70 [iT 15],oT 7 16]) (.seq (iR [oM 17 0,oM 18 6,oM 19 6,oM 20 7,oB 21 .add (iT 19) (iT 20),oR 22 (.slice (.str) (iT 17) (some (iT 18)) (some (iT 21)) none),oT 8 22]) (.seq (iR [oM 23 6,oM 24 7,oB 25 .add (iT 23) (iT 24),oT 6 25]) (.seq (.seq (iR [oM 26 6,oM 27 0,oR 28 (.len (.str) (iT 27)),oB 29 .eql (iT 26) (iT 28)]) (.cond (iT 29) (.seq (iR [oM 30 5,oM 31 8,oT 2 30,oT 3 31,oR 4 (.mov true false (iC (-1)))]) (.ret)) (.skip))) (.seq (.seq (iR [oM 32 0,oM 33 6,oR 34 (.slice (.str) (iT 32) (some (iT 33)) none none),oC 35 71 [iT 34],oT 9 35]) (.seq (iR [oM 36 9,oB 37 .gtr (iT 36) (iC 0)]) (.cond (iT 37) (.seq (iR [oT 38 5,oM 39 0,oM 40 6,oM 41 6,oM 42 9,oB 43 .add (iT 41) (iT 42),oR 44 (.slice (.str) (iT 39) (some (iT 40)) (some (iT 43)) none),oM 45 8,oR 46 (.build [.str [],.str []] [(0,1,iT 44),(1,1,iT 45)]),oR 47 (.mkslice false 2 [[.str [],.str []]] [(0,iT 46)]),oR 48 (.append false false 2 32 (iT 38) (iT 47)),oT 5 48]) (.seq (iR [oM 49 6,oM 50 9,oB 51 .add (iT 49) (iT 50),oT 6 51]) (.exit 1))) (.skip)))) (.seq (iR [oM 52 6,oR 2 (.mov true false (.con (.slice [] true))),oR 3 (.mov true false (.con (.str []))),oT 4 52]) (.ret)))))))))))))) }
theorem ir55_ok:compF Tryz.prog [2,3,4,5,6,7,8,9,38] [] [] Tryz.f55=some ir55:=by kernel_rfl
def ir56:IFunc:={ takes:=[4,5,45,58],locals:=[2,3],muts:=[],nt:=69,np:=1,results:=[.cell 2 true 4],body:=.seq (iR [oR 2 (.allocL [.str [],.str [],iZ,iE])]) (.seq (iR [oM 6 0,oM 7 0,oC 8 74 [iT 7],oC 9 73 [iT 8],oC 10 72 [iT 6,iT 9],oR 11 (.build [.str [],.str [],iZ,iE] [(0,1,iT 10)]),oR 3 (.allocL [.str [],.str [],iZ,iE]),oS 4 3 11]) (.seq (.seq (iR [oM 12 0,oC 13 74 [iT 12],oB 14 .eql (iT 13) (.con (.str [105,110]))]) (.cond (iT 14) (.seq (iR [oM 15 0,oC 16 72 [iT 15,.con (.bool true)]]) (iR [oM 17 0,oM 18 0,oC 19 74 [iT 18],oC 20 75 [iT 19],oC 21 72 [iT 17,iT 20],oA 22 1 3,oS 1 22 21])) (.skip))) (.seq (iR [oM 23 0,oM 24 0,oC 25 74 [iT 24],oB 26 .eql (iT 25) (.con (.str [58])),oC 27 72 [iT 23,iT 26]]) (.seq (iR [oM 28 0,oC 29 76 [iT 28,iC 1,iC 8],oA 30 2 3,oS 1 30 29]) (.seq (iR [oM 31 0,oM 32 0,oC 33 74 [iT 32],oB 34 .eql (iT 33) (.con (.str [111,102])),oC 35 72 [iT 31,iT 34]]) (.seq (iR [oR 4 (.mov true false (iC 0))]) (.seq (.block 0 (.loop (.seq (.seq (iR [oM 36 0,oR 37 (.nilCheck (iT 36)),oA 38 1 37,oL 39 1 38,oR 40 (.un (.not) (iT 39))]) (.cond (iT 40) (.skip) (.exit 0))) (.block 1 (.seq (iR [oM 41 0,oM 42 4,oC 43 76 [iT 41,iT 42,iC 7],oT 5 43]) (.seq (iR [oA 44 3 3,oR 45 (.load true false 1 (iT 44)),oM 46 5,oR 47 (.mkslice false 1 [[iZ]] [(0,iT 46)]),oR 48 (.append false false 1 8 (iT 45) (iT 47)),oA 49 3 3,oS 1 49 48]) (.seq (iR [oM 50 5,oB 51 .add (iT 50) (iC 1),oT 4 51]) (.seq (.seq (iR [oA 52 3 3,oL 53 1 52,oN 54 53,oA 55 2 3,oL 56 1 55,oB 57 .geq (iT 54) (iT 56),oT 58 57,oQ 59 58 true (.mov false false (iT 0)),oQ 60 58 true (.call (.fn 74) [iT 59]),oQ 61 58 true (.bin (.neq) (.other) (iT 60) (.con (.str [44]))),oR 62 (.pick (iT 58) (iT 61) (.con (.bool false)))]) (.cond (iT 62) (.exit 0) (.skip))) (iR [oM 63 0,oM 64 0,oC 65 74 [iT 64],oB 66 .eql (iT 65) (.con (.str [44])),oC 67 72 [iT 63,iT 66]]))))))))) (.seq (iR [oG 68 4 3,oS 4 2 68]) (.ret))))))))) }
theorem ir56_ok:compF Tryz.prog [4,5,45,58] [2,3] [] Tryz.f56=some ir56:=by kernel_rfl
def ir57:IFunc:={ takes:=[4],locals:=[],muts:=[],nt:=9,np:=2,results:=[.tmp 4],body:=.seq (iR [oR 4 (.mov true false (.con (.bool false)))]) (.seq (iR [oM 5 0,oM 6 1,oC 7 77 [iT 5,iT 6],oB 8 .geq (iT 7) (iC 0),oT 4 8]) (.ret)) }
theorem ir57_ok:compF Tryz.prog [4] [] [] Tryz.f57=some ir57:=by kernel_rfl
def ir58:IFunc:={ takes:=[2,5,6,9,17,21,28,33,44,51,55,58],locals:=[4],muts:=[],nt:=74,np:=1,results:=[.tmp 2],body:=.seq (iR [oR 2 (.mov true false (.con (.bool false)))]) (.seq (.seq (iR [oM 7 0,oN 8 7,oR 9 (.mov true false (iC 0))]) (.block 0 (.loop (.seq (iR [oB 10 .lss (iT 9) (iT 8)]) (.seq (.cond (iT 10) (.skip) (.exit 0)) (.seq (.block 1 (.seq (iR [oX 11 4 7 9,oG 12 4 11,oR 4 (.allocL [.str [],.str [],iZ,iE]),oS 4 4 12]) (.seq (.seq (iR [oA 13 0 4,oL 14 1 13,oC 15 73 [iT 14],oR 16 (.un (.not) (iT 15)),oT 17 16,oQ 18 17 false (.fieldAddr 1 (iT 4)),oQ 19 17 false (.load false false 1 (iT 18)),oQ 20 17 false (.bin (.neq) (.other) (iT 19) (.con (.str []))),oQ 21 17 false (.mov true false (iT 20)),oQ 22 21 true (.fieldAddr 1 (iT 4)),oQ 23 21 true (.load false false 1 (iT 22)),oQ 24 21 true (.call (.fn 75) [iT 23]),oQ 25 21 true (.un (.not) (iT 24)),oQ 26 17 false (.pick (iT 21) (iT 25) (.con (.bool false))),oR 27 (.pick (iT 17) (.con (.bool true)) (iT 26)),oT 28 27,oQ 29 28 false (.fieldAddr 2 (iT 4)),oQ 30 28 false (.load false false 1 (iT 29)),oQ 31 28 false (.bin (.lss) (.other) (iT 30) (iC 1)),oR 32 (.pick (iT 28) (.con (.bool true)) (iT 31)),oT 33 32,oQ 34 33 false (.fieldAddr 2 (iT 4)),oQ 35 33 false (.load false false 1 (iT 34)),oQ 36 33 false (.fieldAddr 3 (iT 4)),oQ 37 33 false (.load false false 1 (iT 36)),oQ 38 33 false (.len (.sl) (iT 37)),oQ 39 33 false (.bin (.gtr) (.other) (iT 35) (iT 38)),oR 40 (.pick (iT 33) (.con (.bool true)) (iT 39))]) (.cond (iT 40) (.seq (iR [oR 2 (.mov true false (.con (.bool false)))]) (.ret)) (.skip))) (.seq (iR [oA 41 3 4,oL 42 1 41,oN 43 42,oR 44 (.mov true false (iC 0))]) (.block 2 (.loop (.seq (iR [oB 45 .lss (iT 44) (iT 43)]) (.seq (.cond (iT 45) (.skip) (.exit 2)) (.seq (.block 3 (.seq (iR [oM 46 44,oX 47 1 42 44,oL 48 1 47,oT 5 46,oT 6 48]) (.seq (iR [oM 49 6,oB 50 .lss (iT 49) (iC 0),oT 51 50,oQ 52 51 false (.mov false false (iT 6)),oQ 53 51 false (.bin (.geq) (.other) (iT 52) (iC 8)),oR 54 (.pick (iT 51) (.con (.bool true)) (iT 53)),oT 55 54,oQ 56 55 false (.mov false false (iT 5)),oQ 57 55 false (.bin (.gtr) (.other) (iT 56) (iC 0)),oQ 58 55 false (.mov true false (iT 57)),oQ 59 58 true (.mov false false (iT 6)),oQ 60 58 true (.fieldAddr 3 (iT 4)),oQ 61 58 true (.load false false 1 (iT 60)),oQ 62 58 true (.mov false false (iT 5)),oQ 63 58 true (.bin (.sub) (.other) (iT 62) (iC 1)),oQ 64 58 true (.ixSl 1 (iT 61) (iT 63)),oQ 65 58 true (.load false false 1 (iT 64)),oQ 66 58 true (.bin (.leq) (.other) (iT 59) (iT 65)),oQ 67 55 false (.pick (iT 58) (iT 66) (.con (.bool false))),oR 68 (.pick (iT 55) (.con (.bool true)) (iT 67))]) (.cond (iT 68) (.seq (iR [oR 2 (.mov true false (.con (.bool false)))]) (.ret)) (.skip))))) (iR [oB 69 .add (iT 44) (iC 1),oT 44 69])))))))))) (iR [oB 70 .add (iT 9) (iC 1),oT 9 70]))))))) (.seq (iR [oM 71 0,oN 72 71,oB 73 .leq (iT 72) (iC 64),oT 2 73]) (.ret))) }
theorem ir58_ok:compF Tryz.prog [2,5,6,9,17,21,28,33,44,51,55,58] [4] [] Tryz.f58=some ir58:=by kernel_rfl
def ir59:IFunc:={ takes:=[4,12],locals:=[],muts:=[],nt:=19,np:=2,results:=[.tmp 4,.tmp 5],body:=.seq (iR [oR 4 (.mov true false (iC 0)),oR 5 (.mov false false (.con (.niliface)))]) (.seq (iR [oM 6 0,oC 7 78 [iT 6]]) (.seq (iR [oM 8 0,oM 9 0,oR 10 (.nilCheck (iT 9)),oA 11 1 10,oR 12 (.load true false 1 (iT 11)),oM 13 1,oR 14 (.append true false 1 1 (iT 12) (iT 13)),oR 15 (.nilCheck (iT 8)),oA 16 1 15,oS 1 16 14]) (.seq (iR [oM 17 1,oR 18 (.len (.str) (iT 17)),oT 4 18,oR 5 (.mov false false (.con (.niliface)))]) (.ret)))) }
theorem ir59_ok:compF Tryz.prog [4,12] [] [] Tryz.f59=some ir59:=by kernel_rfl
def ir62:IFunc:={ takes:=[5,11,18],locals:=[],muts:=[],nt:=46,np:=2,results:=[.tmp 4],body:=.seq (iR [oR 2 (.box 40 (iT 0)),oR 3 (.box 40 (iT 1)),oR 4 (.mov false false (.con (.bool false)))]) (.seq (.seq (iR [oA 6 0 2,oL 7 1 6,oA 8 0 3,oL 9 1 8,oB 10 .neq (iT 7) (iT 9),oT 11 10,oQ 12 11 false (.fieldAddr 1 (iT 2)),oQ 13 11 false (.load false true 3 (iT 12)),oQ 14 11 false (.fieldAddr 1 (iT 3)),oQ 15 11 false (.load false true 3 (iT 14)),oQ 16 11 false (.bin (.neq) (.flat [.i,.i,.i]) (iT 13) (iT 15)),oR 17 (.pick (iT 11) (.con (.bool true)) (iT 16)),oT 18 17,oQ 19 18 false (.fieldAddr 4 (iT 2)),oQ 20 18 false (.load false false 1 (iT 19)),oQ 21 18 false (.len (.sl) (iT 20)),oQ 22 18 false (.fieldAddr 4 (iT 3)),oQ 23 18 false (.load false false 1 (iT 22)),oQ 24 18 false (.len (.sl) (iT 23)),oQ 25 18 false (.bin (.neq) (.other) (iT 21) (iT 24)),oR 26 (.pick (iT 18) (.con (.bool true)) (iT 25))]) (.cond (iT 26) (.seq (iR [oR 4 (.mov false false (.con (.bool false)))]) (.ret)) (.skip))) (.seq (.seq (iR [oR 5 (.mov true false (iC 0))]) (.block 0 (.loop (.seq (.seq (iR [oM 27 5,oA 28 4 2,oL 29 1 28,oN 30 29,oB 31 .lss (iT 27) (iT 30)]) (.cond (iT 31) (.skip) (.exit 0))) (.seq (.block 1 (.seq (.region true [oA 34 4 2,oL 35 1 34,oM 36 5,oX 37 5 35 36,oG 38 5 37,oA 39 4 3,oL 40 1 39,oM 41 5,oX 42 5 40 41,oG 43 5 42,oC 44 62 [iT 38,iT 43],oR 45 (.un (.not) (iT 44))]) (.cond (iT 45) (.seq (iR [oR 4 (.mov false false (.con (.bool false)))]) (.ret)) (.skip)))) (iR [oM 32 5,oB 33 .add (iT 32) (iC 1),oT 5 33])))))) (.seq (iR [oR 4 (.mov false false (.con (.bool true)))]) (.ret)))) }
theorem ir62_ok:compF Tryz.prog [5,11,18] [] [] Tryz.f62=some ir62:=by kernel_rfl
def ir63:IFunc:={ takes:=[6],locals:=[4],muts:=[],nt:=28,np:=2,results:=[.cell 4 true 31,.tmp 5],body:=.seq (iR [oR 2 (.box 26 (iT 0)),oR 3 (.box 36 (iT 1)),oR 4 (.allocL [iZ,iZ,iZ,iZ,iZ,iZ,iZ,.str [],iE,iZ,iZ,iZ,iZ,iE,iZ,iZ,iZ,iZ,iZ,iZ,iZ,iZ,iZ,iZ,iZ,iZ,iE,iE,iE,iZ,iE]),oR 5 (.mov false false (.con (.bool false)))]) (.seq (.seq (iR [oR 6 (.mov true false (iC 0))]) (.block 0 (.loop (.seq (.seq (iR [oM 7 6,oA 8 1 2,oL 9 1 8,oN 10 9,oB 11 .lss (iT 7) (iT 10)]) (.cond (iT 11) (.skip) (.exit 0))) (.seq (.block 1 (.seq (.region true [oA 14 1 2,oL 15 1 14,oM 16 6,oX 17 31 15 16,oA 18 0 17,oG 19 3 18,oG 20 3 3,oR 21 (.bin (.eql) (.flat [.i,.i,.i]) (iT 19) (iT 20))]) (.cond (iT 21) (.seq (iR [oA 22 1 2,oL 23 1 22,oM 24 6,oX 25 31 23 24,oG 26 31 25,oS 31 4 26,oR 5 (.mov false false (.con (.bool true)))]) (.ret)) (.skip)))) (iR [oM 12 6,oB 13 .add (iT 12) (iC 1),oT 6 13])))))) (.seq (iR [oR 27 (.build [iZ,iZ,iZ,iZ,iZ,iZ,iZ,.str [],iE,iZ,iZ,iZ,iZ,iE,iZ,iZ,iZ,iZ,iZ,iZ,iZ,iZ,iZ,iZ,iZ,iZ,iE,iE,iE,iZ,iE] []),oS 31 4 27,oR 5 (.mov false false (.con (.bool false)))]) (.ret))) }
theorem ir63_ok:compF Tryz.prog [6] [4] [] Tryz.f63=some ir63:=by kernel_rfl
def ir64:IFunc:={ takes:=[6,7,8,9,37],locals:=[],muts:=[],nt:=43,np:=3,results:=[.tmp 6],body:=.seq (iR [oR 6 (.mov true false (iC 0))]) (.seq (iR [oM 10 0,oR 11 (.nilCheck (iT 10)),oA 12 0 11,oA 13 1 12,oL 14 1 13,oN 15 14,oT 7 15]) (.seq (.seq (iR [oR 8 (.mov true false (iC 0))]) (.block 0 (.loop (.seq (.seq (iR [oM 16 8,oM 17 7,oB 18 .lss (iT 16) (iT 17)]) (.cond (iT 18) (.skip) (.exit 0))) (.seq (.block 1 (.seq (iR [oM 21 2,oM 22 8,oB 23 .add (iT 21) (iT 22),oM 24 7,oB 25 .rem (iT 23) (iT 24),oT 9 25]) (.seq (iR [oM 26 0,oR 27 (.nilCheck (iT 26)),oA 28 0 27,oA 29 1 28,oL 30 1 29,oM 31 9,oX 32 31 30 31,oA 33 3 32,oL 34 1 33,oM 35 1,oB 36 .eql (iT 34) (iT 35),oT 37 36,oQ 38 37 true (.mov false false (iT 0)),oQ 39 37 true (.mov false false (iT 9)),oQ 40 37 true (.call (.fn 65) [iT 38,iT 39]),oR 41 (.pick (iT 37) (iT 40) (.con (.bool false)))]) (.cond (iT 41) (.seq (iR [oM 42 9,oT 6 42]) (.ret)) (.skip))))) (iR [oM 19 8,oB 20 .add (iT 19) (iC 1),oT 8 20])))))) (.seq (iR [oR 6 (.mov true false (iC (-1)))]) (.ret)))) }
theorem ir64_ok:compF Tryz.prog [6,7,8,9,37] [] [] Tryz.f64=some ir64:=by kernel_rfl
def ir65:IFunc:={ takes:=[4,20,28],locals:=[5],muts:=[],nt:=42,np:=2,results:=[.tmp 4],body:=.seq (iR [oR 4 (.mov true false (.con (.bool false)))]) (.seq (iR [oM 6 0,oR 7 (.nilCheck (iT 6)),oA 8 0 7,oA 9 1 8,oL 10 1 9,oM 11 1,oX 12 31 10 11,oG 13 31 12,oR 5 (.allocL [iZ,iZ,iZ,iZ,iZ,iZ,iZ,.str [],iE,iZ,iZ,iZ,iZ,iE,iZ,iZ,iZ,iZ,iZ,iZ,iZ,iZ,iZ,iZ,iZ,iZ,iE,iE,iE,iZ,iE]),oS 31 5 13]) (.seq (iR [oM 14 1,oM 15 0,oH 15,oR 16 (.nilCheck (iT 15)),oH 16,oA 17 6 16,oH 17,oL 18 1 17,oB 19 .lss (iT 14) (iT 18),oT 20 19,oP 20 true (.chk (.frame 5) (iT 5)),oQ 21 20 true (.fieldAddr 4 (iT 5)),oP 20 true (.chk (.frame 5) (iT 21)),oQ 22 20 true (.load false true 3 (iT 21)),oQ 23 20 true (.mov false false (iT 0)),oP 20 true (.chk (.heap) (iT 23)),oQ 24 20 true (.nilCheck (iT 23)),oP 20 true (.chk (.heap) (iT 24)),oQ 25 20 true (.fieldAddr 7 (iT 24)),oP 20 true (.chk (.heap) (iT 25)),oQ 26 20 true (.load false true 3 (iT 25)),oQ 27 20 true (.bin (.eql) (.flat [.i,.i,.i]) (iT 22) (iT 26)),oQ 28 20 true (.mov true false (iT 27)),oP 28 false (.chk (.frame 5) (iT 5)),oQ 29 28 false (.fieldAddr 4 (iT 5)),oP 28 false (.chk (.frame 5) (iT 29)),oQ 30 28 false (.load false true 3 (iT 29)),oQ 31 28 false (.mov false false (iT 0)),oP 28 false (.chk (.heap) (iT 31)),oQ 32 28 false (.nilCheck (iT 31)),oP 28 false (.chk (.heap) (iT 32)),oQ 33 28 false (.fieldAddr 0 (iT 32)),oP 28 false (.chk (.heap) (iT 33)),oQ 34 28 false (.fieldAddr 0 (iT 33)),oP 28 false (.chk (.heap) (iT 34)),oQ 35 28 false (.load false false 1 (iT 34)),oP 28 false (.chk (.heap) (iT 35)),oQ 36 28 false (.ixSl 6 (iT 35) (iC 0)),oP 28 false (.chk (.heap) (iT 36)),oQ 37 28 false (.fieldAddr 0 (iT 36)),oP 28 false (.chk (.heap) (iT 37)),oQ 38 28 false (.load false true 3 (iT 37)),oQ 39 28 false (.bin (.eql) (.flat [.i,.i,.i]) (iT 30) (iT 38)),oQ 40 20 true (.pick (iT 28) (.con (.bool true)) (iT 39)),oR 41 (.pick (iT 20) (iT 40) (.con (.bool false))),oT 4 41]) (.ret))) }
theorem ir65_ok:compF Tryz.prog [4,20,28] [5] [] Tryz.f65=some ir65:=by kernel_rfl
def ir66:IFunc:={ takes:=[4,5,8],locals:=[],muts:=[],nt:=19,np:=2,results:=[.tmp 4],body:=.seq (iR [oR 4 (.mov true false (iC 0))]) (.seq (.seq (iR [oM 6 0,oN 7 6,oR 8 (.mov true false (iC 0))]) (.block 0 (.loop (.seq (iR [oB 9 .lss (iT 8) (iT 7)]) (.seq (.cond (iT 9) (.skip) (.exit 0)) (.seq (.block 1 (.seq (iR [oM 10 8,oT 5 10]) (.seq (iR [oM 11 1,oM 12 0,oM 13 5,oX 14 11 12 13,oG 15 11 14,oR 16 (.call (iT 11) [iT 15])]) (.cond (iT 16) (.seq (iR [oM 17 5,oT 4 17]) (.ret)) (.skip))))) (iR [oB 18 .add (iT 8) (iC 1),oT 8 18]))))))) (.seq (iR [oR 4 (.mov true false (iC (-1)))]) (.ret))) }
theorem ir66_ok:compF Tryz.prog [4,5,8] [] [] Tryz.f66=some ir66:=by kernel_rfl
def ir67:IFunc:={ takes:=[4],locals:=[],muts:=[],nt:=9,np:=2,results:=[.tmp 4],body:=.seq (iR [oR 4 (.mov true false (.con (.bool false)))]) (.seq (iR [oM 5 0,oM 6 1,oC 7 80 [iT 5,iT 6],oB 8 .geq (iT 7) (iC 0),oT 4 8]) (.ret)) }
theorem ir67_ok:compF Tryz.prog [4] [] [] Tryz.f67=some ir67:=by kernel_rfl
def ir68:IFunc:={ takes:=[3],locals:=[],muts:=[],nt:=7,np:=2,results:=[.tmp 3],body:=.seq (iR [oR 2 (.box 61 (iT 0)),oR 3 (.mov true false (.con (.bool false)))]) (.seq (iR [oG 4 15 2,oG 5 3 1,oC 6 50 [iT 4,iT 5],oT 3 6]) (.ret)) }
theorem ir68_ok:compF Tryz.prog [3] [] [] Tryz.f68=some ir68:=by kernel_rfl
def ir69:IFunc:={ takes:=[5],locals:=[],muts:=[],nt:=24,np:=2,results:=[.tmp 4],body:=.seq (iR [oR 2 (.box 61 (iT 0)),oR 3 (.box 36 (iT 1)),oR 4 (.mov false false (.con (.bool false)))]) (.seq (.seq (iR [oA 6 0 2,oG 7 3 6,oG 8 3 3,oR 9 (.bin (.eql) (.flat [.i,.i,.i]) (iT 7) (iT 8))]) (.cond (iT 9) (.seq (iR [oR 4 (.mov false false (.con (.bool true)))]) (.ret)) (.skip))) (.seq (.seq (iR [oR 5 (.mov true false (iC 0))]) (.block 0 (.loop (.seq (.seq (iR [oM 10 5,oA 11 13 2,oL 12 1 11,oN 13 12,oB 14 .lss (iT 10) (iT 13)]) (.cond (iT 14) (.skip) (.exit 0))) (.seq (.block 1 (.seq (.region true [oA 17 13 2,oL 18 1 17,oM 19 5,oX 20 15 18 19,oG 21 15 20,oG 22 3 3,oC 23 69 [iT 21,iT 22]]) (.cond (iT 23) (.seq (iR [oR 4 (.mov false false (.con (.bool true)))]) (.ret)) (.skip)))) (iR [oM 15 5,oB 16 .add (iT 15) (iC 1),oT 5 16])))))) (.seq (iR [oR 4 (.mov false false (.con (.bool false)))]) (.ret)))) }
theorem ir69_ok:compF Tryz.prog [5] [] [] Tryz.f69=some ir69:=by kernel_rfl
def ir70:IFunc:={ takes:=[2,3,4,13,18],locals:=[],muts:=[],nt:=32,np:=1,results:=[.tmp 2],body:=.seq (iR [oR 2 (.mov true false (iC 0))]) (.seq (iR [oR 3 (.mov true false (iC 0))]) (.seq (.block 0 (.loop (.seq (.seq (iR [oM 5 3,oM 6 0,oR 7 (.len (.str) (iT 6)),oB 8 .lss (iT 5) (iT 7)]) (.cond (iT 8) (.skip) (.exit 0))) (.block 1 (.seq (iR [oM 9 0,oM 10 3,oR 11 (.indexStr (iT 9) (iT 10))]) (.block 2 (.seq (.seq (iR [oB 14 .eql (iT 11) (.con (.int (IntKind.u8) 32)),oT 13 14]) (.cond (iT 13) (.skip) (iR [oB 15 .eql (iT 11) (.con (.int (IntKind.u8) 10)),oT 13 15]))) (.cond (iT 13) (iR [oM 16 3,oB 17 .add (iT 16) (iC 1),oT 3 17]) (.seq (iR [oB 19 .eql (iT 11) (.con (.int (IntKind.u8) 35)),oT 18 19]) (.cond (iT 18) (.seq (iR [oM 20 0,oM 21 3,oR 22 (.slice (.str) (iT 20) (some (iT 21)) none none),oC 23 81 [iT 22,.con (.int (IntKind.u8) 10)],oT 4 23]) (.seq (.seq (iR [oM 24 4,oB 25 .lss (iT 24) (iC 0)]) (.cond (iT 25) (.seq (iR [oM 26 0,oR 27 (.len (.str) (iT 26)),oT 2 27]) (.ret)) (.skip))) (iR [oM 28 3,oM 29 4,oB 30 .add (iT 28) (iT 29),oT 3 30]))) (.seq (iR [oM 12 3,oT 2 12]) (.ret)))))))))))) (.seq (iR [oM 31 3,oT 2 31]) (.ret)))) }
theorem ir70_ok:compF Tryz.prog [2,3,4,13,18] [] [] Tryz.f70=some ir70:=by kernel_rfl
def ir71:IFunc:={ takes:=[2,5,7,9,22,37],locals:=[4],muts:=[],nt:=46,np:=1,results:=[.tmp 2],body:=.seq (iR [oR 2 (.mov true false (iC 0))]) (.seq (.seq (iR [oR 8 (.load false true 4 (.glob 1)),oR 9 (.mov true false (iC 0))]) (.block 0 (.loop (.seq (iR [oB 10 .lss (iT 9) (iC 2)]) (.seq (.cond (iT 10) (.skip) (.exit 0)) (.seq (.block 1 (.seq (iR [oR 11 (.index true 2 2 (iT 8) (iT 9)),oR 4 (.allocL [.nilfunc,.nilfunc]),oS 2 4 11]) (.seq (.seq (.region true [oR 12 (.ixArr 2 1 (iT 4) (iC 0)),oL 13 1 12,oM 14 0,oR 15 (.indexStr (iT 14) (iC 0)),oR 16 (.call (iT 13) [iT 15]),oR 17 (.un (.not) (iT 16))]) (.cond (iT 17) (.exit 1) (.skip))) (.seq (iR [oR 5 (.mov true false (iC 1))]) (.seq (.block 2 (.loop (.seq (.seq (iR [oM 18 5,oM 19 0,oH 19,oR 20 (.len (.str) (iT 19)),oB 21 .lss (iT 18) (iT 20),oT 22 21,oP 22 true (.chk (.frame 4) (iT 4)),oQ 23 22 true (.ixArr 2 1 (iT 4) (iC 1)),oP 22 true (.chk (.frame 4) (iT 23)),oQ 24 22 true (.load false false 1 (iT 23)),oQ 25 22 true (.mov false false (iT 0)),oQ 26 22 true (.mov false false (iT 5)),oQ 27 22 true (.indexStr (iT 25) (iT 26)),oQ 28 22 true (.call (iT 24) [iT 27]),oR 29 (.pick (iT 22) (iT 28) (.con (.bool false)))]) (.cond (iT 29) (.skip) (.exit 2))) (.block 3 (iR [oM 30 5,oB 31 .add (iT 30) (iC 1),oT 5 31]))))) (.seq (.seq (iR [oM 32 5,oB 33 .gtr (iT 32) (iC 16)]) (.cond (iT 33) (.seq (iR [oR 2 (.mov true false (iC 0))]) (.ret)) (.skip))) (.seq (iR [oM 34 5,oT 2 34]) (.ret)))))))) (iR [oB 35 .add (iT 9) (iC 1),oT 9 35]))))))) (.seq (.seq (iR [oR 36 (.load false true 18 (.glob 2)),oR 37 (.mov true false (iC 0))]) (.block 4 (.loop (.seq (iR [oB 38 .lss (iT 37) (iC 18)]) (.seq (.cond (iT 38) (.skip) (.exit 4)) (.seq (.block 5 (.seq (iR [oR 39 (.index false 18 1 (iT 36) (iT 37)),oT 7 39]) (.seq (iR [oM 40 0,oM 41 7,oC 42 82 [iT 40,iT 41]]) (.cond (iT 42) (.seq (iR [oM 43 7,oR 44 (.len (.str) (iT 43)),oT 2 44]) (.ret)) (.skip))))) (iR [oB 45 .add (iT 37) (iC 1),oT 37 45]))))))) (.seq (iR [oR 2 (.mov true false (iC 0))]) (.ret)))) }
theorem ir71_ok:compF Tryz.prog [2,5,7,9,22,37] [4] [] Tryz.f71=some ir71:=by kernel_rfl
def ir72:IFunc:={ takes:=[4,5,12,16],locals:=[],muts:=[],nt:=32,np:=2,results:=[.tmp 4],body:=.seq (iR [oR 4 (.mov true false (.con (.str [])))]) (.seq (iR [oM 6 0,oC 7 74 [iT 6],oT 5 7]) (.seq (.seq (iR [oM 8 0,oR 9 (.nilCheck (iT 8)),oA 10 1 9,oL 11 1 10,oT 12 11,oQ 13 12 false (.mov false false (iT 1)),oQ 14 12 false (.un (.not) (iT 13)),oR 15 (.pick (iT 12) (.con (.bool true)) (iT 14)),oT 16 15,oQ 17 16 false (.mov false false (iT 5)),oQ 18 16 false (.bin (.eql) (.other) (iT 17) (.con (.str []))),oR 19 (.pick (iT 16) (.con (.bool true)) (iT 18))]) (.cond (iT 19) (.seq (iR [oM 20 0,oR 21 (.nilCheck (iT 20)),oA 22 1 21,oK (.store 1 (iT 22) (.con (.bool true)))]) (.seq (iR [oR 4 (.mov true false (.con (.str [])))]) (.ret))) (.skip))) (.seq (iR [oM 23 0,oM 24 0,oR 25 (.nilCheck (iT 24)),oA 26 0 25,oL 27 1 26,oR 28 (.slice (.sl 2) (iT 27) (some (iC 1)) none none),oR 29 (.nilCheck (iT 23)),oA 30 0 29,oS 1 30 28]) (.seq (iR [oM 31 5,oT 4 31]) (.ret))))) }
theorem ir72_ok:compF Tryz.prog [4,5,12,16] [] [] Tryz.f72=some ir72:=by kernel_rfl
def ir73:IFunc:={ takes:=[2,5,8],locals:=[],muts:=[],nt:=14,np:=1,results:=[.tmp 2],body:=.seq (iR [oR 2 (.mov true false (.con (.bool false)))]) (.seq (iR [oM 3 0,oB 4 .eql (iT 3) (.con (.str [97,110,121])),oT 5 4,oQ 6 5 false (.mov false false (iT 0)),oQ 7 5 false (.bin (.neq) (.other) (iT 6) (.con (.str []))),oQ 8 5 false (.mov true false (iT 7)),oQ 9 8 true (.slice (.arr 14 1) (.glob 0) none none none),oQ 10 8 true (.mov false false (iT 0)),oQ 11 8 true (.call (.fn 83) [iT 9,iT 10]),oQ 12 5 false (.pick (iT 8) (iT 11) (.con (.bool false))),oR 13 (.pick (iT 5) (.con (.bool true)) (iT 12)),oT 2 13]) (.ret)) }
theorem ir73_ok:compF Tryz.prog [2,5,8] [] [] Tryz.f73=some ir73:=by kernel_rfl
def ir74:IFunc:={ takes:=[2],locals:=[],muts:=[],nt:=16,np:=1,results:=[.tmp 2],body:=.seq (iR [oR 2 (.mov true false (.con (.str [])))]) (.seq (.seq (iR [oM 3 0,oR 4 (.nilCheck (iT 3)),oA 5 0 4,oL 6 1 5,oN 7 6,oB 8 .eql (iT 7) (iC 0)]) (.cond (iT 8) (.seq (iR [oR 2 (.mov true false (.con (.str [])))]) (.ret)) (.skip))) (.seq (iR [oM 9 0,oR 10 (.nilCheck (iT 9)),oA 11 0 10,oL 12 1 11,oR 13 (.ixSl 2 (iT 12) (iC 0)),oA 14 0 13,oL 15 1 14,oT 2 15]) (.ret))) }
theorem ir74_ok:compF Tryz.prog [2] [] [] Tryz.f74=some ir74:=by kernel_rfl
def ir75:IFunc:={ takes:=[2,5,10,17],locals:=[],muts:=[],nt:=23,np:=1,results:=[.tmp 2],body:=.seq (iR [oR 2 (.mov true false (.con (.bool false)))]) (.seq (iR [oM 3 0,oB 4 .neq (iT 3) (.con (.str [])),oT 5 4,oQ 6 5 true (.mov false false (iT 0)),oQ 7 5 true (.indexStr (iT 6) (iC 0)),oQ 8 5 true (.call (.fn 84) [iT 7]),oR 9 (.pick (iT 5) (iT 8) (.con (.bool false))),oT 10 9,oQ 11 10 true (.mov false false (iT 0)),oQ 12 10 true (.call (.fn 71) [iT 11]),oQ 13 10 true (.mov false false (iT 0)),oQ 14 10 true (.len (.str) (iT 13)),oQ 15 10 true (.bin (.eql) (.other) (iT 12) (iT 14)),oR 16 (.pick (iT 10) (iT 15) (.con (.bool false))),oT 17 16,oQ 18 17 true (.slice (.arr 27 1) (.glob 3) none none none),oQ 19 17 true (.mov false false (iT 0)),oQ 20 17 true (.call (.fn 83) [iT 18,iT 19]),oQ 21 17 true (.un (.not) (iT 20)),oR 22 (.pick (iT 17) (iT 21) (.con (.bool false))),oT 2 22]) (.ret)) }
theorem ir75_ok:compF Tryz.prog [2,5,10,17] [] [] Tryz.f75=some ir75:=by kernel_rfl
def ir76:IFunc:={ takes:=[6,7,8,9,18,25,30],locals:=[],muts:=[],nt:=37,np:=3,results:=[.tmp 6],body:=.seq (iR [oR 6 (.mov true false (iC 0))]) (.seq (iR [oM 10 0,oC 11 74 [iT 10],oC 12 85 [iT 11],oT 9 12,oR 13 (.extract (iT 9) 0),oR 14 (.extract (iT 9) 1),oT 7 13,oT 8 14]) (.seq (iR [oM 15 0,oM 16 8,oR 17 (.bin (.eql) (.iface) (iT 16) (.con (.niliface))),oT 18 17,oQ 19 18 true (.mov false false (iT 7)),oQ 20 18 true (.call (.fn 60) [iT 19]),oQ 21 18 true (.mov false false (iT 0)),oQ 22 18 true (.call (.fn 74) [iT 21]),oQ 23 18 true (.bin (.eql) (.other) (iT 20) (iT 22)),oR 24 (.pick (iT 18) (iT 23) (.con (.bool false))),oT 25 24,oQ 26 25 true (.mov false false (iT 7)),oQ 27 25 true (.mov false false (iT 1)),oQ 28 25 true (.bin (.geq) (.other) (iT 26) (iT 27)),oR 29 (.pick (iT 25) (iT 28) (.con (.bool false))),oT 30 29,oQ 31 30 true (.mov false false (iT 7)),oQ 32 30 true (.mov false false (iT 2)),oQ 33 30 true (.bin (.leq) (.other) (iT 31) (iT 32)),oR 34 (.pick (iT 30) (iT 33) (.con (.bool false))),oC 35 72 [iT 15,iT 34]]) (.seq (iR [oM 36 7,oT 6 36]) (.ret)))) }
theorem ir76_ok:compF Tryz.prog [6,7,8,9,18,25,30] [] [] Tryz.f76=some ir76:=by kernel_rfl
def ir77:IFunc:={ takes:=[4,5,8],locals:=[],muts:=[],nt:=19,np:=2,results:=[.tmp 4],body:=.seq (iR [oR 4 (.mov true false (iC 0))]) (.seq (.seq (iR [oM 6 0,oN 7 6,oR 8 (.mov true false (iC 0))]) (.block 0 (.loop (.seq (iR [oB 9 .lss (iT 8) (iT 7)]) (.seq (.cond (iT 9) (.skip) (.exit 0)) (.seq (.block 1 (.seq (iR [oM 10 8,oT 5 10]) (.seq (iR [oM 11 1,oM 12 0,oM 13 5,oX 14 1 12 13,oL 15 1 14,oB 16 .eql (iT 11) (iT 15)]) (.cond (iT 16) (.seq (iR [oM 17 5,oT 4 17]) (.ret)) (.skip))))) (iR [oB 18 .add (iT 8) (iC 1),oT 8 18]))))))) (.seq (iR [oR 4 (.mov true false (iC (-1)))]) (.ret))) }
theorem ir77_ok:compF Tryz.prog [4,5,8] [] [] Tryz.f77=some ir77:=by kernel_rfl
def ir80:IFunc:={ takes:=[4,5,8],locals:=[],muts:=[],nt:=19,np:=2,results:=[.tmp 4],body:=.seq (iR [oR 4 (.mov true false (iC 0))]) (.seq (.seq (iR [oM 6 0,oN 7 6,oR 8 (.mov true false (iC 0))]) (.block 0 (.loop (.seq (iR [oB 9 .lss (iT 8) (iT 7)]) (.seq (.cond (iT 9) (.skip) (.exit 0)) (.seq (.block 1 (.seq (iR [oM 10 8,oT 5 10]) (.seq (iR [oM 11 1,oM 12 0,oM 13 5,oX 14 15 12 13,oG 15 15 14,oR 16 (.call (iT 11) [iT 15])]) (.cond (iT 16) (.seq (iR [oM 17 5,oT 4 17]) (.ret)) (.skip))))) (iR [oB 18 .add (iT 8) (iC 1),oT 8 18]))))))) (.seq (iR [oR 4 (.mov true false (iC (-1)))]) (.ret))) }
theorem ir80_ok:compF Tryz.prog [4,5,8] [] [] Tryz.f80=some ir80:=by kernel_rfl
def ir82:IFunc:={ takes:=[4],locals:=[],muts:=[],nt:=8,np:=2,results:=[.tmp 4],body:=.seq (iR [oR 4 (.mov true false (.con (.bool false)))]) (.seq (iR [oM 5 0,oM 6 1,oC 7 89 [iT 5,iT 6],oT 4 7]) (.ret)) }
theorem ir82_ok:compF Tryz.prog [4] [] [] Tryz.f82=some ir82:=by kernel_rfl
def ir83:IFunc:={ takes:=[4],locals:=[],muts:=[],nt:=9,np:=2,results:=[.tmp 4],body:=.seq (iR [oR 4 (.mov true false (.con (.bool false)))]) (.seq (iR [oM 5 0,oM 6 1,oC 7 90 [iT 5,iT 6],oB 8 .geq (iT 7) (iC 0),oT 4 8]) (.ret)) }
theorem ir83_ok:compF Tryz.prog [4] [] [] Tryz.f83=some ir83:=by kernel_rfl
def ir84:IFunc:={ takes:=[2,5,9,12],locals:=[],muts:=[],nt:=17,np:=1,results:=[.tmp 2],body:=.seq (iR [oR 2 (.mov true false (.con (.bool false)))]) (.seq (iR [oM 3 0,oB 4 .geq (iT 3) (.con (.int (IntKind.u8) 97)),oT 5 4,oQ 6 5 true (.mov false false (iT 0)),oQ 7 5 true (.bin (.leq) (.other) (iT 6) (.con (.int (IntKind.u8) 122))),oR 8 (.pick (iT 5) (iT 7) (.con (.bool false))),oT 9 8,oQ 10 9 false (.mov false false (iT 0)),oQ 11 9 false (.bin (.geq) (.other) (iT 10) (.con (.int (IntKind.u8) 65))),oQ 12 9 false (.mov true false (iT 11)),oQ 13 12 true (.mov false false (iT 0)),oQ 14 12 true (.bin (.leq) (.other) (iT 13) (.con (.int (IntKind.u8) 90))),oQ 15 9 false (.pick (iT 12) (iT 14) (.con (.bool false))),oR 16 (.pick (iT 9) (.con (.bool true)) (iT 15)),oT 2 16]) (.ret)) }
theorem ir84_ok:compF Tryz.prog [2,5,9,12] [] [] Tryz.f84=some ir84:=by kernel_rfl
def ir89:IFunc:={ takes:=[4,10],locals:=[],muts:=[],nt:=18,np:=2,results:=[.tmp 4],body:=.seq (iR [oR 4 (.mov true false (.con (.bool false)))]) (.seq (iR [oM 5 0,oR 6 (.len (.str) (iT 5)),oM 7 1,oR 8 (.len (.str) (iT 7)),oB 9 .geq (iT 6) (iT 8),oT 10 9,oQ 11 10 true (.mov false false (iT 0)),oQ 12 10 true (.mov false false (iT 1)),oQ 13 10 true (.len (.str) (iT 12)),oQ 14 10 true (.slice (.str) (iT 11) none (some (iT 13)) none),oQ 15 10 true (.mov false false (iT 1)),oQ 16 10 true (.bin (.eql) (.other) (iT 14) (iT 15)),oR 17 (.pick (iT 10) (iT 16) (.con (.bool false))),oT 4 17]) (.ret)) }
theorem ir89_ok:compF Tryz.prog [4,10] [] [] Tryz.f89=some ir89:=by kernel_rfl
def ir90:IFunc:={ takes:=[4,5,8],locals:=[],muts:=[],nt:=19,np:=2,results:=[.tmp 4],body:=.seq (iR [oR 4 (.mov true false (iC 0))]) (.seq (.seq (iR [oM 6 0,oN 7 6,oR 8 (.mov true false (iC 0))]) (.block 0 (.loop (.seq (iR [oB 9 .lss (iT 8) (iT 7)]) (.seq (.cond (iT 9) (.skip) (.exit 0)) (.seq (.block 1 (.seq (iR [oM 10 8,oT 5 10]) (.seq (iR [oM 11 1,oM 12 0,oM 13 5,oX 14 1 12 13,oL 15 1 14,oB 16 .eql (iT 11) (iT 15)]) (.cond (iT 16) (.seq (iR [oM 17 5,oT 4 17]) (.ret)) (.skip))))) (iR [oB 18 .add (iT 8) (iC 1),oT 8 18]))))))) (.seq (iR [oR 4 (.mov true false (iC (-1)))]) (.ret))) }
theorem ir90_ok:compF Tryz.prog [4,5,8] [] [] Tryz.f90=some ir90:=by kernel_rfl
def ir135:IFunc:={ takes:=[2,5],locals:=[],muts:=[],nt:=9,np:=1,results:=[.tmp 2],body:=.seq (iR [oR 2 (.mov true false (.con (.bool false)))]) (.seq (iR [oM 3 0,oC 4 84 [iT 3],oT 5 4,oQ 6 5 false (.mov false false (iT 0)),oQ 7 5 false (.call (.fn 136) [iT 6]),oR 8 (.pick (iT 5) (.con (.bool true)) (iT 7)),oT 2 8]) (.ret)) }
theorem ir135_ok:compF Tryz.prog [2,5] [] [] Tryz.f135=some ir135:=by kernel_rfl
def ir136:IFunc:={ takes:=[2,5],locals:=[],muts:=[],nt:=9,np:=1,results:=[.tmp 2],body:=.seq (iR [oR 2 (.mov true false (.con (.bool false)))]) (.seq (iR [oM 3 0,oB 4 .geq (iT 3) (.con (.int (IntKind.u8) 48)),oT 5 4,oQ 6 5 true (.mov false false (iT 0)),oQ 7 5 true (.bin (.leq) (.other) (iT 6) (.con (.int (IntKind.u8) 57))),oR 8 (.pick (iT 5) (iT 7) (.con (.bool false))),oT 2 8]) (.ret)) }
theorem ir136_ok:compF Tryz.prog [2,5] [] [] Tryz.f136=some ir136:=by kernel_rfl
end Go.Proofs.YtemfofdaemgjgaaGreatDoor
end
section
namespace Go.Proofs.YtemfofdaemgjgaaGreatDoor
open Go Go.Abs Go.Proofs
def digitsF:Nat→Nat→List UInt8→List UInt8
 | 0,_,acc=>acc
 | f+1,n,acc=>cond (Nat.blt n 10) (UInt8.ofNat (48+n) :: acc) (digitsF f (n / 10) (UInt8.ofNat (48+n % 10) :: acc))
def itoaF (n:Int):List UInt8 :=
 match n with
 | .ofNat k=>digitsF (k+1) k []
 | .negSucc k=>45 :: digitsF (k+2) (k+1) []
def indexF (c:Int):Nat→List UInt8→Int
 | _,[]=>-1
 | k,b :: r=>cond (decide ((b.toNat:Int)=c)) k (indexF c (k+1) r)
def intsOf:List (List AV)→Option (List Int)
 | []=>some []
 | [.int .i64 n] :: r=>(intsOf r).map (n :: ·)
 | _=>none
def others (author:Int):List Int→List Int
 | []=>[]
 | x :: r=>cond (decide (x=author) || r.elem x) (others author r) (x :: others author r)
def ruleOf:List AV→Option (Int × List Int)
 | [.str _,.str _,.int .i64 n,.slice ws _]=>(intsOf ws).bind fun xs=>cond (Nat.ble xs.length 4611686018427387904) (some (n,xs)) none
 | _=>none
def rulesOf:List (List AV)→Option (List (Int × List Int))
 | []=>some []
 | r :: rs=>(ruleOf r).bind fun x=>(rulesOf rs).map fun l=>x :: l
def met (others:List Int) (r:Int × List Int):Bool:=decide (r.1≤(((others.filter fun x=>r.2.elem x).length:Nat):Int))
def all64 (l:List Int):Bool:=l.all fun n=>decide (-9223372036854775808≤n)&&decide (n≤9223372036854775807)
def ovEnough (args:List AV) (_:AHeap):Option (AV × Option Chg) :=
 match args with
 | [.slice l _,.int .i64 author,.slice who _]=>(intsOf who).bind fun ws=>(rulesOf l).bind fun rs =>
  cond (Nat.ble ws.length 4611686018427387904&&Nat.ble rs.length 4611686018427387904&&all64 ws) (some (.bool (rs.all (met (others author ws))),none)) none
 | _=>none
def ovItoa (args:List AV) (_:AHeap):Option (AV × Option Chg) :=
 match args with
 | [.int .i64 n]=>cond (decide (-9223372036854775808≤n)&&decide (n≤9223372036854775807)) (some (.str (itoaF n),none)) none
 | _=>none
def ovAtoi (args:List AV) (_:AHeap):Option (AV × Option Chg) :=
 match args with
 | [.str l]=>cond (Nat.ble l.length 281474976710656) (match Lib.atoiAll l with
  | .ok v=>some (.tuple [.int .i64 v,.niliface],none)
  | .range=>some (.tuple [.int .i64 (Lib.atoiSat l),.iface 166 .any],none)
  | _=>some (.tuple [.int .i64 0,.iface 166 .any],none)) none
 | _=>none
def ovIndexByte (args:List AV) (_:AHeap):Option (AV × Option Chg) :=
 match args with
 | [.str l,.int .u8 c]=>cond (decide (0≤c)&&decide (c<256)) (some (.int .i64 (indexF c 0 l),none)) none
 | _=>none
def byteRange (e:List (List AV)):Bool:=e.all fun r=>match r with|[.int .u8 n]=>decide (0≤n)&&decide (n<256)|_=>false
def ovString (args:List AV) (H:AHeap):Option (AV × Option Chg) :=
 match args with
 | [.ref l 0]=>match H[l]? with
  | some (.box 125 [_,.slice e true])=>cond (Nat.ble e.length 4611686018427387904&&byteRange e) ((bytesOf e).map fun b=>(.str b,none)) none
  | _=>none
 | _=>none
def ovCopyCheck (args:List AV) (H:AHeap):Option (AV × Option Chg) :=
 match args with
 | [.ref l 0]=>match H[l]? with
  | some (.box 125 [.nilptr,x])=>some (.undef,some ⟨H.set l (.box 125 [.ref l 0,x]),l⟩)
  | some (.box 125 [.ref l' 0,_])=>cond (Nat.beq l l') (some (.undef,none)) none
  | _=>none
 | _=>none
def ovClone (args:List AV) (_:AHeap):Option (AV × Option Chg) :=
 match args with
 | [.slice e false]=>(intsOf e).bind fun xs=>cond (Nat.ble xs.length 1000000000000) (some (.slice e false,none)) none
 | _=>none
def ov:FuncId→Option (List AV→AHeap→Option (AV × Option Chg))
 | 27=>some ovClone
 | 30=>some ovEnough
 | 60=>some ovItoa
 | 61=>some ovString
 | 78=>some ovCopyCheck
 | 81=>some ovIndexByte
 | 85=>some ovAtoi
 | _=>none
def fns:FuncId→Option IFunc
 | 3=>some ir3
 | 4=>some ir4
 | 5=>some ir5
 | 6=>some ir6
 | 7=>some ir7
 | 8=>some ir8
 | 9=>some ir9
 | 10=>some ir10
 | 11=>some ir11
 | 12=>some ir12
 | 13=>some ir13
 | 14=>some ir14
 | 15=>some ir15
 | 16=>some ir16
 | 17=>some ir17
 | 18=>some ir18
 | 19=>some ir19
 | 20=>some ir20
 | 21=>some ir21
 | 22=>some ir22
 | 23=>some ir23
 | 24=>some ir24
 | 25=>some ir25
 | 26=>some ir26
 | 28=>some ir28
 | 29=>some ir29
 | 31=>some ir31
 | 32=>some ir32
 | 33=>some ir33
 | 34=>some ir34
 | 35=>some ir35
 | 36=>some ir36
 | 37=>some ir37
 | 38=>some ir38
 | 39=>some ir39
 | 40=>some ir40
 | 41=>some ir41
 | 42=>some ir42
 | 43=>some ir43
 | 44=>some ir44
 | 45=>some ir45
 | 46=>some ir46
 | 47=>some ir47
 | 48=>some ir48
 | 49=>some ir49
 | 50=>some ir50
 | 51=>some ir51
 | 52=>some ir52
 | 53=>some ir53
 | 54=>some ir54
 | 55=>some ir55
 | 56=>some ir56
 | 57=>some ir57
 | 58=>some ir58
 | 59=>some ir59
 | 62=>some ir62
 | 63=>some ir63
 | 64=>some ir64
 | 65=>some ir65
 | 66=>some ir66
 | 67=>some ir67
 | 68=>some ir68
 | 69=>some ir69
 | 70=>some ir70
 | 71=>some ir71
 | 72=>some ir72
 | 73=>some ir73
 | 74=>some ir74
 | 75=>some ir75
 | 76=>some ir76
 | 77=>some ir77
 | 80=>some ir80
 | 82=>some ir82
 | 83=>some ir83
 | 84=>some ir84
 | 89=>some ir89
 | 90=>some ir90
 | 135=>some ir135
 | 136=>some ir136
 | _=>none
def teErr:TypeId:=183
def kindsS:List (List UInt8):=[[109,97,107,101],[109,97,107,101],[109,97,107,101],[116,121,112,101],[98,111,100,121],[110,97,109,101],[109,111,118,101],[109,111,118,101],[109,97,107,101],[116,121,112,101],[116,121,112,101],[98,111,100,121],[98,111,100,121],[108,97,121,111,117,116]]
def keywordsS:List (List UInt8):=[[109,111,100,117,108,101],[117,115,101],[114,101,99],[99,97,115,101],[102,117,110],[111,110],[116,101,115,116],[99,111,110,118],[116,114,117,101],[102,97,108,115,101],[110,111,116],[97,110,100],[111,114],[105,102],[116,104,101,110],[101,108,115,101],[108,101,116],[105,110],[109,97,116,99,104],[102,111,108,100],[111,118,101,114],[100,111],[108,101,110],[106,111,105,110],[76,105,115,116],[73,110,116],[66,111,111,108]]
def signsS:List (List UInt8):=[[61,61],[45,62],[40],[41],[123],[125],[91],[93],[44],[58],[46],[61],[43],[45],[42],[47],[37],[60]]
def tab:Nat→List AV
 | 0=>kindsS.map .str
 | 1=>[.func (.func 84) [] [],.func (.func 135) [] [],.func (.func 136) [] [],.func (.func 136) [] []]
 | 2=>signsS.map .str
 | 3=>keywordsS.map .str
 | 4=>Lib.pow10Tab.map (.int .u64)
 | 6=>[.iface teErr .any]
 | 7=>[.iface teErr .any]
 | _=>[]
def A:AP:={ fns,ov,glob:=tab }
theorem lives_run:evF A 200 15 [] []=some (.bool true,none):=by kernel_rfl
end Go.Proofs.YtemfofdaemgjgaaGreatDoor
end
section
namespace Go.Proofs
open Go.Shelf
def YtemfofdaemgjgaaGreatDoor.layAtoi_ren:Go.Shelf.Ren:=⟨fun|172=>85|244=>91|245=>92|247=>98|279=>99|280=>100|281=>101|282=>102|287=>108|316=>109|171=>60|205=>110|321=>113|322=>114|243=>79|246=>87|283=>93|284=>94|285=>95|286=>96|129=>104|317=>103|318=>105|319=>106|320=>107|337=>111|338=>112|n=>n,fun|9=>9|3=>3|75=>127|76=>128|4=>4|5=>5|167=>163|37=>123|0=>0|85=>164|2=>2|168=>166|53=>158|175=>175|46=>173|210=>179|127=>142|145=>185|143=>183|21=>21|171=>157|173=>161|212=>170|51=>171|20=>20|213=>172|232=>186|233=>187|80=>101|n=>n,fun|15=>6|16=>7|17=>4|18=>8|19=>9|n=>n⟩
theorem YtemfofdaemgjgaaGreatDoor.layAtoi:Go.Proofs.LaysC.n172 Tryz.prog YtemfofdaemgjgaaGreatDoor.layAtoi_ren:={
 mixed:=by kernel_rfl
 f129:=Tryz.func104.trans (congrArg some (by kernel_rfl))
 f171:=Tryz.func60.trans (congrArg some (by kernel_rfl))
 f172:=Tryz.func85.trans (congrArg some (by kernel_rfl))
 f205:=Tryz.func110.trans (congrArg some (by kernel_rfl))
 f243:=Tryz.func79.trans (congrArg some (by kernel_rfl))
 f244:=Tryz.func91.trans (congrArg some (by kernel_rfl))
 f245:=Tryz.func92.trans (congrArg some (by kernel_rfl))
 f246:=Tryz.func87.trans (congrArg some (by kernel_rfl))
 f247:=Tryz.func98.trans (congrArg some (by kernel_rfl))
 f279:=Tryz.func99.trans (congrArg some (by kernel_rfl))
 f280:=Tryz.func100.trans (congrArg some (by kernel_rfl))
 f281:=Tryz.func101.trans (congrArg some (by kernel_rfl))
 f282:=Tryz.func102.trans (congrArg some (by kernel_rfl))
 f283:=Tryz.func93.trans (congrArg some (by kernel_rfl))
 f284:=Tryz.func94.trans (congrArg some (by kernel_rfl))
 f285:=Tryz.func95.trans (congrArg some (by kernel_rfl))
 f286:=Tryz.func96.trans (congrArg some (by kernel_rfl))
 f287:=Tryz.func108.trans (congrArg some (by kernel_rfl))
 f316:=Tryz.func109.trans (congrArg some (by kernel_rfl))
 f317:=Tryz.func103.trans (congrArg some (by kernel_rfl))
 f318:=Tryz.func105.trans (congrArg some (by kernel_rfl))
 f319:=Tryz.func106.trans (congrArg some (by kernel_rfl))
 f320:=Tryz.func107.trans (congrArg some (by kernel_rfl))
 f321:=Tryz.func113.trans (congrArg some (by kernel_rfl))
 f322:=Tryz.func114.trans (congrArg some (by kernel_rfl))
 f337:=Tryz.func111.trans (congrArg some (by kernel_rfl))
 f338:=Tryz.func112.trans (congrArg some (by kernel_rfl))
 t0:=Tryz.underlying0
 a0:=Tryz.isAgg0
 z0:=Tryz.sizeOf0
 v0:=Tryz.zeroValue0
 t2:=Tryz.underlying2
 a2:=Tryz.isAgg2
 z2:=Tryz.sizeOf2
 v2:=Tryz.zeroValue2
 t3:=Tryz.underlying3
 a3:=Tryz.isAgg3
 z3:=Tryz.sizeOf3
 v3:=Tryz.zeroValue3
 t4:=Tryz.underlying4
 a4:=Tryz.isAgg4
 z4:=Tryz.sizeOf4
 v4:=Tryz.zeroValue4
 t5:=Tryz.underlying5
 a5:=Tryz.isAgg5
 z5:=Tryz.sizeOf5
 v5:=Tryz.zeroValue5
 t9:=Tryz.underlying9
 a9:=Tryz.isAgg9
 z9:=Tryz.sizeOf9
 v9:=Tryz.zeroValue9
 t20:=Tryz.underlying20
 a20:=Tryz.isAgg20
 z20:=Tryz.sizeOf20
 v20:=Tryz.zeroValue20
 t21:=Tryz.underlying21
 a21:=Tryz.isAgg21
 z21:=Tryz.sizeOf21
 v21:=Tryz.zeroValue21
 t37:=Tryz.underlying123
 a37:=Tryz.isAgg123
 z37:=Tryz.sizeOf123
 v37:=Tryz.zeroValue123
 t46:=Tryz.underlying173
 a46:=Tryz.isAgg173
 z46:=Tryz.sizeOf173
 v46:=Tryz.zeroValue173
 t51:=Tryz.underlying171
 a51:=Tryz.isAgg171
 z51:=Tryz.sizeOf171
 v51:=Tryz.zeroValue171
 t53:=Tryz.underlying158
 a53:=Tryz.isAgg158
 z53:=Tryz.sizeOf158
 v53:=Tryz.zeroValue158
 t75:=Tryz.underlying127
 a75:=Tryz.isAgg127
 z75:=Tryz.sizeOf127
 v75:=Tryz.zeroValue127
 t76:=Tryz.underlying128
 a76:=Tryz.isAgg128
 z76:=Tryz.sizeOf128
 v76:=Tryz.zeroValue128
 t85:=Tryz.underlying164
 a85:=Tryz.isAgg164
 z85:=Tryz.sizeOf164
 v85:=Tryz.zeroValue164
 t127:=Tryz.underlying142
 a127:=Tryz.isAgg142
 z127:=Tryz.sizeOf142
 v127:=Tryz.zeroValue142
 t143:=Tryz.underlying183
 a143:=Tryz.isAgg183
 z143:=Tryz.sizeOf183
 v143:=Tryz.zeroValue183
 t145:=Tryz.underlying185
 a145:=Tryz.isAgg185
 z145:=Tryz.sizeOf185
 v145:=Tryz.zeroValue185
 t167:=Tryz.underlying163
 a167:=Tryz.isAgg163
 z167:=Tryz.sizeOf163
 v167:=Tryz.zeroValue163
 t168:=Tryz.underlying166
 a168:=Tryz.isAgg166
 z168:=Tryz.sizeOf166
 v168:=Tryz.zeroValue166
 t171:=Tryz.underlying157
 a171:=Tryz.isAgg157
 z171:=Tryz.sizeOf157
 v171:=Tryz.zeroValue157
 t173:=Tryz.underlying161
 a173:=Tryz.isAgg161
 z173:=Tryz.sizeOf161
 v173:=Tryz.zeroValue161
 t175:=Tryz.underlying175
 a175:=Tryz.isAgg175
 z175:=Tryz.sizeOf175
 v175:=Tryz.zeroValue175
 t210:=Tryz.underlying179
 a210:=Tryz.isAgg179
 z210:=Tryz.sizeOf179
 v210:=Tryz.zeroValue179
 t212:=Tryz.underlying170
 a212:=Tryz.isAgg170
 z212:=Tryz.sizeOf170
 v212:=Tryz.zeroValue170
 t213:=Tryz.underlying172
 a213:=Tryz.isAgg172
 z213:=Tryz.sizeOf172
 t232:=Tryz.underlying186
 a232:=Tryz.isAgg186
 z232:=Tryz.sizeOf186
 v232:=Tryz.zeroValue186
 t233:=Tryz.underlying187
 a233:=Tryz.isAgg187
 z233:=Tryz.sizeOf187
 v233:=Tryz.zeroValue187
 g15:=by kernel_rfl
 g16:=by kernel_rfl
 g17:=by kernel_rfl
 g18:=by kernel_rfl
 g19:=by kernel_rfl
 t80:=Tryz.underlying101
 a80:=Tryz.isAgg101
 z80:=Tryz.sizeOf101
 v80:=Tryz.zeroValue101
 i0:=by kernel_rfl
 i2:=by kernel_rfl
 i3:=by kernel_rfl
 i4:=by kernel_rfl
 i5:=by kernel_rfl
 i9:=by kernel_rfl
 i20:=by kernel_rfl
 i21:=by kernel_rfl
 i37:=by kernel_rfl
 i46:=by kernel_rfl
 i51:=by kernel_rfl
 i53:=by kernel_rfl
 i75:=by kernel_rfl
 i76:=by kernel_rfl
 i80:=by kernel_rfl
 i85:=by kernel_rfl
 i127:=by kernel_rfl
 i143:=by kernel_rfl
 i145:=by kernel_rfl
 i167:=by kernel_rfl
 i168:=by kernel_rfl
 i171:=by kernel_rfl
 i173:=by kernel_rfl
 i175:=by kernel_rfl
 i210:=by kernel_rfl
 i212:=by kernel_rfl
 i232:=by kernel_rfl
 i233:=by kernel_rfl
 m15:=by kernel_rfl
 m16:=by kernel_rfl
 m17:=by kernel_rfl
 m18:=by kernel_rfl
 m19:=by kernel_rfl
 c0:=by kernel_rfl
 c2:=by kernel_rfl
 c3:=by kernel_rfl
 c4:=by kernel_rfl
 c5:=by kernel_rfl
 c9:=by kernel_rfl
 c20:=by kernel_rfl
 c21:=by kernel_rfl
 c37:=by kernel_rfl
 c46:=by kernel_rfl
 c51:=by kernel_rfl
 c53:=by kernel_rfl
 c75:=by kernel_rfl
 c76:=by kernel_rfl
 c80:=by kernel_rfl
 c85:=by kernel_rfl
 c127:=by kernel_rfl
 c143:=by kernel_rfl
 c145:=by kernel_rfl
 c167:=by kernel_rfl
 c168:=by kernel_rfl
 c171:=by kernel_rfl
 c173:=by kernel_rfl
 c175:=by kernel_rfl
 c210:=by kernel_rfl
 c212:=by kernel_rfl
 c213:=by kernel_rfl
 c232:=by kernel_rfl
 c233:=by kernel_rfl }
def YtemfofdaemgjgaaGreatDoor.layItoa_ren:Go.Shelf.Ren:=⟨fun|171=>60|243=>79|246=>87|283=>93|284=>94|285=>95|286=>96|129=>104|317=>103|318=>105|319=>106|320=>107|337=>111|338=>112|n=>n,fun|3=>3|9=>9|2=>2|4=>4|171=>157|0=>0|53=>158|37=>123|5=>5|173=>161|212=>170|51=>171|20=>20|213=>172|46=>173|232=>186|233=>187|n=>n,fun|17=>4|18=>8|19=>9|n=>n⟩
theorem YtemfofdaemgjgaaGreatDoor.layItoa:Go.Proofs.LaysM.n171 Tryz.prog YtemfofdaemgjgaaGreatDoor.layItoa_ren:={
 mixed:=by kernel_rfl
 f129:=Tryz.func104.trans (congrArg some (by kernel_rfl))
 f171:=Tryz.func60.trans (congrArg some (by kernel_rfl))
 f243:=Tryz.func79.trans (congrArg some (by kernel_rfl))
 f246:=Tryz.func87.trans (congrArg some (by kernel_rfl))
 f283:=Tryz.func93.trans (congrArg some (by kernel_rfl))
 f284:=Tryz.func94.trans (congrArg some (by kernel_rfl))
 f285:=Tryz.func95.trans (congrArg some (by kernel_rfl))
 f286:=Tryz.func96.trans (congrArg some (by kernel_rfl))
 f317:=Tryz.func103.trans (congrArg some (by kernel_rfl))
 f318:=Tryz.func105.trans (congrArg some (by kernel_rfl))
 f319:=Tryz.func106.trans (congrArg some (by kernel_rfl))
 f320:=Tryz.func107.trans (congrArg some (by kernel_rfl))
 f337:=Tryz.func111.trans (congrArg some (by kernel_rfl))
 f338:=Tryz.func112.trans (congrArg some (by kernel_rfl))
 t0:=Tryz.underlying0
 a0:=Tryz.isAgg0
 z0:=Tryz.sizeOf0
 v0:=Tryz.zeroValue0
 t2:=Tryz.underlying2
 a2:=Tryz.isAgg2
 z2:=Tryz.sizeOf2
 v2:=Tryz.zeroValue2
 t3:=Tryz.underlying3
 a3:=Tryz.isAgg3
 z3:=Tryz.sizeOf3
 v3:=Tryz.zeroValue3
 t4:=Tryz.underlying4
 a4:=Tryz.isAgg4
 z4:=Tryz.sizeOf4
 v4:=Tryz.zeroValue4
 t5:=Tryz.underlying5
 a5:=Tryz.isAgg5
 z5:=Tryz.sizeOf5
 v5:=Tryz.zeroValue5
 t9:=Tryz.underlying9
 a9:=Tryz.isAgg9
 z9:=Tryz.sizeOf9
 v9:=Tryz.zeroValue9
 t20:=Tryz.underlying20
 a20:=Tryz.isAgg20
 z20:=Tryz.sizeOf20
 v20:=Tryz.zeroValue20
 t37:=Tryz.underlying123
 a37:=Tryz.isAgg123
 z37:=Tryz.sizeOf123
 v37:=Tryz.zeroValue123
 t46:=Tryz.underlying173
 a46:=Tryz.isAgg173
 z46:=Tryz.sizeOf173
 v46:=Tryz.zeroValue173
 t51:=Tryz.underlying171
 a51:=Tryz.isAgg171
 z51:=Tryz.sizeOf171
 v51:=Tryz.zeroValue171
 t53:=Tryz.underlying158
 a53:=Tryz.isAgg158
 z53:=Tryz.sizeOf158
 v53:=Tryz.zeroValue158
 t171:=Tryz.underlying157
 a171:=Tryz.isAgg157
 z171:=Tryz.sizeOf157
 v171:=Tryz.zeroValue157
 t173:=Tryz.underlying161
 a173:=Tryz.isAgg161
 z173:=Tryz.sizeOf161
 v173:=Tryz.zeroValue161
 t212:=Tryz.underlying170
 a212:=Tryz.isAgg170
 z212:=Tryz.sizeOf170
 v212:=Tryz.zeroValue170
 t213:=Tryz.underlying172
 a213:=Tryz.isAgg172
 z213:=Tryz.sizeOf172
 t232:=Tryz.underlying186
 a232:=Tryz.isAgg186
 z232:=Tryz.sizeOf186
 v232:=Tryz.zeroValue186
 t233:=Tryz.underlying187
 a233:=Tryz.isAgg187
 z233:=Tryz.sizeOf187
 v233:=Tryz.zeroValue187
 g17:=by kernel_rfl
 g18:=by kernel_rfl
 g19:=by kernel_rfl
 i0:=by kernel_rfl
 i2:=by kernel_rfl
 i3:=by kernel_rfl
 i4:=by kernel_rfl
 i5:=by kernel_rfl
 i9:=by kernel_rfl
 i20:=by kernel_rfl
 i37:=by kernel_rfl
 i46:=by kernel_rfl
 i51:=by kernel_rfl
 i53:=by kernel_rfl
 i171:=by kernel_rfl
 i173:=by kernel_rfl
 i212:=by kernel_rfl
 i232:=by kernel_rfl
 i233:=by kernel_rfl
 m17:=by kernel_rfl
 m18:=by kernel_rfl
 m19:=by kernel_rfl }
def YtemfofdaemgjgaaGreatDoor.layIndex_ren:Go.Shelf.Ren:=⟨fun|137=>81|217=>88|266=>97|n=>n,fun|9=>9|5=>5|3=>3|n=>n,fun|n=>n⟩
theorem YtemfofdaemgjgaaGreatDoor.layIndex:Go.Proofs.Lays.n137 Tryz.prog YtemfofdaemgjgaaGreatDoor.layIndex_ren:={
 mixed:=by kernel_rfl
 f137:=Tryz.func81.trans (congrArg some (by kernel_rfl))
 f217:=Tryz.func88.trans (congrArg some (by kernel_rfl))
 f266:=Tryz.func97.trans (congrArg some (by kernel_rfl))
 t3:=Tryz.underlying3
 a3:=Tryz.isAgg3
 z3:=Tryz.sizeOf3
 v3:=Tryz.zeroValue3
 t5:=Tryz.underlying5
 a5:=Tryz.isAgg5
 z5:=Tryz.sizeOf5
 v5:=Tryz.zeroValue5
 t9:=Tryz.underlying9
 a9:=Tryz.isAgg9
 z9:=Tryz.sizeOf9
 v9:=Tryz.zeroValue9 }
def YtemfofdaemgjgaaGreatDoor.layContains_ren:Go.Shelf.Ren:=⟨fun|107=>57|108=>77|n=>n,fun|28=>22|3=>3|4=>4|0=>0|n=>n,fun|n=>n⟩
theorem YtemfofdaemgjgaaGreatDoor.layContains:Go.Proofs.Lays.n107 Tryz.prog YtemfofdaemgjgaaGreatDoor.layContains_ren:={
 mixed:=by kernel_rfl
 f107:=Tryz.func57.trans (congrArg some (by kernel_rfl))
 f108:=Tryz.func77.trans (congrArg some (by kernel_rfl))
 t0:=Tryz.underlying0
 a0:=Tryz.isAgg0
 z0:=Tryz.sizeOf0
 v0:=Tryz.zeroValue0
 t3:=Tryz.underlying3
 a3:=Tryz.isAgg3
 z3:=Tryz.sizeOf3
 v3:=Tryz.zeroValue3
 t4:=Tryz.underlying4
 a4:=Tryz.isAgg4
 z4:=Tryz.sizeOf4
 v4:=Tryz.zeroValue4
 t28:=Tryz.underlying22
 a28:=Tryz.isAgg22
 z28:=Tryz.sizeOf22
 v28:=Tryz.zeroValue22 }
def YtemfofdaemgjgaaGreatDoor.layClone_ren:Go.Shelf.Ren:=⟨fun|15=>27|n=>n,fun|22=>22|3=>3|4=>4|n=>n,fun|n=>n⟩
theorem YtemfofdaemgjgaaGreatDoor.layClone:Go.Proofs.Lays2.n15 Tryz.prog YtemfofdaemgjgaaGreatDoor.layClone_ren:={
 mixed:=by kernel_rfl
 f15:=Tryz.func27.trans (congrArg some (by kernel_rfl))
 t3:=Tryz.underlying3
 a3:=Tryz.isAgg3
 z3:=Tryz.sizeOf3
 v3:=Tryz.zeroValue3
 t4:=Tryz.underlying4
 a4:=Tryz.isAgg4
 z4:=Tryz.sizeOf4
 v4:=Tryz.zeroValue4
 t22:=Tryz.underlying22
 a22:=Tryz.isAgg22
 z22:=Tryz.sizeOf22
 v22:=Tryz.zeroValue22
 i3:=by kernel_rfl }
end Go.Proofs
end
