/-
  A part of the proof of SyntaxTokens: AbsIrT, AbsProgT, AbsLaidT, AbsLibT, AbsIrQ, AbsIrE, AbsAE, AbsMono.
-/
import Derived.Test.YtbdhkgiakaegdaaGreatDoorProg
import Derived.KernelRfl
import Derived.Lib.AtoiAll
import Derived.Lib.ItoaNum
import Derived.Shelf.Strconv.AtoiAll
import Derived.Shelf.Strconv.Itoa3
import Derived.Shelf.Small.Strs
import Derived.Shelf.Strings.Search1
import Derived.Ground.NamesProg
import Derived.Test.YtbdhkgiakaegdaaGreatDoorChecked
import Derived.Shelf.Lay
import Derived.Test.YtbdhkgiakaegdaaGreatDoorP07
set_option linter.unusedSimpArgs false
set_option linter.unusedVariables false
set_option linter.defProp false
set_option maxRecDepth 100000
namespace Go.Proofs.YtbdhkgiakaegdaaGreatDoor
open Go Go.Abs Go.Proofs
def QZ:aP:=⟨[2],[999999],[],5,1,[.tmp 2],cR [aG 2 (aS [])] (cR [ah 3 0,aL 4 85 3,ae 2 4] .ret)⟩
theorem Vg:cv Tryz.f52 QZ=some QZ:=by kernel_rfl
def JY:aP:=⟨[6,10,700007],[7,999999],[],27,3,[],cR [ah 8 1,cr 9 .sl 8,aG 10 (aI 0)] (.block 0 (.loop (cR [bZ 11 .lss 10 9] (.seq (bQ 11 .skip (.exit 0)) (.seq (.block 1 (cR [ah 12 10,fw 13 8 8 10,aM 14 8 13,oO 7 (.allocL [.int .i64 0,.int .i64 0,.str [],.str [],.str [],.af,.af,.af]),ae 6 12,dD 8 7 14] (.seq (cR [ah 15 6,aq 16 .gtr 15 0] (bQ 16 (.region false [ah 17 0,oO 18 (dR 1 [[.str []]] [(0,.bC (.str [44]))]),aK 19 21 17 18]) .skip)) (cR [ah 20 2,ah 21 6,oO 22 (.call (aT 20) [aT 21])] (.region false [ah 23 0,aM 24 8 7,aK 25 27 23 24]))))) (.region false [aq 26 .add 10 1,ae 10 26]))))))⟩
theorem Vh:cv Tryz.f53 JY=some JY:=by kernel_rfl
def vX:aP:=⟨[4,5,6,7],[999999],[],60,2,[],cR [oO 3 (.box 45 (aT 1))] (cR [bp 8 1 3,aj 9 1 8,aL 10 86 9,ae 7 10,fS 11 7 0,fS 12 7 1,ae 4 11,ae 5 12] (.seq (cR [ah 13 5,aq 14 .eql 13 7] (bQ 14 (.seq (cR [ah 15 0,ah 16 4,kF 17 .neq (aT 16) (aS []),aK 18 24 15 17] (cR [ah 19 0,aM 20 8 3,bG 21 55 [aT 19,aT 20,aI 1,aI 0]] (bQ 21 (cR [ah 22 0,ah 23 4,oO 24 (dR 1 [[.str []]] [(0,.tmp 23)]),aK 25 21 22 24] (.region false [ah 26 0,bp 27 6 3,aj 28 1 27,qm 29 8 (aT 28) (aI 0),aM 30 8 29,bG 31 87 [aT 26,aT 30,aI 7]])) .skip))) .ret) .skip)) (.seq (cR [ah 32 0,aM 33 8 3,bG 34 55 [aT 32,aT 33,aI 2,aI 0],oO 35 (.un .not (aT 34))] (bQ 35 .ret .skip)) (cR [ah 36 5,ae 6 36] (.seq (cR [ah 37 5,aq 38 .eql 37 3] (bQ 38 (.region false [ah 39 6,aq 40 .add 39 1,ae 6 40]) .skip)) (cR [ah 41 0,bp 42 6 3,aj 43 1 42,qm 44 8 (aT 43) (aI 0),aM 45 8 44,ah 46 6,lg 47 87 41 45 46] (cR [ah 48 0,ah 49 4,oO 50 (dR 1 [[.str []]] [(0,.tmp 49)]),aK 51 21 48 50] (.region false [ah 52 0,bp 53 6 3,aj 54 1 53,qm 55 8 (aT 54) (aI 1),aM 56 8 55,ah 57 5,aq 58 .add 57 1,lg 59 87 52 56 58]))))))))⟩
theorem Vi:cv Tryz.f54 vX=some vX:=by kernel_rfl
def Q0:aP:=⟨[8,15],[999999],[],28,4,[.tmp 8],cR [oO 5 (.box 45 (aT 1)),aG 8 jz] (cR [ah 9 0,bp 10 6 5,aj 11 1 10,cr 12 .sl 11,ah 13 2,bZ 14 .eql 12 13,ae 15 14,cc 16 15 (iu 7 5),cc 17 15 (ct 1 16),cc 18 15 (ru 17),cc 19 15 (dL 3),cc 20 15 (cX .eql (aT 18) (aT 19)),gJ 21 15 20,aK 22 24 9 21] (cR [ah 23 0,gV 24 23,bp 25 1 24,aj 26 1 25,oO 27 (.un .not (aT 26)),ae 8 27] .ret))⟩
theorem Vj:cv Tryz.f55 Q0=some Q0:=by kernel_rfl
def Q1:aP:=⟨[6,10,700007],[7,999999],[],26,3,[],cR [ah 8 1,cr 9 .sl 8,aG 10 (aI 0)] (.block 0 (.loop (cR [bZ 11 .lss 10 9] (.seq (bQ 11 .skip (.exit 0)) (.seq (.block 1 (cR [ah 12 10,fw 13 8 8 10,aM 14 8 13,oO 7 (.allocL [.int .i64 0,.int .i64 0,.str [],.str [],.str [],.af,.af,.af]),ae 6 12,dD 8 7 14] (cR [ah 15 0,ah 16 2,ah 17 6,fw 18 1 16 17,aj 19 1 18,oO 20 (dR 1 [[.str []]] [(0,.tmp 19)]),aK 21 21 15 20] (.region false [ah 22 0,aM 23 8 7,aK 24 27 22 23])))) (.region false [aq 25 .add 10 1,ae 10 25]))))))⟩
theorem Vk:cv Tryz.f56 Q1=some Q1:=by kernel_rfl
def nD:aP:=⟨[4],[999999,999996],[],117,2,[],cR [oO 2 (.box 72 (aT 0)),oO 3 (.box 45 (aT 1))] (.seq (cR [bp 5 0 3,aj 6 1 5,aq 7 .eql 6 10] (bQ 7 (cR [bp 8 6 3,aj 9 1 8,cr 10 .sl 9,aq 11 .sub 10 1,ae 4 11] (.seq (cR [aj 12 1 2,ah 13 4,aq 14 .geq 13 1,aK 15 24 12 14] (cR [aj 16 1 2,aM 17 8 3,ah 18 4,aq 19 .add 18 1,ah 20 4,kF 21 .mul (aI 2) (aT 20),Kl 22 55 16 17 19 21,oO 23 (.un .not (aT 22))] (bQ 23 .ret .skip))) (cR [aj 24 1 2,oO 25 (dR 1 [[.str []]] [(0,.bC (.str [109,97,116,99,104]))]),aK 26 21 24 25] (cR [aj 27 1 2,bp 28 2 3,aj 29 1 28,aK 30 46 27 29] (cR [aj 31 1 2,oO 32 (dR 1 [[.str []]] [(0,.bC (.str [40]))]),aK 33 21 31 32] (cR [dI 2,aj 34 1 2,dI 3,bp 35 6 3,dI 35,aj 36 1 35,dI 36,qm 37 8 (aT 36) (aI 0),dI 37,aM 38 8 37,aK 39 27 34 38] (cR [aj 40 1 2,oO 41 (dR 1 [[.str []],[.str []]] [(0,.bC (.str [41])),(1,.bC (.str [123]))]),aK 42 21 40 41] (cR [dI 2,aj 43 1 2,dI 3,bp 44 6 3,dI 44,aj 45 1 44,oO 46 (.slice (.sl 8) (aT 45) (some (aI 1)) none none),oO 47 (.mkfunc (Fn.func 88) [] [aT 2,aT 3]),lg 48 53 43 46 47] (cR [aj 49 1 2,oO 50 (dR 1 [[.str []]] [(0,.bC (.str [125]))]),aK 51 21 49 50] .ret))))))))) .skip)) (cR [aj 52 1 2,bp 53 2 3,aj 54 1 53,aK 55 46 52 54] (.seq (cR [bp 56 0 3,aj 57 1 56,aq 58 .eql 57 7] (bQ 58 (.seq (cR [aj 59 1 2,aM 60 8 3,bp 61 6 3,aj 62 1 61,cr 63 .sl 62,bp 64 6 3,aj 65 1 64,cr 66 .sl 65,Kl 67 55 59 60 63 66] (bQ 67 (cR [aj 68 1 2,oO 69 (dR 1 [[.str []]] [(0,.bC (.str [123]))]),aK 70 21 68 69] (cR [aj 71 1 2,bp 72 6 3,aj 73 1 72,oO 74 (.mkfunc (Fn.func 89) [] [aT 2,aT 3]),lg 75 53 71 73 74] (.region false [aj 76 1 2,oO 77 (dR 1 [[.str []]] [(0,.bC (.str [125]))]),aK 78 21 76 77]))) .skip)) .ret) .skip)) (.seq (cR [aj 79 1 2,aM 80 8 3,bG 81 55 [aT 79,aT 80,aI 1,aI 0],oO 82 (.un .not (aT 81))] (bQ 82 .ret .skip)) (cR [aj 83 1 2,oO 84 (dR 1 [[.str []]] [(0,.bC (.str [58]))]),aK 85 21 83 84] (cR [aj 86 1 2,bp 87 3 3,aj 88 1 87,aK 89 22 86 88] (.seq (cR [bp 90 0 3,aj 91 1 90,aq 92 .eql 91 8] (bQ 92 (cR [aj 93 1 2,oO 94 (dR 1 [[.str []]] [(0,.bC (.str [91]))]),aK 95 21 93 94] (cR [dI 2,aj 96 1 2,dI 3,bp 97 6 3,dI 97,aj 98 1 97,dI 98,qm 99 8 (aT 98) (aI 0),dI 99,aM 100 8 99,aK 101 27 96 100] (cR [aj 102 1 2,oO 103 (dR 1 [[.str []]] [(0,.bC (.str [93]))]),aK 104 21 102 103] .ret))) .skip)) (cR [aj 105 1 2,oO 106 (dR 1 [[.str []]] [(0,.bC (.str [40]))]),aK 107 21 105 106] (cR [dI 2,aj 108 1 2,dI 3,bp 109 6 3,dI 109,aj 110 1 109,dI 110,qm 111 8 (aT 110) (aI 0),dI 111,aM 112 8 111,aK 113 27 108 112] (.region false [aj 114 1 2,oO 115 (dR 1 [[.str []]] [(0,.bC (.str [41]))]),aK 116 21 114 115]))))))))))⟩
theorem Vl:cv Tryz.f57 nD=some nD:=by kernel_rfl
def JZ:aP:=⟨[2,10,21,25,30],[1],[],36,1,[.tmp 2],cR [oO 1 (.boxL (aT 0)),aG 2 jz] (.seq (cR [bp 3 0 1,aj 4 1 3,kF 5 .eql (aT 4) (aS [76,105,115,116])] (bQ 5 (cR [bp 6 1 1,aj 7 1 6,cr 8 .sl 7,aq 9 .eql 8 1,ae 10 9,cc 11 10 (iu 1 1),cc 12 10 (ct 1 11),cc 13 10 (.ixSl 2 (aT 12) (aI 0)),cc 14 10 (iC 2 13),cc 15 10 (fK 58 [aT 14]),gJ 16 10 15,ae 2 16] .ret) .skip)) (cR [bp 17 1 1,aj 18 1 17,cr 19 .sl 18,aq 20 .eql 19 0,ae 21 20,cc 22 21 (iu 0 1),cc 23 21 (ct 1 22),cc 24 21 (cX .eql (aT 23) (aS [73,110,116])),cc 25 21 (jx 24),bX 26 25 (iu 0 1),bX 27 25 (ct 1 26),bX 28 25 (cX .eql (aT 27) (aS [66,111,111,108])),cc 29 21 (.pick (aT 25) xh (aT 28)),cc 30 21 (jx 29),bX 31 30 (iu 0 1),bX 32 30 (ct 1 31),bX 33 30 (fK 90 [aT 32]),cc 34 21 (.pick (aT 30) xh (aT 33)),gJ 35 21 34,ae 2 35] .ret))⟩
theorem Vm:cv Tryz.f58 JZ=some JZ:=by kernel_rfl
def re:aP:=⟨[3,4,5,6,7,8,15,18,26,33,42,47,52,57,63,69,73,80,83,88,97,103,109,112,121,127,131,136,148,152,158,162,167,176,181,186],[1],[],205,1,[.tmp 2],cR [oO 1 (.boxL (aT 0)),cN 2 jz] (cR [aM 9 8 1,aL 10 91 9,ae 8 10,fS 11 8 0,fS 12 8 1,ae 3 11,ae 4 12] (.seq (cR [ah 13 3,aq 14 .eql 13 (-2),ae 15 14,bX 16 15 (dL 3),bX 17 15 (cX .geq (aT 16) (aI 0)),bX 18 15 (jx 17),cc 19 18 (iu 6 1),cc 20 18 (ct 1 19),cc 21 18 (ru 20),cc 22 18 (dL 3),cc 23 18 (cX .neq (aT 21) (aT 22)),bX 24 15 (.pick (aT 18) (aT 23) jz),kA 25 15 24,ae 26 25,bX 27 26 (iu 7 1),bX 28 26 (ct 1 27),bX 29 26 (ru 28),bX 30 26 (dL 4),bX 31 26 (cX .neq (aT 29) (aT 30)),kA 32 26 31,ae 33 32,bX 34 33 (iu 7 1),bX 35 33 (ct 1 34),bX 36 33 (fK 35 [aT 35]),bX 37 33 (.un .not (aT 36)),kA 38 33 37] (bQ 38 (cR [cN 2 jz] .ret) .skip)) (cR [bp 39 0 1,aj 40 1 39,aq 41 .eql 40 3,ae 42 41,bX 43 42 (iu 0 1),bX 44 42 (ct 1 43),bX 45 42 (cX .eql (aT 44) (aI 7)),kA 46 42 45,ae 47 46,bX 48 47 (iu 0 1),bX 49 47 (ct 1 48),bX 50 47 (cX .eql (aT 49) (aI 8)),kA 51 47 50,ae 52 51,bX 53 52 (iu 0 1),bX 54 52 (ct 1 53),bX 55 52 (cX .eql (aT 54) (aI 9)),kA 56 52 55,ae 57 56,bX 58 57 (iu 0 1),bX 59 57 (ct 1 58),bX 60 57 (cX .eql (aT 59) (aI 10)),kA 61 57 60,ae 5 61] (.seq (cR [ah 62 5,ae 63 62,cc 64 63 (iu 2 1),cc 65 63 (ct 1 64),cc 66 63 (fK 90 [aT 65]),cc 67 63 (.un .not (aT 66)),gJ 68 63 67,ae 69 68,bX 70 69 (iu 0 1),bX 71 69 (ct 1 70),bX 72 69 (cX .eql (aT 71) (aI 2)),bX 73 69 (jx 72),cc 74 73 (iu 2 1),cc 75 73 (ct 1 74),cc 76 73 (fK 34 [aT 75]),cc 77 73 (.un .not (aT 76)),bX 78 69 (.pick (aT 73) (aT 77) jz),kA 79 69 78,ae 80 79,bX 81 80 (dL 5),bX 82 80 (.un .not (aT 81)),bX 83 80 (jx 82),cc 84 83 (iu 0 1),cc 85 83 (ct 1 84),cc 86 83 (cX .neq (aT 85) (aI 2)),bX 87 80 (.pick (aT 83) (aT 86) jz),bX 88 80 (jx 87),cc 89 88 (iu 2 1),cc 90 88 (ct 1 89),cc 91 88 (cX .neq (aT 90) (aS [])),bX 92 80 (.pick (aT 88) (aT 91) jz),kA 93 80 92] (bQ 93 (cR [cN 2 jz] .ret) .skip)) (cR [bp 94 0 1,aj 95 1 94,aq 96 .eql 95 8,ae 97 96,bX 98 97 (iu 0 1),bX 99 97 (ct 1 98),bX 100 97 (cX .eql (aT 99) (aI 9)),kA 101 97 100,ae 6 101] (.seq (cR [ah 102 6,ae 103 102,cc 104 103 (iu 3 1),cc 105 103 (ct 1 104),cc 106 103 (fK 34 [aT 105]),cc 107 103 (.un .not (aT 106)),gJ 108 103 107,ae 109 108,bX 110 109 (dL 6),bX 111 109 (.un .not (aT 110)),bX 112 109 (jx 111),cc 113 112 (iu 3 1),cc 114 112 (ct 1 113),cc 115 112 (cX .neq (aT 114) (aS [])),bX 116 109 (.pick (aT 112) (aT 115) jz),kA 117 109 116] (bQ 117 (cR [cN 2 jz] .ret) .skip)) (.seq (cR [bp 118 0 1,aj 119 1 118,aq 120 .eql 119 11,ae 121 120,cc 122 121 (iu 4 1),cc 123 121 (iC 2 122),cc 124 121 (fK 58 [aT 123]),cc 125 121 (.un .not (aT 124)),gJ 126 121 125,ae 127 126,bX 128 127 (iu 0 1),bX 129 127 (ct 1 128),bX 130 127 (cX .neq (aT 129) (aI 11)),bX 131 127 (jx 130),cc 132 131 (iu 4 1),cc 133 131 (iu 0 132),cc 134 131 (ct 1 133),cc 135 131 (cX .neq (aT 134) (aS [])),cc 136 131 (jx 135),bX 137 136 (iu 4 1),bX 138 136 (iu 1 137),bX 139 136 (ct 1 138),bX 140 136 (ru 139),bX 141 136 (cX .gtr (aT 140) (aI 0)),cc 142 131 (.pick (aT 136) xh (aT 141)),bX 143 127 (.pick (aT 131) (aT 142) jz),kA 144 127 143] (bQ 144 (cR [cN 2 jz] .ret) .skip)) (.seq (cR [bp 145 0 1,aj 146 1 145,aq 147 .eql 146 0,ae 148 147,cc 149 148 (iu 1 1),cc 150 148 (ct 1 149),cc 151 148 (cX .lss (aT 150) (aI (-1099511627776))),cc 152 148 (jx 151),bX 153 152 (iu 1 1),bX 154 152 (ct 1 153),bX 155 152 (cX .gtr (aT 154) (aI 1099511627776)),cc 156 148 (.pick (aT 152) xh (aT 155)),gJ 157 148 156,ae 158 157,bX 159 158 (iu 0 1),bX 160 158 (ct 1 159),bX 161 158 (cX .eql (aT 160) (aI 1)),bX 162 158 (jx 161),cc 163 162 (iu 1 1),cc 164 162 (ct 1 163),cc 165 162 (cX .neq (aT 164) (aI 0)),bX 166 158 (.pick (aT 162) (aT 165) jz),bX 167 158 (jx 166),cc 168 167 (iu 1 1),cc 169 167 (ct 1 168),cc 170 167 (cX .neq (aT 169) (aI 1)),bX 171 158 (.pick (aT 167) (aT 170) jz),kA 172 158 171] (bQ 172 (cR [cN 2 jz] .ret) .skip)) (.seq (cR [bp 173 0 1,aj 174 1 173,aq 175 .neq 174 0,ae 176 175,cc 177 176 (iu 0 1),cc 178 176 (ct 1 177),cc 179 176 (cX .neq (aT 178) (aI 1)),gJ 180 176 179,ae 181 180,cc 182 181 (iu 0 1),cc 183 181 (ct 1 182),cc 184 181 (cX .neq (aT 183) (aI 4)),gJ 185 181 184,ae 186 185,cc 187 186 (iu 1 1),cc 188 186 (ct 1 187),cc 189 186 (cX .neq (aT 188) (aI 0)),gJ 190 186 189] (bQ 190 (cR [cN 2 jz] .ret) .skip)) (.seq (cR [aG 7 (aI 0)] (.block 0 (.loop (.seq (cR [ah 191 7,bp 192 6 1,aj 193 1 192,cr 194 .sl 193,bZ 195 .lss 191 194] (bQ 195 .skip (.exit 0))) (.seq (.block 1 (cR [bp 198 6 1,aj 199 1 198,ah 200 7,fw 201 8 199 200,aM 202 8 201,aL 203 59 202,oO 204 (.un .not (aT 203))] (bQ 204 (cR [cN 2 jz] .ret) .skip))) (.region false [ah 196 7,aq 197 .add 196 1,ae 7 197])))))) (cR [cN 2 xh] .ret)))))))))))⟩
theorem Vn:cv Tryz.f59 re=some re:=by kernel_rfl
def Q2:aP:=⟨[2,3,4,5,6],[],[],18,1,[.tmp 2],cR [aG 2 (.bC (.slice [] true))] (cR [ah 7 0,aL 8 92 7,ae 6 8,fS 9 6 0,fS 10 6 1,fS 11 6 2,ae 3 9,ae 4 10,ae 5 11] (.seq (cR [ah 12 5] (bQ 12 (cR [ah 13 3,ah 14 4,oO 15 (dR 1 [[.str []],[.str []],[.str []]] [(0,.tmp 13),(1,.bC (.str [46])),(2,.tmp 14)]),ae 2 15] .ret) .skip)) (cR [ah 16 3,oO 17 (dR 1 [[.str []]] [(0,.tmp 16)]),ae 2 17] .ret)))⟩
theorem Vo:cv Tryz.f60 Q2=some Q2:=by kernel_rfl
def Q3:aP:=⟨[8,9,10,12,16,18],[],[],22,4,[.tmp 8],cR [aG 8 (.bC (.slice [] true))] (cR [aG 9 (.bC (.slice [] true))] (cR [ae 10 9,ah 11 0,cS 12 1 16 10 11,ah 13 1,oO 14 (dR 1 [[.str []]] [(0,.tmp 13)]),cS 15 1 16 12 14,ae 9 15] (cR [ae 16 9,ah 17 2,cS 18 1 16 16 17,ah 19 3,oO 20 (dR 1 [[.str []]] [(0,.tmp 19)]),cS 21 1 16 18 20,ae 8 21] .ret)))⟩
theorem Vp:cv Tryz.f61 Q3=some Q3:=by kernel_rfl
def Q4:aP:=⟨[2,3,4,13,16],[],[],24,1,[.tmp 2],cR [aG 2 (.bC (.slice [] true))] (cR [aG 3 (.bC (.slice [] true))] (.seq (cR [aG 4 (aI 0)] (.block 0 (.loop (.seq (cR [ah 5 4,ah 6 0,cr 7 .sl 6,bZ 8 .lss 5 7] (bQ 8 .skip (.exit 0))) (.seq (.block 1 (.seq (cR [ah 11 4,aq 12 .gtr 11 0] (bQ 12 (.region false [ae 13 3,oO 14 (dR 1 [[.str []]] [(0,.bC (.str [44]))]),cS 15 1 16 13 14,ae 3 15]) .skip)) (.region false [ae 16 3,ah 17 0,ah 18 4,fw 19 8 17 18,aM 20 8 19,aL 21 33 20,cS 22 1 16 16 21,ae 3 22]))) (.region false [ah 9 4,aq 10 .add 9 1,ae 4 10])))))) (cR [ah 23 3,ae 2 23] .ret)))⟩
theorem Vq:cv Tryz.f62 Q4=some Q4:=by kernel_rfl
def Q5:aP:=⟨[2,3,4,5,8],[],[],22,1,[.tmp 2,.tmp 3],cR [aG 2 (aS []),aG 3 (aI 0)] (.seq (cR [ah 6 0,aq 7 .lss 6 0,ae 8 7,bX 9 8 (dL 0),bX 10 8 (cX .gtr (aT 9) (aI 11)),kA 11 8 10] (bQ 11 (cR [aG 2 (aS []),aG 3 (aI 0)] .ret) .skip)) (cR [oO 12 (dR 1 [[.str []],[.str []],[.str []],[.str []],[.str []],[.str []],[.str []],[.str []],[.str []],[.str []],[.str []],[.str []]] [(0,.bC (.str [43])),(1,.bC (.str [45])),(2,.bC (.str [42])),(3,.bC (.str [47])),(4,.bC (.str [37])),(5,.bC (.str [60])),(6,.bC (.str [61,61])),(7,.bC (.str [97,110,100])),(8,.bC (.str [111,114])),(9,.bC (.str [110,111,116])),(10,.bC (.str [106,111,105,110])),(11,.bC (.str [108,101,110]))]),ae 4 12] (cR [oO 13 (dR 1 [[.int .i64 0],[.int .i64 0],[.int .i64 0],[.int .i64 0],[.int .i64 0],[.int .i64 0],[.int .i64 0],[.int .i64 0],[.int .i64 0],[.int .i64 0],[.int .i64 0],[.int .i64 0]] [(0,.bC (.int .i64 5)),(1,.bC (.int .i64 5)),(2,.bC (.int .i64 6)),(3,.bC (.int .i64 6)),(4,.bC (.int .i64 6)),(5,.bC (.int .i64 3)),(6,.bC (.int .i64 3)),(7,.bC (.int .i64 2)),(8,.bC (.int .i64 1)),(9,.bC (.int .i64 7)),(10,.bC (.int .i64 4)),(11,.bC (.int .i64 7))]),ae 5 13] (cR [ah 14 4,ah 15 0,dI 14,fw 16 1 14 15,dI 16,aj 17 1 16,ah 18 5,ah 19 0,dI 18,fw 20 1 18 19,dI 20,aj 21 1 20,ae 2 17,ae 3 21] .ret))))⟩
theorem Vr:cv Tryz.f63 Q5=some Q5:=by kernel_rfl
def Q6:aP:=⟨[4,9,12],[2],[],17,2,[.tmp 4],cR [oO 2 (.boxL (aT 0)),aG 4 (.bC (.slice [] true))] (.seq (cR [aM 5 8 2,aL 6 93 5,ah 7 1,bZ 8 .lss 6 7] (bQ 8 (cR [oO 9 (dR 1 [[.str []]] [(0,.bC (.str [40]))]),aM 10 8 2,aL 11 33 10,cS 12 1 16 9 11,oO 13 (dR 1 [[.str []]] [(0,.bC (.str [41]))]),cS 14 1 16 12 13,ae 4 14] .ret) .skip)) (cR [aM 15 8 2,aL 16 33 15,ae 4 16] .ret))⟩
theorem Vs:cv Tryz.f64 Q6=some Q6:=by kernel_rfl
def Q7:aP:=⟨[5,9,12,19],[],[],23,1,[.tmp 2],cR [cN 2 (aI 0)] (.seq (cR [ah 3 0,kF 4 .geq (aT 3) (.bC (.int IntKind.u8 97)),ae 5 4,cc 6 5 (dL 0),cc 7 5 (cX .leq (aT 6) (.bC (.int IntKind.u8 122))),gJ 8 5 7,ae 9 8,bX 10 9 (dL 0),bX 11 9 (cX .geq (aT 10) (.bC (.int IntKind.u8 65))),bX 12 9 (jx 11),cc 13 12 (dL 0),cc 14 12 (cX .leq (aT 13) (.bC (.int IntKind.u8 90))),bX 15 9 (.pick (aT 12) (aT 14) jz),kA 16 9 15] (bQ 16 (cR [cN 2 (aI 1)] .ret) .skip)) (.seq (cR [ah 17 0,kF 18 .geq (aT 17) (.bC (.int IntKind.u8 48)),ae 19 18,cc 20 19 (dL 0),cc 21 19 (cX .leq (aT 20) (.bC (.int IntKind.u8 57))),gJ 22 19 21] (bQ 22 (cR [cN 2 (aI 2)] .ret) .skip)) (cR [cN 2 (aI 0)] .ret)))⟩
theorem Vt:cv Tryz.f65 Q7=some Q7:=by kernel_rfl
def Q8:aP:=⟨[0],[],[],2,0,[.tmp 0],cR [aG 0 (.bC (.slice [] true))] (cR [oO 1 (dR 1 [[.str []],[.str []],[.str []],[.str []],[.str []],[.str []],[.str []],[.str []],[.str []],[.str []],[.str []],[.str []],[.str []],[.str []],[.str []],[.str []],[.str []],[.str []],[.str []],[.str []],[.str []],[.str []],[.str []],[.str []],[.str []],[.str []],[.str []]] [(0,.bC (.str [109,111,100,117,108,101])),(1,.bC (.str [117,115,101])),(2,.bC (.str [114,101,99])),(3,.bC (.str [99,97,115,101])),(4,.bC (.str [102,117,110])),(5,.bC (.str [111,110])),(6,.bC (.str [116,101,115,116])),(7,.bC (.str [99,111,110,118])),(8,.bC (.str [116,114,117,101])),(9,.bC (.str [102,97,108,115,101])),(10,.bC (.str [110,111,116])),(11,.bC (.str [97,110,100])),(12,.bC (.str [111,114])),(13,.bC (.str [105,102])),(14,.bC (.str [116,104,101,110])),(15,.bC (.str [101,108,115,101])),(16,.bC (.str [108,101,116])),(17,.bC (.str [105,110])),(18,.bC (.str [109,97,116,99,104])),(19,.bC (.str [102,111,108,100])),(20,.bC (.str [111,118,101,114])),(21,.bC (.str [100,111])),(22,.bC (.str [108,101,110])),(23,.bC (.str [106,111,105,110])),(24,.bC (.str [76,105,115,116])),(25,.bC (.str [73,110,116])),(26,.bC (.str [66,111,111,108]))]),ae 0 1] .ret)⟩
theorem Vu:cv Tryz.f66 Q8=some Q8:=by kernel_rfl
def Q9:aP:=⟨[4,5,6,19,25,31,49],[],[],67,2,[.tmp 4],cR [aG 4 (aI 0)] (cR [ah 7 0,ah 8 1,oO 9 (.indexStr (aT 7) (aT 8)),aL 10 65 9,ae 5 10] (.seq (cR [ah 11 5,aq 12 .gtr 11 0] (bQ 12 (cR [ah 13 1,aq 14 .add 13 1,ae 6 14] (.seq (.block 0 (.loop (.seq (cR [ah 15 6,ah 16 0,cr 17 .str 16,bZ 18 .lss 15 17,ae 19 18,cc 20 19 (dL 0),cc 21 19 (dL 6),cc 22 19 (.indexStr (aT 20) (aT 21)),cc 23 19 (fK 65 [aT 22]),cc 24 19 (cX .eql (aT 23) (aI 2)),cc 25 19 (jx 24),bX 26 25 (dL 0),bX 27 25 (dL 6),bX 28 25 (.indexStr (aT 26) (aT 27)),bX 29 25 (fK 65 [aT 28]),bX 30 25 (cX .eql (aT 29) (aI 1)),bX 31 25 (jx 30),cc 32 31 (dL 5),cc 33 31 (cX .eql (aT 32) (aI 1)),bX 34 25 (.pick (aT 31) (aT 33) jz),cc 35 19 (.pick (aT 25) xh (aT 34)),gJ 36 19 35] (bQ 36 .skip (.exit 0))) (.block 1 (.region false [ah 37 6,aq 38 .add 37 1,ae 6 38]))))) (.seq (cR [ah 39 6,ah 40 1,bZ 41 .sub 39 40,aq 42 .gtr 41 16] (bQ 42 (cR [aG 4 (aI (-1))] .ret) .skip)) (cR [ah 43 6,ae 4 43] .ret)))) .skip)) (.seq (cR [ah 44 1,aq 45 .add 44 1,ah 46 0,cr 47 .str 46,bZ 48 .lss 45 47,ae 49 48,cc 50 49 (dL 0),cc 51 49 (dL 1),cc 52 49 (dL 1),cc 53 49 (cX .add (aT 52) (aI 2)),cc 54 49 (.slice .str (aT 50) (some (aT 51)) (some (aT 53)) none),cc 55 49 (fK 94 [aT 54]),gJ 56 49 55] (bQ 56 (cR [ah 57 1,aq 58 .add 57 2,ae 4 58] .ret) .skip)) (.seq (cR [ah 59 0,ah 60 1,ah 61 1,aq 62 .add 61 1,oO 63 (.slice .str (aT 59) (some (aT 60)) (some (aT 62)) none),aL 64 94 63] (bQ 64 (cR [ah 65 1,aq 66 .add 65 1,ae 4 66] .ret) .skip)) (cR [aG 4 (aI (-1))] .ret)))))⟩
theorem Vv:cv Tryz.f67 Q9=some Q9:=by kernel_rfl
def abn:aP:=⟨[4,27,18,700002,700003],[2,3],[],38,1,[.cell 2 true 8],cR [oO 1 (.box 45 (aT 0)),oO 2 (.allocL [.int .i64 0,.int .i64 0,.str [],.str [],.str [],.af,.af,.af])] (cR [dI 1,bp 5 0 1,dI 5,aj 6 1 5,dI 1,bp 7 1 1,dI 7,aj 8 1 7,dI 1,bp 9 2 1,dI 9,aj 10 1 9,dI 1,bp 11 3 1,dI 11,aj 12 1 11,dI 1,bp 13 4 1,dI 13,aM 14 2 13,oO 15 (.jk (.fn 95) [aT 14]),dI 1,bp 16 7 1,dI 16,aj 17 1 16,oO 18 (.build [.int .i64 0,.int .i64 0,.str [],.str [],.str [],.af,.af,.af] [(0,1,.tmp 6),(1,1,.tmp 8),(2,1,.tmp 10),(3,1,.tmp 12),(4,2,.tmp 15),(7,1,.tmp 17)]),oO 3 (.allocL [.int .i64 0,.int .i64 0,.str [],.str [],.str [],.af,.af,.af]),dC 3 3,dD 8 3 18] (.seq (cR [aG 4 (aI 0)] (.block 0 (.loop (.seq (cR [ah 19 4,bp 20 6 1,aj 21 1 20,cr 22 .sl 21,bZ 23 .lss 19 22] (bQ 23 .skip (.exit 0))) (.seq (.block 1 (.region false [dC 3 3,bp 26 6 3,dC 3 26,oO 27 (.load true false 1 (aT 26)),dI 1,bp 28 6 1,dI 28,aj 29 1 28,ah 30 4,dI 29,fw 31 8 29 30,dI 31,aM 32 8 31,aL 33 68 32,oO 34 (dR 8 [[.int .i64 0,.int .i64 0,.str [],.str [],.str [],.slice [] false,.slice [] false,.slice [] false]] [(0,.tmp 33)]),cS 35 8 136 27 34,dC 3 3,bp 36 6 3,dC 3 36,dD 1 36 35])) (.region false [ah 24 4,aq 25 .add 24 1,ae 4 25])))))) (cR [aM 37 8 3,dD 8 2 37] .ret)))⟩
theorem Vw:cv Tryz.f68 abn=some abn:=by kernel_rfl
def abo:aP:=⟨[2,3,4,5,6,7,8,9,38,46],[999999],[],53,1,[.tmp 2,.tmp 3,.tmp 4],cR [aG 2 (.bC (.slice [] true)),aG 3 (aS []),aG 4 (aI 0)] (.seq (cR [ah 10 0,cr 11 .str 10,aq 12 .gtr 11 8192] (bQ 12 (cR [aG 2 (.bC (.slice [] true)),aG 3 (aS []),aG 4 (aI 8192)] .ret) .skip)) (cR [aG 5 (.bC (.slice [] true))] (cR [aG 6 (aI 0)] (.seq .skip (.block 0 (.loop (.block 1 (cR [ah 13 0,ah 14 6,oO 15 (.slice .str (aT 13) (some (aT 14)) none none),aL 16 96 15,ae 7 16] (cR [ah 17 0,ah 18 6,ah 19 6,ah 20 7,bZ 21 .add 19 20,oO 22 (.slice .str (aT 17) (some (aT 18)) (some (aT 21)) none),ae 8 22] (cR [ah 23 6,ah 24 7,bZ 25 .add 23 24,ae 6 25] (.seq (cR [ah 26 6,ah 27 0,cr 28 .str 27,bZ 29 .eql 26 28] (bQ 29 (cR [ah 30 5,ah 31 8,ae 2 30,ae 3 31,aG 4 (aI (-1))] .ret) .skip)) (.seq (cR [ah 32 0,ah 33 6,oO 34 (.slice .str (aT 32) (some (aT 33)) none none),aL 35 79 34,ae 9 35] (cR [ah 36 9,aq 37 .gtr 36 0] (bQ 37 (cR [ae 38 5,ah 39 0,ah 40 6,ah 41 6,ah 42 9,bZ 43 .add 41 42,oO 44 (.slice .str (aT 39) (some (aT 40)) (some (aT 43)) none),ah 45 8,oO 46 (.build [.str [],.str []] [(0,1,.tmp 44),(1,1,.tmp 45)]),oO 47 (dR 2 [[.str [],.str []]] [(0,.tmp 46)]),cS 48 2 32 38 47,ae 5 48] (cR [ah 49 6,ah 50 9,bZ 51 .add 49 50,ae 6 51] (.exit 1))) .skip))) (cR [ah 52 6,aG 2 (.bC (.slice [] true)),aG 3 (aS []),ae 4 52] .ret)))))))))))))⟩
theorem Vx:cv Tryz.f69 abo=some abo:=by kernel_rfl
def abq:aP:=⟨[],[999999],[],11,2,[],cR [ah 4 0,ah 5 1,aK 6 72 4 5,oO 7 (.un .not (aT 6))] (bQ 7 (.region false [ah 8 0,gV 9 8,bp 10 2 9,oN (.store 1 (aT 10) xh)]) .skip)⟩
theorem Vy:cv Tryz.f70 abq=some abq:=by kernel_rfl
def abr:aP:=⟨[2,3],[999999],[],20,1,[.tmp 2],cR [aG 2 (aS [])] (cR [ah 4 0,aL 5 97 4,ae 3 5] (.seq (cR [ah 6 3,aL 7 44 6,oO 8 (.un .not (aT 7))] (bQ 8 (cR [ah 9 0,gV 10 9,bp 11 2 10,oN (.store 1 (aT 11) xh)] (cR [aG 2 (aS [])] .ret)) .skip)) (cR [ah 12 0,gV 13 12,bp 14 1 13,aj 15 1 14,aq 16 .add 15 1,gV 17 12,bp 18 1 17,dD 1 18 16] (cR [ah 19 3,ae 2 19] .ret))))⟩
theorem Vz:cv Tryz.f71 abr=some abr:=by kernel_rfl
def abt:aP:=⟨[],[999999],[],16,2,[.tmp 4],cR [cN 4 jz] (.seq (cR [ah 5 0,aL 6 97 5,ah 7 1,bZ 8 .neq 6 7] (bQ 8 (cR [cN 4 jz] .ret) .skip)) (cR [ah 9 0,gV 10 9,bp 11 1 10,aj 12 1 11,aq 13 .add 12 1,gV 14 9,bp 15 1 14,dD 1 15 13] (cR [cN 4 xh] .ret)))⟩
theorem VA:cv Tryz.f72 abt=some abt:=by kernel_rfl
def GY:aP:=⟨[34,8,700002,700003],[2,999999,999998],[777777],48,1,[.cell 2 true 14],cR [oO 1 (.box 125 (aT 0)),oO 2 (.allocL [.int .i64 0,.str [],.af,.str [],.af,.int .i64 0,.int .i64 0,.str [],.str [],.str [],.af,.af,.af,.af])] (.seq (.nf 48 [oO 4 (.load false false 1 (.aZ 0)),aj 5 1 1,aL 6 97 5,aK 7 98 4 6,oO 8 (.build [.int .i64 0,.str [],.af,.str [],.af,.int .i64 0,.int .i64 0,.str [],.str [],.str [],.af,.af,.af,.af] [(0,1,.tmp 7)]),oO 3 (.oz 47 [.int .i64 0,.str [],.af,.str [],.af,.int .i64 0,.int .i64 0,.str [],.str [],.str [],.af,.af,.af,.af]),dD 14 3 8] [[],[],[1],[0,2,2],[3],[],[5,4,3,0,1,2,3,4,5]]) (.seq (cR [bp 9 0 3,aj 10 1 9,aq 11 .lss 10 0] (bQ 11 (cR [aj 12 1 1,gV 13 12,bp 14 2 13,oN (.store 1 (aT 14) xh)] (cR [aM 15 14 3,dD 14 2 15] .ret)) .skip)) (cR [aj 16 1 1,gV 17 16,bp 18 1 17,aj 19 1 18,aq 20 .add 19 1,gV 21 16,bp 22 1 21,dD 1 22 20] (cR [aj 23 1 1,aL 24 71 23,bp 25 1 3,dD 1 25 24] (cR [aj 26 1 1,bG 27 70 [aT 26,aS [40]]] (cR [aj 28 1 1,oO 29 (.mkfunc (Fn.func 100) [] [aT 1,aT 3]),bG 30 99 [aT 28,aS [41],aT 29]] (.seq (cR [bp 31 0 3,aj 32 1 31,aq 33 .neq 32 0,ae 34 33,cc 35 34 (iu 0 3),cc 36 34 (ct 1 35),cc 37 34 (cX .neq (aT 36) (aI 1)),gJ 38 34 37] (bQ 38 (cR [aj 39 1 1,aL 40 101 39,bp 41 3 3,dD 2 41 40] (cR [aj 42 1 1,bG 43 70 [aT 42,aS [61]]] (.region false [aj 44 1 1,aL 45 103 44,bp 46 5 3,dD 8 46 45]))) .skip)) (cR [aM 47 14 3,dD 14 2 47] .ret))))))))⟩
theorem VB:cv Tryz.f73 GY=some GY:=by kernel_rfl
def abu:aP:=⟨[6,7,19,700009],[9,999999],[],41,3,[.tmp 6],cR [aG 6 (aI 0)] (.seq (cR [ah 10 1,ah 11 0,cr 12 .sl 11,bZ 13 .geq 10 12] (bQ 13 (cR [ah 14 2,ae 6 14] .ret) .skip)) (cR [aG 7 (aI 0)] (.seq (cR [ah 15 0,ah 16 1,oO 17 (.slice (.sl 2) (aT 15) none (some (aT 16)) none),cr 18 .sl 17,aG 19 (aI 0)] (.block 0 (.loop (cR [bZ 20 .lss 19 18] (.seq (bQ 20 .skip (.exit 0)) (.seq (.block 1 (cR [fw 21 2 17 19,aM 22 2 21,oO 9 (.allocL [.str [],.str []]),dD 2 9 22] (.region false [ah 23 7,bp 24 1 9,aj 25 1 24,cr 26 .str 25,bp 27 0 9,aj 28 1 27,cr 29 .str 28,bZ 30 .add 26 29,bZ 31 .add 23 30,ae 7 31]))) (.region false [aq 32 .add 19 1,ae 19 32]))))))) (cR [ah 33 7,ah 34 0,ah 35 1,fw 36 2 34 35,bp 37 1 36,aj 38 1 37,cr 39 .str 38,bZ 40 .add 33 39,ae 6 40] .ret))))⟩
theorem VC:cv Tryz.f74 abu=some abu:=by kernel_rfl
def abv:aP:=⟨[2,3,4,17],[999999],[],18,1,[.tmp 2,.tmp 3],cR [aG 2 (aS []),aG 3 (aS [])] (.seq (cR [ah 5 0,bG 6 104 [aT 5,.bC (.int IntKind.u8 10)],ae 4 6] (cR [ah 7 4,aq 8 .geq 7 0] (bQ 8 (cR [ah 9 0,ah 10 4,aq 11 .add 10 1,oO 12 (.slice .str (aT 9) none (some (aT 11)) none),ah 13 0,ah 14 4,aq 15 .add 14 1,oO 16 (.slice .str (aT 13) (some (aT 15)) none none),ae 2 12,ae 3 16] .ret) .skip))) (cR [ae 17 0,ae 2 17,aG 3 (aS [])] .ret))⟩
theorem VD:cv Tryz.f75 abv=some abv:=by kernel_rfl
def Ra:aP:=⟨[5,11],[2,3],[],39,2,[.tmp 4],cR [oO 2 (.boxL (aT 0)),oO 3 (.boxL (aT 1)),cN 4 jz] (.seq (cR [bp 6 0 2,aj 7 1 6,bp 8 0 3,aj 9 1 8,bZ 10 .neq 7 9,ae 11 10,bX 12 11 (iu 1 2),bX 13 11 (ct 1 12),bX 14 11 (ru 13),bX 15 11 (iu 1 3),bX 16 11 (ct 1 15),bX 17 11 (ru 16),bX 18 11 (cX .neq (aT 14) (aT 17)),kA 19 11 18] (bQ 19 (cR [cN 4 jz] .ret) .skip)) (.seq (cR [aG 5 (aI 0)] (.block 0 (.loop (.seq (cR [ah 20 5,bp 21 1 2,aj 22 1 21,cr 23 .sl 22,bZ 24 .lss 20 23] (bQ 24 .skip (.exit 0))) (.seq (.block 1 (.seq (.region true [bp 27 1 2,aj 28 1 27,ah 29 5,fw 30 2 28 29,aM 31 2 30,bp 32 1 3,aj 33 1 32,ah 34 5,fw 35 2 33 34,aM 36 2 35,aK 37 76 31 36,oO 38 (.un .not (aT 37))]) (bQ 38 (cR [cN 4 jz] .ret) .skip))) (.region false [ah 25 5,aq 26 .add 25 1,ae 5 26])))))) (cR [cN 4 xh] .ret)))⟩
theorem VE:cv Tryz.f76 Ra=some Ra:=by kernel_rfl
def Rb:aP:=⟨[5],[],[],26,2,[.tmp 4],cR [cN 4 jz] (.seq (cR [ah 6 0,cr 7 .sl 6,ah 8 1,cr 9 .sl 8,bZ 10 .neq 7 9] (bQ 10 (cR [cN 4 jz] .ret) .skip)) (.seq (cR [aG 5 (aI 0)] (.block 0 (.loop (.seq (cR [ah 11 5,ah 12 0,cr 13 .sl 12,bZ 14 .lss 11 13] (bQ 14 .skip (.exit 0))) (.seq (.block 1 (.seq (.region true [ah 17 0,ah 18 5,fw 19 1 17 18,aj 20 1 19,ah 21 1,ah 22 5,fw 23 1 21 22,aj 24 1 23,bZ 25 .neq 20 24]) (bQ 25 (cR [cN 4 jz] .ret) .skip))) (.region false [ah 15 5,aq 16 .add 15 1,ae 5 16])))))) (cR [cN 4 xh] .ret)))⟩
theorem VF:cv Tryz.f77 Rb=some Rb:=by kernel_rfl
def Rc:aP:=⟨[2,5,9,12],[999999],[],17,1,[.tmp 2],cR [aG 2 jz] (cR [ah 3 0,kF 4 .geq (aT 3) (.bC (.int IntKind.u8 97)),ae 5 4,cc 6 5 (dL 0),cc 7 5 (cX .leq (aT 6) (.bC (.int IntKind.u8 122))),gJ 8 5 7,ae 9 8,bX 10 9 (dL 0),bX 11 9 (cX .geq (aT 10) (.bC (.int IntKind.u8 65))),bX 12 9 (jx 11),cc 13 12 (dL 0),cc 14 12 (cX .leq (aT 13) (.bC (.int IntKind.u8 90))),bX 15 9 (.pick (aT 12) (aT 14) jz),kA 16 9 15,ae 2 16] .ret)⟩
theorem VG:cv Tryz.f78 Rc=some Rc:=by kernel_rfl
def Rd:aP:=⟨[2,5,7,9,22,37,700004],[4,999999],[],46,1,[.tmp 2],cR [aG 2 (aI 0)] (.seq (cR [oO 8 (.load false true 4 (.aZ 2)),aG 9 (aI 0)] (.block 0 (.loop (cR [aq 10 .lss 9 2] (.seq (bQ 10 .skip (.exit 0)) (.seq (.block 1 (cR [oO 11 (.index true 2 2 (aT 8) (aT 9)),oO 4 (.allocL [.cW,.cW]),dD 2 4 11] (.seq (.seq (.region true [oO 12 (.ixArr 2 1 (aT 4) (aI 0)),aj 13 1 12,ah 14 0,oO 15 (.indexStr (aT 14) (aI 0)),oO 16 (.call (aT 13) [aT 15]),oO 17 (.un .not (aT 16))]) (bQ 17 (.exit 1) .skip)) (cR [aG 5 (aI 1)] (.seq (.block 2 (.loop (.seq (cR [ah 18 5,ah 19 0,dI 19,cr 20 .str 19,bZ 21 .lss 18 20,ae 22 21,oHt 22 (.Af (.frame 4) (aT 4)),cc 23 22 (.ixArr 2 1 (aT 4) (aI 1)),oHt 22 (.Af (.frame 4) (aT 23)),cc 24 22 (ct 1 23),cc 25 22 (dL 0),cc 26 22 (dL 5),cc 27 22 (.indexStr (aT 25) (aT 26)),cc 28 22 (.call (aT 24) [aT 27]),gJ 29 22 28] (bQ 29 .skip (.exit 2))) (.block 3 (.region false [ah 30 5,aq 31 .add 30 1,ae 5 31]))))) (.seq (cR [ah 32 5,aq 33 .gtr 32 16] (bQ 33 (cR [aG 2 (aI 0)] .ret) .skip)) (cR [ah 34 5,ae 2 34] .ret))))))) (.region false [aq 35 .add 9 1,ae 9 35]))))))) (.seq (cR [oO 36 (.load false true 18 (.aZ 3)),aG 37 (aI 0)] (.block 4 (.loop (cR [aq 38 .lss 37 18] (.seq (bQ 38 .skip (.exit 4)) (.seq (.block 5 (cR [oO 39 (.index false 18 1 (aT 36) (aT 37)),ae 7 39] (cR [ah 40 0,ah 41 7,aK 42 105 40 41] (bQ 42 (cR [ah 43 7,cr 44 .str 43,ae 2 44] .ret) .skip)))) (.region false [aq 45 .add 37 1,ae 37 45]))))))) (cR [aG 2 (aI 0)] .ret)))⟩
theorem VH:cv Tryz.f79 Rd=some Rd:=by kernel_rfl
def Re:aP:=⟨[4],[999999],[],9,2,[.tmp 4],cR [aG 4 jz] (cR [ah 5 0,ah 6 1,aK 7 98 5 6,aq 8 .geq 7 0,ae 4 8] .ret)⟩
theorem VI:cv Tryz.f80 Re=some Re:=by kernel_rfl
def Rf:aP:=⟨[4,5,6],[999999],[],13,2,[.tmp 4,.tmp 5,.tmp 6],cR [aG 4 (aS []),aG 5 (aS []),aG 6 jz] (cR [ah 7 0,ah 8 1,aK 9 106 7 8,fS 10 9 0,fS 11 9 1,fS 12 9 2,ae 4 10,ae 5 11,ae 6 12] .ret)⟩
theorem VJ:cv Tryz.f81 Rf=some Rf:=by kernel_rfl
def Rg:aP:=⟨[4],[999999],[],8,2,[.tmp 4],cR [aG 4 (aI 0)] (cR [ah 5 0,ah 6 1,aK 7 111 5 6,ae 4 7] .ret)⟩
theorem VK:cv Tryz.f83 Rg=some Rg:=by kernel_rfl
def Rh:aP:=⟨[4],[999999],[],13,2,[.tmp 4],cR [aG 4 (aS [])] (.seq (cR [ah 5 0,ah 6 1,aK 7 112 5 6] (bQ 7 (cR [ah 8 0,ah 9 1,cr 10 .str 9,oO 11 (.slice .str (aT 8) (some (aT 10)) none none),ae 4 11] .ret) .skip)) (cR [ah 12 0,ae 4 12] .ret))⟩
theorem VL:cv Tryz.f84 Rh=some Rh:=by kernel_rfl
def Ri:aP:=⟨[],[999999],[],4,1,[.tmp 2],cR [cN 2 (aS [])] (.seq (cR [ah 3 0] (bQ 3 (cR [cN 2 (aS [116,114,117,101])] .ret) .skip)) (cR [cN 2 (aS [102,97,108,115,101])] .ret))⟩
theorem VM:cv Tryz.f85 Ri=some Ri:=by kernel_rfl
def J1:aP:=⟨[2,3,4,700005],[5,999999],[7],24,1,[.tmp 2,.tmp 3],cR [aG 2 (aS []),aG 3 (aI 0)] (.seq (cR [oO 6 (.load false false 1 (.aZ 4)),oO 7 (.Zj 1 false true (aT 6))] (.block 0 (.loop (cR [oO 8 (.next (aT 7)),fS 9 8 0] (.seq (bQ 9 .skip (.exit 0)) (.block 1 (cR [oO 10 (.Tc (aT 7)),fS 11 10 0,fS 12 10 1,oO 5 (.allocL [.int .i64 0,.int .i64 0]),ae 4 11,dD 2 5 12] (cR [bp 13 0 5,aj 14 1 13,ah 15 0,bZ 16 .eql 14 15] (bQ 16 (cR [ah 17 4,dC 5 5,bp 18 1 5,dC 5 18,aj 19 1 18,ae 2 17,ae 3 19] .ret) .skip))))))))) (cR [oO 20 (.sF 1 false false),oN (.mq 1 false false 1 [.i] (aT 20) (aI 9) (aS [110,111,116])),oN (.mq 1 false false 1 [.i] (aT 20) (aI 11) (aS [108,101,110])),ah 21 20,ah 22 0,oO 23 (.look false 1 false false [.i] [.str []] (aT 21) (aT 22)),ae 2 23,aG 3 (aI 7)] .ret))⟩
theorem Lv:cv Tryz.f86 J1=some J1:=by kernel_rfl
def J2:aP:=⟨[],[999999],[],22,3,[],cR [oO 4 (.box 45 (aT 1))] (.seq (cR [aM 6 8 4,aL 7 113 6,ah 8 2,bZ 9 .lss 7 8] (bQ 9 (cR [ah 10 0,oO 11 (dR 1 [[.str []]] [(0,.bC (.str [40]))]),aK 12 21 10 11] (cR [ah 13 0,aM 14 8 4,aK 15 27 13 14] (cR [ah 16 0,oO 17 (dR 1 [[.str []]] [(0,.bC (.str [41]))]),aK 18 21 16 17] .ret))) .skip)) (.region false [ah 19 0,aM 20 8 4,aK 21 27 19 20]))⟩
theorem VN:cv Tryz.f87 J2=some J2:=by kernel_rfl
def Rj:aP:=⟨[],[999999,999996],[],24,3,[],cR [dI 1,aj 4 1 1,dI 2,bp 5 7 2,dI 5,aj 6 1 5,ah 7 0,kF 8 .mul (aI 2) (aT 7),dI 6,fw 9 1 6 8,dI 9,aj 10 1 9,aK 11 22 4 10] (cR [dI 1,aj 12 1 1,dI 2,bp 13 7 2,dI 13,aj 14 1 13,ah 15 0,kF 16 .mul (aI 2) (aT 15),aq 17 .add 16 1,dI 14,fw 18 1 14 17,dI 18,aj 19 1 18,aK 20 22 12 19] (.region false [aj 21 1 1,oO 22 (dR 1 [[.str []]] [(0,.bC (.str [45,62]))]),aK 23 21 21 22]))⟩
theorem VO:cv Tryz.f88 Rj=some Rj:=by kernel_rfl
def Rk:aP:=⟨[],[999999,999996],[],14,3,[],cR [dI 1,aj 4 1 1,dI 2,bp 5 7 2,dI 5,aj 6 1 5,ah 7 0,dI 6,fw 8 1 6 7,dI 8,aj 9 1 8,aK 10 22 4 9] (.region false [aj 11 1 1,oO 12 (dR 1 [[.str []]] [(0,.bC (.str [61]))]),aK 13 21 11 12])⟩
theorem VP:cv Tryz.f89 Rk=some Rk:=by kernel_rfl
def Rl:aP:=⟨[2,3,4,5,6,14,17],[],[],22,1,[.tmp 2],cR [aG 2 jz] (cR [ah 7 0,aL 8 92 7,ae 6 8,fS 9 6 0,fS 10 6 1,fS 11 6 2,ae 3 9,ae 4 10,ae 5 11] (cR [ah 12 3,aL 13 34 12,ae 14 13,cc 15 14 (dL 5),cc 16 14 (.un .not (aT 15)),cc 17 14 (jx 16),bX 18 17 (dL 4),bX 19 17 (fK 34 [aT 18]),cc 20 14 (.pick (aT 17) xh (aT 19)),gJ 21 14 20,ae 2 21] .ret))⟩
theorem VQ:cv Tryz.f90 Rl=some Rl:=by kernel_rfl
def Rm:aP:=⟨[3,4,5,6,12,14,16,18,20,22,32,34,36,39,41,43,50,52],[1],[],54,1,[.tmp 2,.tmp 3],cR [oO 1 (.boxL (aT 0)),cN 2 (aI 0),aG 3 (aI 0)] (cR [bp 7 6 1,aj 8 1 7,cr 9 .sl 8,ae 4 9] (.seq (cR [bp 10 0 1,aj 11 1 10] (.block 0 (cR [aq 13 .eql 11 0,ae 12 13] (bQ 12 (cR [cN 2 (aI 0),aG 3 (aI 0)] .ret) (cR [aq 15 .eql 11 1,ae 14 15] (bQ 14 (cR [cN 2 (aI 0),aG 3 (aI 0)] .ret) (cR [aq 17 .eql 11 2,ae 16 17] (bQ 16 (cR [cN 2 (aI 0),aG 3 (aI 0)] .ret) (cR [aq 19 .eql 11 3,ae 18 19] (bQ 18 (cR [cN 2 (aI (-1)),aG 3 (aI 0)] .ret) (cR [aq 21 .eql 11 4,ae 20 21] (bQ 20 (cR [bp 23 1 1,aj 24 1 23,aL 25 63 24,ae 22 25,fS 26 22 0,fS 27 22 1,ae 5 26,ae 6 27] (.seq (cR [ah 28 5,kF 29 .eql (aT 28) (aS [])] (bQ 29 (cR [cN 2 (aI (-2)),aG 3 (aI 0)] .ret) .skip)) (.seq (cR [ah 30 6,aq 31 .eql 30 7] (bQ 31 (cR [cN 2 (aI 1),aG 3 (aI 0)] .ret) .skip)) (cR [cN 2 (aI 2),aG 3 (aI 0)] .ret)))) (cR [aq 33 .eql 11 5,ae 32 33] (bQ 32 (cR [cN 2 (aI 3),aG 3 (aI 0)] .ret) (cR [aq 35 .eql 11 6,ae 34 35] (bQ 34 (cR [cN 2 (aI 2),aG 3 (aI 1)] .ret) (cR [aq 37 .eql 11 7,ae 36 37] (bQ 36 (cR [ah 38 4,cN 2 (aI (-1)),ae 3 38] .ret) (cR [aq 40 .eql 11 8,ae 39 40] (bQ 39 (cR [cN 2 (aI 1),aG 3 (aI 0)] .ret) (cR [aq 42 .eql 11 9,ae 41 42] (bQ 41 (cR [cN 2 (aI 1),aG 3 (aI 0)] .ret) (cR [aq 44 .eql 11 10,ae 43 44] (bQ 43 (.seq (cR [ah 45 4,aq 46 .lss 45 2] (bQ 46 (cR [cN 2 (aI (-2)),aG 3 (aI 0)] .ret) .skip)) (cR [ah 47 4,aq 48 .sub 47 1,kF 49 .mul (aI 2) (aT 48),cN 2 (aI (-1)),ae 3 49] .ret)) (cR [aq 51 .eql 11 11,ae 50 51] (bQ 50 (cR [cN 2 (aI (-1)),aG 3 (aI 0)] .ret) (cR [aq 53 .eql 11 12,ae 52 53] (bQ 52 (cR [cN 2 (aI 3),aG 3 (aI 2)] .ret) .skip)))))))))))))))))))))))))))) (cR [cN 2 (aI (-2)),aG 3 (aI 0)] .ret)))⟩
theorem VS:cv Tryz.f91 Rm=some Rm:=by kernel_rfl
def Rn:aP:=⟨[2,3,5],[],[],24,1,[.tmp 2,.tmp 3,.tmp 4],cR [aG 2 (aS []),aG 3 (aS []),cN 4 jz] (.seq (cR [aG 5 (aI 0)] (.block 0 (.loop (.seq (cR [ah 6 5,ah 7 0,cr 8 .str 7,bZ 9 .lss 6 8] (bQ 9 .skip (.exit 0))) (.seq (.block 1 (cR [ah 12 0,ah 13 5,oO 14 (.indexStr (aT 12) (aT 13)),kF 15 .eql (aT 14) (.bC (.int IntKind.u8 46))] (bQ 15 (cR [ah 16 0,ah 17 5,oO 18 (.slice .str (aT 16) none (some (aT 17)) none),ah 19 0,ah 20 5,aq 21 .add 20 1,oO 22 (.slice .str (aT 19) (some (aT 21)) none none),ae 2 18,ae 3 22,cN 4 xh] .ret) .skip))) (.region false [ah 10 5,aq 11 .add 10 1,ae 5 11])))))) (cR [ah 23 0,ae 2 23,aG 3 (aS []),cN 4 jz] .ret))⟩
theorem VT:cv Tryz.f92 Rn=some Rn:=by kernel_rfl
def Ro:aP:=⟨[2,3,4,8,13,21],[1],[],28,1,[.tmp 2],cR [oO 1 (.boxL (aT 0)),aG 2 (aI 0)] (.seq (cR [bp 5 0 1,aj 6 1 5,aq 7 .eql 6 5,ae 8 7,bX 9 8 (iu 0 1),bX 10 8 (ct 1 9),bX 11 8 (cX .eql (aT 10) (aI 6)),kA 12 8 11,ae 13 12,bX 14 13 (iu 0 1),bX 15 13 (ct 1 14),bX 16 13 (cX .eql (aT 15) (aI 12)),kA 17 13 16] (bQ 17 (cR [aG 2 (aI 0)] .ret) .skip)) (.seq (cR [bp 18 0 1,aj 19 1 18,aq 20 .eql 19 4] (bQ 20 (cR [bp 22 1 1,aj 23 1 22,aL 24 63 23,ae 21 24,fS 25 21 0,fS 26 21 1,ae 3 25,ae 4 26] (cR [ah 27 4,ae 2 27] .ret)) .skip)) (cR [aG 2 (aI 8)] .ret)))⟩
theorem VU:cv Tryz.f93 Ro=some Ro:=by kernel_rfl
def Rp:aP:=⟨[4,7],[],[],26,1,[.tmp 2],cR [cN 2 jz] (.seq (cR [ah 5 0,kF 6 .eql (aT 5) (aS [61,61]),ae 7 6,bX 8 7 (dL 0),bX 9 7 (cX .eql (aT 8) (aS [45,62])),kA 10 7 9] (bQ 10 (cR [cN 2 xh] .ret) .skip)) (.seq (cR [ah 11 0,cr 12 .str 11,aq 13 .neq 12 1] (bQ 13 (cR [cN 2 jz] .ret) .skip)) (cR [cN 3 (aS [40,41,123,125,91,93,44,58,46,61,43,45,42,47,37,60])] (.seq (cR [aG 4 (aI 0)] (.block 0 (.loop (.seq (cR [ah 14 4,ah 15 3,cr 16 .str 15,bZ 17 .lss 14 16] (bQ 17 .skip (.exit 0))) (.seq (.block 1 (.seq (.region true [ah 20 3,ah 21 4,oO 22 (.indexStr (aT 20) (aT 21)),ah 23 0,oO 24 (.indexStr (aT 23) (aI 0)),bZ 25 .eql 22 24]) (bQ 25 (cR [cN 2 xh] .ret) .skip))) (.region false [ah 18 4,aq 19 .add 18 1,ae 4 19])))))) (cR [cN 2 jz] .ret)))))⟩
theorem VV:cv Tryz.f94 Rp=some Rp:=by kernel_rfl
def abz:aP:=⟨[4,16,7,700002,700003],[2,3],[],27,1,[.cell 2 true 2],cR [oO 1 (.box 42 (aT 0)),oO 2 (.allocL [.str [],.af])] (cR [bp 5 0 1,aj 6 1 5,oO 7 (.build [.str [],.af] [(0,1,.tmp 6)]),oO 3 (.allocL [.str [],.af]),dD 2 3 7] (.seq (cR [aG 4 (aI 0)] (.block 0 (.loop (.seq (cR [ah 8 4,bp 9 1 1,aj 10 1 9,cr 11 .sl 10,bZ 12 .lss 8 11] (bQ 12 .skip (.exit 0))) (.seq (.block 1 (.region false [dC 3 3,bp 15 1 3,dC 3 15,oO 16 (.load true false 1 (aT 15)),dI 1,bp 17 1 1,dI 17,aj 18 1 17,ah 19 4,dI 18,fw 20 2 18 19,dI 20,aM 21 2 20,aL 22 95 21,oO 23 (dR 2 [[.str [],.slice [] false]] [(0,.tmp 22)]),cS 24 2 40 16 23,dC 3 3,bp 25 1 3,dC 3 25,dD 1 25 24])) (.region false [ah 13 4,aq 14 .add 13 1,ae 4 14])))))) (cR [aM 26 2 3,dD 2 2 26] .ret)))⟩
theorem VW:cv Tryz.f95 abz=some abz:=by kernel_rfl
noncomputable def abA:aP:=yr [2,3,4,13,18] [999999] [] Tryz.f96
theorem VX:cv Tryz.f96 abA=some abA:=by kernel_rfl
def abB:aP:=⟨[2,7],[999999],[],30,1,[.tmp 2],cR [aG 2 (aS [])] (.seq (cR [ah 3 0,dI 3,gV 4 3,dI 4,bp 5 2 4,dI 5,aj 6 1 5,ae 7 6,bX 8 7 (dL 0),Nl 7 (Ww 8),bX 9 7 (.nilCheck (aT 8)),Nl 7 (Ww 9),bX 10 7 (iu 1 9),Nl 7 (Ww 10),bX 11 7 (ct 1 10),bX 12 7 (dL 0),Nl 7 (Ww 12),bX 13 7 (.nilCheck (aT 12)),Nl 7 (Ww 13),bX 14 7 (iu 0 13),Nl 7 (Ww 14),bX 15 7 (ct 1 14),Nl 7 (Ww 15),bX 16 7 (ru 15),bX 17 7 (cX .geq (aT 11) (aT 16)),kA 18 7 17] (bQ 18 (cR [aG 2 (aS [])] .ret) .skip)) (cR [ah 19 0,dI 19,gV 20 19,dI 20,bp 21 0 20,dI 21,aj 22 1 21,ah 23 0,dI 23,gV 24 23,dI 24,bp 25 1 24,dI 25,aj 26 1 25,dI 22,fw 27 2 22 26,dI 27,bp 28 0 27,dI 28,aj 29 1 28,ae 2 29] .ret))⟩
theorem VY:cv Tryz.f97 abB=some abB:=by kernel_rfl
def Rq:aP:=⟨[4,5,8],[999999],[],19,2,[.tmp 4],cR [aG 4 (aI 0)] (.seq (cR [ah 6 0,cr 7 .sl 6,aG 8 (aI 0)] (.block 0 (.loop (cR [bZ 9 .lss 8 7] (.seq (bQ 9 .skip (.exit 0)) (.seq (.block 1 (cR [ah 10 8,ae 5 10] (cR [ah 11 1,ah 12 0,ah 13 5,fw 14 1 12 13,aj 15 1 14,bZ 16 .eql 11 15] (bQ 16 (cR [ah 17 5,ae 4 17] .ret) .skip)))) (.region false [aq 18 .add 8 1,ae 8 18]))))))) (cR [aG 4 (aI (-1))] .ret))⟩
theorem VZ:cv Tryz.f98 Rq=some Rq:=by kernel_rfl
def V0:aP:=⟨[16],[999999],[888887],30,3,[],.seq (cR [ah 6 0,ah 7 1,aK 8 72 6 7] (bQ 8 .ret .skip)) (.seq (cR [ah 9 2,oO 10 (.call (aT 9) [])] (.block 0 (.loop (.seq (cR [ah 11 0,gV 12 11,bp 13 2 12,aj 14 1 13,oO 15 (.un .not (aT 14)),ae 16 15,cc 17 16 (dL 0),cc 18 16 (fK 72 [aT 17,aS [44]]),gJ 19 16 18] (bQ 19 .skip (.exit 0))) (.block 1 (.region false [ah 20 2,oO 21 (.call (aT 20) [])])))))) (cR [ah 22 0,gV 23 22,bp 24 2 23,aj 25 1 24,oO 26 (.un .not (aT 25))] (bQ 26 (.region false [ah 27 0,ah 28 1,aK 29 70 27 28]) .skip)))⟩
theorem V1:cv Tryz.f99 V0=some V0:=by kernel_rfl
def P4:aP:=⟨[15,7,700002],[2,999999,999998],[],20,2,[],.seq (.nf 20 [aj 3 1 0,aL 4 71 3,aj 5 1 0,aL 6 101 5,oO 7 (.build [.str [],.str [],.af,.int .i64 0] [(0,1,.tmp 4),(1,2,.tmp 6)]),oO 2 (.allocL [.str [],.str [],.af,.int .i64 0]),dD 4 2 7] [[],[0],[],[2,1],[1,3],[],[5,4,3,0,1,2,3,4,5]]) (.seq (cR [bp 8 0 1,aj 9 1 8,aq 10 .eql 9 4] (bQ 10 (.region false [aj 11 1 0,bG 12 102 [aT 11,aI 0],bp 13 3 2,dD 1 13 12]) .skip)) (.region false [bp 14 2 1,oO 15 (.load true false 1 (aT 14)),aM 16 4 2,oO 17 (dR 4 [[.str [],.str [],.slice [] false,.int .i64 0]] [(0,.tmp 16)]),cS 18 4 64 15 17,bp 19 2 1,dD 1 19 18]))⟩
theorem P5:cv Tryz.f100 P4=some P4:=by kernel_rfl
def P6:aP:=⟨[3,7,11,6,10,17,20,700002],[2,999999],[777777],21,1,[.cell 2 true 2],cR [oO 2 (.allocL [.str [],.af])] (.seq (.block 0 (cR [ah 4 0,bG 5 72 [aT 4,aS [73,110,116]],ae 3 5] (bQ 3 (cR [oO 6 (.build [.str [],.af] [(0,1,.bC (.str [73,110,116]))]),dD 2 2 6] .ret) (cR [ah 8 0,bG 9 72 [aT 8,aS [66,111,111,108]],ae 7 9] (bQ 7 (cR [oO 10 (.build [.str [],.af] [(0,1,.bC (.str [66,111,111,108]))]),dD 2 2 10] .ret) (cR [ah 12 0,bG 13 72 [aT 12,aS [76,105,115,116]],ae 11 13] (bQ 11 (cR [ah 14 0,aL 15 114 14,oO 16 (dR 2 [[.str [],.slice [] false]] [(0,.tmp 15)]),oO 17 (.build [.str [],.af] [(0,1,.bC (.str [76,105,115,116])),(1,1,.tmp 16)]),dD 2 2 17] .ret) .skip))))))) (cR [ah 18 0,aL 19 115 18,oO 20 (.build [.str [],.af] [(0,1,.tmp 19)]),dD 2 2 20] .ret))⟩
theorem P7:cv Tryz.f101 P6=some P6:=by kernel_rfl
def P8:aP:=⟨[4,5],[999999],[],23,2,[.tmp 4],cR [aG 4 (aI 0)] (cR [ah 6 0,aL 7 97 6,aL 8 116 7,ae 5 8] (.seq (cR [ah 9 5,ah 10 1,bZ 11 .lss 9 10] (bQ 11 (cR [ah 12 0,gV 13 12,bp 14 2 13,oN (.store 1 (aT 14) xh)] (cR [aG 4 (aI 0)] .ret)) .skip)) (cR [ah 15 0,gV 16 15,bp 17 1 16,aj 18 1 17,aq 19 .add 18 1,gV 20 15,bp 21 1 20,dD 1 21 19] (cR [ah 22 5,ae 4 22] .ret))))⟩
theorem P9:cv Tryz.f102 P8=some P8:=by kernel_rfl
noncomputable def Qa:aP:=yr [4,8,25,37,53,700002,700003] [2,18,999999,18,42,57,999998] [500002,500003,777777] Tryz.f103
theorem Qb:cv Tryz.f103 Qa=some Qa:=by kernel_rfl
def GN:aP:=⟨[4],[999999],[],8,2,[.tmp 4],cR [aG 4 jz] (cR [ah 5 0,ah 6 1,aK 7 112 5 6,ae 4 7] .ret)⟩
theorem Qc:cv Tryz.f105 GN=some GN:=by kernel_rfl
def GO:aP:=⟨[4,5,7],[999999],[],23,2,[.tmp 4,.tmp 5,.tmp 6],cR [aG 4 (aS []),aG 5 (aS []),cN 6 jz] (.seq (cR [ah 8 0,ah 9 1,aK 10 111 8 9,ae 7 10] (cR [ah 11 7,aq 12 .geq 11 0] (bQ 12 (cR [ah 13 0,ah 14 7,oO 15 (.slice .str (aT 13) none (some (aT 14)) none),ah 16 0,ah 17 7,ah 18 1,dI 18,cr 19 .str 18,bZ 20 .add 17 19,oO 21 (.slice .str (aT 16) (some (aT 20)) none none),ae 4 15,ae 5 21,cN 6 xh] .ret) .skip))) (cR [ah 22 0,ae 4 22,aG 5 (aS []),cN 6 jz] .ret))⟩
theorem Qd:cv Tryz.f106 GO=some GO:=by kernel_rfl
def GP:aP:=⟨[4,5,6,7,8,9,10,11,12,13,16,19,24,31,36,40,84,102,121,128],[999999],[],143,2,[.tmp 4],cR [aG 4 (aI 0)] (cR [ah 14 1,cr 15 .str 14,ae 5 15] (.seq (.block 0 (cR [ah 17 5,aq 18 .eql 17 0,ae 19 18,bX 20 19 (dL 1),bX 21 19 (dL 0),bX 22 19 (cX .eql (aT 20) (aT 21)),kA 23 19 22,ae 16 23] (bQ 16 (cR [aG 4 (aI 0)] .ret) (cR [ah 25 5,aq 26 .eql 25 1,ae 24 26] (bQ 24 (cR [ah 27 0,ah 28 1,oO 29 (.indexStr (aT 28) (aI 0)),aK 30 119 27 29,ae 4 30] .ret) (cR [ah 32 5,ah 33 0,cr 34 .str 33,bZ 35 .geq 32 34,ae 31 35] (bQ 31 (cR [aG 4 (aI (-1))] .ret) (cR [ah 37 5,oO 38 (.load false false 1 (.aZ 6)),bZ 39 .leq 37 38,ae 40 39,cc 41 40 (dL 0),cc 42 40 (.len .str (aT 41)),cc 43 40 (cX .leq (aT 42) (aI 64)),gJ 44 40 43,ae 36 44] (bQ 36 (cR [ah 45 0,ah 46 1,aK 47 125 45 46,ae 4 47] .ret) .skip))))))))) (cR [ah 48 1,oO 49 (.indexStr (aT 48) (aI 0)),ae 6 49] (cR [ah 50 1,oO 51 (.indexStr (aT 50) (aI 1)),ae 7 51] (cR [aG 8 (aI 0)] (cR [ah 52 0,cr 53 .str 52,ah 54 5,bZ 55 .sub 53 54,aq 56 .add 55 1,ae 9 56] (cR [aG 10 (aI 0)] (.seq (.block 1 (.loop (.seq (cR [ah 57 8,ah 58 9,bZ 59 .lss 57 58] (bQ 59 .skip (.exit 1))) (.block 2 (.seq (cR [ah 60 0,ah 61 8,oO 62 (.indexStr (aT 60) (aT 61)),ah 63 6,bZ 64 .neq 62 63] (bQ 64 (cR [ah 65 0,ah 66 8,aq 67 .add 66 1,ah 68 9,oO 69 (.slice .str (aT 65) (some (aT 67)) (some (aT 68)) none),ah 70 6,aK 71 119 69 70,ae 11 71] (.seq (cR [ah 72 11,aq 73 .lss 72 0] (bQ 73 (cR [aG 4 (aI (-1))] .ret) .skip)) (.region false [ah 74 8,ah 75 11,aq 76 .add 75 1,bZ 77 .add 74 76,ae 8 77]))) .skip)) (.seq (cR [ah 78 0,ah 79 8,aq 80 .add 79 1,oO 81 (.indexStr (aT 78) (aT 80)),ah 82 7,bZ 83 .eql 81 82,ae 84 83,cc 85 84 (dL 0),cc 86 84 (dL 8),cc 87 84 (dL 8),cc 88 84 (dL 5),cc 89 84 (cX .add (aT 87) (aT 88)),cc 90 84 (.slice .str (aT 85) (some (aT 86)) (some (aT 89)) none),cc 91 84 (dL 1),cc 92 84 (cX .eql (aT 90) (aT 91)),gJ 93 84 92] (bQ 93 (cR [ah 94 8,ae 4 94] .ret) .skip)) (cR [ah 95 8,aq 96 .add 95 1,ae 8 96] (cR [ah 97 10,aq 98 .add 97 1,ae 10 98] (cR [ah 99 5,oO 100 (.load false false 1 (.aZ 6)),bZ 101 .leq 99 100,ae 102 101,cc 103 102 (dL 10),cc 104 102 (dL 8),cc 105 102 (fK 126 [aT 104]),cc 106 102 (cX .gtr (aT 103) (aT 105)),gJ 107 102 106] (bQ 107 (cR [ah 108 0,ah 109 8,oO 110 (.slice .str (aT 108) (some (aT 109)) none none),ah 111 1,aK 112 125 110 111,ae 12 112] (.seq (cR [ah 113 12,aq 114 .geq 113 0] (bQ 114 (cR [ah 115 12,ah 116 8,bZ 117 .add 115 116,ae 4 117] .ret) .skip)) (cR [aG 4 (aI (-1))] .ret))) (cR [ah 118 5,oO 119 (.load false false 1 (.aZ 6)),bZ 120 .gtr 118 119,ae 121 120,cc 122 121 (dL 10),cc 123 121 (dL 8),cc 124 121 (cX .shr (aT 123) (.bC (.int IntKind.u64 4))),cc 125 121 (cX .add (aI 4) (aT 124)),cc 126 121 (cX .geq (aT 122) (aT 125)),gJ 127 121 126,ae 128 127,cc 129 128 (dL 8),cc 130 128 (dL 9),cc 131 128 (cX .lss (aT 129) (aT 130)),gJ 132 128 131] (bQ 132 (cR [ah 133 0,ah 134 8,oO 135 (.slice .str (aT 133) (some (aT 134)) none none),ah 136 1,aK 137 127 135 136,ae 13 137] (.seq (cR [ah 138 13,aq 139 .lss 138 0] (bQ 139 (cR [aG 4 (aI (-1))] .ret) .skip)) (cR [ah 140 8,ah 141 13,bZ 142 .add 140 141,ae 4 142] .ret))) .skip)))))))))))) (cR [aG 4 (aI (-1))] .ret)))))))))⟩
theorem Qe:cv Tryz.f111 GP=some GP:=by kernel_rfl
def GQ:aP:=⟨[4,10],[999999],[],18,2,[.tmp 4],cR [aG 4 jz] (cR [ah 5 0,cr 6 .str 5,ah 7 1,cr 8 .str 7,bZ 9 .geq 6 8,ae 10 9,cc 11 10 (dL 0),cc 12 10 (dL 1),cc 13 10 (.len .str (aT 12)),cc 14 10 (.slice .str (aT 11) none (some (aT 13)) none),cc 15 10 (dL 1),cc 16 10 (cX .eql (aT 14) (aT 15)),gJ 17 10 16,ae 4 17] .ret)⟩
theorem Qf:cv Tryz.f112 GQ=some GQ:=by kernel_rfl
def GR:aP:=⟨[2,3,4,7,11,13],[999999],[],20,1,[.tmp 2],cR [oO 1 (.box 45 (aT 0)),aG 2 (aI 0)] (.seq (cR [bp 5 0 1,aj 6 1 5] (.block 0 (.seq (cR [aq 8 .eql 6 5,ae 7 8] (bQ 7 .skip (cR [aq 9 .eql 6 6,ae 7 9] (bQ 7 .skip (.region false [aq 10 .eql 6 12,ae 7 10]))))) (bQ 7 (cR [aG 2 (aI 0)] .ret) (cR [aq 12 .eql 6 4,ae 11 12] (bQ 11 (cR [bp 14 1 1,aj 15 1 14,aL 16 86 15,ae 13 16,fS 17 13 0,fS 18 13 1,ae 3 17,ae 4 18] (cR [ah 19 4,ae 2 19] .ret)) .skip)))))) (cR [aG 2 (aI 8)] .ret))⟩
theorem Qg:cv Tryz.f113 GR=some GR:=by kernel_rfl
noncomputable def Qh:aP:=yr [700002,700003] [2,3,999999] [777777] Tryz.f114
theorem Qi:cv Tryz.f114 Qh=some Qh:=by kernel_rfl
def Qj:aP:=⟨[2,3,11],[999999],[],21,1,[.tmp 2],cR [aG 2 (aS [])] (cR [ah 4 0,aL 5 71 4,ae 3 5] (.seq (cR [ah 6 0,gV 7 6,bp 8 2 7,aj 9 1 8,oO 10 (.un .not (aT 9)),ae 11 10,cc 12 11 (dL 0),cc 13 11 (fK 72 [aT 12,aS [46]]),gJ 14 11 13] (bQ 14 (.region false [ah 15 3,ah 16 0,aL 17 71 16,kF 18 .add (aS [46]) (aT 17),bZ 19 .add 15 18,ae 3 19]) .skip)) (cR [ah 20 3,ae 2 20] .ret)))⟩
theorem Qk:cv Tryz.f115 Qj=some Qj:=by kernel_rfl
def Ql:aP:=⟨[2,3,4,5,12,16,22],[999999],[],27,1,[.tmp 2],cR [aG 2 (aI 0)] (cR [ah 6 0,aL 7 128 6,ae 5 7,fS 8 5 0,fS 9 5 1,ae 3 8,ae 4 9] (.seq (cR [ah 10 4,oO 11 (.bin .neq .iface (aT 10) (.bC .cx)),ae 12 11,bX 13 12 (dL 3),bX 14 12 (cX .gtr (aT 13) (aI 1099511627776)),kA 15 12 14,ae 16 15,bX 17 16 (dL 3),bX 18 16 (fK 25 [aT 17]),bX 19 16 (dL 0),bX 20 16 (cX .neq (aT 18) (aT 19)),kA 21 16 20,ae 22 21,bX 23 22 (dL 3),bX 24 22 (cX .lss (aT 23) (aI 0)),kA 25 22 24] (bQ 25 (cR [aG 2 (aI (-1))] .ret) .skip)) (cR [ah 26 3,ae 2 26] .ret)))⟩
theorem Qm:cv Tryz.f116 Ql=some Ql:=by kernel_rfl
def GS:aP:=⟨[],[999999,18],[888887],21,3,[],cR [aj 4 1 1,ah 5 0,aK 6 70 4 5] (cR [aj 7 1 1,gV 8 7,bp 9 2 8,aj 10 1 9,oO 11 (.un .not (aT 10))] (bQ 11 (.nf 21 [bp 12 6 2,aj 13 1 12,aj 14 1 1,aL 15 103 14,cr 16 .sl 13,oO 17 (dR 8 [[.int .i64 0,.int .i64 0,.str [],.str [],.str [],.slice [] false,.slice [] false,.slice [] false]] [(0,.bC (.agg [.int .i64 0,.int .i64 0,.str [],.str [],.str [],.af,.af,.af]))]),oO 18 (.appendO 8 136 (aT 13) (aT 17)),fw 19 8 18 16,dD 8 19 15,bp 20 6 2,dD 1 20 18] [[],[0],[],[2],[1],[],[1,5,3,0,1,2,3,4,5],[6,4,0,1,2,3,4,5,6],[7,3,6,0,1,2,3,4,5,6],[0,1,2,3,4,5,6],[9,6,6,0,1,2,3,4,5,6]]) .skip))⟩
theorem Qn:cv Tryz.f117 GS=some GS:=by kernel_rfl
noncomputable def Qo:aP:=yr [5,6,9,39,48,27,69,700004,700007,700008] [4,7,8,999999] [14,777777] Tryz.f118
theorem Qp:cv Tryz.f118 Qo=some Qo:=by kernel_rfl
noncomputable def Qr:aP:=yr [2] [999999] [] Tryz.f126
theorem Qs:cv Tryz.f126 Qr=some Qr:=by kernel_rfl
noncomputable def Qt:aP:=yr [4,5,6,7,8,9,10,11,33,68] [999999] [] Tryz.f127
theorem Qu:cv Tryz.f127 Qt=some Qt:=by kernel_rfl
def zi:aP:=⟨[4,8,16,23,27,31,39,52,6,15,22,26,30,700002,700003],[2,999999],[500002,500003,777777],59,1,[.cell 2 true 8],cR [oO 2 (.allocL [.int .i64 0,.int .i64 0,.str [],.str [],.str [],.af,.af,.af])] (cR [oO 3 (.xi (.bC (.agg [.int .i64 0,.int .i64 0,.str [],.str [],.str [],.af,.af,.af])))] (cR [ah 5 0,oO 6 (.build [.dQ,.dQ] [(0,1,.tmp 5),(1,1,.tmp 3)]),oO 7 (.mkfunc (Fn.func 136) [aT 6] []),ae 4 7] (.seq (.block 0 (cR [ah 9 0,aL 10 97 9,aL 11 116 10,aq 12 .geq 11 0,ae 8 12] (bQ 8 (cR [ah 13 0,bG 14 102 [aT 13,aI 0],oO 15 (.build [.int .i64 0,.int .i64 0,.str [],.str [],.str [],.af,.af,.af] [(0,1,.bC (.int .i64 0)),(1,1,.tmp 14)]),dD 8 2 15] .ret) (cR [ah 17 0,bG 18 72 [aT 17,aS [45]],ae 16 18] (bQ 16 (cR [ah 19 0,bG 20 102 [aT 19,aI 1],oO 21 (.un .neg (aT 20)),oO 22 (.build [.int .i64 0,.int .i64 0,.str [],.str [],.str [],.af,.af,.af] [(0,1,.bC (.int .i64 0)),(1,1,.tmp 21)]),dD 8 2 22] .ret) (cR [ah 24 0,bG 25 72 [aT 24,aS [116,114,117,101]],ae 23 25] (bQ 23 (cR [oO 26 (.build [.int .i64 0,.int .i64 0,.str [],.str [],.str [],.af,.af,.af] [(0,1,.bC (.int .i64 1)),(1,1,.bC (.int .i64 1))]),dD 8 2 26] .ret) (cR [ah 28 0,bG 29 72 [aT 28,aS [102,97,108,115,101]],ae 27 29] (bQ 27 (cR [oO 30 (.build [.int .i64 0,.int .i64 0,.str [],.str [],.str [],.af,.af,.af] [(0,1,.bC (.int .i64 1))]),dD 8 2 30] .ret) (cR [ah 32 0,bG 33 72 [aT 32,aS [40]],ae 31 33] (bQ 31 (cR [ah 34 0,aL 35 103 34,dD 8 3 35] (cR [ah 36 0,bG 37 70 [aT 36,aS [41]]] (cR [aM 38 8 3,dD 8 2 38] .ret))) (cR [ah 40 0,bG 41 72 [aT 40,aS [76,105,115,116]],ae 39 41] (bQ 39 (cR [ah 42 0,aL 43 114 42,bp 44 0 3,oN (.store 1 (aT 44) (aI 11)),bp 45 4 3,dD 2 45 43] (cR [ah 46 0,bG 47 70 [aT 46,aS [91]]] (cR [ah 48 0,ah 49 4,bG 50 99 [aT 48,aS [93],aT 49]] (cR [aM 51 8 3,dD 8 2 51] .ret)))) (cR [ah 53 0,bG 54 72 [aT 53,aS [109,97,116,99,104]],ae 52 54] (bQ 52 (cR [ah 55 0,aL 56 137 55,dD 8 2 56] .ret) .skip))))))))))))))) (cR [ah 57 0,aL 58 138 57,dD 8 2 58] .ret))))⟩
theorem Qv:cv Tryz.f129 zi=some zi:=by kernel_rfl
noncomputable def Qx:aP:=yr [2,3,4,5,6,7,8] [999999] [] Tryz.f133
theorem Qy:cv Tryz.f133 Qx=some Qx:=by kernel_rfl
def BI:aP:=⟨[24,700002],[2,999999,999998,1,14,29],[888887],32,1,[],cR [oO 1 (.boxL (aT 0))] (.seq (.nf 32 [oO 2 (.allocL [.bool false]),oN (.store 1 (aT 2) xh),oN (.store 1 (aT 2) jz),aj 3 1 2] [[],[0],[0],[0,0,1,2]]) (bQ 3 (.seq (.nf 32 [bp 4 1 1,aj 5 1 4,gV 6 5,bp 7 6 6,aj 8 1 7,bp 9 0 1,aj 10 1 9,aL 11 103 10,cr 12 .sl 8,oO 13 (dR 8 [[.int .i64 0,.int .i64 0,.str [],.str [],.str [],.slice [] false,.slice [] false,.slice [] false]] [(0,.bC (.agg [.int .i64 0,.int .i64 0,.str [],.str [],.str [],.af,.af,.af]))]),oO 14 (.appendO 8 136 (aT 8) (aT 13)),gV 15 5,bp 16 6 15,dD 1 16 14] [[],[0],[1],[2],[3],[],[5],[6],[4],[],[4,9,7,0,1,2,3,4,5,6,7,8,9],[1,0,1,2,3,4,5,6,7,8,9,10],[11,0,1,2,3,4,5,6,7,8,9,10],[12,10,10,0,1,2,3,4,5,6,7,8,9,10]]) (.region false [fw 17 8 14 12,dD 8 17 11])) (.nf 32 [bp 18 1 1,aj 19 1 18,bp 20 1 1,aj 21 1 20,gV 22 21,bp 23 6 22,oO 24 (.load true false 1 (aT 23)),bp 25 0 1,aj 26 1 25,aL 27 103 26,oO 28 (dR 8 [[.int .i64 0,.int .i64 0,.str [],.str [],.str [],.slice [] false,.slice [] false,.slice [] false]] [(0,.tmp 27)]),oO 29 (.appendO 8 136 (aT 24) (aT 28)),gV 30 19,bp 31 6 30,dD 1 31 29] [[],[0],[],[2],[3],[4],[5],[],[7],[8],[9],[6,10,9],[1,0,1,2,3,4,5,6,7,8,9,10,11],[12,0,1,2,3,4,5,6,7,8,9,10,11],[13,11,11,0,1,2,3,4,5,6,7,8,9,10,11]])))⟩
theorem Qz:cv Tryz.f136 BI=some BI:=by kernel_rfl
noncomputable def QA:aP:=yr [18,29,39,6,700002,700003] [2,3,999999] [500002,500003,777777] Tryz.f137
theorem QB:cv Tryz.f137 QA=some QA:=by kernel_rfl
def GU:aP:=⟨[13,20,27,44,8,10,700002,700003,700004],[2,999999],[500002,500003,777777],52,1,[.cell 2 true 8],cR [oO 1 (.box 125 (aT 0)),oO 2 (.allocL [.int .i64 0,.int .i64 0,.str [],.str [],.str [],.af,.af,.af])] (cR [aj 6 1 1,aL 7 115 6,oO 8 (.build [.int .i64 0,.int .i64 0,.str [],.str [],.str [],.af,.af,.af] [(2,1,.tmp 7)]),oO 3 (.xi (.bC (.agg [.int .i64 0,.int .i64 0,.str [],.str [],.str [],.af,.af,.af]))),dD 8 3 8] (cR [aj 9 1 1,oO 10 (.build [.dQ,.dQ] [(0,1,.tmp 9),(1,1,.tmp 3)]),oO 11 (.mkfunc (Fn.func 136) [aT 10] []),oO 4 (.oz 1 [.cW]),dD 1 4 11] (.seq (.block 0 (cR [aj 14 1 1,bG 15 72 [aT 14,aS [40]],ae 13 15] (bQ 13 (cR [bp 16 0 3,oN (.store 1 (aT 16) (aI 3))] (.region false [aj 17 1 1,aj 18 1 4,bG 19 99 [aT 17,aS [41],aT 18]])) (cR [aj 21 1 1,bG 22 72 [aT 21,aS [123]],ae 20 22] (bQ 20 (cR [bp 23 0 3,oN (.store 1 (aT 23) (aI 7))] (.region false [aj 24 1 1,oO 25 (.mkfunc (Fn.func 144) [] [aT 3,aT 1,aT 4]),bG 26 99 [aT 24,aS [125],aT 25]])) (cR [aj 28 1 1,bG 29 72 [aT 28,aS [58]],ae 27 29] (bQ 27 (cR [aj 30 1 1,aL 31 71 30,bp 32 3 3,dD 1 32 31] (cR [bp 33 0 3,oN (.store 1 (aT 33) (aI 9))] (cR [cN 5 (aS [41])] (.seq (cR [aj 34 1 1,bG 35 72 [aT 34,aS [91]]] (bQ 35 (.region false [bp 36 0 3,oN (.store 1 (aT 36) (aI 8)),cN 5 (aS [93])]) (.region false [aj 37 1 1,bG 38 70 [aT 37,aS [40]]]))) (cR [aj 39 1 4,oO 40 (.call (aT 39) [])] (.region false [aj 41 1 1,ah 42 5,aK 43 70 41 42])))))) (cR [bp 45 2 3,aj 46 1 45,bG 47 49 [aT 46,aS [46]],ae 44 47] (bQ 44 (.region false [aj 48 1 1,gV 49 48,bp 50 2 49,oN (.store 1 (aT 50) xh)]) (.region false [bp 12 0 3,oN (.store 1 (aT 12) (aI 2))])))))))))) (cR [aM 51 8 3,dD 8 2 51] .ret))))⟩
theorem QC:cv Tryz.f138 GU=some GU:=by kernel_rfl
noncomputable def QD:aP:=yr [4] [999999,8,999998] [888887] Tryz.f144
theorem QE:cv Tryz.f144 QD=some QD:=by kernel_rfl
def GV:aP:=⟨[2,5],[999999],[],9,1,[.tmp 2],cR [aG 2 jz] (cR [ah 3 0,aL 4 78 3,ae 5 4,bX 6 5 (dL 0),bX 7 5 (fK 170 [aT 6]),kA 8 5 7,ae 2 8] .ret)⟩
theorem QH:cv Tryz.f169 GV=some GV:=by kernel_rfl
def GW:aP:=⟨[2,5],[999999],[],9,1,[.tmp 2],cR [aG 2 jz] (cR [ah 3 0,kF 4 .geq (aT 3) (.bC (.int IntKind.u8 48)),ae 5 4,cc 6 5 (dL 0),cc 7 5 (cX .leq (aT 6) (.bC (.int IntKind.u8 57))),gJ 8 5 7,ae 2 8] .ret)⟩
theorem QJ:cv Tryz.f170 GW=some GW:=by kernel_rfl
def jf(c:Int):Nat->List UInt8->Int
 | _,[]=>-1
 | k,b :: r=>cond (decide ((b.toNat:Int)=c)) k (jf c (k+1) r)
def Dt(args:List AV)(_:ai):Option (AV × Option gS) :=
 match args with
 | [.str l]=>cond (Nat.ble l.length 281474976710656) (match Lib.atoiAll l with
  | .ok v=>some (.tuple [.int .i64 v,.cx],none)
  | .range=>some (.tuple [.int .i64 (Lib.atoiSat l),.iface 192 .any],none)
  | _=>some (.tuple [.int .i64 0,.iface 192 .any],none)) none
 | _=>none
def iI(args:List AV)(_:ai):Option (AV × Option gS) :=
 match args with
 | [.str l,.int .u8 c]=>cond (decide (0<=c)&&decide (c<256)) (some (.int .i64 (jf c 0 l),none)) none
 | _=>none
def gE:Nat->Nat->List UInt8->List UInt8
 | 0,_,acc=>acc
 | f+1,n,acc=>cond (Nat.blt n 10) (UInt8.ofNat (48+n) :: acc) (gE f (n / 10) (UInt8.ofNat (48+n % 10) :: acc))
def ql(n:Int):List UInt8 :=
 match n with
 | .ofNat k=>gE (k+1) k []
 | .negSucc k=>45 :: gE (k+2) (k+1) []
def zH(args:List AV)(_:ai):Option (AV × Option gS) :=
 match args with
 | [.int .i64 n]=>cond (decide (-9223372036854775808<=n)&&decide (n<=9223372036854775807)) (some (.str (ql n),none)) none
 | _=>none
def acS:List (List UInt8):=[[43],[45],[42],[47],[37],[60],[61,61],[97,110,100],[111,114],[110,111,116],[106,111,105,110],[108,101,110]]
def Wa:List Int:=[5,5,6,6,6,3,3,2,1,7,4,7]
def fh(n:Int):List UInt8 × Int:=if n<0\/11<n then ([],0) else (acS.getD n.toNat [],Wa.getD n.toNat 0)
def lk(n:Int):List UInt8 × Int:=if n<0\/11<n then ([],7) else fh n
def rU(args:List AV)(_:ai):Option (AV × Option gS) :=
 match args with
 | [.int .i64 n]=>some (.tuple [.str (lk n).1,.int .i64 (lk n).2],none)
 | _=>none
def ov0:FuncId->Option (List AV->ai->Option (AV × Option gS))
 | 25=>some zH
 | 104=>some iI
 | 119=>some iI
 | 128=>some Dt
 | _=>none
def ov:FuncId->Option (List AV->ai->Option (AV × Option gS))
 | 86=>some rU
 | 25=>some zH
 | 104=>some iI
 | 119=>some iI
 | 128=>some Dt
 | _=>none
noncomputable def fns:FuncId->Option aP
 | 3=>some ir3
 | 4=>some BJ
 | 5=>some ir5
 | 6=>some J0
 | 7=>some ir7
 | 8=>some ir8
 | 9=>some Lw
 | 10=>some P3
 | 11=>some JQ
 | 12=>some Qq
 | 13=>some Qw
 | 14=>some UF
 | 15=>some QF
 | 16=>some QG
 | 17=>some QI
 | 18=>some QK
 | 19=>some rb
 | 20=>some fj
 | 21=>some Dc
 | 22=>some QL
 | 23=>some Dd
 | 24=>some JR
 | 26=>some lK
 | 27=>some gH
 | 28=>some QM
 | 29=>some QN
 | 30=>some JS
 | 31=>some JT
 | 32=>some QO
 | 33=>some kD
 | 34=>some QP
 | 35=>some QQ
 | 36=>some abi
 | 37=>some JU
 | 38=>some GX
 | 39=>some abj
 | 40=>some QR
 | 41=>some QS
 | 42=>some JV
 | 43=>some QT
 | 44=>some QU
 | 45=>some JW
 | 46=>some JX
 | 48=>some QV
 | 49=>some QW
 | 50=>some QX
 | 51=>some QY
 | 52=>some QZ
 | 53=>some JY
 | 54=>some vX
 | 55=>some Q0
 | 56=>some Q1
 | 57=>some nD
 | 58=>some JZ
 | 59=>some re
 | 60=>some Q2
 | 61=>some Q3
 | 62=>some Q4
 | 63=>some Q5
 | 64=>some Q6
 | 65=>some Q7
 | 66=>some Q8
 | 67=>some Q9
 | 68=>some abn
 | 69=>some abo
 | 70=>some abq
 | 71=>some abr
 | 72=>some abt
 | 73=>some GY
 | 74=>some abu
 | 75=>some abv
 | 76=>some Ra
 | 77=>some Rb
 | 78=>some Rc
 | 79=>some Rd
 | 80=>some Re
 | 81=>some Rf
 | 83=>some Rg
 | 84=>some Rh
 | 85=>some Ri
 | 86=>some J1
 | 87=>some J2
 | 88=>some Rj
 | 89=>some Rk
 | 90=>some Rl
 | 91=>some Rm
 | 92=>some Rn
 | 93=>some Ro
 | 94=>some Rp
 | 95=>some abz
 | 96=>some abA
 | 97=>some abB
 | 98=>some Rq
 | 99=>some V0
 | 100=>some P4
 | 101=>some P6
 | 102=>some P8
 | 103=>some Qa
 | 105=>some GN
 | 106=>some GO
 | 111=>some GP
 | 112=>some GQ
 | 113=>some GR
 | 114=>some Qh
 | 115=>some Qj
 | 116=>some Ql
 | 117=>some GS
 | 118=>some Qo
 | 126=>some Qr
 | 127=>some Qt
 | 129=>some zi
 | 133=>some Qx
 | 136=>some BI
 | 137=>some QA
 | 138=>some GU
 | 144=>some QD
 | 169=>some GV
 | 170=>some GW
 | _=>none
def B6:TypeId:=203
def fC:List (List UInt8):=[[109,111,100,117,108,101],[117,115,101],[114,101,99],[99,97,115,101],[102,117,110],[111,110],[116,101,115,116],[99,111,110,118],[116,114,117,101],[102,97,108,115,101],[110,111,116],[97,110,100],[111,114],[105,102],[116,104,101,110],[101,108,115,101],[108,101,116],[105,110],[109,97,116,99,104],[102,111,108,100],[111,118,101,114],[100,111],[108,101,110],[106,111,105,110],[76,105,115,116],[73,110,116],[66,111,111,108]]
def kH:List (List UInt8):=[[61,61],[45,62],[40],[41],[123],[125],[91],[93],[44],[58],[46],[61],[43],[45],[42],[47],[37],[60]]
def pS:List (List UInt8):=[[114,101,99],[99,97,115,101],[102,117,110],[111,110],[116,101,115,116],[99,111,110,118]]
def pf:List (List AV):=[[.str [37],.int .i64 4,.int .i64 6],[.str [42],.int .i64 2,.int .i64 6],[.str [43],.int .i64 0,.int .i64 5],[.str [45],.int .i64 1,.int .i64 5],[.str [47],.int .i64 3,.int .i64 6],[.str [60],.int .i64 5,.int .i64 3],[.str [61,61],.int .i64 6,.int .i64 3],[.str [97,110,100],.int .i64 7,.int .i64 2],[.str [106,111,105,110],.int .i64 10,.int .i64 4],[.str [111,114],.int .i64 8,.int .i64 1]]
def D' : Nat->List AV
 | 0=>[.slice (pS.map fun s=>[.str s]) false]
 | 1=>fC.map .str
 | 2=>[.func (.func 78) [] [],.func (.func 169) [] [],.func (.func 170) [] [],.func (.func 170) [] []]
 | 3=>kH.map .str
 | 4=>[.ny 1 false true pf]
 | 5=>Lib.pow10Tab.map (.int .u64)
 | 9=>[.iface B6 .any]
 | 10=>[.iface B6 .any]
 | _=>[]
noncomputable def A0:AP:={ fns,ov:=ov0,aZ:=D' }
noncomputable def A:AP:={ fns,ov,aZ:=D' }
end Go.Proofs.YtbdhkgiakaegdaaGreatDoor
namespace Go.Proofs
open Go.Shelf
def YtbdhkgiakaegdaaGreatDoor.G2:Go.Shelf.Ren:=⟨fun|172=>128|244=>134|245=>135|247=>139|279=>140|280=>141|281=>142|282=>143|287=>145|316=>146|171=>25|205=>147|321=>148|322=>149|243=>47|246=>82|283=>107|284=>108|285=>109|286=>110|129=>121|317=>120|318=>122|319=>123|320=>124|337=>131|338=>132|n=>n,fun|9=>9|3=>3|75=>176|76=>177|4=>4|5=>5|167=>189|37=>112|0=>0|85=>190|2=>2|168=>192|53=>158|175=>195|46=>173|210=>199|127=>202|145=>205|143=>203|21=>21|171=>157|173=>161|212=>169|51=>170|20=>20|213=>171|232=>187|233=>188|80=>66|n=>n,fun|15=>9|16=>10|17=>5|18=>7|19=>8|n=>n⟩
theorem YtbdhkgiakaegdaaGreatDoor.Di:Go.Proofs.LaysC.n172 Tryz.prog YtbdhkgiakaegdaaGreatDoor.G2:={
 mixed:=by kernel_rfl
 f129:=tk Tryz.func121 (by kernel_rfl)
 f171:=tk Tryz.func25 (by kernel_rfl)
 f172:=tk Tryz.func128 (by kernel_rfl)
 f205:=tk Tryz.func147 (by kernel_rfl)
 f243:=tk Tryz.func47 (by kernel_rfl)
 f244:=tk Tryz.func134 (by kernel_rfl)
 f245:=tk Tryz.func135 (by kernel_rfl)
 f246:=tk Tryz.func82 (by kernel_rfl)
 f247:=tk Tryz.func139 (by kernel_rfl)
 f279:=tk Tryz.func140 (by kernel_rfl)
 f280:=tk Tryz.func141 (by kernel_rfl)
 f281:=tk Tryz.func142 (by kernel_rfl)
 f282:=tk Tryz.func143 (by kernel_rfl)
 f283:=tk Tryz.func107 (by kernel_rfl)
 f284:=tk Tryz.func108 (by kernel_rfl)
 f285:=tk Tryz.func109 (by kernel_rfl)
 f286:=tk Tryz.func110 (by kernel_rfl)
 f287:=tk Tryz.func145 (by kernel_rfl)
 f316:=tk Tryz.func146 (by kernel_rfl)
 f317:=tk Tryz.func120 (by kernel_rfl)
 f318:=tk Tryz.func122 (by kernel_rfl)
 f319:=tk Tryz.func123 (by kernel_rfl)
 f320:=tk Tryz.func124 (by kernel_rfl)
 f321:=tk Tryz.func148 (by kernel_rfl)
 f322:=tk Tryz.func149 (by kernel_rfl)
 f337:=tk Tryz.func131 (by kernel_rfl)
 f338:=tk Tryz.func132 (by kernel_rfl)
 t0:=Tryz.underlying0
 a0:=Tryz.isAgg0
 z0:=Tryz.sizeOf0
 v0:=Tryz.zeroValue0
 t2:=Tryz.underlying2
 a2:=Tryz.isAgg2
 z2:=Tryz.sizeOf2
 v2:=Tryz.zeroValue2
 t3:=Tryz.underlying3
 a3:=Tryz.isAgg3
 z3:=Tryz.sizeOf3
 v3:=Tryz.zeroValue3
 t4:=Tryz.underlying4
 a4:=Tryz.isAgg4
 z4:=Tryz.sizeOf4
 v4:=Tryz.zeroValue4
 t5:=Tryz.underlying5
 a5:=Tryz.isAgg5
 z5:=Tryz.sizeOf5
 v5:=Tryz.zeroValue5
 t9:=Tryz.underlying9
 a9:=Tryz.isAgg9
 z9:=Tryz.sizeOf9
 v9:=Tryz.zeroValue9
 t20:=Tryz.underlying20
 a20:=Tryz.isAgg20
 z20:=Tryz.sizeOf20
 v20:=Tryz.zeroValue20
 t21:=Tryz.underlying21
 a21:=Tryz.isAgg21
 z21:=Tryz.sizeOf21
 v21:=Tryz.zeroValue21
 t37:=Tryz.underlying112
 a37:=Tryz.isAgg112
 z37:=Tryz.sizeOf112
 v37:=Tryz.zeroValue112
 t46:=Tryz.underlying173
 a46:=Tryz.isAgg173
 z46:=Tryz.sizeOf173
 v46:=Tryz.zeroValue173
 t51:=Tryz.underlying170
 a51:=Tryz.isAgg170
 z51:=Tryz.sizeOf170
 v51:=Tryz.zeroValue170
 t53:=Tryz.underlying158
 a53:=Tryz.isAgg158
 z53:=Tryz.sizeOf158
 v53:=Tryz.zeroValue158
 t75:=Tryz.underlying176
 a75:=Tryz.isAgg176
 z75:=Tryz.sizeOf176
 v75:=Tryz.zeroValue176
 t76:=Tryz.underlying177
 a76:=Tryz.isAgg177
 z76:=Tryz.sizeOf177
 v76:=Tryz.zeroValue177
 t85:=Tryz.underlying190
 a85:=Tryz.isAgg190
 z85:=Tryz.sizeOf190
 v85:=Tryz.zeroValue190
 t127:=Tryz.underlying202
 a127:=Tryz.isAgg202
 z127:=Tryz.sizeOf202
 v127:=Tryz.zeroValue202
 t143:=Tryz.underlying203
 a143:=Tryz.isAgg203
 z143:=Tryz.sizeOf203
 v143:=Tryz.zeroValue203
 t145:=Tryz.underlying205
 a145:=Tryz.isAgg205
 z145:=Tryz.sizeOf205
 v145:=Tryz.zeroValue205
 t167:=Tryz.underlying189
 a167:=Tryz.isAgg189
 z167:=Tryz.sizeOf189
 v167:=Tryz.zeroValue189
 t168:=Tryz.underlying192
 a168:=Tryz.isAgg192
 z168:=Tryz.sizeOf192
 v168:=Tryz.zeroValue192
 t171:=Tryz.underlying157
 a171:=Tryz.isAgg157
 z171:=Tryz.sizeOf157
 v171:=Tryz.zeroValue157
 t173:=Tryz.underlying161
 a173:=Tryz.isAgg161
 z173:=Tryz.sizeOf161
 v173:=Tryz.zeroValue161
 t175:=Tryz.underlying195
 a175:=Tryz.isAgg195
 z175:=Tryz.sizeOf195
 v175:=Tryz.zeroValue195
 t210:=Tryz.underlying199
 a210:=Tryz.isAgg199
 z210:=Tryz.sizeOf199
 v210:=Tryz.zeroValue199
 t212:=Tryz.underlying169
 a212:=Tryz.isAgg169
 z212:=Tryz.sizeOf169
 v212:=Tryz.zeroValue169
 t213:=Tryz.underlying171
 a213:=Tryz.isAgg171
 z213:=Tryz.sizeOf171
 t232:=Tryz.underlying187
 a232:=Tryz.isAgg187
 z232:=Tryz.sizeOf187
 v232:=Tryz.zeroValue187
 t233:=Tryz.underlying188
 a233:=Tryz.isAgg188
 z233:=Tryz.sizeOf188
 v233:=Tryz.zeroValue188
 g15:=by kernel_rfl
 g16:=by kernel_rfl
 g17:=by kernel_rfl
 g18:=by kernel_rfl
 g19:=by kernel_rfl
 t80:=Tryz.underlying66
 a80:=Tryz.isAgg66
 z80:=Tryz.sizeOf66
 v80:=Tryz.zeroValue66
 i0:=by kernel_rfl
 i2:=by kernel_rfl
 i3:=by kernel_rfl
 i4:=by kernel_rfl
 i5:=by kernel_rfl
 i9:=by kernel_rfl
 i20:=by kernel_rfl
 i21:=by kernel_rfl
 i37:=by kernel_rfl
 i46:=by kernel_rfl
 i51:=by kernel_rfl
 i53:=by kernel_rfl
 i75:=by kernel_rfl
 i76:=by kernel_rfl
 i80:=by kernel_rfl
 i85:=by kernel_rfl
 i127:=by kernel_rfl
 i143:=by kernel_rfl
 i145:=by kernel_rfl
 i167:=by kernel_rfl
 i168:=by kernel_rfl
 i171:=by kernel_rfl
 i173:=by kernel_rfl
 i175:=by kernel_rfl
 i210:=by kernel_rfl
 i212:=by kernel_rfl
 i232:=by kernel_rfl
 i233:=by kernel_rfl
 m15:=by kernel_rfl
 m16:=by kernel_rfl
 m17:=by kernel_rfl
 m18:=by kernel_rfl
 m19:=by kernel_rfl
 c0:=by kernel_rfl
 c2:=by kernel_rfl
 c3:=by kernel_rfl
 c4:=by kernel_rfl
 c5:=by kernel_rfl
 c9:=by kernel_rfl
 c20:=by kernel_rfl
 c21:=by kernel_rfl
 c37:=by kernel_rfl
 c46:=by kernel_rfl
 c51:=by kernel_rfl
 c53:=by kernel_rfl
 c75:=by kernel_rfl
 c76:=by kernel_rfl
 c80:=by kernel_rfl
 c85:=by kernel_rfl
 c127:=by kernel_rfl
 c143:=by kernel_rfl
 c145:=by kernel_rfl
 c167:=by kernel_rfl
 c168:=by kernel_rfl
 c171:=by kernel_rfl
 c173:=by kernel_rfl
 c175:=by kernel_rfl
 c210:=by kernel_rfl
 c212:=by kernel_rfl
 c213:=by kernel_rfl
 c232:=by kernel_rfl
 c233:=by kernel_rfl }
def YtbdhkgiakaegdaaGreatDoor.G3:Go.Shelf.Ren:=⟨fun|171=>25|243=>47|246=>82|283=>107|284=>108|285=>109|286=>110|129=>121|317=>120|318=>122|319=>123|320=>124|337=>131|338=>132|n=>n,fun|3=>3|9=>9|2=>2|4=>4|171=>157|0=>0|53=>158|37=>112|5=>5|173=>161|212=>169|51=>170|20=>20|213=>171|46=>173|232=>187|233=>188|n=>n,fun|17=>5|18=>7|19=>8|n=>n⟩
theorem YtbdhkgiakaegdaaGreatDoor.V8:Go.Proofs.LaysM.n171 Tryz.prog YtbdhkgiakaegdaaGreatDoor.G3:={
 mixed:=by kernel_rfl
 f129:=tk Tryz.func121 (by kernel_rfl)
 f171:=tk Tryz.func25 (by kernel_rfl)
 f243:=tk Tryz.func47 (by kernel_rfl)
 f246:=tk Tryz.func82 (by kernel_rfl)
 f283:=tk Tryz.func107 (by kernel_rfl)
 f284:=tk Tryz.func108 (by kernel_rfl)
 f285:=tk Tryz.func109 (by kernel_rfl)
 f286:=tk Tryz.func110 (by kernel_rfl)
 f317:=tk Tryz.func120 (by kernel_rfl)
 f318:=tk Tryz.func122 (by kernel_rfl)
 f319:=tk Tryz.func123 (by kernel_rfl)
 f320:=tk Tryz.func124 (by kernel_rfl)
 f337:=tk Tryz.func131 (by kernel_rfl)
 f338:=tk Tryz.func132 (by kernel_rfl)
 t0:=Tryz.underlying0
 a0:=Tryz.isAgg0
 z0:=Tryz.sizeOf0
 v0:=Tryz.zeroValue0
 t2:=Tryz.underlying2
 a2:=Tryz.isAgg2
 z2:=Tryz.sizeOf2
 v2:=Tryz.zeroValue2
 t3:=Tryz.underlying3
 a3:=Tryz.isAgg3
 z3:=Tryz.sizeOf3
 v3:=Tryz.zeroValue3
 t4:=Tryz.underlying4
 a4:=Tryz.isAgg4
 z4:=Tryz.sizeOf4
 v4:=Tryz.zeroValue4
 t5:=Tryz.underlying5
 a5:=Tryz.isAgg5
 z5:=Tryz.sizeOf5
 v5:=Tryz.zeroValue5
 t9:=Tryz.underlying9
 a9:=Tryz.isAgg9
 z9:=Tryz.sizeOf9
 v9:=Tryz.zeroValue9
 t20:=Tryz.underlying20
 a20:=Tryz.isAgg20
 z20:=Tryz.sizeOf20
 v20:=Tryz.zeroValue20
 t37:=Tryz.underlying112
 a37:=Tryz.isAgg112
 z37:=Tryz.sizeOf112
 v37:=Tryz.zeroValue112
 t46:=Tryz.underlying173
 a46:=Tryz.isAgg173
 z46:=Tryz.sizeOf173
 v46:=Tryz.zeroValue173
 t51:=Tryz.underlying170
 a51:=Tryz.isAgg170
 z51:=Tryz.sizeOf170
 v51:=Tryz.zeroValue170
 t53:=Tryz.underlying158
 a53:=Tryz.isAgg158
 z53:=Tryz.sizeOf158
 v53:=Tryz.zeroValue158
 t171:=Tryz.underlying157
 a171:=Tryz.isAgg157
 z171:=Tryz.sizeOf157
 v171:=Tryz.zeroValue157
 t173:=Tryz.underlying161
 a173:=Tryz.isAgg161
 z173:=Tryz.sizeOf161
 v173:=Tryz.zeroValue161
 t212:=Tryz.underlying169
 a212:=Tryz.isAgg169
 z212:=Tryz.sizeOf169
 v212:=Tryz.zeroValue169
 t213:=Tryz.underlying171
 a213:=Tryz.isAgg171
 z213:=Tryz.sizeOf171
 t232:=Tryz.underlying187
 a232:=Tryz.isAgg187
 z232:=Tryz.sizeOf187
 v232:=Tryz.zeroValue187
 t233:=Tryz.underlying188
 a233:=Tryz.isAgg188
 z233:=Tryz.sizeOf188
 v233:=Tryz.zeroValue188
 g17:=by kernel_rfl
 g18:=by kernel_rfl
 g19:=by kernel_rfl
 i0:=by kernel_rfl
 i2:=by kernel_rfl
 i3:=by kernel_rfl
 i4:=by kernel_rfl
 i5:=by kernel_rfl
 i9:=by kernel_rfl
 i20:=by kernel_rfl
 i37:=by kernel_rfl
 i46:=by kernel_rfl
 i51:=by kernel_rfl
 i53:=by kernel_rfl
 i171:=by kernel_rfl
 i173:=by kernel_rfl
 i212:=by kernel_rfl
 i232:=by kernel_rfl
 i233:=by kernel_rfl
 m17:=by kernel_rfl
 m18:=by kernel_rfl
 m19:=by kernel_rfl }
def YtbdhkgiakaegdaaGreatDoor.Dj:Go.Shelf.Ren:=⟨fun|137=>104|217=>119|266=>130|n=>n,fun|9=>9|5=>5|3=>3|n=>n,fun|n=>n⟩
theorem YtbdhkgiakaegdaaGreatDoor.RA:Go.Proofs.Lays.n137 Tryz.prog YtbdhkgiakaegdaaGreatDoor.Dj:={
 mixed:=by kernel_rfl
 f137:=tk Tryz.func104 (by kernel_rfl)
 f217:=tk Tryz.func119 (by kernel_rfl)
 f266:=tk Tryz.func130 (by kernel_rfl)
 t3:=Tryz.underlying3
 a3:=Tryz.isAgg3
 z3:=Tryz.sizeOf3
 v3:=Tryz.zeroValue3
 t5:=Tryz.underlying5
 a5:=Tryz.isAgg5
 z5:=Tryz.sizeOf5
 v5:=Tryz.zeroValue5
 t9:=Tryz.underlying9
 a9:=Tryz.isAgg9
 z9:=Tryz.sizeOf9
 v9:=Tryz.zeroValue9 }
def YtbdhkgiakaegdaaGreatDoor.AU:Go.Shelf.Ren:=⟨fun|217=>119|266=>130|n=>n,fun|9=>9|5=>5|3=>3|n=>n,fun|n=>n⟩
theorem YtbdhkgiakaegdaaGreatDoor.Nb:Go.Proofs.Lays.n217 Tryz.prog YtbdhkgiakaegdaaGreatDoor.AU:={
 mixed:=by kernel_rfl
 f217:=tk Tryz.func119 (by kernel_rfl)
 f266:=tk Tryz.func130 (by kernel_rfl)
 t3:=Tryz.underlying3
 a3:=Tryz.isAgg3
 z3:=Tryz.sizeOf3
 v3:=Tryz.zeroValue3
 t5:=Tryz.underlying5
 a5:=Tryz.isAgg5
 z5:=Tryz.sizeOf5
 v5:=Tryz.zeroValue5
 t9:=Tryz.underlying9
 a9:=Tryz.isAgg9
 z9:=Tryz.sizeOf9
 v9:=Tryz.zeroValue9 }
end Go.Proofs
namespace Go.Proofs.YtbdhkgiakaegdaaGreatDoor
open Go Go.Abs Go.Proofs Go.Shelf RowKit
section
theorem P1(s:ByteArray)(c:Int)(w:World):Calls Tryz.prog 104 #[.string s,.int .u8 c] w fun e w'=>e=.returned (.int .i64 (Lib.indexByte s.data.toList c.toNat.toUInt8))/\w'=w:=Any.strings_IndexByte RA s c w
theorem M7(s:ByteArray)(c:Int)(w:World):Calls Tryz.prog 119 #[.string s,.int .u8 c] w fun e w'=>e=.returned (.int .i64 (Lib.indexByte s.data.toList c.toNat.toUInt8))/\w'=w:=Any.stringslite_IndexByte Nb s c w
theorem V5(n:Int)(h0:-9223372036854775808<=n)(h1:n<=9223372036854775807)(w:World)(aiz:Lib.TabIs Tryz.prog w "internal/strconv.uint64pow10" .u64 Lib.pow10Tab) :
  Calls Tryz.prog 25 #[.int .i64 n] w fun e w'=>e=.returned (.string ⟨(Lib.itoa n).toArray⟩)/\∃ k os,w'=Sort.grow (w.drewN k) os:=Any.strconv_Itoa V8 n h0 h1 w aiz
theorem Tx(s:ByteArray)(aia:s.size<=9223372036854775806)(v:Int)(h:Lib.atoiAll s.data.toList=.ok v)(w:World) :
  Calls Tryz.prog 128 #[.string s] w fun e w'=>e=.returned (.tuple #[.int .i64 v,.nilIface])/\(w'=w\/∃ t,w'=Lib.bytesWorld w 5 t):=Any.strconv_Atoi_ok Di s aia v h w
theorem OB(s:ByteArray)(aaW:s.size<=281474976710656)(h1:∀ v,Lib.atoiAll s.data.toList≠.ok v)(h2:Lib.atoiAll s.data.toList≠.range)(ev:Value)(w:World)(hv:w.cell? ⟨9,0,none⟩=some ev)(bV:ev=.nilIface\/∃ te pe,ev=.iface te pe) :
  Calls Tryz.prog 128 #[.string s] w fun e w'=>∃ N,e=.returned (.tuple #[.int .i64 (0),.iface 192 (.pointer (some ⟨N,0,none⟩))])/\Below w.heap.size w w' :=
 (Any.strconv_Atoi_syntax Di s aaW (by
  generalize Lib.atoiAll s.data.toList=x at h1 h2
  cases x<;>first|rfl|exact absurd rfl (h1 _)|exact absurd rfl h2) ev w hv bV).mono fun e w' ⟨N,h1,_,_,h4⟩=>⟨N,h1,h4⟩
theorem IA(s:ByteArray)(aaW:s.size<=281474976710656)(h:Lib.atoiAll s.data.toList=.range)(ev:Value)(w:World)(hv:w.cell? ⟨10,0,none⟩=some ev)(bV:ev=.nilIface\/∃ te pe,ev=.iface te pe) :
  Calls Tryz.prog 128 #[.string s] w fun e w'=>∃ N,e=.returned (.tuple #[.int .i64 (Lib.atoiSat s.data.toList),.iface 192 (.pointer (some ⟨N,0,none⟩))])/\Below w.heap.size w w' :=
 (Any.strconv_Atoi_range Di s aaW h ev w hv bV).mono fun e w' ⟨N,h1,_,_,h4⟩=>⟨N,h1,h4⟩
section
variable {G:Nat->List AV}{base:Nat}{gh:Gh}{w w' : World}{H:ai}
theorem zZ(hW:bc G base H gh w)(hb:Below w.heap.size w w')(n:Nat):Step (fun _=>False) n gh w gh w':=by
 refine⟨fun _ _ h=>h,fun b o h=>cell_of_heap (hb.block b (hW.nT b o h)),hb.size,hb.os,hb.tape,hb.output,fun b bA _=>⟨.inl (hb.block b bA),rfl,fun _ h=>h⟩,fun b gO=>hW.cB b gO,fun _ _=>rfl,fun b ty m hm=>?_,fun b E ck hs h0=>(hb.block b (hW.nT b 0 hs)).trans h0⟩
 obtain⟨C,fr,h1,h2⟩:=hm
 exact⟨C,fr,by rw[hb.block b (aob.1 h1).1];exact h1,h2⟩
theorem mW(hW:bc G base H gh w)(hb:Below w.heap.size w w'){v:Value}{r:AV}(hv:VR gh H.length w' v r):mz G base H gh w r none v gh w' :=
 ⟨an4 _,hW.step (zZ hW hb H.length) (fun l=>⟨id,fun _=>id⟩) (fun b o h=>apz (hW.nT b o h) hb.size) (fun b h=>⟨(hW.pR b h).1,apz (hW.pR b h).2 hb.size⟩) (fun _ _ _ h=>.inl h),
  (zZ hW hb H.length).mono (fun _ h=>h.elim),fun _ h=>h,.inl hv⟩
theorem uf:kI H none:=⟨an4 _,fun c h=>by cases h⟩
theorem Ys{vs:Array Value}{x:AV}(hs:vs.size=[x].length)(h:∀ (j:Nat) (v:Value) (y:AV),vs[j]?=some v->[x][j]?=some y->VR gh H.length w v y):∃ v,vs=#[v]/\VR gh H.length w v x:=by
 obtain⟨l⟩:=vs
 match l,hs with
 | [v],_=>exact⟨v,rfl,h 0 v x rfl rfl⟩
theorem Yt{vs:Array Value}{x y:AV}(hs:vs.size=[x,y].length)(h:∀ (j:Nat) (v:Value) (z:AV),vs[j]?=some v->[x,y][j]?=some z->VR gh H.length w v z):∃ u v,vs=#[u,v]/\VR gh H.length w u x/\VR gh H.length w v y:=by
 obtain⟨l⟩:=vs
 match l,hs with
 | [u,v],_=>exact⟨u,v,rfl,h 0 u x rfl rfl,h 1 v y rfl rfl⟩
end
theorem sW:∀ (f n:Nat) (acc:List UInt8),n<f->gE f n acc=Lib.decDigits n++acc
 | 0,n,acc,h=>absurd h (aqM _)
 | f+1,n,acc,h=>by
  unfold gE
  rw[Lib.decDigits]
  by_cases hn:n<10
  ·rw[show Nat.blt n 10=true by simpa [aoE] using hn,dif_pos hn]
   rfl
  ·rw[show Nat.blt n 10=false by simpa [<- aqs,aoE] using hn,dif_neg hn,anZ,sW f (n / 10) _ (by omega)]
   simp
theorem Rr(n:Int):ql n=Lib.itoa n:=by
 unfold ql Lib.itoa
 cases n with
 | ofNat k =>
  simp only
  rw[sW (k+1) k [] (by omega),if_neg (by simp)]
  simp
 | negSucc k =>
  simp only
  rw[sW (k+2) (k+1) [] (by omega),if_pos (Int.negSucc_lt_zero k)]
  simp
theorem vV(c:Int)(h0:0<=c)(h1:c<256):∀ (l:List UInt8) (k:Nat),jf c k l=if Lib.indexByte l c.toNat.toUInt8=-1 then -1 else Lib.indexByte l c.toNat.toUInt8+k
 | [],k=>by simp[jf,Lib.indexByte]
 | b :: r,k=>by
  have hc:(c.toNat.toUInt8).toNat=c.toNat:=by simp;omega
  have hb:(b==c.toNat.toUInt8)=decide ((b.toNat:Int)=c):=by
   by_cases h:(b.toNat:Int)=c
   ·have:b=c.toNat.toUInt8:=UInt8.toNat_inj.1 (by rw[hc];omega)
    rw[decide_eq_true h];simpa using this
   ·have:b≠c.toNat.toUInt8:=fun e=>h (by rw[e,hc];omega)
    rw[aoP h];simpa using this
  have hge:∀ l:List UInt8, -1<=Lib.indexByte l c.toNat.toUInt8:=by
   intro l
   induction l with
   | nil=>simp[Lib.indexByte]
   | cons x l ih =>
    simp only[Lib.indexByte]
    split
    ·omega
    ·split
     ·omega
     ·rename_i h;simp at h;omega
  unfold jf Lib.indexByte
  rw[hb]
  by_cases h:(b.toNat:Int)=c
  ·simp[h]
  ·have:=hge r
   simp only[h,an5,anZ,aqd,apo]
   rw[vV c h0 h1 r (k+1)]
   by_cases hr:Lib.indexByte r c.toNat.toUInt8=-1
   ·simp[hr]
   ·simp only[aoZ,hr,aqd]
    rw[if_neg (by omega)]
    push_cast
    omega
theorem T7(f:FuncId)(fn:Func)(h:Tryz.prog.funcs[f]?=some fn)(hb:fn.body.isSome=true)(hn:fn.name≠ "runtime.NumGoroutine"):∃ fn,Tryz.prog.funcs[f]?=some fn/\fn.body.isSome=true/\fn.name≠ "runtime.NumGoroutine":=⟨fn,h,hb,hn⟩
theorem wY{G:Nat->List AV} : jb Tryz.prog G 104 iI:=by
 intro args H r c he
 refine⟨T7 104 _ Tryz.func104 (by kernel_rfl) (by decide),?_⟩
 unfold iI at he
 split at he
 ·rename_i l c'
  obtain⟨h0,he⟩:=ag he
  simp only[an7,aoq] at h0
  simp only[anV,anY] at he
  obtain⟨rfl,rfl⟩:=he
  refine⟨uf,fun base gh w vs hW _ hs de=>?_⟩
  obtain⟨u,v,rfl,hu,hv⟩:=Yt hs de
  obtain⟨s,rfl,hl⟩:=hu.jv
  rw[hv.ju]
  refine (P1 s c' w).mono ?_
  rintro e w' ⟨rfl,rfl⟩
  refine⟨_,gh,rfl,mW hW (Below.refl _ _) ?_⟩
  rw[vV c' h0.1 h0.2 l 0,hl]
  have:(if Lib.indexByte l c'.toNat.toUInt8=-1 then (-1:Int) else Lib.indexByte l c'.toNat.toUInt8+(0:Nat))=Lib.indexByte l c'.toNat.toUInt8:=by split<;>simp_all
  rw[this]
  exact .plain _ _ (.int _ _)
 ·cases he
theorem uS{G:Nat->List AV} : jb Tryz.prog G 119 iI:=by
 intro args H r c he
 refine⟨T7 119 _ Tryz.func119 (by kernel_rfl) (by decide),?_⟩
 unfold iI at he
 split at he
 ·rename_i l c'
  obtain⟨h0,he⟩:=ag he
  simp only[an7,aoq] at h0
  simp only[anV,anY] at he
  obtain⟨rfl,rfl⟩:=he
  refine⟨uf,fun base gh w vs hW _ hs de=>?_⟩
  obtain⟨u,v,rfl,hu,hv⟩:=Yt hs de
  obtain⟨s,rfl,hl⟩:=hu.jv
  rw[hv.ju]
  refine (M7 s c' w).mono ?_
  rintro e w' ⟨rfl,rfl⟩
  refine⟨_,gh,rfl,mW hW (Below.refl _ _) ?_⟩
  rw[vV c' h0.1 h0.2 l 0,hl]
  have:(if Lib.indexByte l c'.toNat.toUInt8=-1 then (-1:Int) else Lib.indexByte l c'.toNat.toUInt8+(0:Nat))=Lib.indexByte l c'.toNat.toUInt8:=by split<;>simp_all
  rw[this]
  exact .plain _ _ (.int _ _)
 ·cases he
theorem ID(w:World)(k:Nat)(os:Array Obj):Below w.heap.size w (Sort.grow (w.drewN k) os):=by
 refine⟨rfl,rfl,rfl,by simp[Sort.grow,World.drewN],fun i hi=>?_⟩
 show (w.heap++os)[i]?=_
 rw[aqe hi]
theorem ac2{G:Nat->List AV}{base:Nat}{gh:Gh}{w:World}{H:ai}(hW:bc G base H gh w){g:Nat}{name:String}(hg:Tryz.prog.globalNamed name=some g){k:IntKind}{zs:List Int}(hG:G g=zs.map (.int k))(ff:zs≠[]) :
  Lib.TabIs Tryz.prog w name k zs:=by
 obtain⟨ty,C,fr,h1,h2⟩:=hW.xE g (by rw[hG];simpa using ff)
 have hC:C=(zs.map fun z=>Value.int k z).toArray:=by
  apply Array.ext_getElem?
  intro j
  rw[hG,aoI] at h2
  by_cases hj:j<zs.length
  ·have hx:(G g)[j]?=some (.int k zs[j]):=by rw[hG];simp[hj]
   obtain⟨v,hv,hp,_⟩:=hW.aZ g j _ hx
   rw[cell_of_row w g j C ty fr h1] at hv
   cases hp
   rw[hv]
   simp[hj]
  ·rw[apG (by omega)]
   simp[apq (show zs.length<=j by omega)]
 unfold Lib.TabIs World.var?
 rw[hg]
 simp only[an8,h1,hC]
theorem zo:jb Tryz.prog D' 25 zH:=by
 intro args H r c he
 refine⟨T7 25 _ Tryz.func25 (by kernel_rfl) (by decide),?_⟩
 unfold zH at he
 split at he
 ·rename_i n
  obtain⟨h0,he⟩:=ag he
  simp only[an7,aoq] at h0
  simp only[anV,anY] at he
  obtain⟨rfl,rfl⟩:=he
  refine⟨uf,fun base gh w vs hW _ hs de=>?_⟩
  obtain⟨u,rfl,hu⟩:=Ys hs de
  rw[hu.ju]
  refine (V5 n h0.1 h0.2 w (ac2 hW (by kernel_rfl) (g:=5) rfl (by simp[Lib.pow10Tab]))).mono ?_
  rintro e w' ⟨rfl,k,os,rfl⟩
  exact⟨_,gh,rfl,mW hW (ID w k os) (.plain _ _ (.str _ _ (by rw[Rr])))⟩
 ·cases he
theorem Gb{base:Nat}{gh:Gh}{w:World}{H:ai}(hW:bc D' base H gh w){g:Nat}(hG:D' g=[.iface B6 .any]):∃ ev,w.cell? ⟨g,0,none⟩=some ev/\(ev=.nilIface\/∃ te pe,ev=.iface te pe):=by
 obtain⟨v,hv,hp,_⟩:=hW.aZ g 0 (.iface B6 .any) (by rw[hG];rfl)
 cases hp with
 | iface _ u _ _=>exact⟨_,hv,.inr ⟨_,_,rfl⟩⟩
theorem KJ{gh:Gh}{n:Nat}{w:World}{u v:Value}{x y:AV}(h1:VR gh n w u x)(h2:VR gh n w v y):VR gh n w (.tuple #[u,v]) (.tuple [x,y]):=by
 refine .tuple _ _ rfl (fun j a b ha hb=>?_)
 match j with
 | 0=>simp at ha hb;subst ha hb;exact h1
 | 1=>simp at ha hb;subst ha hb;exact h2
 | j+2=>simp at ha
theorem yg:jb Tryz.prog D' 128 Dt:=by
 intro args H r c he
 refine⟨T7 128 _ Tryz.func128 (by kernel_rfl) (by decide),?_⟩
 unfold Dt at he
 split at he
 ·rename_i l
  obtain⟨h0,he⟩:=ag he
  have hlen:l.length<=281474976710656:=by simpa [aoU] using h0
  have hc:c=none:=by split at he<;>(simp only[anV,anY] at he;exact he.2.symm)
  subst hc
  refine⟨uf,fun base gh w vs hW _ hs de=>?_⟩
  obtain⟨u,rfl,hu⟩:=Ys hs de
  obtain⟨s,rfl,hl⟩:=hu.jv
  have qY:s.size<=281474976710656:=by
   have:s.size=s.data.toList.length:=by simp
   rw[this,hl];exact hlen
  split at he
  ·rename_i v gq
   simp only[anV,anY,apt] at he
   subst he
   refine (Tx s (by omega) v (by rw[hl];exact gq) w).mono ?_
   rintro e w' ⟨rfl,hw⟩
   refine⟨_,gh,rfl,mW hW ?_ (KJ (.plain _ _ (.int _ _)) (.plain _ _ .cx))⟩
   rcases hw with rfl|⟨t,rfl⟩
   ·exact Below.refl _ _
   ·exact Lib.bytesWorld_below _ _ _
  ·rename_i gq
   simp only[anV,anY,apt] at he
   subst he
   obtain⟨ev,h1,h2⟩:=Gb hW (g:=10) rfl
   refine (IA s qY (by rw[hl];exact gq) ev w h1 h2).mono ?_
   rintro e w' ⟨N,rfl,hb⟩
   rw[hl]
   exact⟨_,gh,rfl,mW hW hb (KJ (.plain _ _ (.int _ _)) (.iface _ _ _ (.plain _ _ (.any _ rfl))))⟩
  ·rename_i nN hnr
   simp only[anV,anY,apt] at he
   subst he
   obtain⟨ev,h1,h2⟩:=Gb hW (g:=9) rfl
   refine (OB s qY (by rw[hl];exact fun v e=>nN v e) (by rw[hl];exact fun e=>hnr e) ev w h1 h2).mono ?_
   rintro e w' ⟨N,rfl,hb⟩
   exact⟨_,gh,rfl,mW hW hb (KJ (.plain _ _ (.int _ _)) (.iface _ _ _ (.plain _ _ (.any _ rfl))))⟩
 ·cases he
end
end Go.Proofs.YtbdhkgiakaegdaaGreatDoor
namespace Go.Proofs.YtbdhkgiakaegdaaGreatDoor
open Go Go.Abs Go.Proofs
def w7:aP:=⟨[4,8,25,37,53,700002,700003],[2,18,999999,18,30,42,57,999998],[500002,500003,777777],85,1,[.cell 2 true 8],cR [oO 1 (.box 125 (aT 0)),oO 2 (.allocL [.int .i64 0,.int .i64 0,.str [],.str [],.str [],.af,.af,.af])] (cR [oO 3 (.xi (.bC (.agg [.int .i64 0,.int .i64 0,.str [],.str [],.str [],.af,.af,.af])))] (cR [oO 5 (.mkfunc (Fn.func 117) [] [aT 1,aT 3]),ae 4 5] (.seq (.block 0 (cR [aj 9 1 1,bG 10 72 [aT 9,aS [105,102]],ae 8 10] (bQ 8 (cR [bp 11 0 3,oN (.store 1 (aT 11) (aI 5))] (.seq (.nf 85 [bp 12 6 3,aj 13 1 12,aj 14 1 1,aL 15 103 14,cr 16 .sl 13,oO 17 (dR 8 [[.int .i64 0,.int .i64 0,.str [],.str [],.str [],.slice [] false,.slice [] false,.slice [] false]] [(0,.bC (.agg [.int .i64 0,.int .i64 0,.str [],.str [],.str [],.af,.af,.af]))]),oO 18 (.appendO 8 136 (aT 13) (aT 17)),fw 19 8 18 16,dD 8 19 15,bp 20 6 3,dD 1 20 18] [[],[0],[],[2],[1],[],[1,5,3,0,1,2,3,4,5],[6,4,0,1,2,3,4,5,6],[7,3,6,0,1,2,3,4,5,6],[0,1,2,3,4,5,6],[9,6,6,0,1,2,3,4,5,6]]) (cR [ah 21 4,oO 22 (.call (aT 21) [aS [116,104,101,110]])] (.region false [ah 23 4,oO 24 (.call (aT 23) [aS [101,108,115,101]])])))) (cR [aj 26 1 1,bG 27 72 [aT 26,aS [108,101,116]],ae 25 27] (bQ 25 (cR [aj 28 1 1,aL 29 71 28,oO 30 (.mb 1 [[.str []]] [(0,.tmp 29)]),bp 31 0 3,oN (.store 1 (aT 31) (aI 6)),bp 32 7 3,dD 1 32 30] (cR [ah 33 4,oO 34 (.call (aT 33) [aS [61]])] (.region false [ah 35 4,oO 36 (.call (aT 35) [aS [105,110]])]))) (cR [aj 38 1 1,bG 39 72 [aT 38,aS [102,111,108,100]],ae 37 39] (bQ 37 (cR [aj 40 1 1,aL 41 71 40,oO 42 (.mb 1 [[.str []]] [(0,.tmp 41)]),bp 43 0 3,oN (.store 1 (aT 43) (aI 12)),bp 44 7 3,dD 1 44 42] (.seq (cR [aj 45 1 1,bG 46 70 [aT 45,aS [44]]] (cR [aj 47 1 1,gV 48 47,bp 49 2 48,aj 50 1 49,oO 51 (.un .not (aT 50))] (bQ 51 (.nf 85 [bp 52 7 3,oO 53 (.load true false 1 (aT 52)),aj 54 1 1,aL 55 71 54,oO 56 (dR 1 [[.str []]] [(0,.tmp 55)]),oO 57 (.appendO 1 16 (aT 53) (aT 56)),bp 58 7 3,dD 1 58 57] [[],[0],[],[2],[3],[1,4,3],[0,1,2,3,4,5],[6,5,5,0,1,2,3,4,5]]) .skip))) (cR [ah 59 4,oO 60 (.call (aT 59) [aS [61]])] (cR [ah 61 4,oO 62 (.call (aT 61) [aS [111,118,101,114]])] (cR [ah 63 4,oO 64 (.call (aT 63) [aS [100,111]])] (cR [aj 65 1 1,gV 66 65,bp 67 2 66,aj 68 1 67,oO 69 (.un .not (aT 68))] (bQ 69 (.nf 85 [bp 70 6 3,aj 71 1 70,bp 72 6 3,aj 73 1 72,bp 74 6 3,aj 75 1 74,qm 76 8 (aT 75) (aI 1),aM 77 8 76,bp 78 6 3,aj 79 1 78,qm 80 8 (aT 79) (aI 0),aM 81 8 80,qm 82 8 (aT 71) (aI 0),dD 8 82 77,qm 83 8 (aT 73) (aI 1),dD 8 83 81] [[],[0],[],[2],[],[4],[5],[6],[],[8],[9],[10],[1,0,1,4,5,6,7,11],[12,7,0,1,4,5,6,7,11],[3,0,1,2,3,4,5,6,7,8,9,10,11,12,13],[14,11,13,0,1,2,3,4,5,6,7,8,9,10,11,12,13]]) .skip))))))) (cR [aj 6 1 1,bG 7 118 [aT 6,aI 1],dD 8 2 7] .ret)))))))) (cR [aM 84 8 3,dD 8 2 84] .ret))))⟩
theorem Rt:cv Tryz.f103 w7=some w7:=by kernel_rfl
def ij:aP:=⟨[5,6,9,39,48,700004,700007,700008],[4,7,8,999999,999998],[14,777777],73,2,[.cell 4 true 8],cR [oO 4 (.allocL [.int .i64 0,.int .i64 0,.str [],.str [],.str [],.af,.af,.af])] (.seq (cR [ah 10 1,aq 11 .eql 10 7] (bQ 11 (.seq (cR [oO 12 (.sF 1 false false),oN (.mq 1 false false 1 [.i] (aT 12) (aI 9) (aS [110,111,116])),oN (.mq 1 false false 1 [.i] (aT 12) (aI 11) (aS [108,101,110])),ah 13 12,oO 14 (.Zj 1 false false (aT 13))] (.block 0 (.loop (cR [oO 15 (.next (aT 14)),fS 16 15 0] (.seq (bQ 16 .skip (.exit 0)) (.block 1 (cR [oO 17 (.Tc (aT 14)),fS 18 17 0,fS 19 17 1,ae 5 18,ae 6 19] (cR [ah 20 0,ah 21 6,aK 22 72 20 21] (bQ 22 (cR [ah 23 5,ah 24 0,bG 25 118 [aT 24,aI 7],oO 26 (dR 8 [[.int .i64 0,.int .i64 0,.str [],.str [],.str [],.slice [] false,.slice [] false,.slice [] false]] [(0,.tmp 25)]),oO 27 (.build [.int .i64 0,.int .i64 0,.str [],.str [],.str [],.slice [] true,.slice [] true,.slice [] true] [(0,1,.bC (.int .i64 4)),(1,1,.tmp 23),(6,1,.tmp 26)]),dD 8 4 27] .ret) .skip))))))))) (cR [ah 28 0,aL 29 129 28,dD 8 4 29] .ret)) .skip)) (cR [ah 30 0,ah 31 1,aq 32 .add 31 1,aK 33 118 30 32,oO 7 (.allocL [.int .i64 0,.int .i64 0,.str [],.str [],.str [],.af,.af,.af]),dD 8 7 33] (.seq (.block 2 (.loop (.seq (cR [ah 34 0,gV 35 34,bp 36 2 35,aj 37 1 36,oO 38 (.un .not (aT 37))] (bQ 38 .skip (.exit 2))) (.block 3 (.seq (.nf 73 [oO 40 (.load false false 1 (.aZ 4)),ah 41 0,aL 42 97 41,oO 43 (.look true 1 false true [.s] [.int .i64 0,.int .i64 0] (aT 40) (aT 42)),ae 39 43,fS 44 39 0,fS 45 39 1,oO 8 (.allocL [.int .i64 0,.int .i64 0]),dD 2 8 44,ae 9 45] [[],[],[1],[0,2],[3],[4],[4],[],[7,5,2,0,1,2,3,4,5,7],[6,8,0,1,2,3,4,5,6,7,8]]) (.seq (cR [ah 46 9,oO 47 (.un .not (aT 46)),ae 48 47,bX 49 48 (iu 1 8),bX 50 48 (ct 1 49),bX 51 48 (dL 1),bX 52 48 (cX .neq (aT 50) (aT 51)),kA 53 48 52] (bQ 53 (.exit 2) .skip)) (cR [ah 54 0,gV 55 54,bp 56 1 55,aj 57 1 56,aq 58 .add 57 1,gV 59 54,bp 60 1 59,dD 1 60 58] (cR [dC 8 8,bp 61 0 8,dC 8 61,aj 62 1 61,dC 7 7,aM 63 8 7,ah 64 0,ah 65 1,aq 66 .add 65 1,aK 67 118 64 66,oO 68 (dR 8 [[.int .i64 0,.int .i64 0,.str [],.str [],.str [],.slice [] false,.slice [] false,.slice [] false],[.int .i64 0,.int .i64 0,.str [],.str [],.str [],.slice [] false,.slice [] false,.slice [] false]] [(0,.tmp 63),(1,.tmp 67)]),oO 69 (.build [.int .i64 0,.int .i64 0,.str [],.str [],.str [],.slice [] true,.slice [] true,.slice [] true] [(0,1,.bC (.int .i64 4)),(1,1,.tmp 62),(6,1,.tmp 68)]),dC 7 7,dD 8 7 69] (cR [ah 70 1,aq 71 .eql 70 3] (bQ 71 (.exit 2) .skip)))))))))) (cR [aM 72 8 7,dD 8 4 72] .ret))))⟩
theorem Rx:cv Tryz.f118 ij=some ij:=by kernel_rfl
noncomputable def aat:FuncId->Option aP
 | 103=>some w7
 | 118=>some ij
 | f=>fns f
noncomputable def AE:AP:={ fns:=aat,ov:=ov,aZ:=D' }
end Go.Proofs.YtbdhkgiakaegdaaGreatDoor
namespace Go.Abs
section
def dK.Le(f g:dK):Prop:=∀ a b c r,f a b c=some r->g a b c=some r
section
variable {G:Nat->List AV}{f g:dK}
theorem rG{α:Type}{b:Bool}{x y:Option α}{r:α}(h:cond b x none=some r)(Lu:x=some r->y=some r):cond b y none=some r:=by
 cases b
 ·cases h
 ·exact Lu h
theorem Mx(h:dK.Le f g){s:AS}{o:gA}{r:AV × Option AS}(he:aA G f s o=some r):aA G g s o=some r:=by
 cases o with
 | call fn args =>
  simp only[aA] at he ⊢
  split at he
  ·refine rG he fun he=>?_
   simp only[anT] at he ⊢
   obtain⟨r0,h0,rfl⟩:=he
   exact⟨r0,h _ _ _ _ h0,rfl⟩
  ·cases he
 | Bd fn pre x post =>
  simp only[aA] at he ⊢
  refine rG he fun he=>?_
  simp only[anU,anT] at he ⊢
  obtain⟨p,hp,r0,h0,he⟩:=he
  exact⟨p,hp,r0,h _ _ _ _ h0,he⟩
 | jk fn args =>
  simp only[aA] at he ⊢
  split at he
  ·refine rG he fun he=>?_
   simp only[anU] at he ⊢
   obtain⟨r0,h0,he⟩:=he
   exact⟨r0,h _ _ _ _ h0,he⟩
  ·cases he
 | _=>exact he
theorem wN(h:dK.Le f g){d:Bool}{s:AS}{o:aO}{r:AS}(he:bj G f d s o=some r):bj G g d s o=some r:=by
 have key:∀ r,((aA G f s o.op).bind fun r=>match r.2 with
   | none=>cond (d&&(bB r.1).isSome) none (some (s.bW o.dst r.1))
   | some s'=>cond d none (some (s'.bW o.dst r.1)))=some r->((aA G g s o.op).bind fun r=>match r.2 with
   | none=>cond (d&&(bB r.1).isSome) none (some (s.bW o.dst r.1))
   | some s'=>cond d none (some (s'.bW o.dst r.1)))=some r:=by
  intro r hr
  simp only[anU] at hr ⊢
  obtain⟨x,h1,h2⟩:=hr
  exact⟨x,Mx h h1,h2⟩
 unfold bj at he ⊢
 simp only at he ⊢
 split at he
 ·exact key _ he
 ·split at he
  ·rename_i b hb
   cases hbw:(b==_) with
   | true=>rw[hbw] at he;exact key _ he
   | false=>rw[hbw] at he;exact he
  ·exact he
  ·cases he
theorem tg(h:dK.Le f g){d:Bool} : ∀ {os:List aO} {s r:AS},fX G f d os s=some r->fX G g d os s=some r
 | [],_,_,he=>he
 | o :: os,s,r,he=>by
  simp only[fX,anU] at he ⊢
  obtain⟨x,h1,h2⟩:=he
  exact⟨x,wN h h1,tg h h2⟩
theorem o5{F F' : AS->Option (cq × AS)}(h:∀ s r,F s=some r->F' s=some r):∀ {n m:Nat} {s:AS} {r:cq × AS},n<=m->iter F n s=some r->iter F' m s=some r
 | 0,_,_,_,_,he=>by cases he
 | n+1,0,_,_,hn,_=>by omega
 | n+1,m+1,s,r,hn,he=>by
  simp only[iter,anU] at he ⊢
  obtain⟨x,h1,h2⟩:=he
  refine⟨x,h _ _ h1,?_⟩
  split at h2
  ·exact o5 h (by omega) h2
  ·exact h2
theorem jI(h:dK.Le f g){n m:Nat}(hn:n<=m):∀ {c:bq} {s:AS} {r:cq × AS},jq G f n c s=some r->jq G g m c s=some r
 | .skip,_,_,he=>he
 | .exit _,_,_,he=>he
 | .ret,_,_,he=>he
 | .nf _ _ _,_,_,he=>by simp[jq] at he
 | .region d os,s,r,he=>by
  simp only[jq,anT] at he ⊢
  obtain⟨x,h1,h2⟩:=he
  exact⟨x,tg h h1,h2⟩
 | .seq a b,s,r,he=>by
  simp only[jq,anU] at he ⊢
  obtain⟨x,h1,h2⟩:=he
  refine⟨x,jI h hn h1,?_⟩
  split at h2
  ·exact jI h hn h2
  ·exact h2
 | .cond c a b,s,r,he=>by
  simp only[jq] at he ⊢
  split at he
  ·rename_i t ht
   cases t
   ·exact jI h hn (c:=b) he
   ·exact jI h hn (c:=a) he
  ·cases he
 | .block id a,s,r,he=>by
  simp only[jq,anT] at he ⊢
  obtain⟨x,h1,h2⟩:=he
  exact⟨x,jI h hn h1,h2⟩
 | .loop a,s,r,he=>by
  simp only[jq] at he ⊢
  exact o5 (fun s r h'=>jI h hn h') hn he
theorem B0(h:dK.Le f g){n m:Nat}(hn:n<=m){fn:aP}{args:List AV}{H:ai}{r:AV × Option gS}(he:wj G f n fn args H=some r):wj G g m fn args H=some r:=by
 unfold wj at he ⊢
 refine rG he fun he=>?_
 simp only[anU] at he ⊢
 obtain⟨x,h1,h2⟩:=he
 exact⟨x,jI h hn h1,h2⟩
end
theorem Gd{A:AP} : ∀ n,dK.Le (Ag A n) (Ag A (n+1))
 | 0=>fun a b c r h=>by cases h
 | n+1=>fun a b c r h=>by
  simp only[Ag] at h ⊢
  cases ho:A.ov a with
  | some g=>rw[ho] at h;exact h
  | none =>
   rw[ho] at h
   cases hf:A.fns a with
   | none=>rw[hf] at h;cases h
   | some fn=>rw[hf] at h;exact B0 (Gd n) (by omega) h
theorem lZ{A:AP}{n m:Nat}(h:n<=m):dK.Le (Ag A n) (Ag A m):=by
 induction h with
 | refl=>exact fun _ _ _ _ h=>h
 | step _ ih=>exact fun a b c r hr=>Gd _ a b c r (ih a b c r hr)
noncomputable def aE(A:AP):dK:=fun f args H=>open Classical in if h:∃ n r,Ag A n f args H=some r then some (Classical.choose (apQ h)) else none
theorem ke{A:AP}{f:FuncId}{args:List AV}{H:ai}{r:AV × Option gS} : aE A f args H=some r↔∃ n,Ag A n f args H=some r:=by
 unfold aE
 constructor
 ·intro h
  split at h
  ·rename_i hx
   have:=apQ (apQ hx)
   injection h with h
   rw[h] at this
   exact⟨_,this⟩
  ·cases h
 ·rintro ⟨n,hn⟩
  have hx:∃ n r,Ag A n f args H=some r:=⟨n,r,hn⟩
  rw[dif_pos hx]
  have h1:=apQ (apQ hx)
  have h2:=lZ (ap0 n (Classical.choose hx)) _ _ _ _ hn
  have h3:=lZ (apJ n (Classical.choose hx)) _ _ _ _ h1
  rw[h2] at h3
  injection h3 with h3
  rw[h3]
section
variable {A:AP}
theorem O9{s:AS}{o:gA}{r:AV × Option AS}(he:aA A.aZ (aE A) s o=some r):∃ n,aA A.aZ (Ag A n) s o=some r:=by
 cases o with
 | call fn args =>
  simp only[aA] at he ⊢
  split at he
  ·rename_i n fs cs hf
   cases hb:((args.map fun a=>a.addr A.aZ s.T).all aH) with
   | false=>rw[hb] at he;cases he
   | true =>
    rw[hb] at he
    simp only[cond_true,anT] at he
    obtain⟨r0,h0,rfl⟩:=he
    obtain⟨k,hk⟩:=ke.1 h0
    exact⟨k,by simp only[hk,cond_true,aoi]⟩
  ·cases he
 | Bd fn pre x post =>
  simp only[aA] at he ⊢
  cases hb:((pre.map fun a=>a.addr A.aZ s.T).all aH&&(post.map fun a=>a.addr A.aZ s.T).all aH) with
  | false=>rw[hb] at he;cases he
  | true =>
   rw[hb] at he
   simp only[cond_true,anU,anT] at he
   obtain⟨p,hp,r0,h0,he⟩:=he
   obtain⟨k,hk⟩:=ke.1 h0
   exact⟨k,by simp only[hp,hk,cond_true,an8,aoi,he]⟩
 | jk fn args =>
  simp only[aA] at he ⊢
  split at he
  ·rename_i n fs cs hf
   cases hb:((args.map fun a=>a.addr A.aZ s.T).all aH) with
   | false=>rw[hb] at he;cases he
   | true =>
    rw[hb] at he
    simp only[cond_true,anU] at he
    obtain⟨r0,h0,he⟩:=he
    obtain⟨k,hk⟩:=ke.1 h0
    exact⟨k,by simp only[hk,cond_true,an8];exact he⟩
  ·cases he
 | _=>exact⟨0,he⟩
theorem Jb{d:Bool}{s:AS}{o:aO}{r:AS}(he:bj A.aZ (aE A) d s o=some r):∃ n,bj A.aZ (Ag A n) d s o=some r:=by
 have key:∀ r,((aA A.aZ (aE A) s o.op).bind fun r=>match r.2 with
   | none=>cond (d&&(bB r.1).isSome) none (some (s.bW o.dst r.1))
   | some s'=>cond d none (some (s'.bW o.dst r.1)))=some r->∃ n,((aA A.aZ (Ag A n) s o.op).bind fun r=>match r.2 with
   | none=>cond (d&&(bB r.1).isSome) none (some (s.bW o.dst r.1))
   | some s'=>cond d none (some (s'.bW o.dst r.1)))=some r:=by
  intro r hr
  simp only[anU] at hr ⊢
  obtain⟨x,h1,h2⟩:=hr
  obtain⟨n,hn⟩:=O9 h1
  exact⟨n,x,hn,h2⟩
 unfold bj at he ⊢
 simp only at he ⊢
 split at he
 ·exact key _ he
 ·split at he
  ·rename_i b hb
   cases hbw:(b==_) with
   | true=>rw[hbw] at he;exact key _ he
   | false=>rw[hbw] at he;exact⟨0,he⟩
  ·exact⟨0,he⟩
  ·cases he
theorem Bo{d:Bool} : ∀ {os:List aO} {s r:AS},fX A.aZ (aE A) d os s=some r->∃ n,fX A.aZ (Ag A n) d os s=some r
 | [],_,_,he=>⟨0,he⟩
 | o :: os,s,r,he=>by
  simp only[fX,anU] at he ⊢
  obtain⟨x,h1,h2⟩:=he
  obtain⟨n,hn⟩:=Jb h1
  obtain⟨m,hm⟩:=Bo h2
  exact⟨max n m,x,wN (lZ (ap0 n m)) hn,tg (lZ (apJ n m)) hm⟩
theorem G0{F:AS->Option (cq × AS)}{F' : Nat->AS->Option (cq × AS)}(hm:∀ n m s r,n<=m->F' n s=some r->F' m s=some r)(h:∀ s r,F s=some r->∃ n,F' n s=some r) :
  ∀ {n:Nat} {s:AS} {r:cq × AS},iter F n s=some r->∃ m,iter (F' m) n s=some r
 | 0,_,_,he=>by cases he
 | n+1,s,r,he=>by
  simp only[iter,anU] at he ⊢
  obtain⟨x,h1,h2⟩:=he
  obtain⟨m1,hm1⟩:=h _ _ h1
  split at h2
  ·obtain⟨m2,hm2⟩:=G0 hm h h2
   refine⟨max m1 m2,x,hm _ _ _ _ (ap0 _ _) hm1,?_⟩
   rename_i hx
   simp only[hx]
   exact o5 (fun s r=>hm _ _ _ _ (apJ _ _)) (an4 _) hm2
  ·rename_i hx
   refine⟨m1,x,hm1,?_⟩
   split
   ·rename_i oI;exact absurd oI hx
   ·exact h2
theorem pJ{n:Nat} : ∀ {c:bq} {s:AS} {r:cq × AS},jq A.aZ (aE A) n c s=some r->∃ m,jq A.aZ (Ag A m) n c s=some r
 | .skip,_,_,he=>⟨0,he⟩
 | .exit _,_,_,he=>⟨0,he⟩
 | .ret,_,_,he=>⟨0,he⟩
 | .nf _ _ _,_,_,he=>by simp[jq] at he
 | .region d os,s,r,he=>by
  simp only[jq,anT] at he ⊢
  obtain⟨x,h1,h2⟩:=he
  obtain⟨m,hm⟩:=Bo h1
  exact⟨m,x,hm,h2⟩
 | .seq a b,s,r,he=>by
  simp only[jq,anU] at he ⊢
  obtain⟨x,h1,h2⟩:=he
  obtain⟨m1,hm1⟩:=pJ h1
  split at h2
  ·rename_i hx
   obtain⟨m2,hm2⟩:=pJ h2
   refine⟨max m1 m2,x,jI (lZ (ap0 _ _)) (an4 _) hm1,?_⟩
   simp only[hx]
   exact jI (lZ (apJ _ _)) (an4 _) hm2
  ·rename_i hx
   refine⟨m1,x,hm1,?_⟩
   split
   ·rename_i oI;exact absurd oI hx
   ·exact h2
 | .cond c a b,s,r,he=>by
  simp only[jq] at he ⊢
  split at he
  ·rename_i t ht
   cases t
   ·exact pJ (c:=b) he
   ·exact pJ (c:=a) he
  ·cases he
 | .block id a,s,r,he=>by
  simp only[jq,anT] at he ⊢
  obtain⟨x,h1,h2⟩:=he
  obtain⟨m,hm⟩:=pJ h1
  exact⟨m,x,hm,h2⟩
 | .loop a,s,r,he=>by
  simp only[jq] at he ⊢
  exact G0 (F':=fun m=>jq A.aZ (Ag A m) n a) (fun n' m s r hn h=>jI (lZ hn) (an4 _) h) (fun s r h=>pJ h) he
theorem Sn{n:Nat}{fn:aP}{args:List AV}{H:ai}{r:AV × Option gS}(he:wj A.aZ (aE A) n fn args H=some r):∃ m,wj A.aZ (Ag A m) n fn args H=some r:=by
 unfold wj at he ⊢
 cases hb:Nat.beq args.length fn.np with
 | false=>rw[hb] at he;cases he
 | true =>
  rw[hb] at he
  simp only[cond_true,anU] at he ⊢
  obtain⟨x,h1,h2⟩:=he
  obtain⟨m,hm⟩:=pJ h1
  exact⟨m,x,hm,h2⟩
theorem vC{f:FuncId}{fn:aP}(ho:A.ov f=none)(hf:A.fns f=some fn){n:Nat}{args:List AV}{H:ai}{r:AV × Option gS}(h:wj A.aZ (aE A) n fn args H=some r):aE A f args H=some r:=by
 obtain⟨m,hm⟩:=Sn h
 refine ke.2 ⟨max m n+1,?_⟩
 simp only[Ag,ho,hf]
 exact B0 (lZ (ap0 _ _)) (apJ _ _) hm
theorem qA{f:FuncId}{g:List AV->ai->Option (AV × Option gS)}(ho:A.ov f=some g){args:List AV}{H:ai}{r:AV × Option gS}(h:g args H=some r)(hn:args.all rS=true:=by rfl):aE A f args H=some r :=
 ke.2 ⟨1,by simp only[Ag,ho,hn,cond_true];exact h⟩
end
end
end Go.Abs
