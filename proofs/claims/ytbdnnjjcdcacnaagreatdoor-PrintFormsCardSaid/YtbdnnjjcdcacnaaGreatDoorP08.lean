/-
  A part of the proof of PrintForms: AbsIrF, AbsProgF, AbsLaidF, AbsLibF, AbsLib2F, AbsLib3F, AbsLib4F, AbsLib5F, AbsMono.
-/
import Derived.Test.YtbdnnjjcdcacnaaGreatDoorProg
import Derived.KernelRfl
import Derived.Lib.AtoiAll
import Derived.Lib.ItoaNum
import Derived.Shelf.Strconv.AtoiAll
import Derived.Shelf.Strconv.Itoa3
import Derived.Shelf.Small.Strs
import Derived.Shelf.Strings.Search1
import Derived.Ground.NamesProg
import Derived.Test.YtbdnnjjcdcacnaaGreatDoorChecked
import Derived.Shelf.Lay
import Derived.Shelf.Strings.Builder1
import Derived.Test.YtbdnnjjcdcacnaaGreatDoorP07
set_option linter.unusedSimpArgs false
set_option linter.unusedVariables false
set_option linter.defProp false
set_option maxHeartbeats 1000000
set_option maxRecDepth 100000
namespace Go.Proofs.YtbdnnjjcdcacnaaGreatDoor
open Go Go.Abs Go.Proofs
def fZ:aJ:=⟨[18,24,43,49,62,68,85,90,100,119,158,179],[999999,999996],[],187,2,[],cR [oO 3 (.box 43 (aT 1))] (.seq (cR [ag 5 0,aR 6 8 3,ba 7 54 6,aL 8 52 5 7] (cR [ag 9 0,qs 10 9,bI 11 1 10,al 12 1 11] (bS 12 .ret .skip))) (cR [cG 4 (.fn 88)] (cR [bI 13 0 3,al 14 1 13] (.block 0 (cR [av 19 .eql 14 0,af 18 19] (bS 18 (cR [ag 20 0,bI 21 1 3,al 22 1 21,av 23 .geq 22 (-1099511627776),af 24 23,cv 25 24 (iu 1 3),cv 26 24 (cg 1 25),cv 27 24 (cO .leq (aT 26) (aI 1099511627776)),iH 28 24 27,aL 29 52 20 28] (.seq (cR [bI 30 1 3,al 31 1 30,av 32 .lss 31 0] (bS 32 (.region false [ag 33 0,oO 34 (dT 1 [[.str []]] [(0,.bt (.str [45]))]),aL 35 41 33 34]) .skip)) (.region false [ag 36 0,bI 37 1 3,al 38 1 37,ba 39 53 38,dv 40 89 [aT 39,aS [45]],oO 41 (dT 1 [[.str []]] [(0,.tmp 40)]),aL 42 41 36 41]))) (cR [av 44 .eql 14 1,af 43 44] (bS 43 (cR [ag 45 0,bI 46 1 3,al 47 1 46,av 48 .eql 47 0,af 49 48,bW 50 49 (iu 1 3),bW 51 49 (cg 1 50),bW 52 49 (cO .eql (aT 51) (aI 1)),lE 53 49 52,aL 54 52 45 53] (.region false [ag 55 0,bI 56 1 3,al 57 1 56,av 58 .eql 57 1,ba 59 90 58,oO 60 (dT 1 [[.str []]] [(0,.tmp 59)]),aL 61 41 55 60])) (cR [av 63 .eql 14 2,af 62 63] (bS 62 (.region false [ag 64 0,bI 65 2 3,al 66 1 65,aL 67 42 64 66]) (cR [av 69 .eql 14 3,af 68 69] (bS 68 (cR [ag 70 0,bI 71 2 3,al 72 1 71,aL 73 84 70 72] (cR [ag 74 0,oO 75 (dT 1 [[.str []]] [(0,.bt (.str [40]))]),aL 76 41 74 75] (cR [ag 77 0,bI 78 6 3,al 79 1 78,ag 80 4,mq 81 91 77 79 80] (.region false [ag 82 0,oO 83 (dT 1 [[.str []]] [(0,.bt (.str [41]))]),aL 84 41 82 83])))) (cR [av 86 .eql 14 4,af 85 86] (bS 85 (.region false [ag 87 0,aR 88 8 3,aL 89 92 87 88]) (cR [av 91 .eql 14 5,af 90 91] (bS 90 (cR [ag 92 0,aR 93 8 3,dv 94 93 [aT 92,aT 93,aI 3,aI 0]] (bS 94 (.region false [ag 95 0,bI 96 6 3,al 97 1 96,oO 98 (dT 1 [[.str []],[.str []],[.str []]] [(0,.bt (.str [105,102])),(1,.bt (.str [116,104,101,110])),(2,.bt (.str [101,108,115,101]))]),mq 99 94 95 97 98]) .skip)) (cR [av 101 .eql 14 6,af 100 101] (bS 100 (cR [ag 102 0,aR 103 8 3,dv 104 93 [aT 102,aT 103,aI 2,aI 1]] (bS 104 (cR [ag 105 0,oO 106 (dT 1 [[.str []]] [(0,.bt (.str [108,101,116]))]),aL 107 41 105 106] (cR [ag 108 0,bI 109 7 3,al 110 1 109,sv 111 1 (aT 110) (aI 0),al 112 1 111,aL 113 42 108 112] (.region false [ag 114 0,bI 115 6 3,al 116 1 115,oO 117 (dT 1 [[.str []],[.str []]] [(0,.bt (.str [61])),(1,.bt (.str [105,110]))]),mq 118 94 114 116 117]))) .skip)) (cR [av 120 .eql 14 12,af 119 120] (bS 119 (cR [ag 121 0,aR 122 8 3,dv 123 93 [aT 121,aT 122,aI 3,aI 2]] (bS 123 (cR [ag 124 0,oO 125 (dT 1 [[.str []]] [(0,.bt (.str [102,111,108,100]))]),aL 126 41 124 125] (cR [ag 127 0,bI 128 7 3,al 129 1 128,sv 130 1 (aT 129) (aI 0),al 131 1 130,aL 132 42 127 131] (cR [ag 133 0,oO 134 (dT 1 [[.str []]] [(0,.bt (.str [44]))]),aL 135 41 133 134] (cR [ag 136 0,bI 137 7 3,al 138 1 137,sv 139 1 (aT 138) (aI 1),al 140 1 139,aL 141 42 136 140] (.region false [ag 142 0,dO 3,bI 143 6 3,dO 143,al 144 1 143,dO 144,sv 145 8 (aT 144) (aI 1),dO 145,aR 146 8 145,dO 3,bI 147 6 3,dO 147,al 148 1 147,dO 148,sv 149 8 (aT 148) (aI 0),dO 149,aR 150 8 149,dO 3,bI 151 6 3,dO 151,al 152 1 151,dO 152,sv 153 8 (aT 152) (aI 2),dO 153,aR 154 8 153,oO 155 (dT 8 [[.int .i64 0,.int .i64 0,.str [],.str [],.str [],.slice [] false,.slice [] false,.slice [] false],[.int .i64 0,.int .i64 0,.str [],.str [],.str [],.slice [] false,.slice [] false,.slice [] false],[.int .i64 0,.int .i64 0,.str [],.str [],.str [],.slice [] false,.slice [] false,.slice [] false]] [(0,.tmp 146),(1,.tmp 150),(2,.tmp 154)]),oO 156 (dT 1 [[.str []],[.str []],[.str []]] [(0,.bt (.str [61])),(1,.bt (.str [111,118,101,114])),(2,.bt (.str [100,111]))]),mq 157 94 142 155 156]))))) .skip)) (cR [av 159 .eql 14 11,af 158 159] (bS 158 (cR [ag 160 0,oO 161 (dT 1 [[.str []]] [(0,.bt (.str [76,105,115,116]))]),aL 162 41 160 161] (cR [ag 163 0,bI 164 4 3,aR 165 2 164,oO 166 (dT 2 [[.str [],.slice [] false]] [(0,.tmp 165)]),aL 167 83 163 166] (cR [ag 168 0,oO 169 (dT 1 [[.str []]] [(0,.bt (.str [91]))]),aL 170 41 168 169] (cR [ag 171 0,bI 172 6 3,al 173 1 172,ag 174 4,mq 175 91 171 173 174] (.region false [ag 176 0,oO 177 (dT 1 [[.str []]] [(0,.bt (.str [93]))]),aL 178 41 176 177]))))) (.seq (cR [av 180 .eql 14 7,af 179 180] (bS 179 .skip (cR [av 181 .eql 14 8,af 179 181] (bS 179 .skip (cR [av 182 .eql 14 9,af 179 182] (bS 179 .skip (.region false [av 183 .eql 14 10,af 179 183]))))))) (bS 179 (.region false [ag 184 0,aR 185 8 3,aL 186 95 184 185]) (.region false [ag 15 0,qs 16 15,bI 17 1 16,oN (.store 1 (aT 17) DC)])))))))))))))))))))))))))⟩
theorem Ve:bK Tryz.f55 fZ=some fZ:=by kernel_rfl
noncomputable def aba:aJ:=iR [2,3,4,5,6,7,8,9,38,46] [999999] [] Tryz.f56
theorem Vf:bK Tryz.f56 aba=some aba:=by kernel_rfl
noncomputable def abb:aJ:=iR [] [999999] [] Tryz.f57
theorem Vg:bK Tryz.f57 abb=some abb:=by kernel_rfl
noncomputable def abc:aJ:=iR [2,3] [999999] [] Tryz.f58
theorem Vh:bK Tryz.f58 abc=some abc:=by kernel_rfl
noncomputable def abd:aJ:=iR [] [999999] [] Tryz.f59
theorem Vi:bK Tryz.f59 abd=some abd:=by kernel_rfl
noncomputable def abg:aJ:=iR [34,8,700002,700003] [2,999999,999998] [] Tryz.f60
theorem Vj:bK Tryz.f60 abg=some abg:=by kernel_rfl
noncomputable def abh:aJ:=iR [6,7,19,700009] [9,999999] [] Tryz.f61
theorem Vk:bK Tryz.f61 abh=some abh:=by kernel_rfl
noncomputable def abi:aJ:=iR [2,3,4,17] [999999] [] Tryz.f62
theorem Vl:bK Tryz.f62 abi=some abi:=by kernel_rfl
noncomputable def abj:aJ:=iR [2,5] [999999,7] [888888] Tryz.f63
theorem Vm:bK Tryz.f63 abj=some abj:=by kernel_rfl
noncomputable def abk:aJ:=iR [2,5] [999999,7] [888888] Tryz.f64
theorem Vn:bK Tryz.f64 abk=some abk:=by kernel_rfl
noncomputable def abl:aJ:=iR [2,5] [999999,7] [888888] Tryz.f65
theorem Vo:bK Tryz.f65 abl=some abl:=by kernel_rfl
noncomputable def abm:aJ:=iR [3,20,700002,700004] [2,4,999999,999998] [500001] Tryz.f66
theorem Vp:bK Tryz.f66 abm=some abm:=by kernel_rfl
noncomputable def abn:aJ:=iR [3,12,700002,700004] [2,4,999999] [500001] Tryz.f67
theorem Vq:bK Tryz.f67 abn=some abn:=by kernel_rfl
def Jy:aJ:=⟨[2,10,21,25,30],[1],[],36,1,[.tmp 2],cR [oO 1 (.boxL (aT 0)),aK 2 jY] (.seq (cR [bI 3 0 1,al 4 1 3,jv 5 .eql (aT 4) (aS [76,105,115,116])] (bS 5 (cR [bI 6 1 1,al 7 1 6,bU 8 .sl 7,av 9 .eql 8 1,af 10 9,cv 11 10 (iu 1 1),cv 12 10 (cg 1 11),cv 13 10 (.ixSl 2 (aT 12) (aI 0)),cv 14 10 (rq 2 13),cv 15 10 (jc 68 [aT 14]),iH 16 10 15,af 2 16] .ret) .skip)) (cR [bI 17 1 1,al 18 1 17,bU 19 .sl 18,av 20 .eql 19 0,af 21 20,cv 22 21 (iu 0 1),cv 23 21 (cg 1 22),cv 24 21 (cO .eql (aT 23) (aS [73,110,116])),cv 25 21 (jr 24),bW 26 25 (iu 0 1),bW 27 25 (cg 1 26),bW 28 25 (cO .eql (aT 27) (aS [66,111,111,108])),cv 29 21 (.pick (aT 25) DC (aT 28)),cv 30 21 (jr 29),bW 31 30 (iu 0 1),bW 32 30 (cg 1 31),bW 33 30 (jc 108 [aT 32]),cv 34 21 (.pick (aT 30) DC (aT 33)),iH 35 21 34,af 2 35] .ret))⟩
theorem Vr:bK Tryz.f68 Jy=some Jy:=by kernel_rfl
def Q4:aJ:=⟨[5,11,18,25,32,40,48],[2,3],[],76,2,[.tmp 4],cR [oO 2 (.boxL (aT 0)),oO 3 (.boxL (aT 1)),cG 4 jY] (.seq (cR [bI 6 0 2,al 7 1 6,bI 8 0 3,al 9 1 8,bO 10 .neq 7 9,af 11 10,bW 12 11 (iu 1 2),bW 13 11 (cg 1 12),bW 14 11 (iu 1 3),bW 15 11 (cg 1 14),bW 16 11 (cO .neq (aT 13) (aT 15)),lE 17 11 16,af 18 17,bW 19 18 (iu 2 2),bW 20 18 (cg 1 19),bW 21 18 (iu 2 3),bW 22 18 (cg 1 21),bW 23 18 (cO .neq (aT 20) (aT 22)),lE 24 18 23,af 25 24,bW 26 25 (iu 3 2),bW 27 25 (cg 1 26),bW 28 25 (iu 3 3),bW 29 25 (cg 1 28),bW 30 25 (cO .neq (aT 27) (aT 29)),lE 31 25 30,af 32 31,bW 33 32 (iu 4 2),bW 34 32 (rq 2 33),bW 35 32 (iu 4 3),bW 36 32 (rq 2 35),bW 37 32 (jc 109 [aT 34,aT 36]),bW 38 32 (.un .not (aT 37)),lE 39 32 38,af 40 39,bW 41 40 (iu 7 2),bW 42 40 (cg 1 41),bW 43 40 (iu 7 3),bW 44 40 (cg 1 43),bW 45 40 (jc 32 [aT 42,aT 44]),bW 46 40 (.un .not (aT 45)),lE 47 40 46,af 48 47,bW 49 48 (iu 6 2),bW 50 48 (cg 1 49),bW 51 48 (uU 50),bW 52 48 (iu 6 3),bW 53 48 (cg 1 52),bW 54 48 (uU 53),bW 55 48 (cO .neq (aT 51) (aT 54)),lE 56 48 55] (bS 56 (cR [cG 4 jY] .ret) .skip)) (.seq (cR [aK 5 (aI 0)] (.block 0 (.loop (.seq (cR [ag 57 5,bI 58 6 2,al 59 1 58,bU 60 .sl 59,bO 61 .lss 57 60] (bS 61 .skip (.exit 0))) (.seq (.block 1 (.seq (.region true [bI 64 6 2,al 65 1 64,ag 66 5,df 67 8 65 66,aR 68 8 67,bI 69 6 3,al 70 1 69,ag 71 5,df 72 8 70 71,aR 73 8 72,aL 74 69 68 73,oO 75 (.un .not (aT 74))]) (bS 75 (cR [cG 4 jY] .ret) .skip))) (.region false [ag 62 5,av 63 .add 62 1,af 5 63])))))) (cR [cG 4 DC] .ret)))⟩
theorem Vs:bK Tryz.f69 Q4=some Q4:=by kernel_rfl
def re:aJ:=⟨[3,4,5,6,7,8,15,18,26,33,42,47,52,57,63,69,73,80,83,88,97,103,109,112,121,127,131,136,148,152,158,162,167,176,181,186],[1],[],205,1,[.tmp 2],cR [oO 1 (.boxL (aT 0)),cG 2 jY] (cR [aR 9 8 1,ba 10 110 9,af 8 10,kB 11 8 0,kB 12 8 1,af 3 11,af 4 12] (.seq (cR [ag 13 3,av 14 .eql 13 (-2),af 15 14,bW 16 15 (dM 3),bW 17 15 (cO .geq (aT 16) (aI 0)),bW 18 15 (jr 17),cv 19 18 (iu 6 1),cv 20 18 (cg 1 19),cv 21 18 (uU 20),cv 22 18 (dM 3),cv 23 18 (cO .neq (aT 21) (aT 22)),bW 24 15 (.pick (aT 18) (aT 23) jY),lE 25 15 24,af 26 25,bW 27 26 (iu 7 1),bW 28 26 (cg 1 27),bW 29 26 (uU 28),bW 30 26 (dM 4),bW 31 26 (cO .neq (aT 29) (aT 30)),lE 32 26 31,af 33 32,bW 34 33 (iu 7 1),bW 35 33 (cg 1 34),bW 36 33 (jc 49 [aT 35]),bW 37 33 (.un .not (aT 36)),lE 38 33 37] (bS 38 (cR [cG 2 jY] .ret) .skip)) (cR [bI 39 0 1,al 40 1 39,av 41 .eql 40 3,af 42 41,bW 43 42 (iu 0 1),bW 44 42 (cg 1 43),bW 45 42 (cO .eql (aT 44) (aI 7)),lE 46 42 45,af 47 46,bW 48 47 (iu 0 1),bW 49 47 (cg 1 48),bW 50 47 (cO .eql (aT 49) (aI 8)),lE 51 47 50,af 52 51,bW 53 52 (iu 0 1),bW 54 52 (cg 1 53),bW 55 52 (cO .eql (aT 54) (aI 9)),lE 56 52 55,af 57 56,bW 58 57 (iu 0 1),bW 59 57 (cg 1 58),bW 60 57 (cO .eql (aT 59) (aI 10)),lE 61 57 60,af 5 61] (.seq (cR [ag 62 5,af 63 62,cv 64 63 (iu 2 1),cv 65 63 (cg 1 64),cv 66 63 (jc 108 [aT 65]),cv 67 63 (.un .not (aT 66)),iH 68 63 67,af 69 68,bW 70 69 (iu 0 1),bW 71 69 (cg 1 70),bW 72 69 (cO .eql (aT 71) (aI 2)),bW 73 69 (jr 72),cv 74 73 (iu 2 1),cv 75 73 (cg 1 74),cv 76 73 (jc 48 [aT 75]),cv 77 73 (.un .not (aT 76)),bW 78 69 (.pick (aT 73) (aT 77) jY),lE 79 69 78,af 80 79,bW 81 80 (dM 5),bW 82 80 (.un .not (aT 81)),bW 83 80 (jr 82),cv 84 83 (iu 0 1),cv 85 83 (cg 1 84),cv 86 83 (cO .neq (aT 85) (aI 2)),bW 87 80 (.pick (aT 83) (aT 86) jY),bW 88 80 (jr 87),cv 89 88 (iu 2 1),cv 90 88 (cg 1 89),cv 91 88 (cO .neq (aT 90) (aS [])),bW 92 80 (.pick (aT 88) (aT 91) jY),lE 93 80 92] (bS 93 (cR [cG 2 jY] .ret) .skip)) (cR [bI 94 0 1,al 95 1 94,av 96 .eql 95 8,af 97 96,bW 98 97 (iu 0 1),bW 99 97 (cg 1 98),bW 100 97 (cO .eql (aT 99) (aI 9)),lE 101 97 100,af 6 101] (.seq (cR [ag 102 6,af 103 102,cv 104 103 (iu 3 1),cv 105 103 (cg 1 104),cv 106 103 (jc 48 [aT 105]),cv 107 103 (.un .not (aT 106)),iH 108 103 107,af 109 108,bW 110 109 (dM 6),bW 111 109 (.un .not (aT 110)),bW 112 109 (jr 111),cv 113 112 (iu 3 1),cv 114 112 (cg 1 113),cv 115 112 (cO .neq (aT 114) (aS [])),bW 116 109 (.pick (aT 112) (aT 115) jY),lE 117 109 116] (bS 117 (cR [cG 2 jY] .ret) .skip)) (.seq (cR [bI 118 0 1,al 119 1 118,av 120 .eql 119 11,af 121 120,cv 122 121 (iu 4 1),cv 123 121 (rq 2 122),cv 124 121 (jc 68 [aT 123]),cv 125 121 (.un .not (aT 124)),iH 126 121 125,af 127 126,bW 128 127 (iu 0 1),bW 129 127 (cg 1 128),bW 130 127 (cO .neq (aT 129) (aI 11)),bW 131 127 (jr 130),cv 132 131 (iu 4 1),cv 133 131 (iu 0 132),cv 134 131 (cg 1 133),cv 135 131 (cO .neq (aT 134) (aS [])),cv 136 131 (jr 135),bW 137 136 (iu 4 1),bW 138 136 (iu 1 137),bW 139 136 (cg 1 138),bW 140 136 (uU 139),bW 141 136 (cO .gtr (aT 140) (aI 0)),cv 142 131 (.pick (aT 136) DC (aT 141)),bW 143 127 (.pick (aT 131) (aT 142) jY),lE 144 127 143] (bS 144 (cR [cG 2 jY] .ret) .skip)) (.seq (cR [bI 145 0 1,al 146 1 145,av 147 .eql 146 0,af 148 147,cv 149 148 (iu 1 1),cv 150 148 (cg 1 149),cv 151 148 (cO .lss (aT 150) (aI (-1099511627776))),cv 152 148 (jr 151),bW 153 152 (iu 1 1),bW 154 152 (cg 1 153),bW 155 152 (cO .gtr (aT 154) (aI 1099511627776)),cv 156 148 (.pick (aT 152) DC (aT 155)),iH 157 148 156,af 158 157,bW 159 158 (iu 0 1),bW 160 158 (cg 1 159),bW 161 158 (cO .eql (aT 160) (aI 1)),bW 162 158 (jr 161),cv 163 162 (iu 1 1),cv 164 162 (cg 1 163),cv 165 162 (cO .neq (aT 164) (aI 0)),bW 166 158 (.pick (aT 162) (aT 165) jY),bW 167 158 (jr 166),cv 168 167 (iu 1 1),cv 169 167 (cg 1 168),cv 170 167 (cO .neq (aT 169) (aI 1)),bW 171 158 (.pick (aT 167) (aT 170) jY),lE 172 158 171] (bS 172 (cR [cG 2 jY] .ret) .skip)) (.seq (cR [bI 173 0 1,al 174 1 173,av 175 .neq 174 0,af 176 175,cv 177 176 (iu 0 1),cv 178 176 (cg 1 177),cv 179 176 (cO .neq (aT 178) (aI 1)),iH 180 176 179,af 181 180,cv 182 181 (iu 0 1),cv 183 181 (cg 1 182),cv 184 181 (cO .neq (aT 183) (aI 4)),iH 185 181 184,af 186 185,cv 187 186 (iu 1 1),cv 188 186 (cg 1 187),cv 189 186 (cO .neq (aT 188) (aI 0)),iH 190 186 189] (bS 190 (cR [cG 2 jY] .ret) .skip)) (.seq (cR [aK 7 (aI 0)] (.block 0 (.loop (.seq (cR [ag 191 7,bI 192 6 1,al 193 1 192,bU 194 .sl 193,bO 195 .lss 191 194] (bS 195 .skip (.exit 0))) (.seq (.block 1 (cR [bI 198 6 1,al 199 1 198,ag 200 7,df 201 8 199 200,aR 202 8 201,ba 203 70 202,oO 204 (.un .not (aT 203))] (bS 204 (cR [cG 2 jY] .ret) .skip))) (.region false [ag 196 7,av 197 .add 196 1,af 7 197])))))) (cR [cG 2 DC] .ret)))))))))))⟩
theorem Vt:bK Tryz.f70 re=some re:=by kernel_rfl
def Q5:aJ:=⟨[2,3,4,5,6],[],[],18,1,[.tmp 2],cR [aK 2 (.bt (.slice [] true))] (cR [ag 7 0,ba 8 111 7,af 6 8,kB 9 6 0,kB 10 6 1,kB 11 6 2,af 3 9,af 4 10,af 5 11] (.seq (cR [ag 12 5] (bS 12 (cR [ag 13 3,ag 14 4,oO 15 (dT 1 [[.str []],[.str []],[.str []]] [(0,.tmp 13),(1,.bt (.str [46])),(2,.tmp 14)]),af 2 15] .ret) .skip)) (cR [ag 16 3,oO 17 (dT 1 [[.str []]] [(0,.tmp 16)]),af 2 17] .ret)))⟩
theorem Vu:bK Tryz.f71 Q5=some Q5:=by kernel_rfl
def Q6:aJ:=⟨[8,9,10,12,16,18],[],[],22,4,[.tmp 8],cR [aK 8 (.bt (.slice [] true))] (cR [aK 9 (.bt (.slice [] true))] (cR [af 10 9,ag 11 0,cT 12 1 16 10 11,ag 13 1,oO 14 (dT 1 [[.str []]] [(0,.tmp 13)]),cT 15 1 16 12 14,af 9 15] (cR [af 16 9,ag 17 2,cT 18 1 16 16 17,ag 19 3,oO 20 (dT 1 [[.str []]] [(0,.tmp 19)]),cT 21 1 16 18 20,af 8 21] .ret)))⟩
theorem Vv:bK Tryz.f72 Q6=some Q6:=by kernel_rfl
def Q7:aJ:=⟨[2,3,4,13,16],[],[],24,1,[.tmp 2],cR [aK 2 (.bt (.slice [] true))] (cR [aK 3 (.bt (.slice [] true))] (.seq (cR [aK 4 (aI 0)] (.block 0 (.loop (.seq (cR [ag 5 4,ag 6 0,bU 7 .sl 6,bO 8 .lss 5 7] (bS 8 .skip (.exit 0))) (.seq (.block 1 (.seq (cR [ag 11 4,av 12 .gtr 11 0] (bS 12 (.region false [af 13 3,oO 14 (dT 1 [[.str []]] [(0,.bt (.str [44]))]),cT 15 1 16 13 14,af 3 15]) .skip)) (.region false [af 16 3,ag 17 0,ag 18 4,df 19 8 17 18,aR 20 8 19,ba 21 40 20,cT 22 1 16 16 21,af 3 22]))) (.region false [ag 9 4,av 10 .add 9 1,af 4 10])))))) (cR [ag 23 3,af 2 23] .ret)))⟩
theorem Vw:bK Tryz.f73 Q7=some Q7:=by kernel_rfl
def Q8:aJ:=⟨[2,3,4,5,8],[],[],22,1,[.tmp 2,.tmp 3],cR [aK 2 (aS []),aK 3 (aI 0)] (.seq (cR [ag 6 0,av 7 .lss 6 0,af 8 7,bW 9 8 (dM 0),bW 10 8 (cO .gtr (aT 9) (aI 11)),lE 11 8 10] (bS 11 (cR [aK 2 (aS []),aK 3 (aI 0)] .ret) .skip)) (cR [oO 12 (dT 1 [[.str []],[.str []],[.str []],[.str []],[.str []],[.str []],[.str []],[.str []],[.str []],[.str []],[.str []],[.str []]] [(0,.bt (.str [43])),(1,.bt (.str [45])),(2,.bt (.str [42])),(3,.bt (.str [47])),(4,.bt (.str [37])),(5,.bt (.str [60])),(6,.bt (.str [61,61])),(7,.bt (.str [97,110,100])),(8,.bt (.str [111,114])),(9,.bt (.str [110,111,116])),(10,.bt (.str [106,111,105,110])),(11,.bt (.str [108,101,110]))]),af 4 12] (cR [oO 13 (dT 1 [[.int .i64 0],[.int .i64 0],[.int .i64 0],[.int .i64 0],[.int .i64 0],[.int .i64 0],[.int .i64 0],[.int .i64 0],[.int .i64 0],[.int .i64 0],[.int .i64 0],[.int .i64 0]] [(0,.bt (.int .i64 5)),(1,.bt (.int .i64 5)),(2,.bt (.int .i64 6)),(3,.bt (.int .i64 6)),(4,.bt (.int .i64 6)),(5,.bt (.int .i64 3)),(6,.bt (.int .i64 3)),(7,.bt (.int .i64 2)),(8,.bt (.int .i64 1)),(9,.bt (.int .i64 7)),(10,.bt (.int .i64 4)),(11,.bt (.int .i64 7))]),af 5 13] (cR [ag 14 4,ag 15 0,dO 14,df 16 1 14 15,dO 16,al 17 1 16,ag 18 5,ag 19 0,dO 18,df 20 1 18 19,dO 20,al 21 1 20,af 2 17,af 3 21] .ret))))⟩
theorem Vx:bK Tryz.f74 Q8=some Q8:=by kernel_rfl
def Q9:aJ:=⟨[4,9,12],[2],[],17,2,[.tmp 4],cR [oO 2 (.boxL (aT 0)),aK 4 (.bt (.slice [] true))] (.seq (cR [aR 5 8 2,ba 6 112 5,ag 7 1,bO 8 .lss 6 7] (bS 8 (cR [oO 9 (dT 1 [[.str []]] [(0,.bt (.str [40]))]),aR 10 8 2,ba 11 40 10,cT 12 1 16 9 11,oO 13 (dT 1 [[.str []]] [(0,.bt (.str [41]))]),cT 14 1 16 12 13,af 4 14] .ret) .skip)) (cR [aR 15 8 2,ba 16 40 15,af 4 16] .ret))⟩
theorem Vy:bK Tryz.f75 Q9=some Q9:=by kernel_rfl
def Ra:aJ:=⟨[2,5,10,17],[999999],[],23,1,[.tmp 2],cR [aK 2 jY] (cR [ag 3 0,jv 4 .neq (aT 3) (aS []),af 5 4,cv 6 5 (dM 0),cv 7 5 (.indexStr (aT 6) (aI 0)),cv 8 5 (jc 113 [aT 7]),iH 9 5 8,af 10 9,cv 11 10 (dM 0),cv 12 10 (jc 97 [aT 11]),cv 13 10 (dM 0),cv 14 10 (.len .str (aT 13)),cv 15 10 (cO .eql (aT 12) (aT 14)),iH 16 10 15,af 17 16,cv 18 17 (.slice (.arr 27 1) (.aZ 1) none none none),cv 19 17 (dM 0),cv 20 17 (jc 114 [aT 18,aT 19]),cv 21 17 (.un .not (aT 20)),iH 22 17 21,af 2 22] .ret)⟩
theorem Vz:bK Tryz.f76 Ra=some Ra:=by kernel_rfl
def Rb:aJ:=⟨[4,6,13,17],[999999],[],21,2,[.tmp 4],cR [aK 4 jY] (.seq (cR [ag 5 1] (.block 0 (.seq (cR [jv 7 .eql (aT 5) (aS [41]),af 6 7] (bS 6 .skip (cR [jv 8 .eql (aT 5) (aS [93]),af 6 8] (bS 6 .skip (cR [jv 9 .eql (aT 5) (aS [44]),af 6 9] (bS 6 .skip (.region false [jv 10 .eql (aT 5) (aS [46]),af 6 10]))))))) (bS 6 (cR [aK 4 DC] .ret) .skip)))) (cR [ag 11 0,jv 12 .eql (aT 11) (aS [40]),af 13 12,bW 14 13 (dM 0),bW 15 13 (cO .eql (aT 14) (aS [91])),lE 16 13 15,af 17 16,bW 18 17 (dM 0),bW 19 17 (cO .eql (aT 18) (aS [46])),lE 20 17 19,af 4 20] .ret))⟩
theorem VA:bK Tryz.f77 Rb=some Rb:=by kernel_rfl
def Rc:aJ:=⟨[5,9,12,19],[],[],23,1,[.tmp 2],cR [cG 2 (aI 0)] (.seq (cR [ag 3 0,jv 4 .geq (aT 3) (.bt (.int IntKind.u8 97)),af 5 4,cv 6 5 (dM 0),cv 7 5 (cO .leq (aT 6) (.bt (.int IntKind.u8 122))),iH 8 5 7,af 9 8,bW 10 9 (dM 0),bW 11 9 (cO .geq (aT 10) (.bt (.int IntKind.u8 65))),bW 12 9 (jr 11),cv 13 12 (dM 0),cv 14 12 (cO .leq (aT 13) (.bt (.int IntKind.u8 90))),bW 15 9 (.pick (aT 12) (aT 14) jY),lE 16 9 15] (bS 16 (cR [cG 2 (aI 1)] .ret) .skip)) (.seq (cR [ag 17 0,jv 18 .geq (aT 17) (.bt (.int IntKind.u8 48)),af 19 18,cv 20 19 (dM 0),cv 21 19 (cO .leq (aT 20) (.bt (.int IntKind.u8 57))),iH 22 19 21] (bS 22 (cR [cG 2 (aI 2)] .ret) .skip)) (cR [cG 2 (aI 0)] .ret)))⟩
theorem VB:bK Tryz.f79 Rc=some Rc:=by kernel_rfl
def Rd:aJ:=⟨[0],[],[],2,0,[.tmp 0],cR [aK 0 (.bt (.slice [] true))] (cR [oO 1 (dT 1 [[.str []],[.str []],[.str []],[.str []],[.str []],[.str []],[.str []],[.str []],[.str []],[.str []],[.str []],[.str []],[.str []],[.str []],[.str []],[.str []],[.str []],[.str []],[.str []],[.str []],[.str []],[.str []],[.str []],[.str []],[.str []],[.str []],[.str []]] [(0,.bt (.str [109,111,100,117,108,101])),(1,.bt (.str [117,115,101])),(2,.bt (.str [114,101,99])),(3,.bt (.str [99,97,115,101])),(4,.bt (.str [102,117,110])),(5,.bt (.str [111,110])),(6,.bt (.str [116,101,115,116])),(7,.bt (.str [99,111,110,118])),(8,.bt (.str [116,114,117,101])),(9,.bt (.str [102,97,108,115,101])),(10,.bt (.str [110,111,116])),(11,.bt (.str [97,110,100])),(12,.bt (.str [111,114])),(13,.bt (.str [105,102])),(14,.bt (.str [116,104,101,110])),(15,.bt (.str [101,108,115,101])),(16,.bt (.str [108,101,116])),(17,.bt (.str [105,110])),(18,.bt (.str [109,97,116,99,104])),(19,.bt (.str [102,111,108,100])),(20,.bt (.str [111,118,101,114])),(21,.bt (.str [100,111])),(22,.bt (.str [108,101,110])),(23,.bt (.str [106,111,105,110])),(24,.bt (.str [76,105,115,116])),(25,.bt (.str [73,110,116])),(26,.bt (.str [66,111,111,108]))]),af 0 1] .ret)⟩
theorem VC:bK Tryz.f80 Rd=some Rd:=by kernel_rfl
def Re:aJ:=⟨[4,5,6,19,25,31,49],[],[],67,2,[.tmp 4],cR [aK 4 (aI 0)] (cR [ag 7 0,ag 8 1,oO 9 (.indexStr (aT 7) (aT 8)),ba 10 79 9,af 5 10] (.seq (cR [ag 11 5,av 12 .gtr 11 0] (bS 12 (cR [ag 13 1,av 14 .add 13 1,af 6 14] (.seq (.block 0 (.loop (.seq (cR [ag 15 6,ag 16 0,bU 17 .str 16,bO 18 .lss 15 17,af 19 18,cv 20 19 (dM 0),cv 21 19 (dM 6),cv 22 19 (.indexStr (aT 20) (aT 21)),cv 23 19 (jc 79 [aT 22]),cv 24 19 (cO .eql (aT 23) (aI 2)),cv 25 19 (jr 24),bW 26 25 (dM 0),bW 27 25 (dM 6),bW 28 25 (.indexStr (aT 26) (aT 27)),bW 29 25 (jc 79 [aT 28]),bW 30 25 (cO .eql (aT 29) (aI 1)),bW 31 25 (jr 30),cv 32 31 (dM 5),cv 33 31 (cO .eql (aT 32) (aI 1)),bW 34 25 (.pick (aT 31) (aT 33) jY),cv 35 19 (.pick (aT 25) DC (aT 34)),iH 36 19 35] (bS 36 .skip (.exit 0))) (.block 1 (.region false [ag 37 6,av 38 .add 37 1,af 6 38]))))) (.seq (cR [ag 39 6,ag 40 1,bO 41 .sub 39 40,av 42 .gtr 41 16] (bS 42 (cR [aK 4 (aI (-1))] .ret) .skip)) (cR [ag 43 6,af 4 43] .ret)))) .skip)) (.seq (cR [ag 44 1,av 45 .add 44 1,ag 46 0,bU 47 .str 46,bO 48 .lss 45 47,af 49 48,cv 50 49 (dM 0),cv 51 49 (dM 1),cv 52 49 (dM 1),cv 53 49 (cO .add (aT 52) (aI 2)),cv 54 49 (.slice .str (aT 50) (some (aT 51)) (some (aT 53)) none),cv 55 49 (jc 116 [aT 54]),iH 56 49 55] (bS 56 (cR [ag 57 1,av 58 .add 57 2,af 4 58] .ret) .skip)) (.seq (cR [ag 59 0,ag 60 1,ag 61 1,av 62 .add 61 1,oO 63 (.slice .str (aT 59) (some (aT 60)) (some (aT 62)) none),ba 64 116 63] (bS 64 (cR [ag 65 1,av 66 .add 65 1,af 4 66] .ret) .skip)) (cR [aK 4 (aI (-1))] .ret)))))⟩
theorem VD:bK Tryz.f81 Re=some Re:=by kernel_rfl
def Rf:aJ:=⟨[2,3,4,6,23,27,31,40,47,54,61,65],[7,64],[888888],66,1,[.tmp 2],cR [aK 2 (.bt (.slice [] true))] (cR [oO 7 (.nP 1 [[.str []]] [(0,.bt (.str []))]),af 3 7] (.seq (cR [aK 4 (aI 1)] (.block 0 (.loop (.seq (cR [ag 8 4,ag 9 0,bU 10 .sl 9,bO 11 .leq 8 10] (bS 11 .skip (.exit 0))) (.seq (.block 1 (cR [cG 5 (aS [32])] (cR [ag 14 0,ag 15 4,av 16 .sub 15 1,df 17 1 14 16,al 18 1 17,af 6 18] (.seq (cR [ag 19 4,ag 20 0,bU 21 .sl 20,bO 22 .eql 19 21,af 23 22,bW 24 23 (dM 6),bW 25 23 (cO .eql (aT 24) (aS [40])),lE 26 23 25,af 27 26,bW 28 27 (dM 6),bW 29 27 (cO .eql (aT 28) (aS [91])),lE 30 27 29,af 31 30,bW 32 31 (dM 6),bW 33 31 (cO .eql (aT 32) (aS [46])),lE 34 31 33] (bS 34 (.region false [cG 5 (aS [])]) (cR [ag 35 0,ag 36 4,df 37 1 35 36,al 38 1 37,jv 39 .eql (aT 38) (aS [41]),af 40 39,bW 41 40 (dM 0),bW 42 40 (dM 4),bW 43 40 (.ixSl 1 (aT 41) (aT 42)),bW 44 40 (cg 1 43),bW 45 40 (cO .eql (aT 44) (aS [93])),lE 46 40 45,af 47 46,bW 48 47 (dM 0),bW 49 47 (dM 4),bW 50 47 (.ixSl 1 (aT 48) (aT 49)),bW 51 47 (cg 1 50),bW 52 47 (cO .eql (aT 51) (aS [44])),lE 53 47 52,af 54 53,bW 55 54 (dM 0),bW 56 54 (dM 4),bW 57 54 (.ixSl 1 (aT 55) (aT 56)),bW 58 54 (cg 1 57),bW 59 54 (cO .eql (aT 58) (aS [46])),lE 60 54 59] (bS 60 (.region false [cG 5 (aS [])]) .skip)))) (.region false [af 61 3,ag 62 5,oO 63 (dT 1 [[.str []]] [(0,.tmp 62)]),oO 64 (.appendO 1 16 (aT 61) (aT 63)),af 3 64]))))) (.region false [ag 12 4,av 13 .add 12 1,af 4 13])))))) (cR [af 65 3,af 2 65] .ret)))⟩
theorem VE:bK Tryz.f82 Rf=some Rf:=by kernel_rfl
def Jz:aJ:=⟨[],[999999],[],25,2,[],cR [ag 4 0,ag 5 1,bU 6 .sl 5,av 7 .eql 6 1,aL 8 52 4 7] (cR [ag 9 0,qs 10 9,bI 11 1 10,al 12 1 11,oO 13 (.un .not (aT 12))] (bS 13 (cR [ag 14 0,oO 15 (dT 1 [[.str []]] [(0,.bt (.str [40]))]),aL 16 41 14 15] (cR [ag 17 0,ag 18 1,sv 19 2 (aT 18) (aI 0),aR 20 2 19,aL 21 51 17 20] (.region false [ag 22 0,oO 23 (dT 1 [[.str []]] [(0,.bt (.str [41]))]),aL 24 41 22 23]))) .skip))⟩
theorem VF:bK Tryz.f83 Jz=some Jz:=by kernel_rfl
def JA:aJ:=⟨[4,5,6,7],[999999],[],23,2,[],cR [ag 8 1,dv 9 117 [aT 8,aS [46]],af 7 9,kB 10 7 0,kB 11 7 1,kB 12 7 2,af 4 10,af 5 11,af 6 12] (cR [ag 13 0,ag 14 4,aL 15 42 13 14] (cR [ag 16 6] (bS 16 (cR [ag 17 0,oO 18 (dT 1 [[.str []]] [(0,.bt (.str [46]))]),aL 19 41 17 18] (.region false [ag 20 0,ag 21 5,aL 22 42 20 21])) .skip)))⟩
theorem VG:bK Tryz.f84 JA=some JA:=by kernel_rfl
def Rg:aJ:=⟨[3],[999999],[],8,2,[.tmp 3],cR [aK 3 jY] (cR [al 4 1 1,ag 5 0,aL 6 87 4 5,oO 7 (.un .not (aT 6)),af 3 7] .ret)⟩
theorem VH:bK Tryz.f86 Rg=some Rg:=by kernel_rfl
def Rh:aJ:=⟨[4],[999999],[],9,2,[.tmp 4],cR [aK 4 jY] (cR [ag 5 0,ag 6 1,aL 7 119 5 6,av 8 .geq 7 0,af 4 8] .ret)⟩
theorem VI:bK Tryz.f87 Rh=some Rh:=by kernel_rfl
def Ri:aJ:=⟨[],[999999],[],2,1,[],.skip⟩
theorem VJ:bK Tryz.f88 Ri=some Ri:=by kernel_rfl
def Rj:aJ:=⟨[4],[999999],[],8,2,[.tmp 4],cR [aK 4 (aS [])] (cR [ag 5 0,ag 6 1,aL 7 120 5 6,af 4 7] .ret)⟩
theorem VK:bK Tryz.f89 Rj=some Rj:=by kernel_rfl
def Rk:aJ:=⟨[2],[999999],[],5,1,[.tmp 2],cR [aK 2 (aS [])] (cR [ag 3 0,ba 4 121 3,af 2 4] .ret)⟩
theorem VL:bK Tryz.f90 Rk=some Rk:=by kernel_rfl
def JB:aJ:=⟨[6,10,700007],[7,999999],[],27,3,[],cR [ag 8 1,bU 9 .sl 8,aK 10 (aI 0)] (.block 0 (.loop (cR [bO 11 .lss 10 9] (.seq (bS 11 .skip (.exit 0)) (.seq (.block 1 (cR [ag 12 10,df 13 8 8 10,aR 14 8 13,oO 7 (.allocL [.int .i64 0,.int .i64 0,.str [],.str [],.str [],.aj,.aj,.aj]),af 6 12,iK 8 7 14] (.seq (cR [ag 15 6,av 16 .gtr 15 0] (bS 16 (.region false [ag 17 0,oO 18 (dT 1 [[.str []]] [(0,.bt (.str [44]))]),aL 19 41 17 18]) .skip)) (cR [ag 20 2,ag 21 6,oO 22 (.call (aT 20) [aT 21])] (.region false [ag 23 0,aR 24 8 7,aL 25 55 23 24]))))) (.region false [av 26 .add 10 1,af 10 26]))))))⟩
theorem VM:bK Tryz.f91 JB=some JB:=by kernel_rfl
def vO:aJ:=⟨[4,5,6,7],[999999],[],60,2,[],cR [oO 3 (.box 43 (aT 1))] (cR [bI 8 1 3,al 9 1 8,ba 10 122 9,af 7 10,kB 11 7 0,kB 12 7 1,af 4 11,af 5 12] (.seq (cR [ag 13 5,av 14 .eql 13 7] (bS 14 (.seq (cR [ag 15 0,ag 16 4,jv 17 .neq (aT 16) (aS []),aL 18 52 15 17] (cR [ag 19 0,aR 20 8 3,dv 21 93 [aT 19,aT 20,aI 1,aI 0]] (bS 21 (cR [ag 22 0,ag 23 4,oO 24 (dT 1 [[.str []]] [(0,.tmp 23)]),aL 25 41 22 24] (.region false [ag 26 0,bI 27 6 3,al 28 1 27,sv 29 8 (aT 28) (aI 0),aR 30 8 29,dv 31 123 [aT 26,aT 30,aI 7]])) .skip))) .ret) .skip)) (.seq (cR [ag 32 0,aR 33 8 3,dv 34 93 [aT 32,aT 33,aI 2,aI 0],oO 35 (.un .not (aT 34))] (bS 35 .ret .skip)) (cR [ag 36 5,af 6 36] (.seq (cR [ag 37 5,av 38 .eql 37 3] (bS 38 (.region false [ag 39 6,av 40 .add 39 1,af 6 40]) .skip)) (cR [ag 41 0,bI 42 6 3,al 43 1 42,sv 44 8 (aT 43) (aI 0),aR 45 8 44,ag 46 6,mq 47 123 41 45 46] (cR [ag 48 0,ag 49 4,oO 50 (dT 1 [[.str []]] [(0,.tmp 49)]),aL 51 41 48 50] (.region false [ag 52 0,bI 53 6 3,al 54 1 53,sv 55 8 (aT 54) (aI 1),aR 56 8 55,ag 57 5,av 58 .add 57 1,mq 59 123 52 56 58]))))))))⟩
theorem VN:bK Tryz.f92 vO=some vO:=by kernel_rfl
def Rl:aJ:=⟨[8,15],[999999],[],28,4,[.tmp 8],cR [oO 5 (.box 43 (aT 1)),aK 8 jY] (cR [ag 9 0,bI 10 6 5,al 11 1 10,bU 12 .sl 11,ag 13 2,bO 14 .eql 12 13,af 15 14,cv 16 15 (iu 7 5),cv 17 15 (cg 1 16),cv 18 15 (uU 17),cv 19 15 (dM 3),cv 20 15 (cO .eql (aT 18) (aT 19)),iH 21 15 20,aL 22 52 9 21] (cR [ag 23 0,qs 24 23,bI 25 1 24,al 26 1 25,oO 27 (.un .not (aT 26)),af 8 27] .ret))⟩
theorem VO:bK Tryz.f93 Rl=some Rl:=by kernel_rfl
def Rm:aJ:=⟨[6,10,700007],[7,999999],[],26,3,[],cR [ag 8 1,bU 9 .sl 8,aK 10 (aI 0)] (.block 0 (.loop (cR [bO 11 .lss 10 9] (.seq (bS 11 .skip (.exit 0)) (.seq (.block 1 (cR [ag 12 10,df 13 8 8 10,aR 14 8 13,oO 7 (.allocL [.int .i64 0,.int .i64 0,.str [],.str [],.str [],.aj,.aj,.aj]),af 6 12,iK 8 7 14] (cR [ag 15 0,ag 16 2,ag 17 6,df 18 1 16 17,al 19 1 18,oO 20 (dT 1 [[.str []]] [(0,.tmp 19)]),aL 21 41 15 20] (.region false [ag 22 0,aR 23 8 7,aL 24 55 22 23])))) (.region false [av 25 .add 10 1,af 10 25]))))))⟩
theorem VP:bK Tryz.f94 Rm=some Rm:=by kernel_rfl
def nL:aJ:=⟨[4],[999999,999996],[],117,2,[],cR [oO 2 (.box 94 (aT 0)),oO 3 (.box 43 (aT 1))] (.seq (cR [bI 5 0 3,al 6 1 5,av 7 .eql 6 10] (bS 7 (cR [bI 8 6 3,al 9 1 8,bU 10 .sl 9,av 11 .sub 10 1,af 4 11] (.seq (cR [al 12 1 2,ag 13 4,av 14 .geq 13 1,aL 15 52 12 14] (cR [al 16 1 2,aR 17 8 3,ag 18 4,av 19 .add 18 1,ag 20 4,jv 21 .mul (aI 2) (aT 20),C5 22 93 16 17 19 21,oO 23 (.un .not (aT 22))] (bS 23 .ret .skip))) (cR [al 24 1 2,oO 25 (dT 1 [[.str []]] [(0,.bt (.str [109,97,116,99,104]))]),aL 26 41 24 25] (cR [al 27 1 2,bI 28 2 3,al 29 1 28,aL 30 84 27 29] (cR [al 31 1 2,oO 32 (dT 1 [[.str []]] [(0,.bt (.str [40]))]),aL 33 41 31 32] (cR [dO 2,al 34 1 2,dO 3,bI 35 6 3,dO 35,al 36 1 35,dO 36,sv 37 8 (aT 36) (aI 0),dO 37,aR 38 8 37,aL 39 55 34 38] (cR [al 40 1 2,oO 41 (dT 1 [[.str []],[.str []]] [(0,.bt (.str [41])),(1,.bt (.str [123]))]),aL 42 41 40 41] (cR [dO 2,al 43 1 2,dO 3,bI 44 6 3,dO 44,al 45 1 44,oO 46 (.slice (.sl 8) (aT 45) (some (aI 1)) none none),oO 47 (.mkfunc (Fn.func 124) [] [aT 2,aT 3]),mq 48 91 43 46 47] (cR [al 49 1 2,oO 50 (dT 1 [[.str []]] [(0,.bt (.str [125]))]),aL 51 41 49 50] .ret))))))))) .skip)) (cR [al 52 1 2,bI 53 2 3,al 54 1 53,aL 55 84 52 54] (.seq (cR [bI 56 0 3,al 57 1 56,av 58 .eql 57 7] (bS 58 (.seq (cR [al 59 1 2,aR 60 8 3,bI 61 6 3,al 62 1 61,bU 63 .sl 62,bI 64 6 3,al 65 1 64,bU 66 .sl 65,C5 67 93 59 60 63 66] (bS 67 (cR [al 68 1 2,oO 69 (dT 1 [[.str []]] [(0,.bt (.str [123]))]),aL 70 41 68 69] (cR [al 71 1 2,bI 72 6 3,al 73 1 72,oO 74 (.mkfunc (Fn.func 125) [] [aT 2,aT 3]),mq 75 91 71 73 74] (.region false [al 76 1 2,oO 77 (dT 1 [[.str []]] [(0,.bt (.str [125]))]),aL 78 41 76 77]))) .skip)) .ret) .skip)) (.seq (cR [al 79 1 2,aR 80 8 3,dv 81 93 [aT 79,aT 80,aI 1,aI 0],oO 82 (.un .not (aT 81))] (bS 82 .ret .skip)) (cR [al 83 1 2,oO 84 (dT 1 [[.str []]] [(0,.bt (.str [58]))]),aL 85 41 83 84] (cR [al 86 1 2,bI 87 3 3,al 88 1 87,aL 89 42 86 88] (.seq (cR [bI 90 0 3,al 91 1 90,av 92 .eql 91 8] (bS 92 (cR [al 93 1 2,oO 94 (dT 1 [[.str []]] [(0,.bt (.str [91]))]),aL 95 41 93 94] (cR [dO 2,al 96 1 2,dO 3,bI 97 6 3,dO 97,al 98 1 97,dO 98,sv 99 8 (aT 98) (aI 0),dO 99,aR 100 8 99,aL 101 55 96 100] (cR [al 102 1 2,oO 103 (dT 1 [[.str []]] [(0,.bt (.str [93]))]),aL 104 41 102 103] .ret))) .skip)) (cR [al 105 1 2,oO 106 (dT 1 [[.str []]] [(0,.bt (.str [40]))]),aL 107 41 105 106] (cR [dO 2,al 108 1 2,dO 3,bI 109 6 3,dO 109,al 110 1 109,dO 110,sv 111 8 (aT 110) (aI 0),dO 111,aR 112 8 111,aL 113 55 108 112] (.region false [al 114 1 2,oO 115 (dT 1 [[.str []]] [(0,.bt (.str [41]))]),aL 116 41 114 115]))))))))))⟩
theorem VQ:bK Tryz.f95 nL=some nL:=by kernel_rfl
noncomputable def abt:aJ:=iR [2,3,4,13,18] [999999] [] Tryz.f96
theorem VS:bK Tryz.f96 abt=some abt:=by kernel_rfl
def Rn:aJ:=⟨[2,5,7,9,22,37,700004],[4,999999],[],46,1,[.tmp 2],cR [aK 2 (aI 0)] (.seq (cR [oO 8 (.load false true 4 (.aZ 2)),aK 9 (aI 0)] (.block 0 (.loop (cR [av 10 .lss 9 2] (.seq (bS 10 .skip (.exit 0)) (.seq (.block 1 (cR [oO 11 (.index true 2 2 (aT 8) (aT 9)),oO 4 (.allocL [.cM,.cM]),iK 2 4 11] (.seq (.seq (.region true [oO 12 (.ixArr 2 1 (aT 4) (aI 0)),al 13 1 12,ag 14 0,oO 15 (.indexStr (aT 14) (aI 0)),oO 16 (.call (aT 13) [aT 15]),oO 17 (.un .not (aT 16))]) (bS 17 (.exit 1) .skip)) (cR [aK 5 (aI 1)] (.seq (.block 2 (.loop (.seq (cR [ag 18 5,ag 19 0,dO 19,bU 20 .str 19,bO 21 .lss 18 20,af 22 21,oHt 22 (.HR (.frame 4) (aT 4)),cv 23 22 (.ixArr 2 1 (aT 4) (aI 1)),oHt 22 (.HR (.frame 4) (aT 23)),cv 24 22 (cg 1 23),cv 25 22 (dM 0),cv 26 22 (dM 5),cv 27 22 (.indexStr (aT 25) (aT 26)),cv 28 22 (.call (aT 24) [aT 27]),iH 29 22 28] (bS 29 .skip (.exit 2))) (.block 3 (.region false [ag 30 5,av 31 .add 30 1,af 5 31]))))) (.seq (cR [ag 32 5,av 33 .gtr 32 16] (bS 33 (cR [aK 2 (aI 0)] .ret) .skip)) (cR [ag 34 5,af 2 34] .ret))))))) (.region false [av 35 .add 9 1,af 9 35]))))))) (.seq (cR [oO 36 (.load false true 18 (.aZ 3)),aK 37 (aI 0)] (.block 4 (.loop (cR [av 38 .lss 37 18] (.seq (bS 38 .skip (.exit 4)) (.seq (.block 5 (cR [oO 39 (.index false 18 1 (aT 36) (aT 37)),af 7 39] (cR [ag 40 0,ag 41 7,aL 42 126 40 41] (bS 42 (cR [ag 43 7,bU 44 .str 43,af 2 44] .ret) .skip)))) (.region false [av 45 .add 37 1,af 37 45]))))))) (cR [aK 2 (aI 0)] .ret)))⟩
theorem VT:bK Tryz.f97 Rn=some Rn:=by kernel_rfl
noncomputable def abu:aJ:=iR [2,7] [999999] [] Tryz.f98
theorem VU:bK Tryz.f98 abu=some abu:=by kernel_rfl
def Ro:aJ:=⟨[4,5,8],[999999],[],19,2,[.tmp 4],cR [aK 4 (aI 0)] (.seq (cR [ag 6 0,bU 7 .sl 6,aK 8 (aI 0)] (.block 0 (.loop (cR [bO 9 .lss 8 7] (.seq (bS 9 .skip (.exit 0)) (.seq (.block 1 (cR [ag 10 8,af 5 10] (cR [ag 11 1,ag 12 0,ag 13 5,df 14 1 12 13,al 15 1 14,bO 16 .eql 11 15] (bS 16 (cR [ag 17 5,af 4 17] .ret) .skip)))) (.region false [av 18 .add 8 1,af 8 18]))))))) (cR [aK 4 (aI (-1))] .ret))⟩
theorem VV:bK Tryz.f99 Ro=some Ro:=by kernel_rfl
noncomputable def PE:aJ:=iR [16] [999999] [] Tryz.f100
theorem PF:bK Tryz.f100 PE=some PE:=by kernel_rfl
noncomputable def PG:aJ:=iR [15,7,700002] [2,999999,999998] [] Tryz.f101
theorem PH:bK Tryz.f101 PG=some PG:=by kernel_rfl
noncomputable def PI:aJ:=iR [3,7,11,6,10,17,20,700002] [2,999999] [] Tryz.f102
theorem PJ:bK Tryz.f102 PI=some PI:=by kernel_rfl
noncomputable def PK:aJ:=iR [4,5] [999999] [] Tryz.f103
theorem PL:bK Tryz.f103 PK=some PK:=by kernel_rfl
noncomputable def PM:aJ:=iR [4,8,25,37,53,700002,700003] [2,18,999999] [] Tryz.f104
theorem PN:bK Tryz.f104 PM=some PM:=by kernel_rfl
noncomputable def PO:aJ:=iR [2,5] [999999,7] [888888] Tryz.f106
theorem PQ:bK Tryz.f106 PO=some PO:=by kernel_rfl
noncomputable def PS:aJ:=iR [2,5] [999999,7] [888888] Tryz.f107
theorem PT:bK Tryz.f107 PS=some PS:=by kernel_rfl
def Gb:aJ:=⟨[2,3,4,5,6,14,17],[],[],22,1,[.tmp 2],cR [aK 2 jY] (cR [ag 7 0,ba 8 111 7,af 6 8,kB 9 6 0,kB 10 6 1,kB 11 6 2,af 3 9,af 4 10,af 5 11] (cR [ag 12 3,ba 13 48 12,af 14 13,cv 15 14 (dM 5),cv 16 14 (.un .not (aT 15)),cv 17 14 (jr 16),bW 18 17 (dM 4),bW 19 17 (jc 48 [aT 18]),cv 20 14 (.pick (aT 17) DC (aT 19)),iH 21 14 20,af 2 21] .ret))⟩
theorem PU:bK Tryz.f108 Gb=some Gb:=by kernel_rfl
def Gc:aJ:=⟨[5,11],[2,3],[],39,2,[.tmp 4],cR [oO 2 (.boxL (aT 0)),oO 3 (.boxL (aT 1)),cG 4 jY] (.seq (cR [bI 6 0 2,al 7 1 6,bI 8 0 3,al 9 1 8,bO 10 .neq 7 9,af 11 10,bW 12 11 (iu 1 2),bW 13 11 (cg 1 12),bW 14 11 (uU 13),bW 15 11 (iu 1 3),bW 16 11 (cg 1 15),bW 17 11 (uU 16),bW 18 11 (cO .neq (aT 14) (aT 17)),lE 19 11 18] (bS 19 (cR [cG 4 jY] .ret) .skip)) (.seq (cR [aK 5 (aI 0)] (.block 0 (.loop (.seq (cR [ag 20 5,bI 21 1 2,al 22 1 21,bU 23 .sl 22,bO 24 .lss 20 23] (bS 24 .skip (.exit 0))) (.seq (.block 1 (.seq (.region true [bI 27 1 2,al 28 1 27,ag 29 5,df 30 2 28 29,aR 31 2 30,bI 32 1 3,al 33 1 32,ag 34 5,df 35 2 33 34,aR 36 2 35,aL 37 109 31 36,oO 38 (.un .not (aT 37))]) (bS 38 (cR [cG 4 jY] .ret) .skip))) (.region false [ag 25 5,av 26 .add 25 1,af 5 26])))))) (cR [cG 4 DC] .ret)))⟩
theorem PV:bK Tryz.f109 Gc=some Gc:=by kernel_rfl
def Gd:aJ:=⟨[3,4,5,6,12,14,16,18,20,22,32,34,36,39,41,43,50,52],[1],[],54,1,[.tmp 2,.tmp 3],cR [oO 1 (.boxL (aT 0)),cG 2 (aI 0),aK 3 (aI 0)] (cR [bI 7 6 1,al 8 1 7,bU 9 .sl 8,af 4 9] (.seq (cR [bI 10 0 1,al 11 1 10] (.block 0 (cR [av 13 .eql 11 0,af 12 13] (bS 12 (cR [cG 2 (aI 0),aK 3 (aI 0)] .ret) (cR [av 15 .eql 11 1,af 14 15] (bS 14 (cR [cG 2 (aI 0),aK 3 (aI 0)] .ret) (cR [av 17 .eql 11 2,af 16 17] (bS 16 (cR [cG 2 (aI 0),aK 3 (aI 0)] .ret) (cR [av 19 .eql 11 3,af 18 19] (bS 18 (cR [cG 2 (aI (-1)),aK 3 (aI 0)] .ret) (cR [av 21 .eql 11 4,af 20 21] (bS 20 (cR [bI 23 1 1,al 24 1 23,ba 25 74 24,af 22 25,kB 26 22 0,kB 27 22 1,af 5 26,af 6 27] (.seq (cR [ag 28 5,jv 29 .eql (aT 28) (aS [])] (bS 29 (cR [cG 2 (aI (-2)),aK 3 (aI 0)] .ret) .skip)) (.seq (cR [ag 30 6,av 31 .eql 30 7] (bS 31 (cR [cG 2 (aI 1),aK 3 (aI 0)] .ret) .skip)) (cR [cG 2 (aI 2),aK 3 (aI 0)] .ret)))) (cR [av 33 .eql 11 5,af 32 33] (bS 32 (cR [cG 2 (aI 3),aK 3 (aI 0)] .ret) (cR [av 35 .eql 11 6,af 34 35] (bS 34 (cR [cG 2 (aI 2),aK 3 (aI 1)] .ret) (cR [av 37 .eql 11 7,af 36 37] (bS 36 (cR [ag 38 4,cG 2 (aI (-1)),af 3 38] .ret) (cR [av 40 .eql 11 8,af 39 40] (bS 39 (cR [cG 2 (aI 1),aK 3 (aI 0)] .ret) (cR [av 42 .eql 11 9,af 41 42] (bS 41 (cR [cG 2 (aI 1),aK 3 (aI 0)] .ret) (cR [av 44 .eql 11 10,af 43 44] (bS 43 (.seq (cR [ag 45 4,av 46 .lss 45 2] (bS 46 (cR [cG 2 (aI (-2)),aK 3 (aI 0)] .ret) .skip)) (cR [ag 47 4,av 48 .sub 47 1,jv 49 .mul (aI 2) (aT 48),cG 2 (aI (-1)),af 3 49] .ret)) (cR [av 51 .eql 11 11,af 50 51] (bS 50 (cR [cG 2 (aI (-1)),aK 3 (aI 0)] .ret) (cR [av 53 .eql 11 12,af 52 53] (bS 52 (cR [cG 2 (aI 3),aK 3 (aI 2)] .ret) .skip)))))))))))))))))))))))))))) (cR [cG 2 (aI (-2)),aK 3 (aI 0)] .ret)))⟩
theorem PY:bK Tryz.f110 Gd=some Gd:=by kernel_rfl
def Ge:aJ:=⟨[2,3,5],[],[],24,1,[.tmp 2,.tmp 3,.tmp 4],cR [aK 2 (aS []),aK 3 (aS []),cG 4 jY] (.seq (cR [aK 5 (aI 0)] (.block 0 (.loop (.seq (cR [ag 6 5,ag 7 0,bU 8 .str 7,bO 9 .lss 6 8] (bS 9 .skip (.exit 0))) (.seq (.block 1 (cR [ag 12 0,ag 13 5,oO 14 (.indexStr (aT 12) (aT 13)),jv 15 .eql (aT 14) (.bt (.int IntKind.u8 46))] (bS 15 (cR [ag 16 0,ag 17 5,oO 18 (.slice .str (aT 16) none (some (aT 17)) none),ag 19 0,ag 20 5,av 21 .add 20 1,oO 22 (.slice .str (aT 19) (some (aT 21)) none none),af 2 18,af 3 22,cG 4 DC] .ret) .skip))) (.region false [ag 10 5,av 11 .add 10 1,af 5 11])))))) (cR [ag 23 0,af 2 23,aK 3 (aS []),cG 4 jY] .ret))⟩
theorem PZ:bK Tryz.f111 Ge=some Ge:=by kernel_rfl
def Gf:aJ:=⟨[2,3,4,8,13,21],[1],[],28,1,[.tmp 2],cR [oO 1 (.boxL (aT 0)),aK 2 (aI 0)] (.seq (cR [bI 5 0 1,al 6 1 5,av 7 .eql 6 5,af 8 7,bW 9 8 (iu 0 1),bW 10 8 (cg 1 9),bW 11 8 (cO .eql (aT 10) (aI 6)),lE 12 8 11,af 13 12,bW 14 13 (iu 0 1),bW 15 13 (cg 1 14),bW 16 13 (cO .eql (aT 15) (aI 12)),lE 17 13 16] (bS 17 (cR [aK 2 (aI 0)] .ret) .skip)) (.seq (cR [bI 18 0 1,al 19 1 18,av 20 .eql 19 4] (bS 20 (cR [bI 22 1 1,al 23 1 22,ba 24 74 23,af 21 24,kB 25 21 0,kB 26 21 1,af 3 25,af 4 26] (cR [ag 27 4,af 2 27] .ret)) .skip)) (cR [aK 2 (aI 8)] .ret)))⟩
theorem P0:bK Tryz.f112 Gf=some Gf:=by kernel_rfl
def Gg:aJ:=⟨[2,5,9,12],[999999],[],17,1,[.tmp 2],cR [aK 2 jY] (cR [ag 3 0,jv 4 .geq (aT 3) (.bt (.int IntKind.u8 97)),af 5 4,cv 6 5 (dM 0),cv 7 5 (cO .leq (aT 6) (.bt (.int IntKind.u8 122))),iH 8 5 7,af 9 8,bW 10 9 (dM 0),bW 11 9 (cO .geq (aT 10) (.bt (.int IntKind.u8 65))),bW 12 9 (jr 11),cv 13 12 (dM 0),cv 14 12 (cO .leq (aT 13) (.bt (.int IntKind.u8 90))),bW 15 9 (.pick (aT 12) (aT 14) jY),lE 16 9 15,af 2 16] .ret)⟩
theorem P1:bK Tryz.f113 Gg=some Gg:=by kernel_rfl
def Gi:aJ:=⟨[4],[999999],[],9,2,[.tmp 4],cR [aK 4 jY] (cR [ag 5 0,ag 6 1,aL 7 99 5 6,av 8 .geq 7 0,af 4 8] .ret)⟩
theorem P2:bK Tryz.f114 Gi=some Gi:=by kernel_rfl
def Gj:aJ:=⟨[4,7],[],[],26,1,[.tmp 2],cR [cG 2 jY] (.seq (cR [ag 5 0,jv 6 .eql (aT 5) (aS [61,61]),af 7 6,bW 8 7 (dM 0),bW 9 7 (cO .eql (aT 8) (aS [45,62])),lE 10 7 9] (bS 10 (cR [cG 2 DC] .ret) .skip)) (.seq (cR [ag 11 0,bU 12 .str 11,av 13 .neq 12 1] (bS 13 (cR [cG 2 jY] .ret) .skip)) (cR [cG 3 (aS [40,41,123,125,91,93,44,58,46,61,43,45,42,47,37,60])] (.seq (cR [aK 4 (aI 0)] (.block 0 (.loop (.seq (cR [ag 14 4,ag 15 3,bU 16 .str 15,bO 17 .lss 14 16] (bS 17 .skip (.exit 0))) (.seq (.block 1 (.seq (.region true [ag 20 3,ag 21 4,oO 22 (.indexStr (aT 20) (aT 21)),ag 23 0,oO 24 (.indexStr (aT 23) (aI 0)),bO 25 .eql 22 24]) (bS 25 (cR [cG 2 DC] .ret) .skip))) (.region false [ag 18 4,av 19 .add 18 1,af 4 19])))))) (cR [cG 2 jY] .ret)))))⟩
theorem P3:bK Tryz.f116 Gj=some Gj:=by kernel_rfl
def Gk:aJ:=⟨[4,5,6],[999999],[],13,2,[.tmp 4,.tmp 5,.tmp 6],cR [aK 4 (aS []),aK 5 (aS []),aK 6 jY] (cR [ag 7 0,ag 8 1,aL 9 133 7 8,kB 10 9 0,kB 11 9 1,kB 12 9 2,af 4 10,af 5 11,af 6 12] .ret)⟩
theorem P4:bK Tryz.f117 Gk=some Gk:=by kernel_rfl
def Gl:aJ:=⟨[4],[999999],[],8,2,[.tmp 4],cR [aK 4 (aI 0)] (cR [ag 5 0,ag 6 1,aL 7 138 5 6,af 4 7] .ret)⟩
theorem P5:bK Tryz.f119 Gl=some Gl:=by kernel_rfl
def Gm:aJ:=⟨[4],[999999],[],13,2,[.tmp 4],cR [aK 4 (aS [])] (.seq (cR [ag 5 0,ag 6 1,aL 7 139 5 6] (bS 7 (cR [ag 8 0,ag 9 1,bU 10 .str 9,oO 11 (.slice .str (aT 8) (some (aT 10)) none none),af 4 11] .ret) .skip)) (cR [ag 12 0,af 4 12] .ret))⟩
theorem P6:bK Tryz.f120 Gm=some Gm:=by kernel_rfl
def Gn:aJ:=⟨[],[999999],[],4,1,[.tmp 2],cR [cG 2 (aS [])] (.seq (cR [ag 3 0] (bS 3 (cR [cG 2 (aS [116,114,117,101])] .ret) .skip)) (cR [cG 2 (aS [102,97,108,115,101])] .ret))⟩
theorem P7:bK Tryz.f121 Gn=some Gn:=by kernel_rfl
def yN:aJ:=⟨[2,3,4,700005],[5,999999],[7],24,1,[.tmp 2,.tmp 3],cR [aK 2 (aS []),aK 3 (aI 0)] (.seq (cR [oO 6 (.load false false 1 (.aZ 4)),oO 7 (.rng 1 false true (aT 6))] (.block 0 (.loop (cR [oO 8 (.next (aT 7)),kB 9 8 0] (.seq (bS 9 .skip (.exit 0)) (.block 1 (cR [oO 10 (.TF (aT 7)),kB 11 10 0,kB 12 10 1,oO 5 (.allocL [.int .i64 0,.int .i64 0]),af 4 11,iK 2 5 12] (cR [bI 13 0 5,al 14 1 13,ag 15 0,bO 16 .eql 14 15] (bS 16 (cR [ag 17 4,fh 5 5,bI 18 1 5,fh 5 18,al 19 1 18,af 2 17,af 3 19] .ret) .skip))))))))) (cR [oO 20 (.uO 1 false false),oN (.nQ 1 false false 1 [.i] (aT 20) (aI 9) (aS [110,111,116])),oN (.nQ 1 false false 1 [.i] (aT 20) (aI 11) (aS [108,101,110])),ag 21 20,ag 22 0,oO 23 (.look false 1 false false [.i] [.str []] (aT 21) (aT 22)),af 2 23,aK 3 (aI 7)] .ret))⟩
theorem Gp:bK Tryz.f122 yN=some yN:=by kernel_rfl
def yP:aJ:=⟨[],[999999],[],22,3,[],cR [oO 4 (.box 43 (aT 1))] (.seq (cR [aR 6 8 4,ba 7 140 6,ag 8 2,bO 9 .lss 7 8] (bS 9 (cR [ag 10 0,oO 11 (dT 1 [[.str []]] [(0,.bt (.str [40]))]),aL 12 41 10 11] (cR [ag 13 0,aR 14 8 4,aL 15 55 13 14] (cR [ag 16 0,oO 17 (dT 1 [[.str []]] [(0,.bt (.str [41]))]),aL 18 41 16 17] .ret))) .skip)) (.region false [ag 19 0,aR 20 8 4,aL 21 55 19 20]))⟩
theorem P8:bK Tryz.f123 yP=some yP:=by kernel_rfl
def Gq:aJ:=⟨[],[999999,999996],[],24,3,[],cR [dO 1,al 4 1 1,dO 2,bI 5 7 2,dO 5,al 6 1 5,ag 7 0,jv 8 .mul (aI 2) (aT 7),dO 6,df 9 1 6 8,dO 9,al 10 1 9,aL 11 42 4 10] (cR [dO 1,al 12 1 1,dO 2,bI 13 7 2,dO 13,al 14 1 13,ag 15 0,jv 16 .mul (aI 2) (aT 15),av 17 .add 16 1,dO 14,df 18 1 14 17,dO 18,al 19 1 18,aL 20 42 12 19] (.region false [al 21 1 1,oO 22 (dT 1 [[.str []]] [(0,.bt (.str [45,62]))]),aL 23 41 21 22]))⟩
theorem P9:bK Tryz.f124 Gq=some Gq:=by kernel_rfl
def Gr:aJ:=⟨[],[999999,999996],[],14,3,[],cR [dO 1,al 4 1 1,dO 2,bI 5 7 2,dO 5,al 6 1 5,ag 7 0,dO 6,df 8 1 6 7,dO 8,al 9 1 8,aL 10 42 4 9] (.region false [al 11 1 1,oO 12 (dT 1 [[.str []]] [(0,.bt (.str [61]))]),aL 13 41 11 12])⟩
theorem Qa:bK Tryz.f125 Gr=some Gr:=by kernel_rfl
def Gs:aJ:=⟨[4],[999999],[],8,2,[.tmp 4],cR [aK 4 jY] (cR [ag 5 0,ag 6 1,aL 7 139 5 6,af 4 7] .ret)⟩
theorem Qb:bK Tryz.f126 Gs=some Gs:=by kernel_rfl
noncomputable def Qc:aJ:=iR [700002,700003] [2,3,999999] [] Tryz.f127
theorem Qd:bK Tryz.f127 Qc=some Qc:=by kernel_rfl
noncomputable def Qe:aJ:=iR [2,3,11] [999999] [] Tryz.f128
theorem Qf:bK Tryz.f128 Qe=some Qe:=by kernel_rfl
noncomputable def Qg:aJ:=iR [2,3,4,5,12,16,22] [999999] [] Tryz.f129
theorem Qh:bK Tryz.f129 Qg=some Qg:=by kernel_rfl
noncomputable def Qj:aJ:=iR [] [999999] [] Tryz.f130
theorem Qk:bK Tryz.f130 Qj=some Qj:=by kernel_rfl
noncomputable def Ql:aJ:=iR [5,6,9,39,48,27,69,700004,700007,700008] [4,7,8,999999] [14] Tryz.f131
theorem Qm:bK Tryz.f131 Ql=some Ql:=by kernel_rfl
def Gt:aJ:=⟨[4,5,7],[999999],[],23,2,[.tmp 4,.tmp 5,.tmp 6],cR [aK 4 (aS []),aK 5 (aS []),cG 6 jY] (.seq (cR [ag 8 0,ag 9 1,aL 10 138 8 9,af 7 10] (cR [ag 11 7,av 12 .geq 11 0] (bS 12 (cR [ag 13 0,ag 14 7,oO 15 (.slice .str (aT 13) none (some (aT 14)) none),ag 16 0,ag 17 7,ag 18 1,dO 18,bU 19 .str 18,bO 20 .add 17 19,oO 21 (.slice .str (aT 16) (some (aT 20)) none none),af 4 15,af 5 21,cG 6 DC] .ret) .skip))) (cR [ag 22 0,af 4 22,aK 5 (aS []),cG 6 jY] .ret))⟩
theorem Qn:bK Tryz.f133 Gt=some Gt:=by kernel_rfl
def Gu:aJ:=⟨[4,5,6,7,8,9,10,11,12,13,16,19,24,31,36,40,84,102,121,128],[999999],[],143,2,[.tmp 4],cR [aK 4 (aI 0)] (cR [ag 14 1,bU 15 .str 14,af 5 15] (.seq (.block 0 (cR [ag 17 5,av 18 .eql 17 0,af 19 18,bW 20 19 (dM 1),bW 21 19 (dM 0),bW 22 19 (cO .eql (aT 20) (aT 21)),lE 23 19 22,af 16 23] (bS 16 (cR [aK 4 (aI 0)] .ret) (cR [ag 25 5,av 26 .eql 25 1,af 24 26] (bS 24 (cR [ag 27 0,ag 28 1,oO 29 (.indexStr (aT 28) (aI 0)),aL 30 132 27 29,af 4 30] .ret) (cR [ag 32 5,ag 33 0,bU 34 .str 33,bO 35 .geq 32 34,af 31 35] (bS 31 (cR [aK 4 (aI (-1))] .ret) (cR [ag 37 5,oO 38 (.load false false 1 (.aZ 6)),bO 39 .leq 37 38,af 40 39,cv 41 40 (dM 0),cv 42 40 (.len .str (aT 41)),cv 43 40 (cO .leq (aT 42) (aI 64)),iH 44 40 43,af 36 44] (bS 36 (cR [ag 45 0,ag 46 1,aL 47 149 45 46,af 4 47] .ret) .skip))))))))) (cR [ag 48 1,oO 49 (.indexStr (aT 48) (aI 0)),af 6 49] (cR [ag 50 1,oO 51 (.indexStr (aT 50) (aI 1)),af 7 51] (cR [aK 8 (aI 0)] (cR [ag 52 0,bU 53 .str 52,ag 54 5,bO 55 .sub 53 54,av 56 .add 55 1,af 9 56] (cR [aK 10 (aI 0)] (.seq (.block 1 (.loop (.seq (cR [ag 57 8,ag 58 9,bO 59 .lss 57 58] (bS 59 .skip (.exit 1))) (.block 2 (.seq (cR [ag 60 0,ag 61 8,oO 62 (.indexStr (aT 60) (aT 61)),ag 63 6,bO 64 .neq 62 63] (bS 64 (cR [ag 65 0,ag 66 8,av 67 .add 66 1,ag 68 9,oO 69 (.slice .str (aT 65) (some (aT 67)) (some (aT 68)) none),ag 70 6,aL 71 132 69 70,af 11 71] (.seq (cR [ag 72 11,av 73 .lss 72 0] (bS 73 (cR [aK 4 (aI (-1))] .ret) .skip)) (.region false [ag 74 8,ag 75 11,av 76 .add 75 1,bO 77 .add 74 76,af 8 77]))) .skip)) (.seq (cR [ag 78 0,ag 79 8,av 80 .add 79 1,oO 81 (.indexStr (aT 78) (aT 80)),ag 82 7,bO 83 .eql 81 82,af 84 83,cv 85 84 (dM 0),cv 86 84 (dM 8),cv 87 84 (dM 8),cv 88 84 (dM 5),cv 89 84 (cO .add (aT 87) (aT 88)),cv 90 84 (.slice .str (aT 85) (some (aT 86)) (some (aT 89)) none),cv 91 84 (dM 1),cv 92 84 (cO .eql (aT 90) (aT 91)),iH 93 84 92] (bS 93 (cR [ag 94 8,af 4 94] .ret) .skip)) (cR [ag 95 8,av 96 .add 95 1,af 8 96] (cR [ag 97 10,av 98 .add 97 1,af 10 98] (cR [ag 99 5,oO 100 (.load false false 1 (.aZ 6)),bO 101 .leq 99 100,af 102 101,cv 103 102 (dM 10),cv 104 102 (dM 8),cv 105 102 (jc 150 [aT 104]),cv 106 102 (cO .gtr (aT 103) (aT 105)),iH 107 102 106] (bS 107 (cR [ag 108 0,ag 109 8,oO 110 (.slice .str (aT 108) (some (aT 109)) none none),ag 111 1,aL 112 149 110 111,af 12 112] (.seq (cR [ag 113 12,av 114 .geq 113 0] (bS 114 (cR [ag 115 12,ag 116 8,bO 117 .add 115 116,af 4 117] .ret) .skip)) (cR [aK 4 (aI (-1))] .ret))) (cR [ag 118 5,oO 119 (.load false false 1 (.aZ 6)),bO 120 .gtr 118 119,af 121 120,cv 122 121 (dM 10),cv 123 121 (dM 8),cv 124 121 (cO .shr (aT 123) (.bt (.int IntKind.u64 4))),cv 125 121 (cO .add (aI 4) (aT 124)),cv 126 121 (cO .geq (aT 122) (aT 125)),iH 127 121 126,af 128 127,cv 129 128 (dM 8),cv 130 128 (dM 9),cv 131 128 (cO .lss (aT 129) (aT 130)),iH 132 128 131] (bS 132 (cR [ag 133 0,ag 134 8,oO 135 (.slice .str (aT 133) (some (aT 134)) none none),ag 136 1,aL 137 151 135 136,af 13 137] (.seq (cR [ag 138 13,av 139 .lss 138 0] (bS 139 (cR [aK 4 (aI (-1))] .ret) .skip)) (cR [ag 140 8,ag 141 13,bO 142 .add 140 141,af 4 142] .ret))) .skip)))))))))))) (cR [aK 4 (aI (-1))] .ret)))))))))⟩
theorem Qo:bK Tryz.f138 Gu=some Gu:=by kernel_rfl
def Gv:aJ:=⟨[4,10],[999999],[],18,2,[.tmp 4],cR [aK 4 jY] (cR [ag 5 0,bU 6 .str 5,ag 7 1,bU 8 .str 7,bO 9 .geq 6 8,af 10 9,cv 11 10 (dM 0),cv 12 10 (dM 1),cv 13 10 (.len .str (aT 12)),cv 14 10 (.slice .str (aT 11) none (some (aT 13)) none),cv 15 10 (dM 1),cv 16 10 (cO .eql (aT 14) (aT 15)),iH 17 10 16,af 4 17] .ret)⟩
theorem Qp:bK Tryz.f139 Gv=some Gv:=by kernel_rfl
def Gw:aJ:=⟨[2,3,4,7,11,13],[999999],[],20,1,[.tmp 2],cR [oO 1 (.box 43 (aT 0)),aK 2 (aI 0)] (.seq (cR [bI 5 0 1,al 6 1 5] (.block 0 (.seq (cR [av 8 .eql 6 5,af 7 8] (bS 7 .skip (cR [av 9 .eql 6 6,af 7 9] (bS 7 .skip (.region false [av 10 .eql 6 12,af 7 10]))))) (bS 7 (cR [aK 2 (aI 0)] .ret) (cR [av 12 .eql 6 4,af 11 12] (bS 11 (cR [bI 14 1 1,al 15 1 14,ba 16 122 15,af 13 16,kB 17 13 0,kB 18 13 1,af 3 17,af 4 18] (cR [ag 19 4,af 2 19] .ret)) .skip)))))) (cR [aK 2 (aI 8)] .ret))⟩
theorem Qr:bK Tryz.f140 Gw=some Gw:=by kernel_rfl
noncomputable def Qs:aJ:=iR [4,8,16,23,27,31,39,52,6,15,22,26,30,700002,700003] [2,999999] [] Tryz.f142
theorem Qt:bK Tryz.f142 Qs=some Qs:=by kernel_rfl
noncomputable def Qv:aJ:=iR [2] [999999] [] Tryz.f150
theorem Qw:bK Tryz.f150 Qv=some Qv:=by kernel_rfl
noncomputable def Qx:aJ:=iR [4,5,6,7,8,9,10,11,33,68] [999999] [] Tryz.f151
theorem Qy:bK Tryz.f151 Qx=some Qx:=by kernel_rfl
noncomputable def Qz:aJ:=iR [24,700002] [2,999999] [] Tryz.f154
theorem QA:bK Tryz.f154 Qz=some Qz:=by kernel_rfl
noncomputable def QB:aJ:=iR [18,29,39,6,700002,700003] [2,3,999999] [] Tryz.f155
theorem QC:bK Tryz.f155 QB=some QB:=by kernel_rfl
noncomputable def QD:aJ:=iR [13,20,27,44,8,10,700002,700003,700004] [2,999999] [] Tryz.f156
theorem QE:bK Tryz.f156 QD=some QD:=by kernel_rfl
noncomputable def QF:aJ:=iR [2,3,4,5,6,7,8] [999999] [] Tryz.f159
theorem QG:bK Tryz.f159 QF=some QF:=by kernel_rfl
noncomputable def QI:aJ:=iR [4] [999999] [] Tryz.f165
theorem QJ:bK Tryz.f165 QI=some QI:=by kernel_rfl
def Gx:aJ:=⟨[2,5],[999999],[],9,1,[.tmp 2],cR [aK 2 jY] (cR [ag 3 0,ba 4 113 3,af 5 4,bW 6 5 (dM 0),bW 7 5 (jc 192 [aT 6]),lE 8 5 7,af 2 8] .ret)⟩
theorem QL:bK Tryz.f191 Gx=some Gx:=by kernel_rfl
def Gy:aJ:=⟨[2,5],[999999],[],9,1,[.tmp 2],cR [aK 2 jY] (cR [ag 3 0,jv 4 .geq (aT 3) (.bt (.int IntKind.u8 48)),af 5 4,cv 6 5 (dM 0),cv 7 5 (cO .leq (aT 6) (.bt (.int IntKind.u8 57))),iH 8 5 7,af 2 8] .ret)⟩
theorem QM:bK Tryz.f192 Gy=some Gy:=by kernel_rfl
def iW(c:Int):Nat->List UInt8->Int
 | _,[]=>-1
 | k,b :: r=>cond (decide ((b.toNat:Int)=c)) k (iW c (k+1) r)
def C6(args:List AV)(_:ah):Option (AV × Option gJ) :=
 match args with
 | [.str l]=>cond (Nat.ble l.length 281474976710656) (match Lib.atoiAll l with
  | .ok v=>some (.tuple [.int .i64 v,.bR],none)
  | .range=>some (.tuple [.int .i64 (Lib.atoiSat l),.iface 207 .any],none)
  | _=>some (.tuple [.int .i64 0,.iface 207 .any],none)) none
 | _=>none
def gZ(args:List AV)(_:ah):Option (AV × Option gJ) :=
 match args with
 | [.str l,.int .u8 c]=>cond (decide (0<=c)&&decide (c<256)) (some (.int .i64 (iW c 0 l),none)) none
 | _=>none
def rF(e:List (List AV)):Bool:=e.all fun r=>match r with|[.int .u8 n]=>decide (0<=n)&&decide (n<256)|_=>false
def pn(args:List AV)(H:ah):Option (AV × Option gJ) :=
 match args with
 | [.ref l 0]=>match H[l]? with
  | some (.box 103 [_,.slice e true])=>cond (Nat.ble e.length 4611686018427387904&&rF e) ((bytesOf e).map fun b=>(.str b,none)) none
  | _=>none
 | _=>none
def iN(args:List AV)(H:ah):Option (AV × Option gJ) :=
 match args with
 | [.ref l 0]=>match H[l]? with
  | some (.box 103 [.di,x])=>some (.undef,some ⟨H.set l (.box 103 [.ref l 0,x]),l⟩)
  | some (.box 103 [.ref l' 0,_])=>cond (Nat.beq l l') (some (.undef,none)) none
  | _=>none
 | _=>none
def fU:Nat->Nat->List UInt8->List UInt8
 | 0,_,acc=>acc
 | f+1,n,acc=>cond (Nat.blt n 10) (UInt8.ofNat (48+n) :: acc) (fU f (n / 10) (UInt8.ofNat (48+n % 10) :: acc))
def ql(n:Int):List UInt8 :=
 match n with
 | .ofNat k=>fU (k+1) k []
 | .negSucc k=>45 :: fU (k+2) (k+1) []
def zc(args:List AV)(_:ah):Option (AV × Option gJ) :=
 match args with
 | [.int .i64 n]=>cond (decide (-9223372036854775808<=n)&&decide (n<=9223372036854775807)) (some (.str (ql n),none)) none
 | _=>none
def acK:List (List UInt8):=[[43],[45],[42],[47],[37],[60],[61,61],[97,110,100],[111,114],[110,111,116],[106,111,105,110],[108,101,110]]
def V5:List Int:=[5,5,6,6,6,3,3,2,1,7,4,7]
def dF(n:Int):List UInt8 × Int:=if n<0\/11<n then ([],0) else (acK.getD n.toNat [],V5.getD n.toNat 0)
def lq(n:Int):List UInt8 × Int:=if n<0\/11<n then ([],7) else dF n
def rW(args:List AV)(_:ah):Option (AV × Option gJ) :=
 match args with
 | [.int .i64 n]=>some (.tuple [.str (lq n).1,.int .i64 (lq n).2],none)
 | _=>none
def C7(args:List AV)(H:ah):Option (AV × Option gJ) :=
 match args,H with
 | [],[]=>some (.bool true,none)
 | _,_=>none
def ov0:FuncId->Option (List AV->ah->Option (AV × Option gJ))
 | 47=>some pn
 | 53=>some zc
 | 78=>some iN
 | 105=>some gZ
 | 132=>some gZ
 | 141=>some C6
 | _=>none
def ov:FuncId->Option (List AV->ah->Option (AV × Option gJ))
 | 12=>some C7
 | 122=>some rW
 | 47=>some pn
 | 53=>some zc
 | 78=>some iN
 | 105=>some gZ
 | 132=>some gZ
 | 141=>some C6
 | _=>none
noncomputable def fns:FuncId->Option aJ
 | 3=>some ir3
 | 4=>some Bf
 | 5=>some ME
 | 6=>some ir6
 | 7=>some ir7
 | 8=>some ir8
 | 9=>some ir9
 | 10=>some PD
 | 11=>some PX
 | 12=>some Uy
 | 13=>some Qi
 | 14=>some Qq
 | 15=>some Qu
 | 16=>some QH
 | 17=>some rb
 | 18=>some dK
 | 19=>some QK
 | 20=>some QN
 | 21=>some uI
 | 22=>some Jt
 | 23=>some MD
 | 24=>some QO
 | 25=>some Ju
 | 26=>some vN
 | 27=>some QP
 | 28=>some QQ
 | 29=>some aa5
 | 30=>some aa6
 | 31=>some aa7
 | 32=>some QR
 | 33=>some aa8
 | 34=>some QS
 | 35=>some Jv
 | 36=>some QT
 | 37=>some QU
 | 38=>some Jw
 | 39=>some QV
 | 40=>some ku
 | 41=>some CI
 | 42=>some QW
 | 43=>some QX
 | 44=>some QY
 | 45=>some QZ
 | 46=>some Q0
 | 48=>some Q1
 | 49=>some Q2
 | 50=>some Q3
 | 51=>some CJ
 | 52=>some Jx
 | 54=>some lO
 | 55=>some fZ
 | 56=>some aba
 | 57=>some abb
 | 58=>some abc
 | 59=>some abd
 | 60=>some abg
 | 61=>some abh
 | 62=>some abi
 | 63=>some abj
 | 64=>some abk
 | 65=>some abl
 | 66=>some abm
 | 67=>some abn
 | 68=>some Jy
 | 69=>some Q4
 | 70=>some re
 | 71=>some Q5
 | 72=>some Q6
 | 73=>some Q7
 | 74=>some Q8
 | 75=>some Q9
 | 76=>some Ra
 | 77=>some Rb
 | 79=>some Rc
 | 80=>some Rd
 | 81=>some Re
 | 82=>some Rf
 | 83=>some Jz
 | 84=>some JA
 | 86=>some Rg
 | 87=>some Rh
 | 88=>some Ri
 | 89=>some Rj
 | 90=>some Rk
 | 91=>some JB
 | 92=>some vO
 | 93=>some Rl
 | 94=>some Rm
 | 95=>some nL
 | 96=>some abt
 | 97=>some Rn
 | 98=>some abu
 | 99=>some Ro
 | 100=>some PE
 | 101=>some PG
 | 102=>some PI
 | 103=>some PK
 | 104=>some PM
 | 106=>some PO
 | 107=>some PS
 | 108=>some Gb
 | 109=>some Gc
 | 110=>some Gd
 | 111=>some Ge
 | 112=>some Gf
 | 113=>some Gg
 | 114=>some Gi
 | 116=>some Gj
 | 117=>some Gk
 | 119=>some Gl
 | 120=>some Gm
 | 121=>some Gn
 | 122=>some yN
 | 123=>some yP
 | 124=>some Gq
 | 125=>some Gr
 | 126=>some Gs
 | 127=>some Qc
 | 128=>some Qe
 | 129=>some Qg
 | 130=>some Qj
 | 131=>some Ql
 | 133=>some Gt
 | 138=>some Gu
 | 139=>some Gv
 | 140=>some Gw
 | 142=>some Qs
 | 150=>some Qv
 | 151=>some Qx
 | 154=>some Qz
 | 155=>some QB
 | 156=>some QD
 | 159=>some QF
 | 165=>some QI
 | 191=>some Gx
 | 192=>some Gy
 | _=>none
def BH:TypeId:=219
def dZ:List (List UInt8):=[[109,111,100,117,108,101],[117,115,101],[114,101,99],[99,97,115,101],[102,117,110],[111,110],[116,101,115,116],[99,111,110,118],[116,114,117,101],[102,97,108,115,101],[110,111,116],[97,110,100],[111,114],[105,102],[116,104,101,110],[101,108,115,101],[108,101,116],[105,110],[109,97,116,99,104],[102,111,108,100],[111,118,101,114],[100,111],[108,101,110],[106,111,105,110],[76,105,115,116],[73,110,116],[66,111,111,108]]
def kF:List (List UInt8):=[[61,61],[45,62],[40],[41],[123],[125],[91],[93],[44],[58],[46],[61],[43],[45],[42],[47],[37],[60]]
def nN:List (List UInt8):=[[114,101,99],[99,97,115,101],[102,117,110],[111,110],[116,101,115,116],[99,111,110,118]]
def pj:List (List AV):=[[.str [37],.int .i64 4,.int .i64 6],[.str [42],.int .i64 2,.int .i64 6],[.str [43],.int .i64 0,.int .i64 5],[.str [45],.int .i64 1,.int .i64 5],[.str [47],.int .i64 3,.int .i64 6],[.str [60],.int .i64 5,.int .i64 3],[.str [61,61],.int .i64 6,.int .i64 3],[.str [97,110,100],.int .i64 7,.int .i64 2],[.str [106,111,105,110],.int .i64 10,.int .i64 4],[.str [111,114],.int .i64 8,.int .i64 1]]
def HZ:Nat->List AV
 | 0=>[.slice (nN.map fun s=>[.str s]) false]
 | 1=>dZ.map .str
 | 2=>[.func (.func 113) [] [],.func (.func 191) [] [],.func (.func 192) [] [],.func (.func 192) [] []]
 | 3=>kF.map .str
 | 4=>[.nC 1 false true pj]
 | 5=>Lib.pow10Tab.map (.int .u64)
 | 9=>[.iface BH .any]
 | 10=>[.iface BH .any]
 | _=>[]
noncomputable def A0:AP:={ fns,ov:=ov0,aZ:=HZ }
noncomputable def A:AP:={ fns,ov,aZ:=HZ }
end Go.Proofs.YtbdnnjjcdcacnaaGreatDoor
namespace Go.Proofs
open Go.Shelf
def YtbdnnjjcdcacnaaGreatDoor.GC:Go.Shelf.Ren:=⟨fun|172=>141|244=>152|245=>153|247=>160|279=>161|280=>162|281=>163|282=>164|287=>166|316=>167|171=>53|205=>168|321=>169|322=>170|243=>85|246=>118|283=>134|284=>135|285=>136|286=>137|129=>145|317=>144|318=>146|319=>147|320=>148|337=>157|338=>158|n=>n,fun|9=>9|3=>3|75=>107|76=>108|4=>4|5=>5|167=>204|37=>101|0=>0|85=>205|2=>2|168=>207|53=>180|175=>212|46=>195|210=>216|127=>142|145=>221|143=>219|21=>21|171=>179|173=>183|212=>191|51=>192|20=>20|213=>193|232=>210|233=>211|80=>62|n=>n,fun|15=>9|16=>10|17=>5|18=>7|19=>8|n=>n⟩
theorem YtbdnnjjcdcacnaaGreatDoor.CP:Go.Proofs.LaysC.n172 Tryz.prog YtbdnnjjcdcacnaaGreatDoor.GC:={
 mixed:=by kernel_rfl
 f129:=tk Tryz.func145 (by kernel_rfl)
 f171:=tk Tryz.func53 (by kernel_rfl)
 f172:=tk Tryz.func141 (by kernel_rfl)
 f205:=tk Tryz.func168 (by kernel_rfl)
 f243:=tk Tryz.func85 (by kernel_rfl)
 f244:=tk Tryz.func152 (by kernel_rfl)
 f245:=tk Tryz.func153 (by kernel_rfl)
 f246:=tk Tryz.func118 (by kernel_rfl)
 f247:=tk Tryz.func160 (by kernel_rfl)
 f279:=tk Tryz.func161 (by kernel_rfl)
 f280:=tk Tryz.func162 (by kernel_rfl)
 f281:=tk Tryz.func163 (by kernel_rfl)
 f282:=tk Tryz.func164 (by kernel_rfl)
 f283:=tk Tryz.func134 (by kernel_rfl)
 f284:=tk Tryz.func135 (by kernel_rfl)
 f285:=tk Tryz.func136 (by kernel_rfl)
 f286:=tk Tryz.func137 (by kernel_rfl)
 f287:=tk Tryz.func166 (by kernel_rfl)
 f316:=tk Tryz.func167 (by kernel_rfl)
 f317:=tk Tryz.func144 (by kernel_rfl)
 f318:=tk Tryz.func146 (by kernel_rfl)
 f319:=tk Tryz.func147 (by kernel_rfl)
 f320:=tk Tryz.func148 (by kernel_rfl)
 f321:=tk Tryz.func169 (by kernel_rfl)
 f322:=tk Tryz.func170 (by kernel_rfl)
 f337:=tk Tryz.func157 (by kernel_rfl)
 f338:=tk Tryz.func158 (by kernel_rfl)
 t0:=Tryz.underlying0
 a0:=Tryz.isAgg0
 z0:=Tryz.sizeOf0
 v0:=Tryz.zeroValue0
 t2:=Tryz.underlying2
 a2:=Tryz.isAgg2
 z2:=Tryz.sizeOf2
 v2:=Tryz.zeroValue2
 t3:=Tryz.underlying3
 a3:=Tryz.isAgg3
 z3:=Tryz.sizeOf3
 v3:=Tryz.zeroValue3
 t4:=Tryz.underlying4
 a4:=Tryz.isAgg4
 z4:=Tryz.sizeOf4
 v4:=Tryz.zeroValue4
 t5:=Tryz.underlying5
 a5:=Tryz.isAgg5
 z5:=Tryz.sizeOf5
 v5:=Tryz.zeroValue5
 t9:=Tryz.underlying9
 a9:=Tryz.isAgg9
 z9:=Tryz.sizeOf9
 v9:=Tryz.zeroValue9
 t20:=Tryz.underlying20
 a20:=Tryz.isAgg20
 z20:=Tryz.sizeOf20
 v20:=Tryz.zeroValue20
 t21:=Tryz.underlying21
 a21:=Tryz.isAgg21
 z21:=Tryz.sizeOf21
 v21:=Tryz.zeroValue21
 t37:=Tryz.underlying101
 a37:=Tryz.isAgg101
 z37:=Tryz.sizeOf101
 v37:=Tryz.zeroValue101
 t46:=Tryz.underlying195
 a46:=Tryz.isAgg195
 z46:=Tryz.sizeOf195
 v46:=Tryz.zeroValue195
 t51:=Tryz.underlying192
 a51:=Tryz.isAgg192
 z51:=Tryz.sizeOf192
 v51:=Tryz.zeroValue192
 t53:=Tryz.underlying180
 a53:=Tryz.isAgg180
 z53:=Tryz.sizeOf180
 v53:=Tryz.zeroValue180
 t75:=Tryz.underlying107
 a75:=Tryz.isAgg107
 z75:=Tryz.sizeOf107
 v75:=Tryz.zeroValue107
 t76:=Tryz.underlying108
 a76:=Tryz.isAgg108
 z76:=Tryz.sizeOf108
 v76:=Tryz.zeroValue108
 t85:=Tryz.underlying205
 a85:=Tryz.isAgg205
 z85:=Tryz.sizeOf205
 v85:=Tryz.zeroValue205
 t127:=Tryz.underlying142
 a127:=Tryz.isAgg142
 z127:=Tryz.sizeOf142
 v127:=Tryz.zeroValue142
 t143:=Tryz.underlying219
 a143:=Tryz.isAgg219
 z143:=Tryz.sizeOf219
 v143:=Tryz.zeroValue219
 t145:=Tryz.underlying221
 a145:=Tryz.isAgg221
 z145:=Tryz.sizeOf221
 v145:=Tryz.zeroValue221
 t167:=Tryz.underlying204
 a167:=Tryz.isAgg204
 z167:=Tryz.sizeOf204
 v167:=Tryz.zeroValue204
 t168:=Tryz.underlying207
 a168:=Tryz.isAgg207
 z168:=Tryz.sizeOf207
 v168:=Tryz.zeroValue207
 t171:=Tryz.underlying179
 a171:=Tryz.isAgg179
 z171:=Tryz.sizeOf179
 v171:=Tryz.zeroValue179
 t173:=Tryz.underlying183
 a173:=Tryz.isAgg183
 z173:=Tryz.sizeOf183
 v173:=Tryz.zeroValue183
 t175:=Tryz.underlying212
 a175:=Tryz.isAgg212
 z175:=Tryz.sizeOf212
 v175:=Tryz.zeroValue212
 t210:=Tryz.underlying216
 a210:=Tryz.isAgg216
 z210:=Tryz.sizeOf216
 v210:=Tryz.zeroValue216
 t212:=Tryz.underlying191
 a212:=Tryz.isAgg191
 z212:=Tryz.sizeOf191
 v212:=Tryz.zeroValue191
 t213:=Tryz.underlying193
 a213:=Tryz.isAgg193
 z213:=Tryz.sizeOf193
 t232:=Tryz.underlying210
 a232:=Tryz.isAgg210
 z232:=Tryz.sizeOf210
 v232:=Tryz.zeroValue210
 t233:=Tryz.underlying211
 a233:=Tryz.isAgg211
 z233:=Tryz.sizeOf211
 v233:=Tryz.zeroValue211
 g15:=by kernel_rfl
 g16:=by kernel_rfl
 g17:=by kernel_rfl
 g18:=by kernel_rfl
 g19:=by kernel_rfl
 t80:=Tryz.underlying62
 a80:=Tryz.isAgg62
 z80:=Tryz.sizeOf62
 v80:=Tryz.zeroValue62
 i0:=by kernel_rfl
 i2:=by kernel_rfl
 i3:=by kernel_rfl
 i4:=by kernel_rfl
 i5:=by kernel_rfl
 i9:=by kernel_rfl
 i20:=by kernel_rfl
 i21:=by kernel_rfl
 i37:=by kernel_rfl
 i46:=by kernel_rfl
 i51:=by kernel_rfl
 i53:=by kernel_rfl
 i75:=by kernel_rfl
 i76:=by kernel_rfl
 i80:=by kernel_rfl
 i85:=by kernel_rfl
 i127:=by kernel_rfl
 i143:=by kernel_rfl
 i145:=by kernel_rfl
 i167:=by kernel_rfl
 i168:=by kernel_rfl
 i171:=by kernel_rfl
 i173:=by kernel_rfl
 i175:=by kernel_rfl
 i210:=by kernel_rfl
 i212:=by kernel_rfl
 i232:=by kernel_rfl
 i233:=by kernel_rfl
 m15:=by kernel_rfl
 m16:=by kernel_rfl
 m17:=by kernel_rfl
 m18:=by kernel_rfl
 m19:=by kernel_rfl
 c0:=by kernel_rfl
 c2:=by kernel_rfl
 c3:=by kernel_rfl
 c4:=by kernel_rfl
 c5:=by kernel_rfl
 c9:=by kernel_rfl
 c20:=by kernel_rfl
 c21:=by kernel_rfl
 c37:=by kernel_rfl
 c46:=by kernel_rfl
 c51:=by kernel_rfl
 c53:=by kernel_rfl
 c75:=by kernel_rfl
 c76:=by kernel_rfl
 c80:=by kernel_rfl
 c85:=by kernel_rfl
 c127:=by kernel_rfl
 c143:=by kernel_rfl
 c145:=by kernel_rfl
 c167:=by kernel_rfl
 c168:=by kernel_rfl
 c171:=by kernel_rfl
 c173:=by kernel_rfl
 c175:=by kernel_rfl
 c210:=by kernel_rfl
 c212:=by kernel_rfl
 c213:=by kernel_rfl
 c232:=by kernel_rfl
 c233:=by kernel_rfl }
def YtbdnnjjcdcacnaaGreatDoor.GF:Go.Shelf.Ren:=⟨fun|171=>53|243=>85|246=>118|283=>134|284=>135|285=>136|286=>137|129=>145|317=>144|318=>146|319=>147|320=>148|337=>157|338=>158|n=>n,fun|3=>3|9=>9|2=>2|4=>4|171=>179|0=>0|53=>180|37=>101|5=>5|173=>183|212=>191|51=>192|20=>20|213=>193|46=>195|232=>210|233=>211|n=>n,fun|17=>5|18=>7|19=>8|n=>n⟩
theorem YtbdnnjjcdcacnaaGreatDoor.V2:Go.Proofs.LaysM.n171 Tryz.prog YtbdnnjjcdcacnaaGreatDoor.GF:={
 mixed:=by kernel_rfl
 f129:=tk Tryz.func145 (by kernel_rfl)
 f171:=tk Tryz.func53 (by kernel_rfl)
 f243:=tk Tryz.func85 (by kernel_rfl)
 f246:=tk Tryz.func118 (by kernel_rfl)
 f283:=tk Tryz.func134 (by kernel_rfl)
 f284:=tk Tryz.func135 (by kernel_rfl)
 f285:=tk Tryz.func136 (by kernel_rfl)
 f286:=tk Tryz.func137 (by kernel_rfl)
 f317:=tk Tryz.func144 (by kernel_rfl)
 f318:=tk Tryz.func146 (by kernel_rfl)
 f319:=tk Tryz.func147 (by kernel_rfl)
 f320:=tk Tryz.func148 (by kernel_rfl)
 f337:=tk Tryz.func157 (by kernel_rfl)
 f338:=tk Tryz.func158 (by kernel_rfl)
 t0:=Tryz.underlying0
 a0:=Tryz.isAgg0
 z0:=Tryz.sizeOf0
 v0:=Tryz.zeroValue0
 t2:=Tryz.underlying2
 a2:=Tryz.isAgg2
 z2:=Tryz.sizeOf2
 v2:=Tryz.zeroValue2
 t3:=Tryz.underlying3
 a3:=Tryz.isAgg3
 z3:=Tryz.sizeOf3
 v3:=Tryz.zeroValue3
 t4:=Tryz.underlying4
 a4:=Tryz.isAgg4
 z4:=Tryz.sizeOf4
 v4:=Tryz.zeroValue4
 t5:=Tryz.underlying5
 a5:=Tryz.isAgg5
 z5:=Tryz.sizeOf5
 v5:=Tryz.zeroValue5
 t9:=Tryz.underlying9
 a9:=Tryz.isAgg9
 z9:=Tryz.sizeOf9
 v9:=Tryz.zeroValue9
 t20:=Tryz.underlying20
 a20:=Tryz.isAgg20
 z20:=Tryz.sizeOf20
 v20:=Tryz.zeroValue20
 t37:=Tryz.underlying101
 a37:=Tryz.isAgg101
 z37:=Tryz.sizeOf101
 v37:=Tryz.zeroValue101
 t46:=Tryz.underlying195
 a46:=Tryz.isAgg195
 z46:=Tryz.sizeOf195
 v46:=Tryz.zeroValue195
 t51:=Tryz.underlying192
 a51:=Tryz.isAgg192
 z51:=Tryz.sizeOf192
 v51:=Tryz.zeroValue192
 t53:=Tryz.underlying180
 a53:=Tryz.isAgg180
 z53:=Tryz.sizeOf180
 v53:=Tryz.zeroValue180
 t171:=Tryz.underlying179
 a171:=Tryz.isAgg179
 z171:=Tryz.sizeOf179
 v171:=Tryz.zeroValue179
 t173:=Tryz.underlying183
 a173:=Tryz.isAgg183
 z173:=Tryz.sizeOf183
 v173:=Tryz.zeroValue183
 t212:=Tryz.underlying191
 a212:=Tryz.isAgg191
 z212:=Tryz.sizeOf191
 v212:=Tryz.zeroValue191
 t213:=Tryz.underlying193
 a213:=Tryz.isAgg193
 z213:=Tryz.sizeOf193
 t232:=Tryz.underlying210
 a232:=Tryz.isAgg210
 z232:=Tryz.sizeOf210
 v232:=Tryz.zeroValue210
 t233:=Tryz.underlying211
 a233:=Tryz.isAgg211
 z233:=Tryz.sizeOf211
 v233:=Tryz.zeroValue211
 g17:=by kernel_rfl
 g18:=by kernel_rfl
 g19:=by kernel_rfl
 i0:=by kernel_rfl
 i2:=by kernel_rfl
 i3:=by kernel_rfl
 i4:=by kernel_rfl
 i5:=by kernel_rfl
 i9:=by kernel_rfl
 i20:=by kernel_rfl
 i37:=by kernel_rfl
 i46:=by kernel_rfl
 i51:=by kernel_rfl
 i53:=by kernel_rfl
 i171:=by kernel_rfl
 i173:=by kernel_rfl
 i212:=by kernel_rfl
 i232:=by kernel_rfl
 i233:=by kernel_rfl
 m17:=by kernel_rfl
 m18:=by kernel_rfl
 m19:=by kernel_rfl }
def YtbdnnjjcdcacnaaGreatDoor.CT:Go.Shelf.Ren:=⟨fun|137=>105|217=>132|266=>143|n=>n,fun|9=>9|5=>5|3=>3|n=>n,fun|n=>n⟩
theorem YtbdnnjjcdcacnaaGreatDoor.Rv:Go.Proofs.Lays.n137 Tryz.prog YtbdnnjjcdcacnaaGreatDoor.CT:={
 mixed:=by kernel_rfl
 f137:=tk Tryz.func105 (by kernel_rfl)
 f217:=tk Tryz.func132 (by kernel_rfl)
 f266:=tk Tryz.func143 (by kernel_rfl)
 t3:=Tryz.underlying3
 a3:=Tryz.isAgg3
 z3:=Tryz.sizeOf3
 v3:=Tryz.zeroValue3
 t5:=Tryz.underlying5
 a5:=Tryz.isAgg5
 z5:=Tryz.sizeOf5
 v5:=Tryz.zeroValue5
 t9:=Tryz.underlying9
 a9:=Tryz.isAgg9
 z9:=Tryz.sizeOf9
 v9:=Tryz.zeroValue9 }
def YtbdnnjjcdcacnaaGreatDoor.Ap:Go.Shelf.Ren:=⟨fun|217=>132|266=>143|n=>n,fun|9=>9|5=>5|3=>3|n=>n,fun|n=>n⟩
theorem YtbdnnjjcdcacnaaGreatDoor.MI:Go.Proofs.Lays.n217 Tryz.prog YtbdnnjjcdcacnaaGreatDoor.Ap:={
 mixed:=by kernel_rfl
 f217:=tk Tryz.func132 (by kernel_rfl)
 f266:=tk Tryz.func143 (by kernel_rfl)
 t3:=Tryz.underlying3
 a3:=Tryz.isAgg3
 z3:=Tryz.sizeOf3
 v3:=Tryz.zeroValue3
 t5:=Tryz.underlying5
 a5:=Tryz.isAgg5
 z5:=Tryz.sizeOf5
 v5:=Tryz.zeroValue5
 t9:=Tryz.underlying9
 a9:=Tryz.isAgg9
 z9:=Tryz.sizeOf9
 v9:=Tryz.zeroValue9 }
end Go.Proofs
namespace Go.Proofs.YtbdnnjjcdcacnaaGreatDoor
open Go Go.Abs Go.Proofs Go.Shelf RowKit
section
theorem PB(s:ByteArray)(c:Int)(w:World):Calls Tryz.prog 105 #[.string s,.int .u8 c] w fun e w'=>e=.returned (.int .i64 (Lib.indexByte s.data.toList c.toNat.toUInt8))/\w'=w:=Any.strings_IndexByte Rv s c w
theorem MA(s:ByteArray)(c:Int)(w:World):Calls Tryz.prog 132 #[.string s,.int .u8 c] w fun e w'=>e=.returned (.int .i64 (Lib.indexByte s.data.toList c.toNat.toUInt8))/\w'=w:=Any.stringslite_IndexByte MI s c w
theorem VZ(n:Int)(h0:-9223372036854775808<=n)(h1:n<=9223372036854775807)(w:World)(aiQ:Lib.TabIs Tryz.prog w "internal/strconv.uint64pow10" .u64 Lib.pow10Tab) :
  Calls Tryz.prog 53 #[.int .i64 n] w fun e w'=>e=.returned (.string ⟨(Lib.itoa n).toArray⟩)/\∃ k os,w'=Sort.grow (w.drewN k) os:=Any.strconv_Itoa V2 n h0 h1 w aiQ
theorem Tv(s:ByteArray)(aaH:s.size<=9223372036854775806)(v:Int)(h:Lib.atoiAll s.data.toList=.ok v)(w:World) :
  Calls Tryz.prog 141 #[.string s] w fun e w'=>e=.returned (.tuple #[.int .i64 v,.nilIface])/\(w'=w\/∃ t,w'=Lib.bytesWorld w 5 t):=Any.strconv_Atoi_ok CP s aaH v h w
theorem N6(s:ByteArray)(aaF:s.size<=281474976710656)(h1:∀ v,Lib.atoiAll s.data.toList≠.ok v)(h2:Lib.atoiAll s.data.toList≠.range)(ev:Value)(w:World)(hv:w.cell? ⟨9,0,none⟩=some ev)(bH:ev=.nilIface\/∃ te pe,ev=.iface te pe) :
  Calls Tryz.prog 141 #[.string s] w fun e w'=>∃ N,e=.returned (.tuple #[.int .i64 (0),.iface 207 (.pointer (some ⟨N,0,none⟩))])/\Below w.heap.size w w' :=
 (Any.strconv_Atoi_syntax CP s aaF (by
  generalize Lib.atoiAll s.data.toList=x at h1 h2
  cases x<;>first|rfl|exact absurd rfl (h1 _)|exact absurd rfl h2) ev w hv bH).mono fun e w' ⟨N,h1,_,_,h4⟩=>⟨N,h1,h4⟩
theorem Il(s:ByteArray)(aaF:s.size<=281474976710656)(h:Lib.atoiAll s.data.toList=.range)(ev:Value)(w:World)(hv:w.cell? ⟨10,0,none⟩=some ev)(bH:ev=.nilIface\/∃ te pe,ev=.iface te pe) :
  Calls Tryz.prog 141 #[.string s] w fun e w'=>∃ N,e=.returned (.tuple #[.int .i64 (Lib.atoiSat s.data.toList),.iface 207 (.pointer (some ⟨N,0,none⟩))])/\Below w.heap.size w w' :=
 (Any.strconv_Atoi_range CP s aaF h ev w hv bH).mono fun e w' ⟨N,h1,_,_,h4⟩=>⟨N,h1,h4⟩
section
variable {G:Nat->List AV}{base:Nat}{gh:Gh}{w w' : World}{H:ah}
theorem zA(hW:aX G base H gh w)(hb:Below w.heap.size w w')(n:Nat):Step (fun _=>False) n gh w gh w':=by
 refine⟨fun _ _ h=>h,fun b o h=>cell_of_heap (hb.block b (hW.nW b o h)),hb.size,hb.os,hb.tape,hb.output,fun b bf _=>⟨.inl (hb.block b bf),rfl,fun _ h=>h⟩,fun b gm=>hW.bY b gm,fun _ _=>rfl,fun b ty m hm=>?_,fun b E ck hs h0=>(hb.block b (hW.nW b 0 hs)).trans h0⟩
 obtain⟨C,fr,h1,h2⟩:=hm
 exact⟨C,fr,by rw[hb.block b (aoi.1 h1).1];exact h1,h2⟩
theorem kT(hW:aX G base H gh w)(hb:Below w.heap.size w w'){v:Value}{r:AV}(hv:VR gh H.length w' v r):l8 G base H gh w r none v gh w' :=
 ⟨aoa _,hW.step (zA hW hb H.length) (fun l=>⟨id,fun _=>id⟩) (fun b o h=>apv (hW.nW b o h) hb.size) (fun b h=>⟨(hW.oL b h).1,apv (hW.oL b h).2 hb.size⟩) (fun _ _ _ h=>.inl h),
  (zA hW hb H.length).mono (fun _ h=>h.elim),fun _ h=>h,.inl hv⟩
theorem oX:kY H none:=⟨aoa _,fun c h=>by cases h⟩
theorem DU{vs:Array Value}{x:AV}(hs:vs.size=[x].length)(h:∀ (j:Nat) (v:Value) (y:AV),vs[j]?=some v->[x][j]?=some y->VR gh H.length w v y):∃ v,vs=#[v]/\VR gh H.length w v x:=by
 obtain⟨l⟩:=vs
 match l,hs with
 | [v],_=>exact⟨v,rfl,h 0 v x rfl rfl⟩
theorem Yi{vs:Array Value}{x y:AV}(hs:vs.size=[x,y].length)(h:∀ (j:Nat) (v:Value) (z:AV),vs[j]?=some v->[x,y][j]?=some z->VR gh H.length w v z):∃ u v,vs=#[u,v]/\VR gh H.length w u x/\VR gh H.length w v y:=by
 obtain⟨l⟩:=vs
 match l,hs with
 | [u,v],_=>exact⟨u,v,rfl,h 0 u x rfl rfl,h 1 v y rfl rfl⟩
end
theorem sV:∀ (f n:Nat) (acc:List UInt8),n<f->fU f n acc=Lib.decDigits n++acc
 | 0,n,acc,h=>absurd h (aqV _)
 | f+1,n,acc,h=>by
  unfold fU
  rw[Lib.decDigits]
  by_cases hn:n<10
  ·rw[show Nat.blt n 10=true by simpa [aoO] using hn,dif_pos hn]
   rfl
  ·rw[show Nat.blt n 10=false by simpa [<- aqn,aoO] using hn,dif_neg hn,an8,sV f (n / 10) _ (by omega)]
   simp
theorem Rp(n:Int):ql n=Lib.itoa n:=by
 unfold ql Lib.itoa
 cases n with
 | ofNat k =>
  simp only
  rw[sV (k+1) k [] (by omega),if_neg (by simp)]
  simp
 | negSucc k =>
  simp only
  rw[sV (k+2) (k+1) [] (by omega),if_pos (Int.negSucc_lt_zero k)]
  simp
theorem vL(c:Int)(h0:0<=c)(h1:c<256):∀ (l:List UInt8) (k:Nat),iW c k l=if Lib.indexByte l c.toNat.toUInt8=-1 then -1 else Lib.indexByte l c.toNat.toUInt8+k
 | [],k=>by simp[iW,Lib.indexByte]
 | b :: r,k=>by
  have hc:(c.toNat.toUInt8).toNat=c.toNat:=by simp;omega
  have hb:(b==c.toNat.toUInt8)=decide ((b.toNat:Int)=c):=by
   by_cases h:(b.toNat:Int)=c
   ·have:b=c.toNat.toUInt8:=UInt8.toNat_inj.1 (by rw[hc];omega)
    rw[decide_eq_true h];simpa using this
   ·have:b≠c.toNat.toUInt8:=fun e=>h (by rw[e,hc];omega)
    rw[ao1 h];simpa using this
  have hge:∀ l:List UInt8, -1<=Lib.indexByte l c.toNat.toUInt8:=by
   intro l
   induction l with
   | nil=>simp[Lib.indexByte]
   | cons x l ih =>
    simp only[Lib.indexByte]
    split
    ·omega
    ·split
     ·omega
     ·rename_i h;simp at h;omega
  unfold iW Lib.indexByte
  rw[hb]
  by_cases h:(b.toNat:Int)=c
  ·simp[h]
  ·have:=hge r
   simp only[h,aob,an8,aqv,apy]
   rw[vL c h0 h1 r (k+1)]
   by_cases hr:Lib.indexByte r c.toNat.toUInt8=-1
   ·simp[hr]
   ·simp only[ao3,hr,aqv]
    rw[if_neg (by omega)]
    push_cast
    omega
theorem Ma(f:FuncId)(fn:Func)(h:Tryz.prog.funcs[f]?=some fn)(hb:fn.body.isSome=true)(hn:fn.name≠ "runtime.NumGoroutine"):∃ fn,Tryz.prog.funcs[f]?=some fn/\fn.body.isSome=true/\fn.name≠ "runtime.NumGoroutine":=⟨fn,h,hb,hn⟩
theorem wF{G:Nat->List AV} : iQ Tryz.prog G 105 gZ:=by
 intro args H r c he
 refine⟨Ma 105 _ Tryz.func105 (by kernel_rfl) (by decide),?_⟩
 unfold gZ at he
 split at he
 ·rename_i l c'
  obtain⟨h0,he⟩:=ae he
  simp only[aod,aov] at h0
  simp only[an2,an7] at he
  obtain⟨rfl,rfl⟩:=he
  refine⟨oX,fun base gh w vs hW _ hs cL=>?_⟩
  obtain⟨u,v,rfl,hu,hv⟩:=Yi hs cL
  obtain⟨s,rfl,hl⟩:=hu.jn
  rw[hv.jl]
  refine (PB s c' w).mono ?_
  rintro e w' ⟨rfl,rfl⟩
  refine⟨_,gh,rfl,kT hW (Below.refl _ _) ?_⟩
  rw[vL c' h0.1 h0.2 l 0,hl]
  have:(if Lib.indexByte l c'.toNat.toUInt8=-1 then (-1:Int) else Lib.indexByte l c'.toNat.toUInt8+(0:Nat))=Lib.indexByte l c'.toNat.toUInt8:=by split<;>simp_all
  rw[this]
  exact .plain _ _ (.int _ _)
 ·cases he
theorem uF{G:Nat->List AV} : iQ Tryz.prog G 132 gZ:=by
 intro args H r c he
 refine⟨Ma 132 _ Tryz.func132 (by kernel_rfl) (by decide),?_⟩
 unfold gZ at he
 split at he
 ·rename_i l c'
  obtain⟨h0,he⟩:=ae he
  simp only[aod,aov] at h0
  simp only[an2,an7] at he
  obtain⟨rfl,rfl⟩:=he
  refine⟨oX,fun base gh w vs hW _ hs cL=>?_⟩
  obtain⟨u,v,rfl,hu,hv⟩:=Yi hs cL
  obtain⟨s,rfl,hl⟩:=hu.jn
  rw[hv.jl]
  refine (MA s c' w).mono ?_
  rintro e w' ⟨rfl,rfl⟩
  refine⟨_,gh,rfl,kT hW (Below.refl _ _) ?_⟩
  rw[vL c' h0.1 h0.2 l 0,hl]
  have:(if Lib.indexByte l c'.toNat.toUInt8=-1 then (-1:Int) else Lib.indexByte l c'.toNat.toUInt8+(0:Nat))=Lib.indexByte l c'.toNat.toUInt8:=by split<;>simp_all
  rw[this]
  exact .plain _ _ (.int _ _)
 ·cases he
theorem Ip(w:World)(k:Nat)(os:Array Obj):Below w.heap.size w (Sort.grow (w.drewN k) os):=by
 refine⟨rfl,rfl,rfl,by simp[Sort.grow,World.drewN],fun i hi=>?_⟩
 show (w.heap++os)[i]?=_
 rw[aqw hi]
theorem acW{G:Nat->List AV}{base:Nat}{gh:Gh}{w:World}{H:ah}(hW:aX G base H gh w){g:Nat}{name:String}(hg:Tryz.prog.globalNamed name=some g){k:IntKind}{zs:List Int}(hG:G g=zs.map (.int k))(dn:zs≠[]) :
  Lib.TabIs Tryz.prog w name k zs:=by
 obtain⟨ty,C,fr,h1,h2⟩:=hW.xf g (by rw[hG];simpa using dn)
 have hC:C=(zs.map fun z=>Value.int k z).toArray:=by
  apply Array.ext_getElem?
  intro j
  rw[hG,aoA] at h2
  by_cases hj:j<zs.length
  ·have hx:(G g)[j]?=some (.int k zs[j]):=by rw[hG];simp[hj]
   obtain⟨v,hv,hp,_⟩:=hW.aZ g j _ hx
   rw[cell_of_row w g j C ty fr h1] at hv
   cases hp
   rw[hv]
   simp[hj]
  ·rw[apF (by omega)]
   simp[ape (show zs.length<=j by omega)]
 unfold Lib.TabIs World.var?
 rw[hg]
 simp only[aoe,h1,hC]
theorem yV:iQ Tryz.prog HZ 53 zc:=by
 intro args H r c he
 refine⟨Ma 53 _ Tryz.func53 (by kernel_rfl) (by decide),?_⟩
 unfold zc at he
 split at he
 ·rename_i n
  obtain⟨h0,he⟩:=ae he
  simp only[aod,aov] at h0
  simp only[an2,an7] at he
  obtain⟨rfl,rfl⟩:=he
  refine⟨oX,fun base gh w vs hW _ hs cL=>?_⟩
  obtain⟨u,rfl,hu⟩:=DU hs cL
  rw[hu.jl]
  refine (VZ n h0.1 h0.2 w (acW hW (by kernel_rfl) (g:=5) rfl (by simp[Lib.pow10Tab]))).mono ?_
  rintro e w' ⟨rfl,k,os,rfl⟩
  exact⟨_,gh,rfl,kT hW (Ip w k os) (.plain _ _ (.str _ _ (by rw[Rp])))⟩
 ·cases he
theorem Fy{base:Nat}{gh:Gh}{w:World}{H:ah}(hW:aX HZ base H gh w){g:Nat}(hG:HZ g=[.iface BH .any]):∃ ev,w.cell? ⟨g,0,none⟩=some ev/\(ev=.nilIface\/∃ te pe,ev=.iface te pe):=by
 obtain⟨v,hv,hp,_⟩:=hW.aZ g 0 (.iface BH .any) (by rw[hG];rfl)
 cases hp with
 | iface _ u _ _=>exact⟨_,hv,.inr ⟨_,_,rfl⟩⟩
theorem Kl{gh:Gh}{n:Nat}{w:World}{u v:Value}{x y:AV}(h1:VR gh n w u x)(h2:VR gh n w v y):VR gh n w (.tuple #[u,v]) (.tuple [x,y]):=by
 refine .tuple _ _ rfl (fun j a b ha hb=>?_)
 match j with
 | 0=>simp at ha hb;subst ha hb;exact h1
 | 1=>simp at ha hb;subst ha hb;exact h2
 | j+2=>simp at ha
theorem xM:iQ Tryz.prog HZ 141 C6:=by
 intro args H r c he
 refine⟨Ma 141 _ Tryz.func141 (by kernel_rfl) (by decide),?_⟩
 unfold C6 at he
 split at he
 ·rename_i l
  obtain⟨h0,he⟩:=ae he
  have hlen:l.length<=281474976710656:=by simpa [ao2] using h0
  have hc:c=none:=by split at he<;>(simp only[an2,an7] at he;exact he.2.symm)
  subst hc
  refine⟨oX,fun base gh w vs hW _ hs cL=>?_⟩
  obtain⟨u,rfl,hu⟩:=DU hs cL
  obtain⟨s,rfl,hl⟩:=hu.jn
  have nG:s.size<=281474976710656:=by
   have:s.size=s.data.toList.length:=by simp
   rw[this,hl];exact hlen
  split at he
  ·rename_i v fE
   simp only[an2,an7,apD] at he
   subst he
   refine (Tv s (by omega) v (by rw[hl];exact fE) w).mono ?_
   rintro e w' ⟨rfl,hw⟩
   refine⟨_,gh,rfl,kT hW ?_ (Kl (.plain _ _ (.int _ _)) (.plain _ _ .bR))⟩
   rcases hw with rfl|⟨t,rfl⟩
   ·exact Below.refl _ _
   ·exact Lib.bytesWorld_below _ _ _
  ·rename_i fE
   simp only[an2,an7,apD] at he
   subst he
   obtain⟨ev,h1,h2⟩:=Fy hW (g:=10) rfl
   refine (Il s nG (by rw[hl];exact fE) ev w h1 h2).mono ?_
   rintro e w' ⟨N,rfl,hb⟩
   rw[hl]
   exact⟨_,gh,rfl,kT hW hb (Kl (.plain _ _ (.int _ _)) (.iface _ _ _ (.plain _ _ (.any _ rfl))))⟩
  ·rename_i lY hnr
   simp only[an2,an7,apD] at he
   subst he
   obtain⟨ev,h1,h2⟩:=Fy hW (g:=9) rfl
   refine (N6 s nG (by rw[hl];exact fun v e=>lY v e) (by rw[hl];exact fun e=>hnr e) ev w h1 h2).mono ?_
   rintro e w' ⟨N,rfl,hb⟩
   exact⟨_,gh,rfl,kT hW hb (Kl (.plain _ _ (.int _ _)) (.iface _ _ _ (.plain _ _ (.any _ rfl))))⟩
 ·cases he
end
theorem Y4:(Tryz.prog.info? 103).map (·.size)=some 2:=by kernel_rfl
theorem afB:liesAt Tryz.prog Tryz.prog.depth 103 (2 / Tryz.prog.cellsOf 103) 0 103 1=true:=by kernel_rfl
theorem LN(b:Nat)(w:World)(h0:w.cell? ⟨b,0,none⟩=some (.pointer (some ⟨b,0,none⟩))) :
  Calls Tryz.prog 78 #[.pointer (some ⟨b,0,none⟩)] w fun e w'=>e=.returned (.tuple #[])/\w'=w:=by
 obtain⟨j,hj,_⟩:=an0.1 Y4
 go_enter Tryz.func78,Tryz.ntmps78
 go_wp2
 rw[Lib.run_neq_ptr_same w _ Tryz.underlying100 hj]
 go_wp2
 go_end0
 exact⟨rfl,rfl⟩
theorem IH(b:Nat)(w:World)(h0:w.cell? ⟨b,0,none⟩=some (.pointer none))(NG:w.shape? b=some (103,2))(hfz:w.frozen? ⟨b,0,none⟩=false) :
  Calls Tryz.prog 78 #[.pointer (some ⟨b,0,none⟩)] w fun e w'=>e=.returned (.tuple #[])/\w'=w.setCell ⟨b,0,none⟩ (.pointer (some ⟨b,0,none⟩)):=by
 obtain⟨j,hj,hjs⟩:=an0.1 Y4
 go_enter Tryz.func78,Tryz.ntmps78
 go_wp2
 rw[Lib.run_to_unsafe w ⟨b,0,none⟩ Tryz.underlying100 Tryz.underlying169 hj (by rw[hjs];decide) NG (Nat.zero_lt_succ 1)]
 simp only[Result.andThen]
 rw[Oper.upon_value]
 go_wp2
 rw[run_callFunc_extern Tryz.func115 (by kernel_rfl) (by kernel_rfl) (by kernel_rfl) (e:=Extern.AbiNoEscape.same) (by kernel_rfl)]
 rw[Lib.run_noEscape]
 simp only[Result.andThen]
 rw[Oper.upon_value]
 go_wp2
 rw[Lib.run_from_unsafe w ⟨b,0,none⟩ Tryz.underlying169 Tryz.underlying100 hj NG afB]
 simp only[Result.andThen]
 rw[Oper.upon_value]
 go_wp2
 go_end0
 exact⟨rfl,rfl⟩
theorem xY{G:Nat->List AV} : iQ Tryz.prog G 78 iN:=by
 intro args H r c he
 refine⟨Ma 78 _ Tryz.func78 (by kernel_rfl) (by decide),?_⟩
 unfold iN at he
 split at he
 ·rename_i l
  split at he
  ·
   rename_i x hH
   simp only[an2,an7] at he
   obtain⟨rfl,rfl⟩:=he
   have bf:l<H.length:=(an9.1 hH).1
   refine⟨⟨by simp[nR],fun c' Aj=>?_⟩,fun base gh w vs hW _ hs cL=>?_⟩
   ·injection Aj with Aj
    subst Aj
    refine⟨aqN bf,fun k hk=>?_⟩
    simp only at hk ⊢
    rw[List.getElem?_set_ne (by omega)]
   ·obtain⟨u,rfl,hu⟩:=DU hs cL
    obtain⟨_,rfl⟩:=hu.jm
    obtain⟨hκ,hS,C,ty,hb,hC,gC⟩:=hW.boxes l _ _ hH
    obtain⟨C2,fr2,jF,hC2⟩:=hW.types l _ _ hH (by decide)
    rw[hb] at jF
    injection jF with jF
    injection jF with e1 e2 e3
    subst e1 e2
    have hC2:C.size=2:=hC2
    have h0:C[0]?=some C[0]:=aop (by omega)
    have Nz:C[0]=.pointer none:=by
     have:=(gC 0 _ .di h0 rfl).2.dropped
     generalize C[0]=V at this
     cases this with
     | plain _ _ h=>cases h;rfl
    have cx:w.cell? ⟨gh.ρ l,0,none⟩=some (.pointer none):=by rw[cell_of_row w _ 0 C _ _ hb,h0,Nz]
    have lY:∀ o,gh.S (gh.ρ l) o->(C.setIfInBounds 0 (.pointer (some ⟨gh.ρ l,0,none⟩)))[o]?=C[o]?:=fun o ho=>(hS o ho).elim
    have st:=lR hW hb (by simp) lY H.length
    rw[hκ] at st
    refine (IH (gh.ρ l) w cx (by simp[World.shape?,hb,hC2]) (by simp[World.frozen?,hb])).mono ?_
    rintro e w' ⟨rfl,rfl⟩
    rw[setCell_eq_setRow w (gh.ρ l) 0 C _ (0,0) _ hb]
    have lW:aX G base (H.set l (.box 103 [.ref l 0,x])) gh (w.setRow (gh.ρ l) (C.setIfInBounds 0 (.pointer (some ⟨gh.ρ l,0,none⟩)))):=by
     refine hW.Kg st hH (by intro k hk;simp[hk]) (fun b o ho=>by simpa using hW.nW b o ho) (fun b hb=>by simpa using hW.oL b hb) ⟨hκ,hS,_,_,setRow_heap w _ C _ _ _ hb,by simpa using hC,fun j v y hv hy=>?_⟩ ?_ ?_ ?_
     ·match j with
      | 0 =>
       simp at hy
       subst hy
       rw[Array.getElem?_setIfInBounds_self_of_lt (by omega)] at hv
       injection hv with hv
       subst hv
       exact⟨rfl,.inl (.ref l 0 bf)⟩
      | j+1 =>
       rw[aqc (by omega)] at hv
       obtain⟨k1,k2⟩:=gC (j+1) v y hv (by simpa using hy)
       exact⟨k1,k2.mono st (aoa _) (by simp)⟩
     ·have:=hW.refs l _ _ hH
      simp only[ao6,apd,Bool.and_true,aod] at this ⊢
      exact⟨by simp[bo],this.2⟩
     ·exact fun _ _ h=>h
     ·rfl
    refine⟨_,gh,rfl,by simp[nR],lW,st.mono (fun p hp=>.inl ⟨l,hp⟩),fun _ h=>h,.inl .undef⟩
  ·
   rename_i l' y hH
   obtain⟨h0,Yw⟩:=ae he
   clear he
   have Uf:l=l':=by simpa [fW] using h0
   simp only[an2,an7] at Yw
   obtain⟨rfl,rfl⟩:=Yw
   subst Uf
   refine⟨oX,fun base gh w vs hW _ hs cL=>?_⟩
   obtain⟨u,rfl,hu⟩:=DU hs cL
   obtain⟨_,rfl⟩:=hu.jm
   obtain⟨hκ,hS,C,ty,hb,hC,gC⟩:=hW.boxes l _ _ hH
   have hC2:2<=C.size:=hC
   have Mj:C[0]?=some C[0]:=aop (by omega)
   have Nz:C[0]=.pointer (some ⟨gh.ρ l,0,none⟩):=(VR.jm (gC 0 _ (.ref l 0) Mj rfl).2.dropped).2
   refine (LN (gh.ρ l) w (by rw[cell_of_row w _ 0 C _ _ hb,Mj,Nz])).mono ?_
   rintro e w' ⟨rfl,rfl⟩
   exact⟨_,gh,rfl,kT hW (Below.refl _ _) .undef⟩
  ·cases he
 ·cases he
theorem zB(b:Nat)(a q:Option Addr)(n cap:Nat)(s:ByteArray)(w W1 W:World)(c1:w.drew.cell? ⟨b,1,none⟩=some (.slice a n cap))(c2:W1.cell? ⟨b,1,none⟩=some (.slice a n cap))
  (hSD:(Builtin.unsafeSliceData_ #[101] 142 #[.slice a n cap]).run Tryz.prog w.drew=.ok (.pointer q) W1)
  (hUS:(Builtin.unsafeString_ #[142,3] 9 #[.pointer q,.int .i64 n]).run Tryz.prog W1=.ok (.string s) W) :
  Calls Tryz.prog 47 #[.pointer (some ⟨b,0,none⟩)] w fun e w'=>e=.returned (.string s)/\w'=W:=by
 have mixed:Tryz.prog.follows .mixedOrders=true:=by kernel_rfl
 go_enter Tryz.func47,Tryz.ntmps47
 go_wp2
 go_region_o
 all_goals (go_wp2;go_ret;exact⟨rfl,rfl⟩)
theorem JQ{P:Program}{e:TypeId}(hc:P.cellsOf e=1)(count n off:Nat)(hn:off+n<=count):liesAt P P.depth e count off e n=true:=by
 have hd:P.depth=(2*(P.types.size+Made.depth)+1)+1:=rfl
 rw[hd]
 simp only[liesAt,apZ]
 left
 rw[hd]
 simp[rowAt,hc,hn,sameLayout]
 exact .inl (Nat.mod_one off)
theorem ry{P:Program}(w:World)(pt it ty e:TypeId)(hp:P.underlying pt=some (.pointer e))(hc:P.cellsOf e=1)(g off cells:Nat)(NG:w.shape? g=some (e,cells))(l:List UInt8)(h0:l≠[])(hn:off+l.length<=cells)(h63:l.length<=9223372036854775807)
  (cx:∀ j x,l[j]?=some x->w.cell? ((⟨g,off,none⟩:Addr).add j)=some (.int .u8 x.toNat)) :
  (Builtin.unsafeString_ #[pt,it] ty #[.pointer (some ⟨g,off,none⟩),.int .i64 l.length]).run P w=.ok (.string ⟨l.toArray⟩) (w.freeze ⟨g,off,none⟩ l.length):=by
 have hl:l.length≠0:=by simpa using h0
 have hlb:=Lib.run_loadBytes (P:=P) w l ⟨g,off,none⟩ .empty cx
 have aeS:=JQ (P:=P) hc (cells / P.cellsOf e) l.length off (by rw[hc];simpa using hn)
 have ahU:¬ (9223372036854775807:Int)<(l.length:Int):=by omega
 have O' : Builtin.unsafeString_ #[pt,it] ty #[.pointer (some ⟨g,off,none⟩),.int .i64 l.length] =
   (do
    let n <- asInt (.int .i64 l.length)
    if n<0 then runtimePanic (.error "unsafe.String: len out of range")
    if n>IntKind.i64.max then unsupported (.unsafePointer "String: a length above the largest int")
    if n=0 then pure (.string .empty)
    else if <- variablesAt ⟨g,off,none⟩ (<- elemOf pt) n.toNat then do
     let s <- loadBytes ⟨g,off,none⟩ .empty n.toNat
     freeze ⟨g,off,none⟩ n.toNat
     pure (.string s)
    else unsupported (.unsafePointer "String: not so many bytes at ptr")):=rfl
 rw[O']
 have aaH:IntKind.i64.max=9223372036854775807:=rfl
 have qQ:¬ (l.length:Int)<0:=by omega
 simp[asInt,asIntOf,aaH,ahU,qQ,hl,variablesAt,NG,elemOf,run_underlying hp,aeS,hlb]
section
section
variable {G:Nat->List AV}{base:Nat}{gh:Gh}{w w' : World}{H:ah}
theorem Se(hW:aX G base H gh w)(st:Step (fun _=>False) H.length gh w gh w'){v:Value}{r:AV}(hv:VR gh H.length w' v r):l8 G base H gh w r none v gh w' :=
 ⟨aoa _,hW.step st (fun l=>⟨id,fun _=>id⟩) (fun b o h=>apv (hW.nW b o h) st.size) (fun b h=>⟨(hW.oL b h).1,apv (hW.oL b h).2 st.size⟩) (fun _ _ _ h=>.inl h),
  st.mono (fun _ h=>h.elim),fun _ h=>h,.inl hv⟩
theorem HB(hW:aX G base H gh w){b o n:Nat}{C:Array Value}{ty:TypeId}{fr:Nat × Nat}(hb:w.heap[b]?=some (.cells C ty fr))(hn:n≠0)(hS:∀ j,j<n->gh.S b (o+j))(h8:∃ m,C[o]?=some (.int .u8 m))(m:Nat) :
  Step (fun _=>False) m gh w gh (w.drew.freeze ⟨b,o,none⟩ n):=by
 have bf:b<w.heap.size:=(aoi.1 hb).1
 have qj:∀ k,(w.drew.freeze ⟨b,o,none⟩ n).heap[k]?=if k=b then some (.cells C ty (if fr.1==fr.2 then (o,o+n) else (min fr.1 o,max fr.2 (o+n)))) else w.heap[k]?:=by
  intro k
  unfold World.freeze
  rw[if_neg hn]
  show (w.heap.modify b _)[k]?=_
  rw[Array.getElem?_modify]
  by_cases hk:k=b
  ·subst hk
   rw[if_pos rfl,if_pos rfl,hb]
   obtain⟨lo,hi⟩:=fr
   rfl
  ·rw[if_neg (fun e=>hk e.symm),if_neg hk]
 have cx:∀ k j,(w.drew.freeze ⟨b,o,none⟩ n).cell? ⟨k,j,none⟩=w.cell? ⟨k,j,none⟩:=by
  intro k j
  simp only[World.cell?,qj]
  by_cases hk:k=b
  ·subst hk;rw[if_pos rfl,hb]
  ·rw[if_neg hk]
 have nG:(w.drew.freeze ⟨b,o,none⟩ n).heap.size=w.heap.size:=by
  unfold World.freeze
  rw[if_neg hn]
  show (w.heap.modify b _).size=_
  simp
 have hos:(w.drew.freeze ⟨b,o,none⟩ n).os=w.os/\(w.drew.freeze ⟨b,o,none⟩ n).tape=w.tape/\(w.drew.freeze ⟨b,o,none⟩ n).output=w.output:=by
  unfold World.freeze
  rw[if_neg hn]
  exact⟨rfl,rfl,rfl⟩
 refine⟨fun _ _ h=>h,fun k j _=>cx k j,by rw[nG];exact aoa _,hos.1,hos.2.1,hos.2.2,fun k hk _=>⟨?_,rfl,fun _ h=>h⟩,fun k hk=>hW.bY k (by rw[<- nG];rw[nG];exact hk),fun _ _=>rfl,fun k lZ m' hm=>?_,fun k E ck _ h0=>?_⟩
 rotate_left 2
 ·rw[qj]
  by_cases Am:k=b
  ·subst Am;rw[hb] at h0;cases h0
  ·rw[if_neg Am];exact h0
 ·rw[qj]
  by_cases Am:k=b
  ·subst Am
   rw[if_pos rfl,hb]
   obtain⟨lo,hi⟩:=fr
   obtain⟨m8,h8⟩:=h8
   have YA:∀ q,(∀ o,q<=o->¬ gh.S k o)->o+n<=q:=fun q lY=>by
    rcases apL (o+(n-1)) q with h|h
    ·omega
    ·exact absurd (hS (n-1) (by omega)) (lY _ h)
   by_cases YD:(lo==hi)=true
   ·exact .inr ⟨C,ty,lo,hi,o,o+n,rfl,by rw[if_pos YD],⟨o,m8,by simpa using hS 0 (by omega),h8⟩,fun q hq lY=>YA q lY⟩
   ·exact .inr ⟨C,ty,lo,hi,min lo o,max hi (o+n),rfl,by rw[if_neg YD],⟨o,m8,by simpa using hS 0 (by omega),h8⟩,fun q hq lY=>by have:=YA q lY;omega⟩
  ·rw[if_neg Am];exact .inl rfl
 ·obtain⟨C',fr',h1,h2⟩:=hm
  by_cases Am:k=b
  ·subst Am
   rw[hb] at h1
   injection h1 with h1
   injection h1 with e1 e2 e3
   subst e1 e2
   exact⟨C,_,by rw[qj,if_pos rfl],h2⟩
  ·exact⟨C',fr',by rw[qj,if_neg Am];exact h1,h2⟩
end
theorem zr(P:Program)(w:World){r:Nat}{o:Obj}(h:w.heap[r]?=some o)(hc:∀ C t f,o≠.cells C t f):(getObj r).run P w=.ok o w:=by
 cases o<;>first|(exact absurd rfl (hc _ _ _))|simp[getObj,Sem.run,h]
theorem zu(w:World)(ad:Addr)(h:ad.block<w.heap.size):∃ q W1,(Builtin.unsafeSliceData_ #[101] 142 #[.slice (some ad) 0 0]).run Tryz.prog w.drew=.ok (.pointer q) W1/\Below w.heap.size w W1:=by
 have hp:Tryz.prog.underlying 142=some (.pointer 5):=Tryz.underlying142
 have O' : Builtin.unsafeSliceData_ #[101] 142 #[.slice (some ad) 0 0] =
   (do
    if (0:Nat)≠0 then pure (.pointer (some ad))
    else if (<- viewAt ad.block).isSome then pure (.pointer (some ad))
    else pure (.pointer (some ⟨<- newObj (.view ad (<- elemOf 142)),0,none⟩))):=rfl
 have bf:ad.block<w.drew.heap.size:=h
 rw[O']
 cases ho:w.drew.heap[ad.block]? with
 | none=>rw[aop bf] at ho;cases ho
 | some o =>
  cases o with
  | cells C ty fr =>
   refine⟨some ⟨w.heap.size,0,none⟩,w.drew.alloc (.view ad 5),?_,(Below.drew (Below.refl _ w)).alloc (aoa _) _⟩
   have NG:w.drew.shape? ad.block=some (ty,C.size):=by simp[World.shape?,ho]
   simp[viewAt,NG,elemOf,run_underlying hp]
  | view a t =>
   refine⟨some ad,w.drew,?_,Below.drew (Below.refl _ w)⟩
   have hg:=zr Tryz.prog w.drew ho (fun _ _ _ h=>by cases h)
   have NG:w.drew.shape? ad.block=none:=by simp[World.shape?,ho]
   simp[viewAt,NG,hg,Result.andThen]
  | _ =>
   refine⟨some ⟨w.heap.size,0,none⟩,w.drew.alloc (.view ad 5),?_,(Below.drew (Below.refl _ w)).alloc (aoa _) _⟩
   have hg:=zr Tryz.prog w.drew ho (fun _ _ _ h=>by cases h)
   have NG:w.drew.shape? ad.block=none:=by simp[World.shape?,ho]
   simp[viewAt,NG,elemOf,run_underlying hp,hg,Result.andThen]
theorem Oe{w:World}{b o:Nat}{v:Value}(h:w.cell? ⟨b,o,none⟩=some v):b<w.heap.size:=by
 rcases apL b w.heap.size with h'|h'
 ·exact h'
 ·simp[World.cell?,apF h'] at h
theorem AH:∀ {e:List (List AV)} {l:List UInt8},bytesOf e=some l->e.length=l.length/\∀ (i:Nat) (b:UInt8),l[i]?=some b->∃ m:Int,e[i]?=some [.int .u8 m]/\b=UInt8.ofNat m.toNat
 | [],l,h=>by
  simp only[bytesOf,an2] at h
  subst h
  exact⟨rfl,fun i b h=>by simp at h⟩
 | r :: e,l,h=>by
  unfold bytesOf at h
  split at h
  ·cases ‹_ :: _=[]›
  ·rename_i n e' heq
   injection heq with h1 h2
   subst h1 h2
   obtain⟨l',h3,rfl⟩:=an0.1 h
   obtain⟨k1,k2⟩:=AH h3
   refine⟨by simp[k1],fun i b hb=>?_⟩
   cases i with
   | zero=>simp at hb;exact⟨n,rfl,hb.symm⟩
   | succ i=>exact k2 i b (by simpa using hb)
  ·cases h
theorem uZ{G:Nat->List AV} : iQ Tryz.prog G 47 pn:=by
 intro args H r c he
 refine⟨Ma 47 _ Tryz.func47 (by kernel_rfl) (by decide),?_⟩
 unfold pn at he
 split at he
 ·rename_i l
  split at he
  ·rename_i x e hH
   obtain⟨h0,he⟩:=ae he
   simp only[aod] at h0
   have hlen:e.length<=4611686018427387904:=by simpa [ao2] using h0.1
   have aaW:=h0.2
   obtain⟨bs,hbs,he⟩:=an0.1 he
   simp only[an7] at he
   obtain⟨rfl,rfl⟩:=he
   obtain⟨Mn,hbr⟩:=AH hbs
   have bf:l<H.length:=(an9.1 hH).1
   refine⟨oX,fun base gh w vs hW _ hs cL=>?_⟩
   obtain⟨u,rfl,hu⟩:=DU hs cL
   obtain⟨_,rfl⟩:=hu.jm
   obtain⟨hκ,hS,C,ty,hb,hC,gC⟩:=hW.boxes l _ _ hH
   have hC2:2<=C.size:=hC
   have h1:C[1]?=some C[1]:=aop (by omega)
   have hv:=(gC 1 _ (.slice e true) h1 rfl).2
   have cx:w.cell? ⟨gh.ρ l,1,none⟩=some C[1]:=by rw[cell_of_row w _ 1 C _ _ hb,h1]
   generalize C[1]=v at hv cx
   by_cases dn:e=[]
   ·subst dn
    have hb0:bs=[]:=by
     simp only[bytesOf,an2] at hbs;exact hbs.symm
    subst hb0
    have sE:∃ a,v=.slice a 0 0/\∀ ad,a=some ad->ad.block<w.heap.size:=by
     rcases hv with hv|⟨e',heq,_,_,_,_,_,_,_,_,_,_,w9,_⟩
     ·cases hv with
      | plain _ _ h=>cases h
      | full a k _ h hz =>
       have hk:k=0:=by cases h with
        | dw=>rfl
        | slice _ _ _ _ _ _ _ hn=>simpa using hn.symm
       subst hk
       exact⟨a,rfl,fun ad ha=>hz ad ha rfl⟩
     ·injection heq with heq;subst heq;exact absurd rfl w9
    obtain⟨a,rfl,hz⟩:=sE
    have c1:w.drew.cell? ⟨gh.ρ l,1,none⟩=some (.slice a 0 0):=cx
    have fin:∀ (q:Option Addr) (W1:World),(Builtin.unsafeSliceData_ #[101] 142 #[.slice a 0 0]).run Tryz.prog w.drew=.ok (.pointer q) W1->Below w.heap.size w W1->Calls Tryz.prog 47 #[.pointer (some ⟨gh.ρ l,0,none⟩)] w fun e w'=>∃ v aV,e=.returned v/\l8 G base H gh w (.str []) none v aV w':=by
     intro q W1 hSD aew
     have c2:W1.cell? ⟨gh.ρ l,1,none⟩=some (.slice a 0 0):=by rw[aew.cell (Oe cx)];exact cx
     refine (zB (gh.ρ l) a q 0 0 .empty w W1 W1 c1 c2 hSD (Lib.run_unsafeString_none W1 _ _ _ q)).mono ?_
     rintro e w' ⟨rfl,rfl⟩
     exact⟨_,gh,rfl,kT hW aew (.plain _ _ (.str _ _ rfl))⟩
    cases a with
    | none=>exact fin none w.drew rfl (Below.drew (Below.refl _ w))
    | some ad =>
     obtain⟨q,W1,h1,h2⟩:=zu w ad (hz ad rfl)
     exact fin q W1 h1 h2
   ·have lM:PR gh.S w v (.slice e false):=by
     rcases hv with hv|⟨e',heq,h,_⟩
     ·cases hv with
      | plain _ _ h=>cases h
      | full a k _ h hz=>exact h
     ·injection heq with heq;subst heq;exact h
    cases lM with
    | dw=>exact absurd rfl dn
    | slice b o n cap sz _ f hn jG bN aan afc =>
     subst hn
     have F9:0<e.length:=aqQ.2 dn
     have F3:0<bs.length:=by omega
     obtain⟨m0,hm0,_⟩:=hbr 0 bs[0] (an' F3)
     have gO:sz=1:=(bN 0 _ hm0).symm
     subst gO
     have each:∀ (i:Nat) (x:UInt8),bs[i]?=some x->gh.S b (o+i)/\w.cell? ⟨b,o+i,none⟩=some (.int .u8 x.toNat):=by
      intro i x hx
      obtain⟨m,hm,rfl⟩:=hbr i x hx
      obtain⟨k1,k2,_⟩:=aan i 0 _ _ hm rfl
      have hr:=afc i 0 _ _ hm rfl
      have hf:f i 0=.int .u8 m:=by
       generalize f i 0=V at hr
       cases hr;rfl
      simp only[apT,aps] at k1 k2
      refine⟨k1,?_⟩
      rw[k2,hf]
      have hm8:=aof.1 aaW _ (aoo hm)
      simp only[aod,aov] at hm8
      have e1:((UInt8.ofNat m.toNat).toNat:Int)=m:=by
       rw[UInt8.toNat_ofNat']
       omega
      rw[e1]
     obtain⟨Cb,fr,A2⟩:∃ Cb fr,w.heap[b]?=some (.cells Cb ij fr):=by
      have:=each 0 bs[0] (an' F3)
      exact hW.bytes b (o+0) _ this.1 this.2
     have NG:w.drew.shape? b=some (5,Cb.size):=by
      have:w.drew.heap[b]?=some (.cells Cb ij fr):=A2
      simp[World.shape?,this]
     have hin:o+bs.length<=Cb.size:=by
      have:=(each (bs.length-1) bs[bs.length-1] (an' (by omega))).2
      rw[cell_of_row w b _ Cb _ _ A2] at this
      have:=(aoi.1 this).1
      omega
     have c1:w.drew.cell? ⟨gh.ρ l,1,none⟩=some (.slice (some ⟨b,o,none⟩) e.length cap):=cx
     have hSD:(Builtin.unsafeSliceData_ #[101] 142 #[.slice (some ⟨b,o,none⟩) e.length cap]).run Tryz.prog w.drew=.ok (.pointer (some ⟨b,o,none⟩)) w.drew:=Lib.run_unsafeSliceData_row _ _ _ _ _ _ (by omega)
     have hUS:=ry (P:=Tryz.prog) w.drew 142 3 9 5 Tryz.underlying142 (by kernel_rfl) b o Cb.size NG bs (by intro e;rw[e] at F3;simp at F3) hin (by omega) (fun j x hx=>by
      have O3:(Addr.mk b o none).add j=⟨b,o+j,none⟩:=by
       unfold Addr.add
       split
       ·rename_i h0;subst h0;simp
       ·simp
      rw[O3];exact (each j x hx).2)
     rw[<- Mn] at hUS
     refine (zB (gh.ρ l) _ _ e.length cap _ w _ _ c1 c1 hSD hUS).mono ?_
     rintro e' w' ⟨rfl,rfl⟩
     refine⟨_,gh,rfl,Se hW (HB hW A2 (by omega) (fun j hj=>(each j bs[j] (an' (by omega))).1) ⟨bs[0].toNat,?_⟩ _) (.plain _ _ (.str _ _ rfl))⟩
     have:=(each 0 bs[0] (an' F3)).2
     rw[cell_of_row w b _ Cb _ _ A2] at this
     simpa using this
  ·cases he
 ·cases he
end
end Go.Proofs.YtbdnnjjcdcacnaaGreatDoor
namespace Go.Abs
section
def dq.Le(f g:dq):Prop:=∀ a b c r,f a b c=some r->g a b c=some r
section
variable {G:Nat->List AV}{f g:dq}
theorem rI{α:Type}{b:Bool}{x y:Option α}{r:α}(h:cond b x none=some r)(KZ:x=some r->y=some r):cond b y none=some r:=by
 cases b
 ·cases h
 ·exact KZ h
theorem LY(h:dq.Le f g){s:AS}{o:fQ}{r:AV × Option AS}(he:aE G f s o=some r):aE G g s o=some r:=by
 cases o with
 | call fn args =>
  simp only[aE] at he ⊢
  split at he
  ·refine rI he fun he=>?_
   simp only[an0] at he ⊢
   obtain⟨r0,h0,rfl⟩:=he
   exact⟨r0,h _ _ _ _ h0,rfl⟩
  ·cases he
 | AK fn pre x post =>
  simp only[aE] at he ⊢
  refine rI he fun he=>?_
  simp only[an1,an0] at he ⊢
  obtain⟨p,hp,r0,h0,he⟩:=he
  exact⟨p,hp,r0,h _ _ _ _ h0,he⟩
 | iw fn args =>
  simp only[aE] at he ⊢
  split at he
  ·refine rI he fun he=>?_
   simp only[an1] at he ⊢
   obtain⟨r0,h0,he⟩:=he
   exact⟨r0,h _ _ _ _ h0,he⟩
  ·cases he
 | _=>exact he
theorem wu(h:dq.Le f g){d:Bool}{s:AS}{o:aM}{r:AS}(he:cd G f d s o=some r):cd G g d s o=some r:=by
 have key:∀ r,((aE G f s o.op).bind fun r=>match r.2 with
   | none=>cond (d&&(bk r.1).isSome) none (some (s.cH o.dst r.1))
   | some s'=>cond d none (some (s'.cH o.dst r.1)))=some r->((aE G g s o.op).bind fun r=>match r.2 with
   | none=>cond (d&&(bk r.1).isSome) none (some (s.cH o.dst r.1))
   | some s'=>cond d none (some (s'.cH o.dst r.1)))=some r:=by
  intro r hr
  simp only[an1] at hr ⊢
  obtain⟨x,h1,h2⟩:=hr
  exact⟨x,LY h h1,h2⟩
 unfold cd at he ⊢
 simp only at he ⊢
 split at he
 ·exact key _ he
 ·split at he
  ·rename_i b hb
   cases hbw:(b==_) with
   | true=>rw[hbw] at he;exact key _ he
   | false=>rw[hbw] at he;exact he
  ·exact he
  ·cases he
theorem sY(h:dq.Le f g){d:Bool} : ∀ {os:List aM} {s r:AS},fA G f d os s=some r->fA G g d os s=some r
 | [],_,_,he=>he
 | o :: os,s,r,he=>by
  simp only[fA,an1] at he ⊢
  obtain⟨x,h1,h2⟩:=he
  exact⟨x,wu h h1,sY h h2⟩
theorem o8{F F' : AS->Option (bP × AS)}(h:∀ s r,F s=some r->F' s=some r):∀ {n m:Nat} {s:AS} {r:bP × AS},n<=m->iter F n s=some r->iter F' m s=some r
 | 0,_,_,_,_,he=>by cases he
 | n+1,0,_,_,hn,_=>by omega
 | n+1,m+1,s,r,hn,he=>by
  simp only[iter,an1] at he ⊢
  obtain⟨x,h1,h2⟩:=he
  refine⟨x,h _ _ h1,?_⟩
  split at h2
  ·exact o8 h (by omega) h2
  ·exact h2
theorem jC(h:dq.Le f g){n m:Nat}(hn:n<=m):∀ {c:aY} {s:AS} {r:bP × AS},jg G f n c s=some r->jg G g m c s=some r
 | .skip,_,_,he=>he
 | .exit _,_,_,he=>he
 | .ret,_,_,he=>he
 | .vn _ _ _,_,_,he=>by simp[jg] at he
 | .region d os,s,r,he=>by
  simp only[jg,an0] at he ⊢
  obtain⟨x,h1,h2⟩:=he
  exact⟨x,sY h h1,h2⟩
 | .seq a b,s,r,he=>by
  simp only[jg,an1] at he ⊢
  obtain⟨x,h1,h2⟩:=he
  refine⟨x,jC h hn h1,?_⟩
  split at h2
  ·exact jC h hn h2
  ·exact h2
 | .cond c a b,s,r,he=>by
  simp only[jg] at he ⊢
  split at he
  ·rename_i t ht
   cases t
   ·exact jC h hn (c:=b) he
   ·exact jC h hn (c:=a) he
  ·cases he
 | .block id a,s,r,he=>by
  simp only[jg,an0] at he ⊢
  obtain⟨x,h1,h2⟩:=he
  exact⟨x,jC h hn h1,h2⟩
 | .loop a,s,r,he=>by
  simp only[jg] at he ⊢
  exact o8 (fun s r h'=>jC h hn h') hn he
theorem BA(h:dq.Le f g){n m:Nat}(hn:n<=m){fn:aJ}{args:List AV}{H:ah}{r:AV × Option gJ}(he:vU G f n fn args H=some r):vU G g m fn args H=some r:=by
 unfold vU at he ⊢
 refine rI he fun he=>?_
 simp only[an1] at he ⊢
 obtain⟨x,h1,h2⟩:=he
 exact⟨x,jC h hn h1,h2⟩
end
theorem FB{A:AP} : ∀ n,dq.Le (AT A n) (AT A (n+1))
 | 0=>fun a b c r h=>by cases h
 | n+1=>fun a b c r h=>by
  simp only[AT] at h ⊢
  cases ho:A.ov a with
  | some g=>rw[ho] at h;exact h
  | none =>
   rw[ho] at h
   cases hf:A.fns a with
   | none=>rw[hf] at h;cases h
   | some fn=>rw[hf] at h;exact BA (FB n) (by omega) h
theorem mf{A:AP}{n m:Nat}(h:n<=m):dq.Le (AT A n) (AT A m):=by
 induction h with
 | refl=>exact fun _ _ _ _ h=>h
 | step _ ih=>exact fun a b c r hr=>FB _ a b c r (ih a b c r hr)
noncomputable def aD(A:AP):dq:=fun f args H=>open Classical in if h:∃ n r,AT A n f args H=some r then some (Classical.choose (ap0 h)) else none
theorem nf{A:AP}{f:FuncId}{args:List AV}{H:ah}{r:AV × Option gJ} : aD A f args H=some r↔∃ n,AT A n f args H=some r:=by
 unfold aD
 constructor
 ·intro h
  split at h
  ·rename_i hx
   have:=ap0 (ap0 hx)
   injection h with h
   rw[h] at this
   exact⟨_,this⟩
  ·cases h
 ·rintro ⟨n,hn⟩
  have hx:∃ n r,AT A n f args H=some r:=⟨n,r,hn⟩
  rw[dif_pos hx]
  have h1:=ap0 (ap0 hx)
  have h2:=mf (aqe n (Classical.choose hx)) _ _ _ _ hn
  have h3:=mf (apR n (Classical.choose hx)) _ _ _ _ h1
  rw[h2] at h3
  injection h3 with h3
  rw[h3]
section
variable {A:AP}
theorem Oz{s:AS}{o:fQ}{r:AV × Option AS}(he:aE A.aZ (aD A) s o=some r):∃ n,aE A.aZ (AT A n) s o=some r:=by
 cases o with
 | call fn args =>
  simp only[aE] at he ⊢
  split at he
  ·rename_i n fs cs hf
   cases hb:((args.map fun a=>a.addr A.aZ s.T).all aG) with
   | false=>rw[hb] at he;cases he
   | true =>
    rw[hb] at he
    simp only[cond_true,an0] at he
    obtain⟨r0,h0,rfl⟩:=he
    obtain⟨k,hk⟩:=nf.1 h0
    exact⟨k,by simp only[hk,cond_true,aok]⟩
  ·cases he
 | AK fn pre x post =>
  simp only[aE] at he ⊢
  cases hb:((pre.map fun a=>a.addr A.aZ s.T).all aG&&(post.map fun a=>a.addr A.aZ s.T).all aG) with
  | false=>rw[hb] at he;cases he
  | true =>
   rw[hb] at he
   simp only[cond_true,an1,an0] at he
   obtain⟨p,hp,r0,h0,he⟩:=he
   obtain⟨k,hk⟩:=nf.1 h0
   exact⟨k,by simp only[hp,hk,cond_true,aoe,aok,he]⟩
 | iw fn args =>
  simp only[aE] at he ⊢
  split at he
  ·rename_i n fs cs hf
   cases hb:((args.map fun a=>a.addr A.aZ s.T).all aG) with
   | false=>rw[hb] at he;cases he
   | true =>
    rw[hb] at he
    simp only[cond_true,an1] at he
    obtain⟨r0,h0,he⟩:=he
    obtain⟨k,hk⟩:=nf.1 h0
    exact⟨k,by simp only[hk,cond_true,aoe];exact he⟩
  ·cases he
 | _=>exact⟨0,he⟩
theorem IS{d:Bool}{s:AS}{o:aM}{r:AS}(he:cd A.aZ (aD A) d s o=some r):∃ n,cd A.aZ (AT A n) d s o=some r:=by
 have key:∀ r,((aE A.aZ (aD A) s o.op).bind fun r=>match r.2 with
   | none=>cond (d&&(bk r.1).isSome) none (some (s.cH o.dst r.1))
   | some s'=>cond d none (some (s'.cH o.dst r.1)))=some r->∃ n,((aE A.aZ (AT A n) s o.op).bind fun r=>match r.2 with
   | none=>cond (d&&(bk r.1).isSome) none (some (s.cH o.dst r.1))
   | some s'=>cond d none (some (s'.cH o.dst r.1)))=some r:=by
  intro r hr
  simp only[an1] at hr ⊢
  obtain⟨x,h1,h2⟩:=hr
  obtain⟨n,hn⟩:=Oz h1
  exact⟨n,x,hn,h2⟩
 unfold cd at he ⊢
 simp only at he ⊢
 split at he
 ·exact key _ he
 ·split at he
  ·rename_i b hb
   cases hbw:(b==_) with
   | true=>rw[hbw] at he;exact key _ he
   | false=>rw[hbw] at he;exact⟨0,he⟩
  ·exact⟨0,he⟩
  ·cases he
theorem AW{d:Bool} : ∀ {os:List aM} {s r:AS},fA A.aZ (aD A) d os s=some r->∃ n,fA A.aZ (AT A n) d os s=some r
 | [],_,_,he=>⟨0,he⟩
 | o :: os,s,r,he=>by
  simp only[fA,an1] at he ⊢
  obtain⟨x,h1,h2⟩:=he
  obtain⟨n,hn⟩:=IS h1
  obtain⟨m,hm⟩:=AW h2
  exact⟨max n m,x,wu (mf (aqe n m)) hn,sY (mf (apR n m)) hm⟩
theorem GA{F:AS->Option (bP × AS)}{F' : Nat->AS->Option (bP × AS)}(hm:∀ n m s r,n<=m->F' n s=some r->F' m s=some r)(h:∀ s r,F s=some r->∃ n,F' n s=some r) :
  ∀ {n:Nat} {s:AS} {r:bP × AS},iter F n s=some r->∃ m,iter (F' m) n s=some r
 | 0,_,_,he=>by cases he
 | n+1,s,r,he=>by
  simp only[iter,an1] at he ⊢
  obtain⟨x,h1,h2⟩:=he
  obtain⟨m1,hm1⟩:=h _ _ h1
  split at h2
  ·obtain⟨m2,hm2⟩:=GA hm h h2
   refine⟨max m1 m2,x,hm _ _ _ _ (aqe _ _) hm1,?_⟩
   rename_i hx
   simp only[hx]
   exact o8 (fun s r=>hm _ _ _ _ (apR _ _)) (aoa _) hm2
  ·rename_i hx
   refine⟨m1,x,hm1,?_⟩
   split
   ·rename_i oK;exact absurd oK hx
   ·exact h2
theorem pP{n:Nat} : ∀ {c:aY} {s:AS} {r:bP × AS},jg A.aZ (aD A) n c s=some r->∃ m,jg A.aZ (AT A m) n c s=some r
 | .skip,_,_,he=>⟨0,he⟩
 | .exit _,_,_,he=>⟨0,he⟩
 | .ret,_,_,he=>⟨0,he⟩
 | .vn _ _ _,_,_,he=>by simp[jg] at he
 | .region d os,s,r,he=>by
  simp only[jg,an0] at he ⊢
  obtain⟨x,h1,h2⟩:=he
  obtain⟨m,hm⟩:=AW h1
  exact⟨m,x,hm,h2⟩
 | .seq a b,s,r,he=>by
  simp only[jg,an1] at he ⊢
  obtain⟨x,h1,h2⟩:=he
  obtain⟨m1,hm1⟩:=pP h1
  split at h2
  ·rename_i hx
   obtain⟨m2,hm2⟩:=pP h2
   refine⟨max m1 m2,x,jC (mf (aqe _ _)) (aoa _) hm1,?_⟩
   simp only[hx]
   exact jC (mf (apR _ _)) (aoa _) hm2
  ·rename_i hx
   refine⟨m1,x,hm1,?_⟩
   split
   ·rename_i oK;exact absurd oK hx
   ·exact h2
 | .cond c a b,s,r,he=>by
  simp only[jg] at he ⊢
  split at he
  ·rename_i t ht
   cases t
   ·exact pP (c:=b) he
   ·exact pP (c:=a) he
  ·cases he
 | .block id a,s,r,he=>by
  simp only[jg,an0] at he ⊢
  obtain⟨x,h1,h2⟩:=he
  obtain⟨m,hm⟩:=pP h1
  exact⟨m,x,hm,h2⟩
 | .loop a,s,r,he=>by
  simp only[jg] at he ⊢
  exact GA (F':=fun m=>jg A.aZ (AT A m) n a) (fun n' m s r hn h=>jC (mf hn) (aoa _) h) (fun s r h=>pP h) he
theorem Sj{n:Nat}{fn:aJ}{args:List AV}{H:ah}{r:AV × Option gJ}(he:vU A.aZ (aD A) n fn args H=some r):∃ m,vU A.aZ (AT A m) n fn args H=some r:=by
 unfold vU at he ⊢
 cases hb:Nat.beq args.length fn.np with
 | false=>rw[hb] at he;cases he
 | true =>
  rw[hb] at he
  simp only[cond_true,an1] at he ⊢
  obtain⟨x,h1,h2⟩:=he
  obtain⟨m,hm⟩:=pP h1
  exact⟨m,x,hm,h2⟩
theorem vt{f:FuncId}{fn:aJ}(ho:A.ov f=none)(hf:A.fns f=some fn){n:Nat}{args:List AV}{H:ah}{r:AV × Option gJ}(h:vU A.aZ (aD A) n fn args H=some r):aD A f args H=some r:=by
 obtain⟨m,hm⟩:=Sj h
 refine nf.2 ⟨max m n+1,?_⟩
 simp only[AT,ho,hf]
 exact BA (mf (aqe _ _)) (apR _ _) hm
theorem ng{f:FuncId}{g:List AV->ah->Option (AV × Option gJ)}(ho:A.ov f=some g){args:List AV}{H:ah}{r:AV × Option gJ}(h:g args H=some r)(hn:args.all uP=true:=by rfl):aD A f args H=some r :=
 nf.2 ⟨1,by simp only[AT,ho,hn,cond_true];exact h⟩
end
end
end Go.Abs
