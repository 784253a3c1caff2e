/-
  A part of the proof of PrintScans: AbsIrSa, AbsIrS, AbsProgS, AbsLaidS.
-/
import Derived.Test.YtocbgffdpfiidaaGreatDoorProg
import Derived.KernelRfl
import Derived.Lib.AtoiAll
import Derived.Lib.ItoaNum
import Derived.Shelf.Strconv.AtoiAll
import Derived.Shelf.Strconv.Itoa3
import Derived.Shelf.Small.Strs
import Derived.Shelf.Strings.Search1
import Derived.Ground.NamesProg
import Derived.Test.YtocbgffdpfiidaaGreatDoorChecked
import Derived.Test.YtocbgffdpfiidaaGreatDoorP06
set_option linter.unusedSimpArgs false
set_option linter.unusedVariables false
set_option linter.defProp false
set_option maxRecDepth 100000
namespace Go.Proofs.YtocbgffdpfiidaaGreatDoor
open Go Go.Abs Go.Proofs
abbrev aT(n:Nat):ak:=.tmp n
abbrev aI(n:Int):ak:=.bC (.int .i64 n)
abbrev aS(s:List UInt8):ak:=.bC (.str s)
abbrev Dq:ak:=.bC (.bool true)
abbrev jz:ak:=.bC (.bool false)
abbrev oO(d:Nat)(x:dR):az:=⟨some d,none,x⟩
abbrev oN(x:dR):az:=⟨none,none,x⟩
abbrev bK(d g:Nat)(x:dR):az:=⟨some d,some (g,true),x⟩
abbrev bF(d g:Nat)(x:dR):az:=⟨some d,some (g,false),x⟩
abbrev uA(g:Nat)(x:dR):az:=⟨none,some (g,true),x⟩
abbrev oHf(g:Nat)(x:dR):az:=⟨none,some (g,false),x⟩
abbrev cx(i:Nat):dR:=.mov false false (.tmp i)
abbrev jO(i:Nat):dR:=.mov true false (.tmp i)
abbrev bL(k i:Nat):dR:=.load false false k (.tmp i)
abbrev qv(k i:Nat):dR:=.load false true k (.tmp i)
abbrev iR(k i:Nat):dR:=.fieldAddr k (.tmp i)
abbrev cj(b:BinOp)(x y:ak):dR:=.bin b .other x y
abbrev gD(f:Nat)(l:List ak):dR:=.call (.fn f) l
abbrev n9(i:Nat):dR:=.len .sl (.tmp i)
abbrev wR(i:Nat):dR:=.Ds .heap (.tmp i)
abbrev gX(k:Nat)(z:List (List AV))(l:List (Nat × ak)):dR:=.mkslice false k z l
abbrev aY(d f i:Nat):az:=⟨some d,none,.call (.fn f) [.tmp i]⟩
abbrev df(d f i j:Nat):az:=⟨some d,none,.call (.fn f) [.tmp i,.tmp j]⟩
abbrev z8(d f i j k:Nat):az:=⟨some d,none,.call (.fn f) [.tmp i,.tmp j,.tmp k]⟩
abbrev adT(d f i j k l:Nat):az:=⟨some d,none,.call (.fn f) [.tmp i,.tmp j,.tmp k,.tmp l]⟩
abbrev bz(d:Nat)(b:BinOp)(i j:Nat):az:=⟨some d,none,.bin b .other (.tmp i) (.tmp j)⟩
abbrev al(d:Nat)(b:BinOp)(i:Nat)(n:Int):az:=⟨some d,none,.bin b .other (.tmp i) (.bC (.int .i64 n))⟩
abbrev fl(d k i j:Nat):az:=⟨some d,none,.ixSl k (.tmp i) (.tmp j)⟩
abbrev bQ(d:Nat)(k:jZ)(i:Nat):az:=⟨some d,none,.len k (.tmp i)⟩
abbrev kW(d i j:Nat):az:=⟨some d,none,.pick (.tmp i) (.bC (.bool true)) (.tmp j)⟩
abbrev iu(d i j:Nat):az:=⟨some d,none,.pick (.tmp i) (.tmp j) (.bC (.bool false))⟩
abbrev cw(d k t i j:Nat):az:=⟨some d,none,.append false false k t (.tmp i) (.tmp j)⟩
abbrev af(d i:Nat):az:=⟨some d,none,.mov false false (.tmp i)⟩
abbrev ae(d i:Nat):az:=⟨some d,none,.mov true false (.tmp i)⟩
abbrev aC(d:Nat)(x:ak):az:=⟨some d,none,.mov true false x⟩
abbrev b7(d:Nat)(x:ak):az:=⟨some d,none,.mov false false x⟩
abbrev aE(d k i:Nat):az:=⟨some d,none,.load false false k (.tmp i)⟩
abbrev ct(d k i:Nat):az:=⟨some d,none,.load false true k (.tmp i)⟩
abbrev dE(d k i:Nat):az:=⟨some d,none,.fieldAddr k (.tmp i)⟩
abbrev de(d f:Nat)(l:List ak):az:=⟨some d,none,.call (.fn f) l⟩
abbrev je(d:Nat)(b:BinOp)(x y:ak):az:=⟨some d,none,.bin b .other x y⟩
abbrev yt(d k:Nat)(x y:ak):az:=⟨some d,none,.ixSl k x y⟩
abbrev agX(d:Nat)(k:jZ)(x:ak):az:=⟨some d,none,.len k x⟩
abbrev ae6(d:Nat)(c x y:ak):az:=⟨some d,none,.pick c x y⟩
abbrev agW(d k t:Nat)(x y:ak):az:=⟨some d,none,.append false false k t x y⟩
abbrev St(d i:Nat):az:=⟨some d,none,.nilCheck (.tmp i)⟩
abbrev nG(d i k:Nat):az:=⟨some d,none,.extract (.tmp i) k⟩
abbrev ni(k i j:Nat):az:=⟨none,none,.store k (.tmp i) (.tmp j)⟩
abbrev iv(i:Nat):az:=⟨none,none,.Ds .heap (.tmp i)⟩
abbrev gm(k i:Nat):az:=⟨none,none,.Ds (.frame k) (.tmp i)⟩
abbrev cR(l:List az)(c:a7):a7:=.seq (.region false l) c
abbrev cu(i:Nat)(a b:a7):a7:=.cond (.tmp i) a b
noncomputable def bo(f:Func)(i:au):Option au:=pG Tryz.prog i.bR i.locals i.muts f
noncomputable def cL(t l m:List Nat)(f:Func):au:=(pG Tryz.prog t l m f).getD ⟨[],[],[],0,0,[],.skip⟩
def zR:au:=⟨[6,10,11,12,13,14,15,16,17,18,19,20,21,30,83,87,91,106,114,161,700007,700008,700009],[7,8,9],[],164,3,[.tmp 6],cR [aC 6 jz] (cR [af 22 0,aY 23 5 22,oO 7 (.allocL [.str [],.ay,.ay,.ay,.str []]),ni 5 7 23] (cR [af 24 1,aY 25 5 24,oO 8 (.allocL [.str [],.ay,.ay,.ay,.str []]),ni 5 8 25] (.seq (cR [dE 26 2 7,aE 27 1 26,bQ 28 .sl 27,al 29 .eql 28 0,ae 30 29,bF 31 30 (iR 2 8),bF 32 30 (bL 1 31),bF 33 30 (n9 32),bF 34 30 (cj .eql (aT 33) (aI 0)),kW 35 30 34] (cu 35 (cR [de 36 6 [],ae 6 36] .ret) .skip)) (cR [gm 7 7,dE 37 2 7,gm 7 37,aE 38 1 37,af 39 2,gm 7 7,dE 40 2 7,gm 7 40,aE 41 1 40,iv 41,bQ 42 .sl 41,df 43 7 39 42,iv 38,fl 44 14 38 43,iv 44,ct 45 14 44,oO 9 (.allocL [.int .i64 0,.str [],.ay,.str [],.ay,.int .i64 0,.int .i64 0,.str [],.str [],.str [],.ay,.ay,.ay,.ay]),gm 9 9,ni 14 9 45] (cR [ct 46 14 9,aY 47 8 46,ae 10 47] (cR [dE 48 13 9,aE 49 1 48,ae 11 49] (.seq (cR [af 50 11,bQ 51 .sl 50,al 52 .eql 51 0] (cu 52 (.region false [af 53 10,aY 54 9 53,ae 11 54]) .skip)) (cR [dE 55 2 8,aE 56 1 55,yt 57 14 (aT 56) (aI 0),ct 58 14 57,aY 59 8 58,ae 12 59] (cR [af 60 2,al 61 .quo 60 3,af 62 10,bQ 63 .sl 62,al 64 .add 63 1,df 65 7 61 64,ae 13 65] (cR [af 66 13,af 67 2,al 68 .quo 67 5,af 69 10,bQ 70 .sl 69,af 71 13,bz 72 .sub 70 71,al 73 .add 72 1,df 74 7 68 73,bz 75 .add 66 74,ae 14 75] (cR [af 76 2,al 77 .quo 76 7,af 78 12,bQ 79 .sl 78,oO 80 (.mm false (aT 79) (aI 4)),al 81 .add 80 1,df 82 7 77 81,ae 15 82] (cR [oO 83 (gX 1 [] []),af 84 10,af 85 13,oO 86 (.slice (.sl 1) (aT 84) none (some (aT 85)) none),cw 87 1 16 83 86,af 88 12,af 89 15,oO 90 (.slice (.sl 1) (aT 88) none (some (aT 89)) none),cw 91 1 16 87 90,af 92 10,af 93 14,oO 94 (.slice (.sl 1) (aT 92) (some (aT 93)) none none),cw 95 1 16 91 94,ae 16 95] (cR [af 96 11,af 97 10,af 98 16,z8 99 10 96 97 98,ae 17 99] (.seq (cR [af 100 17,bQ 101 .sl 100,af 102 16,bQ 103 .sl 102,al 104 .add 103 1,bz 105 .neq 101 104,ae 106 105,bF 107 106 (cx 10),bF 108 106 (cx 11),bF 109 106 (gD 12 [aT 107,aT 108]),bF 110 106 (cx 10),bF 111 106 (gD 11 [aT 109,aT 110]),bF 112 106 (.un .not (aT 111)),kW 113 106 112] (cu 113 (cR [aC 6 jz] .ret) .skip)) (cR [af 115 10,af 116 16,df 117 13 115 116,ae 114 117,nG 118 114 0,nG 119 114 1,ae 18 118,ae 19 119] (.seq (cR [aC 20 (aI 0)] (.block 0 (.loop (.seq (cR [af 120 20,af 121 18,bz 122 .lss 120 121] (cu 122 .skip (.exit 0))) (.seq (.block 1 (.seq (.region true [af 125 17,af 126 20,fl 127 1 125 126,aE 128 1 127,af 129 11,af 130 20,fl 131 1 129 130,aE 132 1 131,bz 133 .neq 128 132]) (cu 133 (cR [aC 6 jz] .ret) .skip))) (.region false [af 123 20,al 124 .add 123 1,ae 20 124])))))) (.seq (cR [aC 21 (aI 0)] (.block 2 (.loop (.seq (cR [af 134 21,af 135 19,bz 136 .lss 134 135] (cu 136 .skip (.exit 2))) (.seq (.block 3 (.seq (.region true [af 139 17,af 140 17,bQ 141 .sl 140,al 142 .sub 141 1,af 143 21,bz 144 .sub 142 143,fl 145 1 139 144,aE 146 1 145,af 147 11,af 148 11,bQ 149 .sl 148,al 150 .sub 149 1,af 151 21,bz 152 .sub 150 151,fl 153 1 147 152,aE 154 1 153,bz 155 .neq 146 154]) (cu 155 (cR [aC 6 jz] .ret) .skip))) (.region false [af 137 21,al 138 .add 137 1,ae 21 138])))))) (cR [af 156 16,af 157 17,df 158 12 156 157,af 159 16,df 160 11 158 159,ae 161 160,bK 162 161 (gD 6 []),iu 163 161 162,ae 6 163] .ret))))))))))))))))))⟩
theorem Wy:bo Tryz.f3 zR=some zR:=by kernel_rfl
noncomputable def ir4:au:=cL [6,8,9,10,11,12,13,14,15,16,17,18,54,67,75,86,90,121,136,140,700007] [7] [12,56] Tryz.f4
theorem WI:bo Tryz.f4 ir4=some ir4:=by kernel_rfl
def yd:au:=⟨[3,5,6,7,8,10,11,29,78,86,115],[2,4,9,12],[777777],128,1,[.cell 2 true 5],cR [oO 2 (.allocL [.str [],.slice [] true,.slice [] true,.slice [] true,.str []])] (cR [af 13 0,oO 14 (.build [.slice [] true,.int .i64 0] [(0,1,.tmp 13)]),oO 15 (.box 55 (aT 14)),ae 3 15] (cR [af 16 3,aY 17 18 16,oO 18 (.build [.str [],.slice [] true,.slice [] true,.slice [] true,.str []] [(0,1,.tmp 17)]),oO 4 (.allocL [.str [],.slice [] true,.slice [] true,.slice [] true,.str []]),ni 5 4 18] (cR [af 19 3,de 20 19 [aT 19,aI 2],al 21 .eql 20 1,ae 5 21] (.seq (cR [aC 6 (aI 0)] (.block 0 (.loop (.seq (cR [af 22 6,af 23 3,de 24 19 [aT 23,aI 3],bz 25 .lss 22 24] (cu 25 .skip (.exit 0))) (.seq (.block 1 (.region false [gm 4 4,dE 28 1 4,gm 4 28,oO 29 (.load true false 1 (aT 28)),af 30 3,aY 31 18 30,oO 32 (gX 1 [[.str []]] [(0,.tmp 31)]),cw 33 1 16 29 32,gm 4 4,dE 34 1 4,gm 4 34,ni 1 34 33])) (.region false [af 26 6,al 27 .add 26 1,ae 6 27])))))) (.seq (cR [af 35 5] (cu 35 (.region false [af 36 3,gm 4 4,dE 37 1 4,gm 4 37,aE 38 1 37,iv 38,bQ 39 .sl 38,je 40 .mul (aI 2) (aT 39),je 41 .add (aI 2) (aT 40),af 42 3,de 43 19 [aT 42,aI 1000],de 44 21 [aT 43,aI 0],z8 45 20 36 41 44,gm 4 4,dE 46 3 4,gm 4 46,ni 1 46 45]) .skip)) (cR [af 47 3,de 48 19 [aT 47,aI 4],ae 7 48] (.seq (cR [aC 8 (aI 0)] (.block 2 (.loop (.seq (cR [af 49 8,af 50 7,bz 51 .lss 49 50] (cu 51 .skip (.exit 2))) (.seq (.block 3 (cR [af 54 3,de 55 19 [aT 54,aI 6],af 56 3,aY 57 18 56,oO 58 (.build [.int .i64 0,.str [],.slice [] true,.str [],.slice [] true,.int .i64 0,.int .i64 0,.str [],.str [],.str [],.slice [] true,.slice [] true,.slice [] true,.slice [] true] [(0,1,.tmp 55),(1,1,.tmp 57)]),oO 9 (.allocL [.int .i64 0,.str [],.slice [] true,.str [],.slice [] true,.int .i64 0,.int .i64 0,.str [],.str [],.str [],.slice [] true,.slice [] true,.slice [] true,.slice [] true]),ni 14 9 58] (cR [af 59 3,de 60 19 [aT 59,aI 4],ae 10 60] (.seq (cR [aC 11 (aI 0)] (.block 4 (.loop (.seq (cR [af 61 11,af 62 10,bz 63 .lss 61 62] (cu 63 .skip (.exit 4))) (.seq (.block 5 (cR [af 66 3,aY 67 18 66,af 68 3,de 69 22 [aT 68,aI 2],oO 70 (.build [.str [],.str [],.slice [] true,.int .i64 0] [(0,1,.tmp 67),(1,2,.tmp 69)]),oO 12 (.allocL [.str [],.str [],.slice [] true,.int .i64 0]),ni 4 12 70] (.seq (cR [dE 71 0 9,aE 72 1 71,al 73 .eql 72 4] (cu 73 (.region false [af 74 3,de 75 19 [aT 74,aI 12],dE 76 3 12,ni 1 76 75]) .skip)) (.region false [dE 77 2 9,oO 78 (.load true false 1 (aT 77)),ct 79 4 12,oO 80 (gX 4 [[.str [],.str [],.slice [] false,.int .i64 0]] [(0,.tmp 79)]),cw 81 4 64 78 80,dE 82 2 9,ni 1 82 81])))) (.region false [af 64 11,al 65 .add 64 1,ae 11 65])))))) (.seq (cR [dE 83 0 9,aE 84 1 83,al 85 .neq 84 0,ae 86 85,bK 87 86 (iR 0 9),bK 88 86 (bL 1 87),bK 89 86 (cj .neq (aT 88) (aI 1)),iu 90 86 89] (cu 90 (cR [af 91 3,de 92 22 [aT 91,aI 2],dE 93 3 9,ni 2 93 92] (cR [af 94 3,de 95 23 [aT 94,aI 4],dE 96 5 9,ni 8 96 95] (cR [ct 97 14 9,aY 98 8 97,bQ 99 .sl 98,al 100 .gtr 99 120] (cu 100 (.region false [af 101 3,de 102 23 [aT 101,aI 0],dE 103 5 9,ni 8 103 102]) .skip)))) .skip)) (.seq (cR [af 104 5] (cu 104 (.region false [af 105 3,ct 106 14 9,aY 107 8 106,bQ 108 .sl 107,af 109 3,de 110 19 [aT 109,aI 1000],de 111 21 [aT 110,aI 0],z8 112 20 105 108 111,dE 113 13 9,ni 1 113 112]) .skip)) (.region false [dE 114 2 4,oO 115 (.load true false 1 (aT 114)),ct 116 14 9,oO 117 (gX 14 [[.int .i64 0,.str [],.slice [] false,.str [],.slice [] false,.int .i64 0,.int .i64 0,.str [],.str [],.str [],.slice [] false,.slice [] false,.slice [] false,.slice [] false]] [(0,.tmp 116)]),cw 118 14 248 115 117,dE 119 2 4,ni 1 119 118]))))))) (.region false [af 52 8,al 53 .add 52 1,ae 8 53])))))) (.seq (cR [af 120 5] (cu 120 (.region false [oO 121 (gX 1 [[.str []],[.str []],[.str []],[.str []]] [(0,.bC (.str [])),(1,.bC (.str [32])),(2,.bC (.str [35,32,101,110,100])),(3,.bC (.str [10,10]))]),af 122 3,de 123 19 [aT 122,aI 4],fl 124 1 121 123,aE 125 1 124,dE 126 4 4,ni 1 126 125]) .skip)) (cR [ct 127 5 4,ni 5 2 127] .ret)))))))))⟩
theorem WS:bo Tryz.f5 yd=some yd:=by kernel_rfl
noncomputable def ir6:au:=cL [0,1,2,3,4,6,18,24,30,45,50,55,700005,700007,700008] [5,7,8,999999] [2,10] Tryz.f6
theorem WU:bo Tryz.f6 ir6=some ir6:=by kernel_rfl
def ir7:au:=⟨[0,4],[],[],13,2,[.tmp 4],cR [aC 4 (aI 0)] (.seq (cR [af 5 0,al 6 .lss 5 0] (cu 6 (.region false [af 7 0,al 8 .add 7 1,oO 9 (.un .neg (aT 8)),ae 0 9]) .skip)) (cR [af 10 0,af 11 1,bz 12 .rem 10 11,ae 4 12] .ret))⟩
theorem W6:bo Tryz.f7 ir7=some ir7:=by kernel_rfl
def ir8:au:=⟨[2,3,4,25,28,36,48,58,64,70,74,77],[1],[],82,1,[.tmp 2],cR [oO 1 (.boxL (aT 0)),aC 2 (.bC (.slice [] true))] (.seq (cR [ct 5 14 1,aY 6 30 5,oO 7 (.un .not (aT 6))] (cu 7 (cR [aC 2 (.bC (.slice [] true))] .ret) .skip)) (cR [oO 8 (gX 1 [[.str []],[.str []],[.str []],[.str []],[.str []],[.str []]] [(0,.bC (.str [114,101,99])),(1,.bC (.str [99,97,115,101])),(2,.bC (.str [102,117,110])),(3,.bC (.str [111,110])),(4,.bC (.str [116,101,115,116])),(5,.bC (.str [99,111,110,118]))]),gm 1 1,dE 9 0 1,gm 1 9,aE 10 1 9,iv 8,fl 11 1 8 10,iv 11,aE 12 1 11,gm 1 1,dE 13 1 1,gm 1 13,aE 14 1 13,oO 15 (gX 1 [[.str []],[.str []],[.str []]] [(0,.tmp 12),(1,.tmp 14),(2,.bC (.str [40]))]),ae 3 15] (.seq (cR [aC 4 (aI 0)] (.block 0 (.loop (.seq (cR [af 16 4,dE 17 2 1,aE 18 1 17,bQ 19 .sl 18,bz 20 .lss 16 19] (cu 20 .skip (.exit 0))) (.seq (.block 1 (.seq (cR [af 23 4,al 24 .gtr 23 0] (cu 24 (.region false [ae 25 3,oO 26 (gX 1 [[.str []]] [(0,.bC (.str [44]))]),cw 27 1 16 25 26,ae 3 27]) .skip)) (cR [ae 28 3,gm 1 1,dE 29 2 1,gm 1 29,aE 30 1 29,af 31 4,iv 30,fl 32 4 30 31,iv 32,dE 33 0 32,iv 33,aE 34 1 33,oO 35 (gX 1 [[.str []]] [(0,.tmp 34)]),cw 36 1 16 28 35,gm 1 1,dE 37 2 1,gm 1 37,aE 38 1 37,af 39 4,iv 38,fl 40 4 38 39,iv 40,dE 41 1 40,iv 41,ct 42 2 41,aY 43 31 42,cw 44 1 16 36 43,ae 3 44] (cR [dE 45 0 1,aE 46 1 45,al 47 .eql 46 4] (cu 47 (.region false [ae 48 3,dE 49 2 1,aE 50 1 49,af 51 4,fl 52 4 50 51,dE 53 3 52,aE 54 1 53,aY 55 32 54,oO 56 (gX 1 [[.str []]] [(0,.tmp 55)]),cw 57 1 16 48 56,ae 3 57]) .skip))))) (.region false [af 21 4,al 22 .add 21 1,ae 4 22])))))) (cR [ae 58 3,oO 59 (gX 1 [[.str []]] [(0,.bC (.str [41]))]),cw 60 1 16 58 59,ae 3 60] (.seq (cR [dE 61 0 1,aE 62 1 61,al 63 .eql 62 0,ae 64 63,bF 65 64 (iR 0 1),bF 66 64 (bL 1 65),bF 67 64 (cj .eql (aT 66) (aI 1)),kW 68 64 67] (cu 68 (cR [af 69 3,ae 2 69] .ret) .skip)) (cR [ae 70 3,dE 71 3 1,ct 72 2 71,aY 73 31 72,cw 74 1 16 70 73,oO 75 (gX 1 [[.str []]] [(0,.bC (.str [61]))]),cw 76 1 16 74 75,ae 3 76] (cR [ae 77 3,dE 78 5 1,ct 79 8 78,aY 80 33 79,cw 81 1 16 77 80,ae 2 81] .ret)))))))⟩
theorem Xf:bo Tryz.f8 ir8=some ir8:=by kernel_rfl
def ir9:au:=⟨[2,3],[],[3,5],12,1,[.tmp 2],cR [aC 2 (.bC (.slice [] true))] (cR [af 4 0,aY 5 15 4,oO 3 (.mov true true (aT 5))] (cR [af 6 3,af 7 3,bQ 8 .sl 7,al 9 .sub 8 1,fl 10 1 6 9,oN (.store 1 (aT 10) (aS [10]))] (cR [af 11 3,ae 2 11] .ret)))⟩
theorem Xg:bo Tryz.f9 ir9=some ir9:=by kernel_rfl
def FZ:au:=⟨[6,7,8,9,10,11,12,27,45,86],[999999],[10,67],108,3,[.tmp 6],cR [aC 6 (.bC (.slice [] true))] (.seq (cR [af 13 0,bQ 14 .sl 13,af 15 1,bQ 16 .sl 15,al 17 .add 16 1,bz 18 .neq 14 17] (cu 18 (cR [aC 6 (.bC (.slice [] true))] .ret) .skip)) (cR [af 19 1,bQ 20 .sl 19,af 21 2,bQ 22 .sl 21,oO 23 (.mm false (aT 20) (aT 22)),ae 7 23] (cR [aC 8 (aI 0)] (.seq (.block 0 (.loop (.seq (cR [af 24 8,af 25 7,bz 26 .lss 24 25,ae 27 26,bK 28 27 (cx 1),bK 29 27 (cx 8),uA 27 (wR 28),bK 30 27 (.ixSl 1 (aT 28) (aT 29)),uA 27 (wR 30),bK 31 27 (bL 1 30),bK 32 27 (cx 2),bK 33 27 (cx 8),uA 27 (wR 32),bK 34 27 (.ixSl 1 (aT 32) (aT 33)),uA 27 (wR 34),bK 35 27 (bL 1 34),bK 36 27 (cj .eql (aT 31) (aT 35)),iu 37 27 36] (cu 37 .skip (.exit 0))) (.block 1 (.region false [af 38 8,al 39 .add 38 1,ae 8 39]))))) (cR [aC 9 (aI 0)] (.seq (.block 2 (.loop (.seq (cR [af 40 9,af 41 7,af 42 8,bz 43 .sub 41 42,bz 44 .lss 40 43,ae 45 44,bK 46 45 (cx 1),bK 47 45 (cx 1),uA 45 (wR 47),bK 48 45 (n9 47),bK 49 45 (cj .sub (aT 48) (aI 1)),bK 50 45 (cx 9),bK 51 45 (cj .sub (aT 49) (aT 50)),uA 45 (wR 46),bK 52 45 (.ixSl 1 (aT 46) (aT 51)),uA 45 (wR 52),bK 53 45 (bL 1 52),bK 54 45 (cx 2),bK 55 45 (cx 2),uA 45 (wR 55),bK 56 45 (n9 55),bK 57 45 (cj .sub (aT 56) (aI 1)),bK 58 45 (cx 9),bK 59 45 (cj .sub (aT 57) (aT 58)),uA 45 (wR 54),bK 60 45 (.ixSl 1 (aT 54) (aT 59)),uA 45 (wR 60),bK 61 45 (bL 1 60),bK 62 45 (cj .eql (aT 53) (aT 61)),iu 63 45 62] (cu 63 .skip (.exit 2))) (.block 3 (.region false [af 64 9,al 65 .add 64 1,ae 9 65]))))) (cR [af 66 2,aY 67 34 66,oO 10 (.mov true true (aT 67))] (cR [af 68 10,af 69 0,af 70 8,oO 71 (.slice (.sl 1) (aT 69) none (some (aT 70)) none),oO 72 (.copyO (aT 68) (aT 71))] (cR [af 73 2,bQ 74 .sl 73,af 75 9,bz 76 .sub 74 75,ae 11 76] (.seq (cR [af 77 0,af 78 1,bQ 79 .sl 78,af 80 9,bz 81 .sub 79 80,fl 82 1 77 81,aE 83 1 82,ae 12 83] (cR [af 84 12,je 85 .neq (aT 84) (aS []),ae 86 85,bK 87 86 (cx 8),bK 88 86 (cx 11),bK 89 86 (cj .leq (aT 87) (aT 88)),iu 90 86 89] (cu 90 (.region false [af 91 10,af 92 11,af 93 12,fl 94 1 91 92,ni 1 94 93]) .skip))) (cR [af 95 10,af 96 11,al 97 .add 96 1,oO 98 (.slice (.sl 1) (aT 95) (some (aT 97)) none none),af 99 0,af 100 1,iv 100,bQ 101 .sl 100,af 102 9,bz 103 .sub 101 102,al 104 .add 103 1,oO 105 (.slice (.sl 1) (aT 99) (some (aT 104)) none none),oO 106 (.copyO (aT 98) (aT 105))] (cR [af 107 10,ae 6 107] .ret))))))))))))⟩
theorem QC:bo Tryz.f10 FZ=some FZ:=by kernel_rfl
def Me:au:=⟨[5,6,7,8,9,17],[],[],40,2,[.tmp 4],cR [b7 4 jz] (cR [af 10 0,aY 11 16 10,ae 9 11,nG 12 9 0,nG 13 9 1,nG 14 9 2,ae 5 12,ae 6 13,ae 7 14] (.seq (cR [af 15 7,al 16 .neq 15 (-1),ae 17 16,bF 18 17 (cx 5),bF 19 17 (n9 18),bF 20 17 (cx 1),bF 21 17 (n9 20),bF 22 17 (cj .neq (aT 19) (aT 21)),kW 23 17 22] (cu 23 (cR [b7 4 jz] .ret) .skip)) (.seq (cR [aC 8 (aI 0)] (.block 0 (.loop (.seq (cR [af 24 8,af 25 5,bQ 26 .sl 25,bz 27 .lss 24 26] (cu 27 .skip (.exit 0))) (.seq (.block 1 (.seq (.region true [af 30 5,af 31 8,fl 32 2 30 31,dE 33 0 32,aE 34 1 33,af 35 1,af 36 8,fl 37 1 35 36,aE 38 1 37,bz 39 .neq 34 38]) (cu 39 (cR [b7 4 jz] .ret) .skip))) (.region false [af 28 8,al 29 .add 28 1,ae 8 29])))))) (cR [b7 4 Dq] .ret))))⟩
theorem QD:bo Tryz.f11 Me=some Me:=by kernel_rfl
def F0:au:=⟨[1,4,5,6],[],[],37,2,[.tmp 4],cR [aC 4 (aS [])] (.seq (cR [af 7 1,bQ 8 .sl 7,af 9 0,bQ 10 .sl 9,al 11 .add 10 1,bz 12 .neq 8 11] (cu 12 (.region false [af 13 0,aY 14 9 13,ae 1 14]) .skip)) (cR [af 15 1,yt 16 1 (aT 15) (aI 0),aE 17 1 16,ae 5 17] (.seq (cR [aC 6 (aI 0)] (.block 0 (.loop (.seq (cR [af 18 6,af 19 0,bQ 20 .sl 19,bz 21 .lss 18 20] (cu 21 .skip (.exit 0))) (.seq (.block 1 (.region false [af 24 5,af 25 0,af 26 6,iv 25,fl 27 1 25 26,iv 27,aE 28 1 27,bz 29 .add 24 28,af 30 1,af 31 6,al 32 .add 31 1,iv 30,fl 33 1 30 32,iv 33,aE 34 1 33,bz 35 .add 29 34,ae 5 35])) (.region false [af 22 6,al 23 .add 22 1,ae 6 23])))))) (cR [af 36 5,ae 4 36] .ret))))⟩
theorem QE:bo Tryz.f12 F0=some F0:=by kernel_rfl
def MM:au:=⟨[4,5,6,7,12,18,37,45],[],[],68,2,[.tmp 4,.tmp 5],cR [aC 4 (aI 0),aC 5 (aI 0)] (cR [aC 6 (aI 0)] (.seq (.block 0 (.loop (.seq (cR [af 8 6,af 9 0,iv 9,bQ 10 .sl 9,bz 11 .lss 8 10,ae 12 11,bK 13 12 (cx 6),bK 14 12 (cx 1),uA 12 (wR 14),bK 15 12 (n9 14),bK 16 12 (cj .lss (aT 13) (aT 15)),iu 17 12 16,ae 18 17,bK 19 18 (cx 0),bK 20 18 (cx 6),uA 18 (wR 19),bK 21 18 (.ixSl 1 (aT 19) (aT 20)),uA 18 (wR 21),bK 22 18 (bL 1 21),bK 23 18 (cx 1),bK 24 18 (cx 6),uA 18 (wR 23),bK 25 18 (.ixSl 1 (aT 23) (aT 24)),uA 18 (wR 25),bK 26 18 (bL 1 25),bK 27 18 (cj .eql (aT 22) (aT 26)),iu 28 18 27] (cu 28 .skip (.exit 0))) (.block 1 (.region false [af 29 6,al 30 .add 29 1,ae 6 30]))))) (cR [aC 7 (aI 0)] (.seq (.block 2 (.loop (.seq (cR [af 31 7,af 32 0,iv 32,bQ 33 .sl 32,af 34 6,bz 35 .sub 33 34,bz 36 .lss 31 35,ae 37 36,bK 38 37 (cx 7),bK 39 37 (cx 1),uA 37 (wR 39),bK 40 37 (n9 39),bK 41 37 (cx 6),bK 42 37 (cj .sub (aT 40) (aT 41)),bK 43 37 (cj .lss (aT 38) (aT 42)),iu 44 37 43,ae 45 44,bK 46 45 (cx 0),bK 47 45 (cx 0),uA 45 (wR 47),bK 48 45 (n9 47),bK 49 45 (cj .sub (aT 48) (aI 1)),bK 50 45 (cx 7),bK 51 45 (cj .sub (aT 49) (aT 50)),uA 45 (wR 46),bK 52 45 (.ixSl 1 (aT 46) (aT 51)),uA 45 (wR 52),bK 53 45 (bL 1 52),bK 54 45 (cx 1),bK 55 45 (cx 1),uA 45 (wR 55),bK 56 45 (n9 55),bK 57 45 (cj .sub (aT 56) (aI 1)),bK 58 45 (cx 7),bK 59 45 (cj .sub (aT 57) (aT 58)),uA 45 (wR 54),bK 60 45 (.ixSl 1 (aT 54) (aT 59)),uA 45 (wR 60),bK 61 45 (bL 1 60),bK 62 45 (cj .eql (aT 53) (aT 61)),iu 63 45 62] (cu 63 .skip (.exit 2))) (.block 3 (.region false [af 64 7,al 65 .add 64 1,ae 7 65]))))) (cR [af 66 6,af 67 7,ae 4 66,ae 5 67] .ret)))))⟩
theorem QF:bo Tryz.f13 MM=some MM:=by kernel_rfl
noncomputable def Wq:au:=cL [2,3,4,5,12,23] [] [] Tryz.f14
theorem QG:bo Tryz.f14 Wq=some Wq:=by kernel_rfl
def M6:au:=⟨[2,3,4,6,23,27,31,40,47,54,61,65],[7,64],[888888],66,1,[.tmp 2],cR [aC 2 (.bC (.slice [] true))] (cR [oO 7 (.lO 1 [[.str []]] [(0,.bC (.str []))]),ae 3 7] (.seq (cR [aC 4 (aI 1)] (.block 0 (.loop (.seq (cR [af 8 4,af 9 0,bQ 10 .sl 9,bz 11 .leq 8 10] (cu 11 .skip (.exit 0))) (.seq (.block 1 (cR [b7 5 (aS [32])] (cR [af 14 0,af 15 4,al 16 .sub 15 1,fl 17 1 14 16,aE 18 1 17,ae 6 18] (.seq (cR [af 19 4,af 20 0,bQ 21 .sl 20,bz 22 .eql 19 21,ae 23 22,bF 24 23 (cx 6),bF 25 23 (cj .eql (aT 24) (aS [40])),kW 26 23 25,ae 27 26,bF 28 27 (cx 6),bF 29 27 (cj .eql (aT 28) (aS [91])),kW 30 27 29,ae 31 30,bF 32 31 (cx 6),bF 33 31 (cj .eql (aT 32) (aS [46])),kW 34 31 33] (cu 34 (.region false [b7 5 (aS [])]) (cR [af 35 0,af 36 4,fl 37 1 35 36,aE 38 1 37,je 39 .eql (aT 38) (aS [41]),ae 40 39,bF 41 40 (cx 0),bF 42 40 (cx 4),bF 43 40 (.ixSl 1 (aT 41) (aT 42)),bF 44 40 (bL 1 43),bF 45 40 (cj .eql (aT 44) (aS [93])),kW 46 40 45,ae 47 46,bF 48 47 (cx 0),bF 49 47 (cx 4),bF 50 47 (.ixSl 1 (aT 48) (aT 49)),bF 51 47 (bL 1 50),bF 52 47 (cj .eql (aT 51) (aS [44])),kW 53 47 52,ae 54 53,bF 55 54 (cx 0),bF 56 54 (cx 4),bF 57 54 (.ixSl 1 (aT 55) (aT 56)),bF 58 54 (bL 1 57),bF 59 54 (cj .eql (aT 58) (aS [46])),kW 60 54 59] (cu 60 (.region false [b7 5 (aS [])]) .skip)))) (.region false [ae 61 3,af 62 5,oO 63 (gX 1 [[.str []]] [(0,.tmp 62)]),oO 64 (.appendO 1 16 (aT 61) (aT 63)),ae 3 64]))))) (.region false [af 12 4,al 13 .add 12 1,ae 4 13])))))) (cR [ae 65 3,ae 2 65] .ret)))⟩
theorem QH:bo Tryz.f15 M6=some M6:=by kernel_rfl
def Nc:au:=⟨[2,3,4,5,6,7,8,9,38,46],[999999],[],53,1,[.tmp 2,.tmp 3,.tmp 4],cR [aC 2 (.bC (.slice [] true)),aC 3 (aS []),aC 4 (aI 0)] (.seq (cR [af 10 0,bQ 11 .str 10,al 12 .gtr 11 8192] (cu 12 (cR [aC 2 (.bC (.slice [] true)),aC 3 (aS []),aC 4 (aI 8192)] .ret) .skip)) (cR [aC 5 (.bC (.slice [] true))] (cR [aC 6 (aI 0)] (.seq .skip (.block 0 (.loop (.block 1 (cR [af 13 0,af 14 6,oO 15 (.slice .str (aT 13) (some (aT 14)) none none),aY 16 35 15,ae 7 16] (cR [af 17 0,af 18 6,af 19 6,af 20 7,bz 21 .add 19 20,oO 22 (.slice .str (aT 17) (some (aT 18)) (some (aT 21)) none),ae 8 22] (cR [af 23 6,af 24 7,bz 25 .add 23 24,ae 6 25] (.seq (cR [af 26 6,af 27 0,bQ 28 .str 27,bz 29 .eql 26 28] (cu 29 (cR [af 30 5,af 31 8,ae 2 30,ae 3 31,aC 4 (aI (-1))] .ret) .skip)) (.seq (cR [af 32 0,af 33 6,oO 34 (.slice .str (aT 32) (some (aT 33)) none none),aY 35 36 34,ae 9 35] (cR [af 36 9,al 37 .gtr 36 0] (cu 37 (cR [ae 38 5,af 39 0,af 40 6,af 41 6,af 42 9,bz 43 .add 41 42,oO 44 (.slice .str (aT 39) (some (aT 40)) (some (aT 43)) none),af 45 8,oO 46 (.build [.str [],.str []] [(0,1,.tmp 44),(1,1,.tmp 45)]),oO 47 (gX 2 [[.str [],.str []]] [(0,.tmp 46)]),cw 48 2 32 38 47,ae 5 48] (cR [af 49 6,af 50 9,bz 51 .add 49 50,ae 6 51] (.exit 1))) .skip))) (cR [af 52 6,aC 2 (.bC (.slice [] true)),aC 3 (aS []),ae 4 52] .ret)))))))))))))⟩
theorem QI:bo Tryz.f16 Nc=some Nc:=by kernel_rfl
noncomputable def Wr:au:=cL [4,10,700005,700007] [7,999999] [] Tryz.f17
theorem QJ:bo Tryz.f17 Wr=some Wr:=by kernel_rfl
def Ng:au:=⟨[2],[],[777777],8,1,[.tmp 2],cR [aC 2 (aS [])] (cR [oO 3 (gX 1 [[.str []],[.str []],[.str []],[.str []],[.str []],[.str []],[.str []],[.str []]] [(0,.bC (.str [97])),(1,.bC (.str [98])),(2,.bC (.str [102])),(3,.bC (.str [80,111,105,110,116])),(4,.bC (.str [83,104,97,112,101])),(5,.bC (.str [120,49])),(6,.bC (.str [99,111,114,101])),(7,.bC (.str [117]))]),af 4 0,de 5 19 [aT 4,aI 8],fl 6 1 3 5,aE 7 1 6,ae 2 7] .ret)⟩
theorem QK:bo Tryz.f18 Ng=some Ng:=by kernel_rfl
def Nj:au:=⟨[4],[],[777777],23,2,[.tmp 4],cR [aC 4 (aI 0)] (cR [af 5 0,St 6 5,dE 7 1 6,aE 8 1 7,al 9 .add 8 1,St 10 5,dE 11 1 10,ni 1 11 9] (cR [af 12 0,iv 12,St 13 12,iv 13,dE 14 0 13,iv 14,aE 15 1 14,af 16 0,iv 16,St 17 16,iv 17,dE 18 1 17,iv 18,aE 19 1 18,al 20 .sub 19 1,af 21 1,z8 22 39 15 20 21,ae 4 22] .ret))⟩
theorem QL:bo Tryz.f19 Nj=some Nj:=by kernel_rfl
def Nk:au:=⟨[6,7,8,16,22],[],[777777],30,3,[.tmp 6],cR [aC 6 (.bC (.slice [] true))] (cR [af 9 2,oO 10 (gX 1 [[.str []]] [(0,.tmp 9)]),ae 7 10] (.seq (cR [aC 8 (aI 1)] (.block 0 (.loop (.seq (cR [af 11 8,af 12 1,bz 13 .lss 11 12] (cu 13 .skip (.exit 0))) (.seq (.block 1 (.region false [ae 16 7,af 17 0,de 18 19 [aT 17,aI 1000],de 19 21 [aT 18,aI 1],oO 20 (gX 1 [[.str []]] [(0,.tmp 19)]),cw 21 1 16 16 20,ae 7 21])) (.region false [af 14 8,al 15 .add 14 1,ae 8 15])))))) (cR [ae 22 7,oO 23 (gX 1 [[.str []],[.str []],[.str []],[.str []]] [(0,.bC (.str [10])),(1,.bC (.str [32,10])),(2,.bC (.str [35,32,120,10])),(3,.bC (.str [32,32,35,32,121,32,40,10]))]),af 24 0,de 25 19 [aT 24,aI 4],fl 26 1 23 25,aE 27 1 26,oO 28 (gX 1 [[.str []]] [(0,.tmp 27)]),cw 29 1 16 22 28,ae 6 29] .ret)))⟩
theorem QM:bo Tryz.f20 Nk=some Nk:=by kernel_rfl
def Nl:au:=⟨[4,5,6,7,29],[],[],34,2,[.tmp 4],cR [aC 4 (aS [])] (cR [af 8 0,de 9 7 [aT 8,aI 1000000],ae 5 9] (cR [oO 10 (gX 1 [[.str []],[.str []],[.str []],[.str []],[.str []],[.str []],[.str []],[.str []]] [(0,.bC (.str [])),(1,.bC (.str [32])),(2,.bC (.str [10])),(3,.bC (.str [32,32])),(4,.bC (.str [35,32,97,32,40,98,10])),(5,.bC (.str [32,35,10,32])),(6,.bC (.str [10,10])),(7,.bC (.str [35,255,35,32,49,10]))]),ae 6 10] (cR [af 11 6,af 12 5,al 13 .rem 12 8,fl 14 1 11 13,aE 15 1 14,ae 7 15] (.seq (cR [af 16 5,al 17 .rem 16 3,al 18 .eql 17 0] (cu 18 (.region false [af 19 7,af 20 6,af 21 5,al 22 .quo 21 8,al 23 .rem 22 8,fl 24 1 20 23,aE 25 1 24,bz 26 .add 19 25,ae 7 26]) .skip)) (.seq (cR [af 27 7,je 28 .eql (aT 27) (aS []),ae 29 28,bK 30 29 (cx 1),bK 31 29 (cj .neq (aT 30) (aI 0)),iu 32 29 31] (cu 32 (cR [aC 4 (aS [32])] .ret) .skip)) (cR [af 33 7,ae 4 33] .ret))))))⟩
theorem QN:bo Tryz.f21 Nl=some Nl:=by kernel_rfl
def oI:au:=⟨[5,18,10,15,27,28,700004],[4],[777777],29,2,[.cell 4 true 2],cR [oO 4 (.allocL [.str [],.ay])] (cR [af 6 0,de 7 19 [aT 6,aI 5],ae 5 7] (.seq (cR [af 8 5,al 9 .eql 8 1] (cu 9 (cR [oO 10 (.build [.str [],.ay] [(0,1,.bC (.str [66,111,111,108]))]),ni 2 4 10] .ret) .skip)) (.seq (cR [af 11 5,al 12 .eql 11 2] (cu 12 (cR [af 13 0,aY 14 40 13,oO 15 (.build [.str [],.ay] [(0,1,.tmp 14)]),ni 2 4 15] .ret) .skip)) (.seq (cR [af 16 5,al 17 .eql 16 3,ae 18 17,bK 19 18 (cx 1),bK 20 18 (cj .gtr (aT 19) (aI 0)),iu 21 18 20] (cu 21 (cR [af 22 0,af 23 1,al 24 .sub 23 1,df 25 22 22 24,oO 26 (gX 2 [[.str [],.slice [] false]] [(0,.tmp 25)]),oO 27 (.build [.str [],.ay] [(0,1,.bC (.str [76,105,115,116])),(1,1,.tmp 26)]),ni 2 4 27] .ret) .skip)) (cR [oO 28 (.build [.str [],.ay] [(0,1,.bC (.str [73,110,116]))]),ni 2 4 28] .ret)))))⟩
theorem QO:bo Tryz.f22 oI=some oI:=by kernel_rfl
def cT:au:=⟨[5,6,7,8,9,10,11,12,20,26,34,39,48,64,79,100,112,122,134,146,156,168,180,189,25,33,38,47,63,78,99,121,133,145,179,188,201,219,222,700004],[4],[777777],223,2,[.cell 4 true 8],cR [oO 4 (.allocL [.int .i64 0,.int .i64 0,.str [],.str [],.str [],.ay,.ay,.ay])] (cR [af 13 0,de 14 19 [aT 13,aI 24],ae 5 14] (.seq (cR [af 15 1,al 16 .leq 15 0] (cu 16 (.region false [af 17 5,al 18 .rem 17 5,ae 5 18]) .skip)) (.seq (cR [af 19 5] (.block 0 (cR [al 21 .eql 19 0,ae 20 21] (cu 20 (cR [af 22 0,de 23 19 [aT 22,aI 30],al 24 .sub 23 9,oO 25 (.build [.int .i64 0,.int .i64 0,.str [],.str [],.str [],.ay,.ay,.ay] [(0,1,.bC (.int .i64 0)),(1,1,.tmp 24)]),ni 8 4 25] .ret) (cR [al 27 .eql 19 1,ae 26 27] (cu 26 (cR [oO 28 (gX 1 [[.int .i64 0],[.int .i64 0],[.int .i64 0],[.int .i64 0]] [(0,.bC (.int .i64 0)),(1,.bC (.int .i64 1099511627776)),(2,.bC (.int .i64 (-1099511627776))),(3,.bC (.int .i64 10))]),af 29 0,de 30 19 [aT 29,aI 4],fl 31 1 28 30,aE 32 1 31,oO 33 (.build [.int .i64 0,.int .i64 0,.str [],.str [],.str [],.ay,.ay,.ay] [(0,1,.bC (.int .i64 0)),(1,1,.tmp 32)]),ni 8 4 33] .ret) (cR [al 35 .eql 19 2,ae 34 35] (cu 34 (cR [af 36 0,de 37 19 [aT 36,aI 2],oO 38 (.build [.int .i64 0,.int .i64 0,.str [],.str [],.str [],.ay,.ay,.ay] [(0,1,.bC (.int .i64 1)),(1,1,.tmp 37)]),ni 8 4 38] .ret) (cR [al 40 .eql 19 5,ae 39 40] (cu 39 (cR [af 41 0,aY 42 40 41,af 43 0,af 44 1,al 45 .sub 44 1,de 46 41 [aT 43,aT 45,aI 3],oO 47 (.build [.int .i64 0,.int .i64 0,.str [],.str [],.str [],.ay,.ay,.ay] [(0,1,.bC (.int .i64 3)),(2,1,.tmp 42),(6,1,.tmp 46)]),ni 8 4 47] .ret) (cR [al 49 .eql 19 6,ae 48 49] (cu 48 (cR [af 50 0,af 51 1,al 52 .sub 51 1,df 53 23 50 52,af 54 0,af 55 1,al 56 .sub 55 1,df 57 23 54 56,af 58 0,af 59 1,al 60 .sub 59 1,df 61 23 58 60,oO 62 (gX 8 [[.int .i64 0,.int .i64 0,.str [],.str [],.str [],.slice [] false,.slice [] false,.slice [] false],[.int .i64 0,.int .i64 0,.str [],.str [],.str [],.slice [] false,.slice [] false,.slice [] false],[.int .i64 0,.int .i64 0,.str [],.str [],.str [],.slice [] false,.slice [] false,.slice [] false]] [(0,.tmp 53),(1,.tmp 57),(2,.tmp 61)]),oO 63 (.build [.int .i64 0,.int .i64 0,.str [],.str [],.str [],.ay,.ay,.ay] [(0,1,.bC (.int .i64 5)),(6,1,.tmp 62)]),ni 8 4 63] .ret) (cR [al 65 .eql 19 7,ae 64 65] (cu 64 (cR [af 66 0,aY 67 18 66,oO 68 (gX 1 [[.str []]] [(0,.tmp 67)]),af 69 0,af 70 1,al 71 .sub 70 1,df 72 23 69 71,af 73 0,af 74 1,al 75 .sub 74 1,df 76 23 73 75,oO 77 (gX 8 [[.int .i64 0,.int .i64 0,.str [],.str [],.str [],.slice [] false,.slice [] false,.slice [] false],[.int .i64 0,.int .i64 0,.str [],.str [],.str [],.slice [] false,.slice [] false,.slice [] false]] [(0,.tmp 72),(1,.tmp 76)]),oO 78 (.build [.int .i64 0,.int .i64 0,.str [],.str [],.str [],.ay,.ay,.ay] [(0,1,.bC (.int .i64 6)),(7,1,.tmp 68),(6,1,.tmp 77)]),ni 8 4 78] .ret) (cR [al 80 .eql 19 8,ae 79 80] (cu 79 (cR [af 81 0,aY 82 18 81,af 83 0,aY 84 18 83,oO 85 (gX 1 [[.str []],[.str []]] [(0,.tmp 82),(1,.tmp 84)]),af 86 0,af 87 1,al 88 .sub 87 1,df 89 23 86 88,af 90 0,af 91 1,al 92 .sub 91 1,df 93 23 90 92,af 94 0,af 95 1,al 96 .sub 95 1,df 97 23 94 96,oO 98 (gX 8 [[.int .i64 0,.int .i64 0,.str [],.str [],.str [],.slice [] false,.slice [] false,.slice [] false],[.int .i64 0,.int .i64 0,.str [],.str [],.str [],.slice [] false,.slice [] false,.slice [] false],[.int .i64 0,.int .i64 0,.str [],.str [],.str [],.slice [] false,.slice [] false,.slice [] false]] [(0,.tmp 89),(1,.tmp 93),(2,.tmp 97)]),oO 99 (.build [.int .i64 0,.int .i64 0,.str [],.str [],.str [],.ay,.ay,.ay] [(0,1,.bC (.int .i64 12)),(7,1,.tmp 85),(6,1,.tmp 98)]),ni 8 4 99] .ret) (cR [al 101 .eql 19 9,ae 100 101] (cu 100 (cR [af 102 0,af 103 1,al 104 .sub 103 1,de 105 41 [aT 102,aT 104,aI 2],ae 6 105] (cR [aC 7 (.bC (.slice [] true))] (.seq (cR [aC 8 (aI 0)] (.block 1 (.loop (.seq (cR [af 106 8,af 107 6,bQ 108 .sl 107,bz 109 .lss 106 108] (cu 109 .skip (.exit 1))) (.seq (.block 2 (.region false [ae 112 7,af 113 0,aY 114 18 113,oO 115 (gX 1 [[.str []]] [(0,.tmp 114)]),cw 116 1 16 112 115,ae 7 116])) (.region false [af 110 8,al 111 .add 110 1,ae 8 111])))))) (cR [af 117 0,aY 118 40 117,af 119 7,af 120 6,oO 121 (.build [.int .i64 0,.int .i64 0,.str [],.str [],.str [],.ay,.ay,.ay] [(0,1,.bC (.int .i64 7)),(2,1,.tmp 118),(7,1,.tmp 119),(6,1,.tmp 120)]),ni 8 4 121] .ret)))) (cR [al 123 .eql 19 10,ae 122 123] (cu 122 (cR [af 124 0,aY 125 40 124,af 126 0,aY 127 18 126,af 128 0,af 129 1,al 130 .sub 129 1,df 131 23 128 130,oO 132 (gX 8 [[.int .i64 0,.int .i64 0,.str [],.str [],.str [],.slice [] false,.slice [] false,.slice [] false]] [(0,.tmp 131)]),oO 133 (.build [.int .i64 0,.int .i64 0,.str [],.str [],.str [],.ay,.ay,.ay] [(0,1,.bC (.int .i64 8)),(2,1,.tmp 125),(3,1,.tmp 127),(6,1,.tmp 132)]),ni 8 4 133] .ret) (cR [al 135 .eql 19 11,ae 134 135] (cu 134 (cR [af 136 0,aY 137 40 136,af 138 0,aY 139 18 138,af 140 0,af 141 1,al 142 .sub 141 1,df 143 23 140 142,oO 144 (gX 8 [[.int .i64 0,.int .i64 0,.str [],.str [],.str [],.slice [] false,.slice [] false,.slice [] false]] [(0,.tmp 143)]),oO 145 (.build [.int .i64 0,.int .i64 0,.str [],.str [],.str [],.ay,.ay,.ay] [(0,1,.bC (.int .i64 9)),(2,1,.tmp 137),(3,1,.tmp 139),(6,1,.tmp 144)]),ni 8 4 145] .ret) (cR [al 147 .eql 19 12,ae 146 147] (cu 146 (cR [af 148 0,af 149 1,al 150 .sub 149 1,df 151 23 148 150,af 152 0,af 153 1,al 154 .sub 153 1,df 155 23 152 154,oO 156 (gX 8 [[.int .i64 0,.int .i64 0,.str [],.str [],.str [],.slice [] false,.slice [] false,.slice [] false],[.int .i64 0,.int .i64 0,.str [],.str [],.str [],.slice [] false,.slice [] false,.slice [] false]] [(0,.tmp 151),(1,.tmp 155)]),af 157 0,af 158 1,al 159 .sub 158 1,de 160 41 [aT 157,aT 159,aI 1],cw 161 8 136 156 160,ae 9 161] (cR [aC 10 (.bC (.slice [] true))] (.seq (cR [aC 11 (aI 1)] (.block 3 (.loop (.seq (cR [af 162 11,af 163 9,bQ 164 .sl 163,bz 165 .lss 162 164] (cu 165 .skip (.exit 3))) (.seq (.block 4 (.region false [ae 168 10,af 169 0,aY 170 18 169,af 171 0,aY 172 18 171,oO 173 (gX 1 [[.str []],[.str []]] [(0,.tmp 170),(1,.tmp 172)]),cw 174 1 16 168 173,ae 10 174])) (.region false [af 166 11,al 167 .add 166 1,ae 11 167])))))) (cR [af 175 0,aY 176 40 175,af 177 10,af 178 9,oO 179 (.build [.int .i64 0,.int .i64 0,.str [],.str [],.str [],.ay,.ay,.ay] [(0,1,.bC (.int .i64 10)),(2,1,.tmp 176),(7,1,.tmp 177),(6,1,.tmp 178)]),ni 8 4 179] .ret)))) (cR [al 181 .eql 19 13,ae 180 181] (cu 180 (cR [af 182 0,de 183 22 [aT 182,aI 2],af 184 0,af 185 1,al 186 .sub 185 1,de 187 41 [aT 184,aT 186,aI 3],oO 188 (.build [.int .i64 0,.int .i64 0,.str [],.str [],.str [],.ay,.ay,.ay] [(0,1,.bC (.int .i64 11)),(4,2,.tmp 183),(6,1,.tmp 187)]),ni 8 4 188] .ret) (cR [al 190 .eql 19 14,ae 189 190] (cu 189 (cR [oO 191 (gX 1 [[.int .i64 0],[.int .i64 0]] [(0,.bC (.int .i64 9)),(1,.bC (.int .i64 11))]),af 192 0,de 193 19 [aT 192,aI 2],iv 191,fl 194 1 191 193,oN (.Ds .QA (aT 194)),aE 195 1 194,af 196 0,af 197 1,al 198 .sub 197 1,df 199 23 196 198,oO 200 (gX 8 [[.int .i64 0,.int .i64 0,.str [],.str [],.str [],.slice [] false,.slice [] false,.slice [] false]] [(0,.tmp 199)]),oO 201 (.build [.int .i64 0,.int .i64 0,.str [],.str [],.str [],.ay,.ay,.ay] [(0,1,.bC (.int .i64 4)),(1,1,.tmp 195),(6,1,.tmp 200)]),gm 4 4,ni 8 4 201] .ret) .skip)))))))))))))))))))))))))))) (.seq (cR [af 202 5,al 203 .gtr 202 14] (cu 203 (cR [oO 204 (gX 1 [[.int .i64 0],[.int .i64 0],[.int .i64 0],[.int .i64 0],[.int .i64 0],[.int .i64 0],[.int .i64 0],[.int .i64 0],[.int .i64 0],[.int .i64 0]] [(0,.bC (.int .i64 0)),(1,.bC (.int .i64 1)),(2,.bC (.int .i64 2)),(3,.bC (.int .i64 3)),(4,.bC (.int .i64 4)),(5,.bC (.int .i64 5)),(6,.bC (.int .i64 6)),(7,.bC (.int .i64 7)),(8,.bC (.int .i64 8)),(9,.bC (.int .i64 10))]),af 205 0,de 206 19 [aT 205,aI 10],fl 207 1 204 206,aE 208 1 207,ae 12 208] (cR [af 209 12,af 210 0,af 211 1,al 212 .sub 211 1,df 213 23 210 212,af 214 0,af 215 1,al 216 .sub 215 1,df 217 23 214 216,oO 218 (gX 8 [[.int .i64 0,.int .i64 0,.str [],.str [],.str [],.slice [] false,.slice [] false,.slice [] false],[.int .i64 0,.int .i64 0,.str [],.str [],.str [],.slice [] false,.slice [] false,.slice [] false]] [(0,.tmp 213),(1,.tmp 217)]),oO 219 (.build [.int .i64 0,.int .i64 0,.str [],.str [],.str [],.ay,.ay,.ay] [(0,1,.bC (.int .i64 4)),(1,1,.tmp 209),(6,1,.tmp 218)]),ni 8 4 219] .ret)) .skip)) (cR [af 220 0,aY 221 18 220,oO 222 (.build [.int .i64 0,.int .i64 0,.str [],.str [],.str [],.ay,.ay,.ay] [(0,1,.bC (.int .i64 2)),(2,1,.tmp 221)]),ni 8 4 222] .ret)))))⟩
theorem QP:bo Tryz.f23 cT=some cT:=by kernel_rfl
noncomputable def Ws:au:=cL [0] [999999,1] [888888] Tryz.f24
theorem QQ:bo Tryz.f24 Ws=some Ws:=by kernel_rfl
noncomputable def Wt:au:=cL [3,4,5,6,7,9,10,13,15,16,17,18,19,20,21,22,45,50,56,68,78,84,109,113,120,129,147,158,181,186,193,199,30,33,95,138,700002,700008,700012,700014] [2,8,12,14,82,999999] [19,158,165,186,189] Tryz.f25
theorem QR:bo Tryz.f25 Wt=some Wt:=by kernel_rfl
def Nn:au:=⟨[5],[],[],26,2,[.tmp 4],cR [b7 4 jz] (.seq (cR [af 6 0,bQ 7 .sl 6,af 8 1,bQ 9 .sl 8,bz 10 .neq 7 9] (cu 10 (cR [b7 4 jz] .ret) .skip)) (.seq (cR [aC 5 (aI 0)] (.block 0 (.loop (.seq (cR [af 11 5,af 12 0,bQ 13 .sl 12,bz 14 .lss 11 13] (cu 14 .skip (.exit 0))) (.seq (.block 1 (.seq (.region true [af 17 0,af 18 5,fl 19 1 17 18,aE 20 1 19,af 21 1,af 22 5,fl 23 1 21 22,aE 24 1 23,bz 25 .neq 20 24]) (cu 25 (cR [b7 4 jz] .ret) .skip))) (.region false [af 15 5,al 16 .add 15 1,ae 5 16])))))) (cR [b7 4 Dq] .ret)))⟩
theorem QS:bo Tryz.f26 Nn=some Nn:=by kernel_rfl
noncomputable def Wu:au:=cL [3,5,20,53,700002,700004,700006] [2,4,6,999999,999998] [500001] Tryz.f27
theorem QT:bo Tryz.f27 Wu=some Wu:=by kernel_rfl
noncomputable def Wv:au:=cL [2,3] [999999] [] Tryz.f28
theorem QU:bo Tryz.f28 Wv=some Wv:=by kernel_rfl
noncomputable def Ww:au:=cL [2,3,4,7,20,700006] [6,999999] [] Tryz.f29
theorem QV:bo Tryz.f29 Ww=some Ww:=by kernel_rfl
def No:au:=⟨[2,3,8,13,35,41,46,51,55,64,73,80,89,700004],[1,4],[],94,1,[.tmp 2],cR [oO 1 (.boxL (aT 0)),aC 2 jz] (.seq (cR [dE 5 0 1,aE 6 1 5,al 7 .lss 6 0,ae 8 7,bF 9 8 (iR 0 1),bF 10 8 (bL 1 9),bF 11 8 (cj .gtr (aT 10) (aI 5)),kW 12 8 11,ae 13 12,bF 14 13 (iR 1 1),bF 15 13 (bL 1 14),bF 16 13 (gD 56 [aT 15]),bF 17 13 (.un .not (aT 16)),kW 18 13 17] (cu 18 (cR [aC 2 jz] .ret) .skip)) (.seq (cR [aC 3 (aI 0)] (.block 0 (.loop (.seq (cR [af 19 3,dE 20 2 1,aE 21 1 20,bQ 22 .sl 21,bz 23 .lss 19 22] (cu 23 .skip (.exit 0))) (.seq (.block 1 (cR [dE 26 2 1,aE 27 1 26,af 28 3,fl 29 4 27 28,ct 30 4 29,oO 4 (.allocL [.str [],.str [],.ay,.int .i64 0]),ni 4 4 30] (cR [dE 31 0 4,aE 32 1 31,aY 33 56 32,oO 34 (.un .not (aT 33)),ae 35 34,bF 36 35 (iR 1 4),bF 37 35 (qv 2 36),bF 38 35 (gD 57 [aT 37]),bF 39 35 (.un .not (aT 38)),kW 40 35 39,ae 41 40,bF 42 41 (iR 3 4),bF 43 41 (bL 1 42),bF 44 41 (cj .lss (aT 43) (aI 0)),kW 45 41 44,ae 46 45,bF 47 46 (iR 3 4),bF 48 46 (bL 1 47),bF 49 46 (cj .gtr (aT 48) (aI 1099511627776)),kW 50 46 49,ae 51 50,bF 52 51 (iR 0 1),bF 53 51 (bL 1 52),bF 54 51 (cj .neq (aT 53) (aI 4)),bF 55 51 (jO 54),bK 56 55 (iR 3 4),bK 57 55 (bL 1 56),bK 58 55 (cj .neq (aT 57) (aI 0)),bF 59 51 (.pick (aT 55) (aT 58) jz),kW 60 51 59] (cu 60 (cR [aC 2 jz] .ret) .skip)))) (.region false [af 24 3,al 25 .add 24 1,ae 3 25])))))) (.seq (cR [dE 61 0 1,aE 62 1 61,al 63 .eql 62 0,ae 64 63,bF 65 64 (iR 0 1),bF 66 64 (bL 1 65),bF 67 64 (cj .eql (aT 66) (aI 1)),kW 68 64 67] (cu 68 (cR [dE 69 3 1,dE 70 0 69,aE 71 1 70,je 72 .eql (aT 71) (aS []),ae 73 72,bK 74 73 (iR 3 1),bK 75 73 (iR 1 74),bK 76 73 (bL 1 75),bK 77 73 (n9 76),bK 78 73 (cj .eql (aT 77) (aI 0)),iu 79 73 78,ae 80 79,bK 81 80 (iR 5 1),bK 82 80 (qv 8 81),bK 83 80 (.build [.int .i64 0,.int .i64 0,.str [],.str [],.str [],.slice [] true,.slice [] true,.slice [] true] []),bK 84 80 (gD 58 [aT 82,aT 83]),iu 85 80 84,ae 2 85] .ret) .skip)) (cR [dE 86 3 1,ct 87 2 86,aY 88 57 87,ae 89 88,bK 90 89 (iR 5 1),bK 91 89 (qv 8 90),bK 92 89 (gD 59 [aT 91]),iu 93 89 92,ae 2 93] .ret))))⟩
theorem QW:bo Tryz.f30 No=some No:=by kernel_rfl
def F1:au:=⟨[2,6,12,18],[1],[],29,1,[.tmp 2],cR [oO 1 (.boxL (aT 0)),aC 2 (.bC (.slice [] true))] (.seq (cR [dE 3 0 1,aE 4 1 3,je 5 .eql (aT 4) (aS [76,105,115,116])] (cu 5 (cR [oO 6 (gX 1 [[.str []],[.str []]] [(0,.bC (.str [76,105,115,116])),(1,.bC (.str [40]))]),dE 7 1 1,aE 8 1 7,yt 9 2 (aT 8) (aI 0),ct 10 2 9,aY 11 31 10,cw 12 1 16 6 11,oO 13 (gX 1 [[.str []]] [(0,.bC (.str [41]))]),cw 14 1 16 12 13,ae 2 14] .ret) .skip)) (.seq (cR [dE 15 0 1,aE 16 1 15,je 17 .eql (aT 16) (aS [73,110,116]),ae 18 17,bF 19 18 (iR 0 1),bF 20 18 (bL 1 19),bF 21 18 (cj .eql (aT 20) (aS [66,111,111,108])),kW 22 18 21] (cu 22 (cR [dE 23 0 1,aE 24 1 23,oO 25 (gX 1 [[.str []]] [(0,.tmp 24)]),ae 2 25] .ret) .skip)) (cR [dE 26 0 1,aE 27 1 26,aY 28 60 27,ae 2 28] .ret)))⟩
theorem QX:bo Tryz.f31 F1=some F1:=by kernel_rfl
def Np:au:=⟨[0,2,3],[],[],23,1,[.tmp 2],cR [aC 2 (aS [])] (cR [aC 3 (aS [])] (.seq (.block 0 (.loop (.seq (cR [af 4 0,al 5 .gtr 4 9] (cu 5 .skip (.exit 0))) (.block 1 (cR [af 6 0,al 7 .rem 6 10,je 8 .add (aI 48) (aT 7),oO 9 (.conv (.toInt IntKind.u8) (aT 8)),oO 10 (.mkslice true 1 [[.int IntKind.u8 0]] [(0,.tmp 9)]),oO 11 (.conv .ot (aT 10)),af 12 3,bz 13 .add 11 12,ae 3 13] (.region false [af 14 0,al 15 .quo 14 10,ae 0 15])))))) (cR [af 16 0,je 17 .add (aI 48) (aT 16),oO 18 (.conv (.toInt IntKind.u8) (aT 17)),oO 19 (.mkslice true 1 [[.int IntKind.u8 0]] [(0,.tmp 18)]),oO 20 (.conv .ot (aT 19)),af 21 3,bz 22 .add 20 21,ae 2 22] .ret)))⟩
theorem QY:bo Tryz.f32 Np=some Np:=by kernel_rfl
def jc:au:=⟨[2,3,4,5,6,7,8,9,10,11,12,13,16,30,38,43,52,54,63,78,81,90,92,99,101,108,110,117,123,130,132,139,150,153,160,173,177,188,192,203,214,217,233,241,255,266,276,283,285,292,294],[1],[],301,1,[.tmp 2],cR [oO 1 (.boxL (aT 0)),aC 2 (.bC (.slice [] true))] (.seq (cR [dE 14 0 1,aE 15 1 14] (.block 0 (cR [al 17 .eql 15 0,ae 16 17] (cu 16 (.seq (cR [dE 18 1 1,aE 19 1 18,al 20 .lss 19 0] (cu 20 (cR [dE 21 1 1,aE 22 1 21,oO 23 (.un .neg (aT 22)),aY 24 32 23,oO 25 (gX 1 [[.str []],[.str []]] [(0,.bC (.str [45])),(1,.tmp 24)]),ae 2 25] .ret) .skip)) (cR [dE 26 1 1,aE 27 1 26,aY 28 32 27,oO 29 (gX 1 [[.str []]] [(0,.tmp 28)]),ae 2 29] .ret)) (cR [al 31 .eql 15 1,ae 30 31] (cu 30 (cR [oO 32 (gX 1 [[.str []],[.str []]] [(0,.bC (.str [102,97,108,115,101])),(1,.bC (.str [116,114,117,101]))]),dE 33 1 1,aE 34 1 33,fl 35 1 32 34,aE 36 1 35,oO 37 (gX 1 [[.str []]] [(0,.tmp 36)]),ae 2 37] .ret) (cR [al 39 .eql 15 2,ae 38 39] (cu 38 (cR [dE 40 2 1,aE 41 1 40,oO 42 (gX 1 [[.str []]] [(0,.tmp 41)]),ae 2 42] .ret) (cR [al 44 .eql 15 3,ae 43 44] (cu 43 (cR [gm 1 1,dE 45 2 1,gm 1 45,aE 46 1 45,aY 47 60 46,gm 1 1,dE 48 6 1,gm 1 48,aE 49 1 48,aY 50 62 49,de 51 61 [aT 47,aS [40],aT 50,aS [41]],ae 2 51] .ret) (cR [al 53 .eql 15 4,ae 52 53] (cu 52 (cR [dE 55 1 1,aE 56 1 55,aY 57 63 56,ae 54 57,nG 58 54 0,nG 59 54 1,ae 3 58,ae 4 59] (.seq (cR [af 60 4,al 61 .eql 60 7] (cu 61 (cR [af 62 3,oO 63 (gX 1 [[.str []]] [(0,.tmp 62)]),dE 64 6 1,aE 65 1 64,yt 66 8 (aT 65) (aI 0),ct 67 8 66,de 68 64 [aT 67,aI 7],cw 69 1 16 63 68,ae 2 69] .ret) .skip)) (cR [af 70 4,ae 5 70] (.seq (cR [af 71 4,al 72 .eql 71 3] (cu 72 (.region false [aC 5 (aI 4)]) .skip)) (cR [gm 1 1,dE 73 6 1,gm 1 73,aE 74 1 73,iv 74,yt 75 8 (aT 74) (aI 0),iv 75,ct 76 8 75,af 77 5,oO 78 (.iL (.fn 64) [aT 76,aT 77]),af 79 3,oO 80 (gX 1 [[.str []]] [(0,.tmp 79)]),cw 81 1 16 78 80,gm 1 1,dE 82 6 1,gm 1 82,aE 83 1 82,iv 83,yt 84 8 (aT 83) (aI 1),iv 84,ct 85 8 84,af 86 4,al 87 .add 86 1,oO 88 (.iL (.fn 64) [aT 85,aT 87]),cw 89 1 16 81 88,ae 2 89] .ret))))) (cR [al 91 .eql 15 5,ae 90 91] (cu 90 (cR [oO 92 (gX 1 [[.str []]] [(0,.bC (.str [105,102]))]),dE 93 6 1,aE 94 1 93,yt 95 8 (aT 94) (aI 0),ct 96 8 95,aY 97 33 96,cw 98 1 16 92 97,ae 6 98] (cR [ae 99 6,oO 100 (gX 1 [[.str []]] [(0,.bC (.str [116,104,101,110]))]),cw 101 1 16 99 100,gm 1 1,dE 102 6 1,gm 1 102,aE 103 1 102,iv 103,yt 104 8 (aT 103) (aI 1),iv 104,ct 105 8 104,aY 106 33 105,cw 107 1 16 101 106,ae 6 107] (cR [ae 108 6,oO 109 (gX 1 [[.str []]] [(0,.bC (.str [101,108,115,101]))]),cw 110 1 16 108 109,gm 1 1,dE 111 6 1,gm 1 111,aE 112 1 111,iv 112,yt 113 8 (aT 112) (aI 2),iv 113,ct 114 8 113,aY 115 33 114,cw 116 1 16 110 115,ae 2 116] .ret))) (cR [al 118 .eql 15 6,ae 117 118] (cu 117 (cR [gm 1 1,dE 119 7 1,gm 1 119,aE 120 1 119,iv 120,yt 121 1 (aT 120) (aI 0),iv 121,aE 122 1 121,oO 123 (gX 1 [[.str []],[.str []],[.str []]] [(0,.bC (.str [108,101,116])),(1,.tmp 122),(2,.bC (.str [61]))]),gm 1 1,dE 124 6 1,gm 1 124,aE 125 1 124,iv 125,yt 126 8 (aT 125) (aI 0),iv 126,ct 127 8 126,oO 128 (.iL (.fn 33) [aT 127]),cw 129 1 16 123 128,ae 7 129] (cR [ae 130 7,oO 131 (gX 1 [[.str []]] [(0,.bC (.str [105,110]))]),cw 132 1 16 130 131,gm 1 1,dE 133 6 1,gm 1 133,aE 134 1 133,iv 134,yt 135 8 (aT 134) (aI 1),iv 135,ct 136 8 135,aY 137 33 136,cw 138 1 16 132 137,ae 2 138] .ret)) (cR [al 140 .eql 15 7,ae 139 140] (cu 139 (cR [aC 8 (.bC (.slice [] true))] (.seq (cR [aC 9 (aI 0)] (.block 1 (.loop (.seq (cR [af 141 9,dE 142 6 1,aE 143 1 142,bQ 144 .sl 143,bz 145 .lss 141 144] (cu 145 .skip (.exit 1))) (.seq (.block 2 (.seq (cR [af 148 9,al 149 .gtr 148 0] (cu 149 (.region false [ae 150 8,oO 151 (gX 1 [[.str []]] [(0,.bC (.str [44]))]),cw 152 1 16 150 151,ae 8 152]) .skip)) (.region false [ae 153 8,gm 1 1,dE 154 7 1,gm 1 154,aE 155 1 154,af 156 9,iv 155,fl 157 1 155 156,iv 157,aE 158 1 157,oO 159 (gX 1 [[.str []],[.str []]] [(0,.tmp 158),(1,.bC (.str [61]))]),cw 160 1 16 153 159,gm 1 1,dE 161 6 1,gm 1 161,aE 162 1 161,af 163 9,iv 162,fl 164 8 162 163,iv 164,ct 165 8 164,aY 166 33 165,cw 167 1 16 160 166,ae 8 167]))) (.region false [af 146 9,al 147 .add 146 1,ae 9 147])))))) (cR [dE 168 2 1,aE 169 1 168,aY 170 60 169,af 171 8,de 172 61 [aT 170,aS [123],aT 171,aS [125]],ae 2 172] .ret))) (cR [al 174 .eql 15 8,ae 173 174] (cu 173 (cR [gm 1 1,dE 175 2 1,gm 1 175,aE 176 1 175,oO 177 (.iL (.fn 60) [aT 176]),gm 1 1,dE 178 3 1,gm 1 178,aE 179 1 178,oO 180 (gX 1 [[.str []],[.str []]] [(0,.bC (.str [58])),(1,.tmp 179)]),cw 181 1 16 177 180,gm 1 1,dE 182 6 1,gm 1 182,aE 183 1 182,iv 183,yt 184 8 (aT 183) (aI 0),iv 184,ct 185 8 184,oO 186 (.iL (.fn 33) [aT 185]),oO 187 (.iL (.fn 61) [aT 181,aS [91],aT 186,aS [93]]),ae 2 187] .ret) (cR [al 189 .eql 15 9,ae 188 189] (cu 188 (cR [gm 1 1,dE 190 2 1,gm 1 190,aE 191 1 190,oO 192 (.iL (.fn 60) [aT 191]),gm 1 1,dE 193 3 1,gm 1 193,aE 194 1 193,oO 195 (gX 1 [[.str []],[.str []]] [(0,.bC (.str [58])),(1,.tmp 194)]),cw 196 1 16 192 195,gm 1 1,dE 197 6 1,gm 1 197,aE 198 1 197,iv 198,yt 199 8 (aT 198) (aI 0),iv 199,ct 200 8 199,oO 201 (.iL (.fn 33) [aT 200]),oO 202 (.iL (.fn 61) [aT 196,aS [40],aT 201,aS [41]]),ae 2 202] .ret) (cR [al 204 .eql 15 10,ae 203 204] (cu 203 (cR [aC 10 (.bC (.slice [] true))] (.seq (cR [aC 11 (aI 1)] (.block 3 (.loop (.seq (cR [af 205 11,dE 206 6 1,aE 207 1 206,bQ 208 .sl 207,bz 209 .lss 205 208] (cu 209 .skip (.exit 3))) (.seq (.block 4 (.seq (cR [af 212 11,al 213 .gtr 212 1] (cu 213 (.region false [ae 214 10,oO 215 (gX 1 [[.str []]] [(0,.bC (.str [44]))]),cw 216 1 16 214 215,ae 10 216]) .skip)) (.region false [ae 217 10,gm 1 1,dE 218 7 1,gm 1 218,aE 219 1 218,af 220 11,je 221 .mul (aI 2) (aT 220),al 222 .sub 221 2,iv 219,fl 223 1 219 222,iv 223,aE 224 1 223,gm 1 1,dE 225 7 1,gm 1 225,aE 226 1 225,af 227 11,je 228 .mul (aI 2) (aT 227),al 229 .sub 228 1,iv 226,fl 230 1 226 229,iv 230,aE 231 1 230,oO 232 (gX 1 [[.str []],[.str []],[.str []]] [(0,.tmp 224),(1,.tmp 231),(2,.bC (.str [45,62]))]),cw 233 1 16 217 232,gm 1 1,dE 234 6 1,gm 1 234,aE 235 1 234,af 236 11,iv 235,fl 237 8 235 236,iv 237,ct 238 8 237,aY 239 33 238,cw 240 1 16 233 239,ae 10 240]))) (.region false [af 210 11,al 211 .add 210 1,ae 11 211])))))) (cR [oO 241 (gX 1 [[.str []]] [(0,.bC (.str [109,97,116,99,104]))]),gm 1 1,dE 242 2 1,gm 1 242,aE 243 1 242,oO 244 (.iL (.fn 60) [aT 243]),cw 245 1 16 241 244,gm 1 1,dE 246 6 1,gm 1 246,aE 247 1 246,iv 247,yt 248 8 (aT 247) (aI 0),iv 248,ct 249 8 248,oO 250 (.iL (.fn 33) [aT 249]),oO 251 (.iL (.fn 61) [aT 245,aS [40],aT 250,aS [41]]),ae 12 251] (cR [af 252 12,af 253 10,de 254 61 [aT 252,aS [123],aT 253,aS [125]],ae 2 254] .ret)))) (cR [al 256 .eql 15 11,ae 255 256] (cu 255 (cR [oO 257 (gX 1 [[.str []]] [(0,.bC (.str [76,105,115,116]))]),gm 1 1,dE 258 4 1,gm 1 258,ct 259 2 258,aY 260 31 259,de 261 61 [aT 257,aS [40],aT 260,aS [41]],gm 1 1,dE 262 6 1,gm 1 262,aE 263 1 262,aY 264 62 263,de 265 61 [aT 261,aS [91],aT 264,aS [93]],ae 2 265] .ret) (cR [al 267 .eql 15 12,ae 266 267] (cu 266 (cR [gm 1 1,dE 268 7 1,gm 1 268,aE 269 1 268,iv 269,yt 270 1 (aT 269) (aI 0),iv 270,aE 271 1 270,gm 1 1,dE 272 7 1,gm 1 272,aE 273 1 272,iv 273,yt 274 1 (aT 273) (aI 1),iv 274,aE 275 1 274,oO 276 (gX 1 [[.str []],[.str []],[.str []],[.str []],[.str []]] [(0,.bC (.str [102,111,108,100])),(1,.tmp 271),(2,.bC (.str [44])),(3,.tmp 275),(4,.bC (.str [61]))]),gm 1 1,dE 277 6 1,gm 1 277,aE 278 1 277,iv 278,yt 279 8 (aT 278) (aI 1),iv 279,ct 280 8 279,oO 281 (.iL (.fn 33) [aT 280]),cw 282 1 16 276 281,ae 13 282] (cR [ae 283 13,oO 284 (gX 1 [[.str []]] [(0,.bC (.str [111,118,101,114]))]),cw 285 1 16 283 284,gm 1 1,dE 286 6 1,gm 1 286,aE 287 1 286,iv 287,yt 288 8 (aT 287) (aI 0),iv 288,ct 289 8 288,aY 290 33 289,cw 291 1 16 285 290,ae 13 291] (cR [ae 292 13,oO 293 (gX 1 [[.str []]] [(0,.bC (.str [100,111]))]),cw 294 1 16 292 293,gm 1 1,dE 295 6 1,gm 1 295,aE 296 1 295,iv 296,yt 297 8 (aT 296) (aI 2),iv 297,ct 298 8 297,aY 299 33 298,cw 300 1 16 294 299,ae 2 300] .ret))) .skip)))))))))))))))))))))))))))) (cR [aC 2 (.bC (.slice [] true))] .ret))⟩
theorem QZ:bo Tryz.f33 jc=some jc:=by kernel_rfl
def Nq:au:=⟨[2,3,4,29],[999999],[3,8,888888],30,1,[.tmp 2],cR [aC 2 (.bC (.slice [] true))] (cR [af 5 0,bQ 6 .sl 5,al 7 .add 6 1,oO 8 (.tI 1 16 [.str []] (aT 7)),oO 3 (.mov true true (aT 8))] (.seq (cR [aC 4 (aI 1)] (.block 0 (.loop (.seq (cR [af 9 4,af 10 0,bQ 11 .sl 10,bz 12 .lss 9 11] (cu 12 .skip (.exit 0))) (.seq (.block 1 (.seq (.region true [af 15 0,af 16 4,al 17 .sub 16 1,fl 18 1 15 17,aE 19 1 18,af 20 0,af 21 4,fl 22 1 20 21,aE 23 1 22,df 24 65 19 23,oO 25 (.un .not (aT 24))]) (cu 25 (.region false [af 26 3,af 27 4,fl 28 1 26 27,oN (.store 1 (aT 28) (aS [32]))]) .skip))) (.region false [af 13 4,al 14 .add 13 1,ae 4 14])))))) (cR [ae 29 3,ae 2 29] .ret)))⟩
theorem Q0:bo Tryz.f34 Nq=some Nq:=by kernel_rfl
def Nr:au:=⟨[2,3,4,13,18],[999999],[],32,1,[.tmp 2],cR [aC 2 (aI 0)] (cR [aC 3 (aI 0)] (.seq (.block 0 (.loop (.seq (cR [af 5 3,af 6 0,bQ 7 .str 6,bz 8 .lss 5 7] (cu 8 .skip (.exit 0))) (.block 1 (cR [af 9 0,af 10 3,oO 11 (.indexStr (aT 9) (aT 10))] (.block 2 (.seq (cR [je 14 .eql (aT 11) (.bC (.int IntKind.u8 32)),ae 13 14] (cu 13 .skip (.region false [je 15 .eql (aT 11) (.bC (.int IntKind.u8 10)),ae 13 15]))) (cu 13 (.region false [af 16 3,al 17 .add 16 1,ae 3 17]) (cR [je 19 .eql (aT 11) (.bC (.int IntKind.u8 35)),ae 18 19] (cu 18 (cR [af 20 0,af 21 3,oO 22 (.slice .str (aT 20) (some (aT 21)) none none),de 23 66 [aT 22,.bC (.int IntKind.u8 10)],ae 4 23] (.seq (cR [af 24 4,al 25 .lss 24 0] (cu 25 (cR [af 26 0,bQ 27 .str 26,ae 2 27] .ret) .skip)) (.region false [af 28 3,af 29 4,bz 30 .add 28 29,ae 3 30]))) (cR [af 12 3,ae 2 12] .ret))))))))))) (cR [af 31 3,ae 2 31] .ret)))⟩
theorem Q1:bo Tryz.f35 Nr=some Nr:=by kernel_rfl
def Ns:au:=⟨[2,5,7,9,22,37,700004],[4,999999],[],46,1,[.tmp 2],cR [aC 2 (aI 0)] (.seq (cR [oO 8 (.load false true 4 (.aP 0)),aC 9 (aI 0)] (.block 0 (.loop (cR [al 10 .lss 9 2] (.seq (cu 10 .skip (.exit 0)) (.seq (.block 1 (cR [oO 11 (.index true 2 2 (aT 8) (aT 9)),oO 4 (.allocL [.bU,.bU]),ni 2 4 11] (.seq (.seq (.region true [oO 12 (.ixArr 2 1 (aT 4) (aI 0)),aE 13 1 12,af 14 0,oO 15 (.indexStr (aT 14) (aI 0)),oO 16 (.call (aT 13) [aT 15]),oO 17 (.un .not (aT 16))]) (cu 17 (.exit 1) .skip)) (cR [aC 5 (aI 1)] (.seq (.block 2 (.loop (.seq (cR [af 18 5,af 19 0,iv 19,bQ 20 .str 19,bz 21 .lss 18 20,ae 22 21,uA 22 (.Ds (.frame 4) (aT 4)),bK 23 22 (.ixArr 2 1 (aT 4) (aI 1)),uA 22 (.Ds (.frame 4) (aT 23)),bK 24 22 (bL 1 23),bK 25 22 (cx 0),bK 26 22 (cx 5),bK 27 22 (.indexStr (aT 25) (aT 26)),bK 28 22 (.call (aT 24) [aT 27]),iu 29 22 28] (cu 29 .skip (.exit 2))) (.block 3 (.region false [af 30 5,al 31 .add 30 1,ae 5 31]))))) (.seq (cR [af 32 5,al 33 .gtr 32 16] (cu 33 (cR [aC 2 (aI 0)] .ret) .skip)) (cR [af 34 5,ae 2 34] .ret))))))) (.region false [al 35 .add 9 1,ae 9 35]))))))) (.seq (cR [oO 36 (.load false true 18 (.aP 1)),aC 37 (aI 0)] (.block 4 (.loop (cR [al 38 .lss 37 18] (.seq (cu 38 .skip (.exit 4)) (.seq (.block 5 (cR [oO 39 (.index false 18 1 (aT 36) (aT 37)),ae 7 39] (cR [af 40 0,af 41 7,df 42 67 40 41] (cu 42 (cR [af 43 7,bQ 44 .str 43,ae 2 44] .ret) .skip)))) (.region false [al 45 .add 37 1,ae 37 45]))))))) (cR [aC 2 (aI 0)] .ret)))⟩
theorem Q2:bo Tryz.f36 Ns=some Ns:=by kernel_rfl
noncomputable def Wx:au:=cL [4,12] [999999] [] Tryz.f37
theorem Q3:bo Tryz.f37 Wx=some Wx:=by kernel_rfl
def Nt:au:=⟨[6,9],[],[],21,3,[.tmp 6],cR [aC 6 (aI 0)] (.seq (cR [af 7 1,al 8 .lss 7 0,ae 9 8,bF 10 9 (cx 1),bF 11 9 (cx 0),bF 12 9 (n9 11),bF 13 9 (cj .geq (aT 10) (aT 12)),kW 14 9 13] (cu 14 (cR [aC 6 (aI 0)] .ret) .skip)) (cR [af 15 0,af 16 1,fl 17 1 15 16,aE 18 1 17,af 19 2,df 20 7 18 19,ae 6 20] .ret))⟩
theorem Q4:bo Tryz.f39 Nt=some Nt:=by kernel_rfl
def F2:au:=⟨[2],[],[777777],11,1,[.tmp 2],cR [aC 2 (aS [])] (.seq (cR [af 3 0,de 4 19 [aT 3,aI 4],al 5 .eql 4 1] (cu 5 (cR [af 6 0,aY 7 18 6,je 8 .add (aS [107,46]) (aT 7),ae 2 8] .ret) .skip)) (cR [af 9 0,aY 10 18 9,ae 2 10] .ret))⟩
theorem Q5:bo Tryz.f40 F2=some F2:=by kernel_rfl
def Nu:au:=⟨[6,7,8,9,19],[],[777777],26,3,[.tmp 6],cR [aC 6 (.bC (.slice [] true))] (cR [aC 7 (.bC (.slice [] true))] (cR [af 10 0,af 11 2,al 12 .add 11 1,df 13 19 10 12,ae 8 13] (.seq (cR [aC 9 (aI 0)] (.block 0 (.loop (.seq (cR [af 14 9,af 15 8,bz 16 .lss 14 15] (cu 16 .skip (.exit 0))) (.seq (.block 1 (.region false [ae 19 7,af 20 0,af 21 1,df 22 23 20 21,oO 23 (gX 8 [[.int .i64 0,.int .i64 0,.str [],.str [],.str [],.slice [] false,.slice [] false,.slice [] false]] [(0,.tmp 22)]),cw 24 8 136 19 23,ae 7 24])) (.region false [af 17 9,al 18 .add 17 1,ae 9 18])))))) (cR [af 25 7,ae 6 25] .ret))))⟩
theorem Q6:bo Tryz.f41 Nu=some Nu:=by kernel_rfl
noncomputable def Wz:au:=cL [] [999999] [] Tryz.f42
theorem Q7:bo Tryz.f42 Wz=some Wz:=by kernel_rfl
noncomputable def WA:au:=cL [2,3] [999999] [] Tryz.f43
theorem Q8:bo Tryz.f43 WA=some WA:=by kernel_rfl
noncomputable def WB:au:=cL [] [999999] [] Tryz.f44
theorem Q9:bo Tryz.f44 WB=some WB:=by kernel_rfl
noncomputable def WC:au:=cL [34,8,700002,700003] [2,999999,999998] [] Tryz.f45
theorem Ra:bo Tryz.f45 WC=some WC:=by kernel_rfl
noncomputable def WD:au:=cL [6,7,19,700009] [9,999999] [] Tryz.f46
theorem Rb:bo Tryz.f46 WD=some WD:=by kernel_rfl
noncomputable def WE:au:=cL [2,3,5,18,36,6] [999999] [] Tryz.f47
theorem Rc:bo Tryz.f47 WE=some WE:=by kernel_rfl
noncomputable def WG:au:=cL [2,3,4,9,34,59,83,93,100,106,111,136,14,700005] [5,999999] [] Tryz.f48
theorem Rd:bo Tryz.f48 WG=some WG:=by kernel_rfl
noncomputable def WH:au:=cL [2,3,4,17] [999999] [] Tryz.f49
theorem Re:bo Tryz.f49 WH=some WH:=by kernel_rfl
noncomputable def WJ:au:=cL [2,5] [999999,7] [888888] Tryz.f50
theorem Rf:bo Tryz.f50 WJ=some WJ:=by kernel_rfl
noncomputable def WK:au:=cL [2,5] [999999,7] [888888] Tryz.f51
theorem Rg:bo Tryz.f51 WK=some WK:=by kernel_rfl
noncomputable def WL:au:=cL [2,5] [999999,7] [888888] Tryz.f52
theorem Rh:bo Tryz.f52 WL=some WL:=by kernel_rfl
noncomputable def WM:au:=cL [3,20,700002,700004] [2,4,999999,999998] [500001] Tryz.f53
theorem Ri:bo Tryz.f53 WM=some WM:=by kernel_rfl
noncomputable def WQ:au:=cL [3,12,700002,700004] [2,4,999999] [500001] Tryz.f54
theorem Rj:bo Tryz.f54 WQ=some WQ:=by kernel_rfl
noncomputable def WR:au:=cL [4,6,700005] [999999] [500002,500003] Tryz.f55
theorem Rk:bo Tryz.f55 WR=some WR:=by kernel_rfl
def Nv:au:=⟨[2,3,4,8],[],[],32,1,[.tmp 2],cR [aC 2 jz] (.seq (cR [af 5 0,bQ 6 .str 5,al 7 .eql 6 0,ae 8 7,bF 9 8 (cx 0),bF 10 8 (.indexStr (aT 9) (aI 0)),bF 11 8 (gD 88 [aT 10]),bF 12 8 (cj .neq (aT 11) (aI 1)),kW 13 8 12] (cu 13 (cR [aC 2 jz] .ret) .skip)) (cR [de 14 89 [],ae 3 14] (.seq (cR [aC 4 (aI 0)] (.block 0 (.loop (.seq (cR [af 15 4,af 16 3,bQ 17 .sl 16,bz 18 .lss 15 17] (cu 18 .skip (.exit 0))) (.seq (.block 1 (cR [af 21 3,af 22 4,fl 23 1 21 22,aE 24 1 23,af 25 0,bz 26 .eql 24 25] (cu 26 (cR [aC 2 jz] .ret) .skip))) (.region false [af 19 4,al 20 .add 19 1,ae 4 20])))))) (cR [af 27 0,de 28 90 [aT 27,aI 0],af 29 0,bQ 30 .str 29,bz 31 .eql 28 30,ae 2 31] .ret))))⟩
theorem Rl:bo Tryz.f56 Nv=some Nv:=by kernel_rfl
def F3:au:=⟨[2,10,21,25,30],[1],[],36,1,[.tmp 2],cR [oO 1 (.boxL (aT 0)),aC 2 jz] (.seq (cR [dE 3 0 1,aE 4 1 3,je 5 .eql (aT 4) (aS [76,105,115,116])] (cu 5 (cR [dE 6 1 1,aE 7 1 6,bQ 8 .sl 7,al 9 .eql 8 1,ae 10 9,bK 11 10 (iR 1 1),bK 12 10 (bL 1 11),bK 13 10 (.ixSl 2 (aT 12) (aI 0)),bK 14 10 (qv 2 13),bK 15 10 (gD 57 [aT 14]),iu 16 10 15,ae 2 16] .ret) .skip)) (cR [dE 17 1 1,aE 18 1 17,bQ 19 .sl 18,al 20 .eql 19 0,ae 21 20,bK 22 21 (iR 0 1),bK 23 21 (bL 1 22),bK 24 21 (cj .eql (aT 23) (aS [73,110,116])),bK 25 21 (jO 24),bF 26 25 (iR 0 1),bF 27 25 (bL 1 26),bF 28 25 (cj .eql (aT 27) (aS [66,111,111,108])),bK 29 21 (.pick (aT 25) Dq (aT 28)),bK 30 21 (jO 29),bF 31 30 (iR 0 1),bF 32 30 (bL 1 31),bF 33 30 (gD 91 [aT 32]),bK 34 21 (.pick (aT 30) Dq (aT 33)),iu 35 21 34,ae 2 35] .ret))⟩
theorem Rm:bo Tryz.f57 F3=some F3:=by kernel_rfl
def Nw:au:=⟨[5,11,18,25,32,40,48],[2,3],[],76,2,[.tmp 4],cR [oO 2 (.boxL (aT 0)),oO 3 (.boxL (aT 1)),b7 4 jz] (.seq (cR [dE 6 0 2,aE 7 1 6,dE 8 0 3,aE 9 1 8,bz 10 .neq 7 9,ae 11 10,bF 12 11 (iR 1 2),bF 13 11 (bL 1 12),bF 14 11 (iR 1 3),bF 15 11 (bL 1 14),bF 16 11 (cj .neq (aT 13) (aT 15)),kW 17 11 16,ae 18 17,bF 19 18 (iR 2 2),bF 20 18 (bL 1 19),bF 21 18 (iR 2 3),bF 22 18 (bL 1 21),bF 23 18 (cj .neq (aT 20) (aT 22)),kW 24 18 23,ae 25 24,bF 26 25 (iR 3 2),bF 27 25 (bL 1 26),bF 28 25 (iR 3 3),bF 29 25 (bL 1 28),bF 30 25 (cj .neq (aT 27) (aT 29)),kW 31 25 30,ae 32 31,bF 33 32 (iR 4 2),bF 34 32 (qv 2 33),bF 35 32 (iR 4 3),bF 36 32 (qv 2 35),bF 37 32 (gD 92 [aT 34,aT 36]),bF 38 32 (.un .not (aT 37)),kW 39 32 38,ae 40 39,bF 41 40 (iR 7 2),bF 42 40 (bL 1 41),bF 43 40 (iR 7 3),bF 44 40 (bL 1 43),bF 45 40 (gD 26 [aT 42,aT 44]),bF 46 40 (.un .not (aT 45)),kW 47 40 46,ae 48 47,bF 49 48 (iR 6 2),bF 50 48 (bL 1 49),bF 51 48 (n9 50),bF 52 48 (iR 6 3),bF 53 48 (bL 1 52),bF 54 48 (n9 53),bF 55 48 (cj .neq (aT 51) (aT 54)),kW 56 48 55] (cu 56 (cR [b7 4 jz] .ret) .skip)) (.seq (cR [aC 5 (aI 0)] (.block 0 (.loop (.seq (cR [af 57 5,dE 58 6 2,aE 59 1 58,bQ 60 .sl 59,bz 61 .lss 57 60] (cu 61 .skip (.exit 0))) (.seq (.block 1 (.seq (.region true [dE 64 6 2,aE 65 1 64,af 66 5,fl 67 8 65 66,ct 68 8 67,dE 69 6 3,aE 70 1 69,af 71 5,fl 72 8 70 71,ct 73 8 72,df 74 58 68 73,oO 75 (.un .not (aT 74))]) (cu 75 (cR [b7 4 jz] .ret) .skip))) (.region false [af 62 5,al 63 .add 62 1,ae 5 63])))))) (cR [b7 4 Dq] .ret)))⟩
theorem Rn:bo Tryz.f58 Nw=some Nw:=by kernel_rfl
def oJ:au:=⟨[3,4,5,6,7,8,15,18,26,33,42,47,52,57,63,69,73,80,83,88,97,103,109,112,121,127,131,136,148,152,158,162,167,176,181,186],[1],[],205,1,[.tmp 2],cR [oO 1 (.boxL (aT 0)),b7 2 jz] (cR [ct 9 8 1,aY 10 93 9,ae 8 10,nG 11 8 0,nG 12 8 1,ae 3 11,ae 4 12] (.seq (cR [af 13 3,al 14 .eql 13 (-2),ae 15 14,bF 16 15 (cx 3),bF 17 15 (cj .geq (aT 16) (aI 0)),bF 18 15 (jO 17),bK 19 18 (iR 6 1),bK 20 18 (bL 1 19),bK 21 18 (n9 20),bK 22 18 (cx 3),bK 23 18 (cj .neq (aT 21) (aT 22)),bF 24 15 (.pick (aT 18) (aT 23) jz),kW 25 15 24,ae 26 25,bF 27 26 (iR 7 1),bF 28 26 (bL 1 27),bF 29 26 (n9 28),bF 30 26 (cx 4),bF 31 26 (cj .neq (aT 29) (aT 30)),kW 32 26 31,ae 33 32,bF 34 33 (iR 7 1),bF 35 33 (bL 1 34),bF 36 33 (gD 94 [aT 35]),bF 37 33 (.un .not (aT 36)),kW 38 33 37] (cu 38 (cR [b7 2 jz] .ret) .skip)) (cR [dE 39 0 1,aE 40 1 39,al 41 .eql 40 3,ae 42 41,bF 43 42 (iR 0 1),bF 44 42 (bL 1 43),bF 45 42 (cj .eql (aT 44) (aI 7)),kW 46 42 45,ae 47 46,bF 48 47 (iR 0 1),bF 49 47 (bL 1 48),bF 50 47 (cj .eql (aT 49) (aI 8)),kW 51 47 50,ae 52 51,bF 53 52 (iR 0 1),bF 54 52 (bL 1 53),bF 55 52 (cj .eql (aT 54) (aI 9)),kW 56 52 55,ae 57 56,bF 58 57 (iR 0 1),bF 59 57 (bL 1 58),bF 60 57 (cj .eql (aT 59) (aI 10)),kW 61 57 60,ae 5 61] (.seq (cR [af 62 5,ae 63 62,bK 64 63 (iR 2 1),bK 65 63 (bL 1 64),bK 66 63 (gD 91 [aT 65]),bK 67 63 (.un .not (aT 66)),iu 68 63 67,ae 69 68,bF 70 69 (iR 0 1),bF 71 69 (bL 1 70),bF 72 69 (cj .eql (aT 71) (aI 2)),bF 73 69 (jO 72),bK 74 73 (iR 2 1),bK 75 73 (bL 1 74),bK 76 73 (gD 56 [aT 75]),bK 77 73 (.un .not (aT 76)),bF 78 69 (.pick (aT 73) (aT 77) jz),kW 79 69 78,ae 80 79,bF 81 80 (cx 5),bF 82 80 (.un .not (aT 81)),bF 83 80 (jO 82),bK 84 83 (iR 0 1),bK 85 83 (bL 1 84),bK 86 83 (cj .neq (aT 85) (aI 2)),bF 87 80 (.pick (aT 83) (aT 86) jz),bF 88 80 (jO 87),bK 89 88 (iR 2 1),bK 90 88 (bL 1 89),bK 91 88 (cj .neq (aT 90) (aS [])),bF 92 80 (.pick (aT 88) (aT 91) jz),kW 93 80 92] (cu 93 (cR [b7 2 jz] .ret) .skip)) (cR [dE 94 0 1,aE 95 1 94,al 96 .eql 95 8,ae 97 96,bF 98 97 (iR 0 1),bF 99 97 (bL 1 98),bF 100 97 (cj .eql (aT 99) (aI 9)),kW 101 97 100,ae 6 101] (.seq (cR [af 102 6,ae 103 102,bK 104 103 (iR 3 1),bK 105 103 (bL 1 104),bK 106 103 (gD 56 [aT 105]),bK 107 103 (.un .not (aT 106)),iu 108 103 107,ae 109 108,bF 110 109 (cx 6),bF 111 109 (.un .not (aT 110)),bF 112 109 (jO 111),bK 113 112 (iR 3 1),bK 114 112 (bL 1 113),bK 115 112 (cj .neq (aT 114) (aS [])),bF 116 109 (.pick (aT 112) (aT 115) jz),kW 117 109 116] (cu 117 (cR [b7 2 jz] .ret) .skip)) (.seq (cR [dE 118 0 1,aE 119 1 118,al 120 .eql 119 11,ae 121 120,bK 122 121 (iR 4 1),bK 123 121 (qv 2 122),bK 124 121 (gD 57 [aT 123]),bK 125 121 (.un .not (aT 124)),iu 126 121 125,ae 127 126,bF 128 127 (iR 0 1),bF 129 127 (bL 1 128),bF 130 127 (cj .neq (aT 129) (aI 11)),bF 131 127 (jO 130),bK 132 131 (iR 4 1),bK 133 131 (iR 0 132),bK 134 131 (bL 1 133),bK 135 131 (cj .neq (aT 134) (aS [])),bK 136 131 (jO 135),bF 137 136 (iR 4 1),bF 138 136 (iR 1 137),bF 139 136 (bL 1 138),bF 140 136 (n9 139),bF 141 136 (cj .gtr (aT 140) (aI 0)),bK 142 131 (.pick (aT 136) Dq (aT 141)),bF 143 127 (.pick (aT 131) (aT 142) jz),kW 144 127 143] (cu 144 (cR [b7 2 jz] .ret) .skip)) (.seq (cR [dE 145 0 1,aE 146 1 145,al 147 .eql 146 0,ae 148 147,bK 149 148 (iR 1 1),bK 150 148 (bL 1 149),bK 151 148 (cj .lss (aT 150) (aI (-1099511627776))),bK 152 148 (jO 151),bF 153 152 (iR 1 1),bF 154 152 (bL 1 153),bF 155 152 (cj .gtr (aT 154) (aI 1099511627776)),bK 156 148 (.pick (aT 152) Dq (aT 155)),iu 157 148 156,ae 158 157,bF 159 158 (iR 0 1),bF 160 158 (bL 1 159),bF 161 158 (cj .eql (aT 160) (aI 1)),bF 162 158 (jO 161),bK 163 162 (iR 1 1),bK 164 162 (bL 1 163),bK 165 162 (cj .neq (aT 164) (aI 0)),bF 166 158 (.pick (aT 162) (aT 165) jz),bF 167 158 (jO 166),bK 168 167 (iR 1 1),bK 169 167 (bL 1 168),bK 170 167 (cj .neq (aT 169) (aI 1)),bF 171 158 (.pick (aT 167) (aT 170) jz),kW 172 158 171] (cu 172 (cR [b7 2 jz] .ret) .skip)) (.seq (cR [dE 173 0 1,aE 174 1 173,al 175 .neq 174 0,ae 176 175,bK 177 176 (iR 0 1),bK 178 176 (bL 1 177),bK 179 176 (cj .neq (aT 178) (aI 1)),iu 180 176 179,ae 181 180,bK 182 181 (iR 0 1),bK 183 181 (bL 1 182),bK 184 181 (cj .neq (aT 183) (aI 4)),iu 185 181 184,ae 186 185,bK 187 186 (iR 1 1),bK 188 186 (bL 1 187),bK 189 186 (cj .neq (aT 188) (aI 0)),iu 190 186 189] (cu 190 (cR [b7 2 jz] .ret) .skip)) (.seq (cR [aC 7 (aI 0)] (.block 0 (.loop (.seq (cR [af 191 7,dE 192 6 1,aE 193 1 192,bQ 194 .sl 193,bz 195 .lss 191 194] (cu 195 .skip (.exit 0))) (.seq (.block 1 (cR [dE 198 6 1,aE 199 1 198,af 200 7,fl 201 8 199 200,ct 202 8 201,aY 203 59 202,oO 204 (.un .not (aT 203))] (cu 204 (cR [b7 2 jz] .ret) .skip))) (.region false [af 196 7,al 197 .add 196 1,ae 7 197])))))) (cR [b7 2 Dq] .ret)))))))))))⟩
theorem Ro:bo Tryz.f59 oJ=some oJ:=by kernel_rfl
def Nx:au:=⟨[2,3,4,5,6],[],[],18,1,[.tmp 2],cR [aC 2 (.bC (.slice [] true))] (cR [af 7 0,aY 8 95 7,ae 6 8,nG 9 6 0,nG 10 6 1,nG 11 6 2,ae 3 9,ae 4 10,ae 5 11] (.seq (cR [af 12 5] (cu 12 (cR [af 13 3,af 14 4,oO 15 (gX 1 [[.str []],[.str []],[.str []]] [(0,.tmp 13),(1,.bC (.str [46])),(2,.tmp 14)]),ae 2 15] .ret) .skip)) (cR [af 16 3,oO 17 (gX 1 [[.str []]] [(0,.tmp 16)]),ae 2 17] .ret)))⟩
theorem Rp:bo Tryz.f60 Nx=some Nx:=by kernel_rfl
def Ny:au:=⟨[8,9,10,12,16,18],[],[],22,4,[.tmp 8],cR [aC 8 (.bC (.slice [] true))] (cR [aC 9 (.bC (.slice [] true))] (cR [ae 10 9,af 11 0,cw 12 1 16 10 11,af 13 1,oO 14 (gX 1 [[.str []]] [(0,.tmp 13)]),cw 15 1 16 12 14,ae 9 15] (cR [ae 16 9,af 17 2,cw 18 1 16 16 17,af 19 3,oO 20 (gX 1 [[.str []]] [(0,.tmp 19)]),cw 21 1 16 18 20,ae 8 21] .ret)))⟩
theorem Rq:bo Tryz.f61 Ny=some Ny:=by kernel_rfl
def Nz:au:=⟨[2,3,4,13,16],[],[],24,1,[.tmp 2],cR [aC 2 (.bC (.slice [] true))] (cR [aC 3 (.bC (.slice [] true))] (.seq (cR [aC 4 (aI 0)] (.block 0 (.loop (.seq (cR [af 5 4,af 6 0,bQ 7 .sl 6,bz 8 .lss 5 7] (cu 8 .skip (.exit 0))) (.seq (.block 1 (.seq (cR [af 11 4,al 12 .gtr 11 0] (cu 12 (.region false [ae 13 3,oO 14 (gX 1 [[.str []]] [(0,.bC (.str [44]))]),cw 15 1 16 13 14,ae 3 15]) .skip)) (.region false [ae 16 3,af 17 0,af 18 4,fl 19 8 17 18,ct 20 8 19,aY 21 33 20,cw 22 1 16 16 21,ae 3 22]))) (.region false [af 9 4,al 10 .add 9 1,ae 4 10])))))) (cR [af 23 3,ae 2 23] .ret)))⟩
theorem Rr:bo Tryz.f62 Nz=some Nz:=by kernel_rfl
def NA:au:=⟨[2,3,4,5,8],[],[],22,1,[.tmp 2,.tmp 3],cR [aC 2 (aS []),aC 3 (aI 0)] (.seq (cR [af 6 0,al 7 .lss 6 0,ae 8 7,bF 9 8 (cx 0),bF 10 8 (cj .gtr (aT 9) (aI 11)),kW 11 8 10] (cu 11 (cR [aC 2 (aS []),aC 3 (aI 0)] .ret) .skip)) (cR [oO 12 (gX 1 [[.str []],[.str []],[.str []],[.str []],[.str []],[.str []],[.str []],[.str []],[.str []],[.str []],[.str []],[.str []]] [(0,.bC (.str [43])),(1,.bC (.str [45])),(2,.bC (.str [42])),(3,.bC (.str [47])),(4,.bC (.str [37])),(5,.bC (.str [60])),(6,.bC (.str [61,61])),(7,.bC (.str [97,110,100])),(8,.bC (.str [111,114])),(9,.bC (.str [110,111,116])),(10,.bC (.str [106,111,105,110])),(11,.bC (.str [108,101,110]))]),ae 4 12] (cR [oO 13 (gX 1 [[.int .i64 0],[.int .i64 0],[.int .i64 0],[.int .i64 0],[.int .i64 0],[.int .i64 0],[.int .i64 0],[.int .i64 0],[.int .i64 0],[.int .i64 0],[.int .i64 0],[.int .i64 0]] [(0,.bC (.int .i64 5)),(1,.bC (.int .i64 5)),(2,.bC (.int .i64 6)),(3,.bC (.int .i64 6)),(4,.bC (.int .i64 6)),(5,.bC (.int .i64 3)),(6,.bC (.int .i64 3)),(7,.bC (.int .i64 2)),(8,.bC (.int .i64 1)),(9,.bC (.int .i64 7)),(10,.bC (.int .i64 4)),(11,.bC (.int .i64 7))]),ae 5 13] (cR [af 14 4,af 15 0,iv 14,fl 16 1 14 15,iv 16,aE 17 1 16,af 18 5,af 19 0,iv 18,fl 20 1 18 19,iv 20,aE 21 1 20,ae 2 17,ae 3 21] .ret))))⟩
theorem Rs:bo Tryz.f63 NA=some NA:=by kernel_rfl
def NB:au:=⟨[4,9,12],[2],[],17,2,[.tmp 4],cR [oO 2 (.boxL (aT 0)),aC 4 (.bC (.slice [] true))] (.seq (cR [ct 5 8 2,aY 6 96 5,af 7 1,bz 8 .lss 6 7] (cu 8 (cR [oO 9 (gX 1 [[.str []]] [(0,.bC (.str [40]))]),ct 10 8 2,aY 11 33 10,cw 12 1 16 9 11,oO 13 (gX 1 [[.str []]] [(0,.bC (.str [41]))]),cw 14 1 16 12 13,ae 4 14] .ret) .skip)) (cR [ct 15 8 2,aY 16 33 15,ae 4 16] .ret))⟩
theorem Rt:bo Tryz.f64 NB=some NB:=by kernel_rfl
def NC:au:=⟨[4,6,13,17],[999999],[],21,2,[.tmp 4],cR [aC 4 jz] (.seq (cR [af 5 1] (.block 0 (.seq (cR [je 7 .eql (aT 5) (aS [41]),ae 6 7] (cu 6 .skip (cR [je 8 .eql (aT 5) (aS [93]),ae 6 8] (cu 6 .skip (cR [je 9 .eql (aT 5) (aS [44]),ae 6 9] (cu 6 .skip (.region false [je 10 .eql (aT 5) (aS [46]),ae 6 10]))))))) (cu 6 (cR [aC 4 Dq] .ret) .skip)))) (cR [af 11 0,je 12 .eql (aT 11) (aS [40]),ae 13 12,bF 14 13 (cx 0),bF 15 13 (cj .eql (aT 14) (aS [91])),kW 16 13 15,ae 17 16,bF 18 17 (cx 0),bF 19 17 (cj .eql (aT 18) (aS [46])),kW 20 17 19,ae 4 20] .ret))⟩
theorem Ru:bo Tryz.f65 NC=some NC:=by kernel_rfl
def ND:au:=⟨[4],[999999],[],8,2,[.tmp 4],cR [aC 4 jz] (cR [af 5 0,af 6 1,df 7 98 5 6,ae 4 7] .ret)⟩
theorem Rv:bo Tryz.f67 ND=some ND:=by kernel_rfl
noncomputable def WT:au:=cL [2,7] [999999] [] Tryz.f69
theorem Rw:bo Tryz.f69 WT=some WT:=by kernel_rfl
def WV:au:=⟨[2,5,10,17],[999999],[],23,1,[.tmp 2],cR [aC 2 jz] (cR [af 3 0,je 4 .neq (aT 3) (aS []),ae 5 4,bK 6 5 (cx 0),bK 7 5 (.indexStr (aT 6) (aI 0)),bK 8 5 (gD 100 [aT 7]),iu 9 5 8,ae 10 9,bK 11 10 (cx 0),bK 12 10 (gD 36 [aT 11]),bK 13 10 (cx 0),bK 14 10 (.len .str (aT 13)),bK 15 10 (cj .eql (aT 12) (aT 14)),iu 16 10 15,ae 17 16,bK 18 17 (.slice (.arr 27 1) (.aP 3) none none none),bK 19 17 (cx 0),bK 20 17 (gD 101 [aT 18,aT 19]),bK 21 17 (.un .not (aT 20)),iu 22 17 21,ae 2 22] .ret)⟩
theorem Rx:bo Tryz.f70 WV=some WV:=by kernel_rfl
def WW:au:=⟨[4,5,8],[999999],[],19,2,[.tmp 4],cR [aC 4 (aI 0)] (.seq (cR [af 6 0,bQ 7 .sl 6,aC 8 (aI 0)] (.block 0 (.loop (cR [bz 9 .lss 8 7] (.seq (cu 9 .skip (.exit 0)) (.seq (.block 1 (cR [af 10 8,ae 5 10] (cR [af 11 1,af 12 0,af 13 5,fl 14 1 12 13,aE 15 1 14,bz 16 .eql 11 15] (cu 16 (cR [af 17 5,ae 4 17] .ret) .skip)))) (.region false [al 18 .add 8 1,ae 8 18]))))))) (cR [aC 4 (aI (-1))] .ret))⟩
theorem Ry:bo Tryz.f71 WW=some WW:=by kernel_rfl
noncomputable def WX:au:=cL [16] [999999] [] Tryz.f72
theorem Rz:bo Tryz.f72 WX=some WX:=by kernel_rfl
noncomputable def WY:au:=cL [15,7,700002] [2,999999,999998] [] Tryz.f73
theorem RA:bo Tryz.f73 WY=some WY:=by kernel_rfl
noncomputable def WZ:au:=cL [3,7,11,6,10,17,20,700002] [2,999999] [] Tryz.f74
theorem RB:bo Tryz.f74 WZ=some WZ:=by kernel_rfl
noncomputable def W0:au:=cL [4,5] [999999] [] Tryz.f75
theorem RC:bo Tryz.f75 W0=some W0:=by kernel_rfl
noncomputable def W2:au:=cL [4,8,25,37,53,700002,700003] [2,18,999999] [] Tryz.f76
theorem RD:bo Tryz.f76 W2=some W2:=by kernel_rfl
noncomputable def W3:au:=cL [8] [999999] [] Tryz.f77
theorem RE:bo Tryz.f77 W3=some W3:=by kernel_rfl
noncomputable def W4:au:=cL [] [999999] [] Tryz.f78
theorem RF:bo Tryz.f78 W4=some W4:=by kernel_rfl
noncomputable def W5:au:=cL [16,30] [999999] [] Tryz.f79
theorem RG:bo Tryz.f79 W5=some W5:=by kernel_rfl
noncomputable def W7:au:=cL [9] [999999] [] Tryz.f80
theorem RH:bo Tryz.f80 W7=some W7:=by kernel_rfl
noncomputable def W8:au:=cL [2,4,13,18,21,27,30,36,39,44,53,56,63,66,700003] [999999] [] Tryz.f82
theorem RI:bo Tryz.f82 W8=some W8:=by kernel_rfl
noncomputable def W9:au:=cL [18,24,43,49,62,68,85,90,100,119,158,179] [999999,999996] [] Tryz.f83
theorem RJ:bo Tryz.f83 W9=some W9:=by kernel_rfl
noncomputable def Xa:au:=cL [2,5] [999999,7] [888888] Tryz.f84
theorem RL:bo Tryz.f84 Xa=some Xa:=by kernel_rfl
noncomputable def Xb:au:=cL [2,5] [999999,7] [888888] Tryz.f85
theorem RM:bo Tryz.f85 Xb=some Xb:=by kernel_rfl
noncomputable def Xc:au:=cL [3,6] [999999] [] Tryz.f86
theorem RN:bo Tryz.f86 Xc=some Xc:=by kernel_rfl
noncomputable def Xe:au:=cL [] [999999] [] Tryz.f87
theorem RO:bo Tryz.f87 Xe=some Xe:=by kernel_rfl
def NF:au:=⟨[5,9,12,19],[],[],23,1,[.tmp 2],cR [b7 2 (aI 0)] (.seq (cR [af 3 0,je 4 .geq (aT 3) (.bC (.int IntKind.u8 97)),ae 5 4,bK 6 5 (cx 0),bK 7 5 (cj .leq (aT 6) (.bC (.int IntKind.u8 122))),iu 8 5 7,ae 9 8,bF 10 9 (cx 0),bF 11 9 (cj .geq (aT 10) (.bC (.int IntKind.u8 65))),bF 12 9 (jO 11),bK 13 12 (cx 0),bK 14 12 (cj .leq (aT 13) (.bC (.int IntKind.u8 90))),bF 15 9 (.pick (aT 12) (aT 14) jz),kW 16 9 15] (cu 16 (cR [b7 2 (aI 1)] .ret) .skip)) (.seq (cR [af 17 0,je 18 .geq (aT 17) (.bC (.int IntKind.u8 48)),ae 19 18,bK 20 19 (cx 0),bK 21 19 (cj .leq (aT 20) (.bC (.int IntKind.u8 57))),iu 22 19 21] (cu 22 (cR [b7 2 (aI 2)] .ret) .skip)) (cR [b7 2 (aI 0)] .ret)))⟩
theorem RP:bo Tryz.f88 NF=some NF:=by kernel_rfl
def NG:au:=⟨[0],[],[],2,0,[.tmp 0],cR [aC 0 (.bC (.slice [] true))] (cR [oO 1 (gX 1 [[.str []],[.str []],[.str []],[.str []],[.str []],[.str []],[.str []],[.str []],[.str []],[.str []],[.str []],[.str []],[.str []],[.str []],[.str []],[.str []],[.str []],[.str []],[.str []],[.str []],[.str []],[.str []],[.str []],[.str []],[.str []],[.str []],[.str []]] [(0,.bC (.str [109,111,100,117,108,101])),(1,.bC (.str [117,115,101])),(2,.bC (.str [114,101,99])),(3,.bC (.str [99,97,115,101])),(4,.bC (.str [102,117,110])),(5,.bC (.str [111,110])),(6,.bC (.str [116,101,115,116])),(7,.bC (.str [99,111,110,118])),(8,.bC (.str [116,114,117,101])),(9,.bC (.str [102,97,108,115,101])),(10,.bC (.str [110,111,116])),(11,.bC (.str [97,110,100])),(12,.bC (.str [111,114])),(13,.bC (.str [105,102])),(14,.bC (.str [116,104,101,110])),(15,.bC (.str [101,108,115,101])),(16,.bC (.str [108,101,116])),(17,.bC (.str [105,110])),(18,.bC (.str [109,97,116,99,104])),(19,.bC (.str [102,111,108,100])),(20,.bC (.str [111,118,101,114])),(21,.bC (.str [100,111])),(22,.bC (.str [108,101,110])),(23,.bC (.str [106,111,105,110])),(24,.bC (.str [76,105,115,116])),(25,.bC (.str [73,110,116])),(26,.bC (.str [66,111,111,108]))]),ae 0 1] .ret)⟩
theorem RQ:bo Tryz.f89 NG=some NG:=by kernel_rfl
def NH:au:=⟨[4,5,6,19,25,31,49],[],[],67,2,[.tmp 4],cR [aC 4 (aI 0)] (cR [af 7 0,af 8 1,oO 9 (.indexStr (aT 7) (aT 8)),aY 10 88 9,ae 5 10] (.seq (cR [af 11 5,al 12 .gtr 11 0] (cu 12 (cR [af 13 1,al 14 .add 13 1,ae 6 14] (.seq (.block 0 (.loop (.seq (cR [af 15 6,af 16 0,bQ 17 .str 16,bz 18 .lss 15 17,ae 19 18,bK 20 19 (cx 0),bK 21 19 (cx 6),bK 22 19 (.indexStr (aT 20) (aT 21)),bK 23 19 (gD 88 [aT 22]),bK 24 19 (cj .eql (aT 23) (aI 2)),bK 25 19 (jO 24),bF 26 25 (cx 0),bF 27 25 (cx 6),bF 28 25 (.indexStr (aT 26) (aT 27)),bF 29 25 (gD 88 [aT 28]),bF 30 25 (cj .eql (aT 29) (aI 1)),bF 31 25 (jO 30),bK 32 31 (cx 5),bK 33 31 (cj .eql (aT 32) (aI 1)),bF 34 25 (.pick (aT 31) (aT 33) jz),bK 35 19 (.pick (aT 25) Dq (aT 34)),iu 36 19 35] (cu 36 .skip (.exit 0))) (.block 1 (.region false [af 37 6,al 38 .add 37 1,ae 6 38]))))) (.seq (cR [af 39 6,af 40 1,bz 41 .sub 39 40,al 42 .gtr 41 16] (cu 42 (cR [aC 4 (aI (-1))] .ret) .skip)) (cR [af 43 6,ae 4 43] .ret)))) .skip)) (.seq (cR [af 44 1,al 45 .add 44 1,af 46 0,bQ 47 .str 46,bz 48 .lss 45 47,ae 49 48,bK 50 49 (cx 0),bK 51 49 (cx 1),bK 52 49 (cx 1),bK 53 49 (cj .add (aT 52) (aI 2)),bK 54 49 (.slice .str (aT 50) (some (aT 51)) (some (aT 53)) none),bK 55 49 (gD 120 [aT 54]),iu 56 49 55] (cu 56 (cR [af 57 1,al 58 .add 57 2,ae 4 58] .ret) .skip)) (.seq (cR [af 59 0,af 60 1,af 61 1,al 62 .add 61 1,oO 63 (.slice .str (aT 59) (some (aT 60)) (some (aT 62)) none),aY 64 120 63] (cu 64 (cR [af 65 1,al 66 .add 65 1,ae 4 66] .ret) .skip)) (cR [aC 4 (aI (-1))] .ret)))))⟩
theorem RR:bo Tryz.f90 NH=some NH:=by kernel_rfl
def NI:au:=⟨[2,3,4,5,6,14,17],[],[],22,1,[.tmp 2],cR [aC 2 jz] (cR [af 7 0,aY 8 95 7,ae 6 8,nG 9 6 0,nG 10 6 1,nG 11 6 2,ae 3 9,ae 4 10,ae 5 11] (cR [af 12 3,aY 13 56 12,ae 14 13,bK 15 14 (cx 5),bK 16 14 (.un .not (aT 15)),bK 17 14 (jO 16),bF 18 17 (cx 4),bF 19 17 (gD 56 [aT 18]),bK 20 14 (.pick (aT 17) Dq (aT 19)),iu 21 14 20,ae 2 21] .ret))⟩
theorem RS:bo Tryz.f91 NI=some NI:=by kernel_rfl
def NJ:au:=⟨[5,11],[2,3],[],39,2,[.tmp 4],cR [oO 2 (.boxL (aT 0)),oO 3 (.boxL (aT 1)),b7 4 jz] (.seq (cR [dE 6 0 2,aE 7 1 6,dE 8 0 3,aE 9 1 8,bz 10 .neq 7 9,ae 11 10,bF 12 11 (iR 1 2),bF 13 11 (bL 1 12),bF 14 11 (n9 13),bF 15 11 (iR 1 3),bF 16 11 (bL 1 15),bF 17 11 (n9 16),bF 18 11 (cj .neq (aT 14) (aT 17)),kW 19 11 18] (cu 19 (cR [b7 4 jz] .ret) .skip)) (.seq (cR [aC 5 (aI 0)] (.block 0 (.loop (.seq (cR [af 20 5,dE 21 1 2,aE 22 1 21,bQ 23 .sl 22,bz 24 .lss 20 23] (cu 24 .skip (.exit 0))) (.seq (.block 1 (.seq (.region true [dE 27 1 2,aE 28 1 27,af 29 5,fl 30 2 28 29,ct 31 2 30,dE 32 1 3,aE 33 1 32,af 34 5,fl 35 2 33 34,ct 36 2 35,df 37 92 31 36,oO 38 (.un .not (aT 37))]) (cu 38 (cR [b7 4 jz] .ret) .skip))) (.region false [af 25 5,al 26 .add 25 1,ae 5 26])))))) (cR [b7 4 Dq] .ret)))⟩
theorem RT:bo Tryz.f92 NJ=some NJ:=by kernel_rfl
def NK:au:=⟨[3,4,5,6,12,14,16,18,20,22,32,34,36,39,41,43,50,52],[1],[],54,1,[.tmp 2,.tmp 3],cR [oO 1 (.boxL (aT 0)),b7 2 (aI 0),aC 3 (aI 0)] (cR [dE 7 6 1,aE 8 1 7,bQ 9 .sl 8,ae 4 9] (.seq (cR [dE 10 0 1,aE 11 1 10] (.block 0 (cR [al 13 .eql 11 0,ae 12 13] (cu 12 (cR [b7 2 (aI 0),aC 3 (aI 0)] .ret) (cR [al 15 .eql 11 1,ae 14 15] (cu 14 (cR [b7 2 (aI 0),aC 3 (aI 0)] .ret) (cR [al 17 .eql 11 2,ae 16 17] (cu 16 (cR [b7 2 (aI 0),aC 3 (aI 0)] .ret) (cR [al 19 .eql 11 3,ae 18 19] (cu 18 (cR [b7 2 (aI (-1)),aC 3 (aI 0)] .ret) (cR [al 21 .eql 11 4,ae 20 21] (cu 20 (cR [dE 23 1 1,aE 24 1 23,aY 25 63 24,ae 22 25,nG 26 22 0,nG 27 22 1,ae 5 26,ae 6 27] (.seq (cR [af 28 5,je 29 .eql (aT 28) (aS [])] (cu 29 (cR [b7 2 (aI (-2)),aC 3 (aI 0)] .ret) .skip)) (.seq (cR [af 30 6,al 31 .eql 30 7] (cu 31 (cR [b7 2 (aI 1),aC 3 (aI 0)] .ret) .skip)) (cR [b7 2 (aI 2),aC 3 (aI 0)] .ret)))) (cR [al 33 .eql 11 5,ae 32 33] (cu 32 (cR [b7 2 (aI 3),aC 3 (aI 0)] .ret) (cR [al 35 .eql 11 6,ae 34 35] (cu 34 (cR [b7 2 (aI 2),aC 3 (aI 1)] .ret) (cR [al 37 .eql 11 7,ae 36 37] (cu 36 (cR [af 38 4,b7 2 (aI (-1)),ae 3 38] .ret) (cR [al 40 .eql 11 8,ae 39 40] (cu 39 (cR [b7 2 (aI 1),aC 3 (aI 0)] .ret) (cR [al 42 .eql 11 9,ae 41 42] (cu 41 (cR [b7 2 (aI 1),aC 3 (aI 0)] .ret) (cR [al 44 .eql 11 10,ae 43 44] (cu 43 (.seq (cR [af 45 4,al 46 .lss 45 2] (cu 46 (cR [b7 2 (aI (-2)),aC 3 (aI 0)] .ret) .skip)) (cR [af 47 4,al 48 .sub 47 1,je 49 .mul (aI 2) (aT 48),b7 2 (aI (-1)),ae 3 49] .ret)) (cR [al 51 .eql 11 11,ae 50 51] (cu 50 (cR [b7 2 (aI (-1)),aC 3 (aI 0)] .ret) (cR [al 53 .eql 11 12,ae 52 53] (cu 52 (cR [b7 2 (aI 3),aC 3 (aI 2)] .ret) .skip)))))))))))))))))))))))))))) (cR [b7 2 (aI (-2)),aC 3 (aI 0)] .ret)))⟩
theorem RU:bo Tryz.f93 NK=some NK:=by kernel_rfl
def NL:au:=⟨[3],[],[],16,1,[.tmp 2],cR [b7 2 jz] (.seq (cR [aC 3 (aI 0)] (.block 0 (.loop (.seq (cR [af 4 3,af 5 0,bQ 6 .sl 5,bz 7 .lss 4 6] (cu 7 .skip (.exit 0))) (.seq (.block 1 (cR [af 10 0,af 11 3,fl 12 1 10 11,aE 13 1 12,aY 14 56 13,oO 15 (.un .not (aT 14))] (cu 15 (cR [b7 2 jz] .ret) .skip))) (.region false [af 8 3,al 9 .add 8 1,ae 3 9])))))) (cR [b7 2 Dq] .ret))⟩
theorem RV:bo Tryz.f94 NL=some NL:=by kernel_rfl
def NM:au:=⟨[2,3,5],[],[],24,1,[.tmp 2,.tmp 3,.tmp 4],cR [aC 2 (aS []),aC 3 (aS []),b7 4 jz] (.seq (cR [aC 5 (aI 0)] (.block 0 (.loop (.seq (cR [af 6 5,af 7 0,bQ 8 .str 7,bz 9 .lss 6 8] (cu 9 .skip (.exit 0))) (.seq (.block 1 (cR [af 12 0,af 13 5,oO 14 (.indexStr (aT 12) (aT 13)),je 15 .eql (aT 14) (.bC (.int IntKind.u8 46))] (cu 15 (cR [af 16 0,af 17 5,oO 18 (.slice .str (aT 16) none (some (aT 17)) none),af 19 0,af 20 5,al 21 .add 20 1,oO 22 (.slice .str (aT 19) (some (aT 21)) none none),ae 2 18,ae 3 22,b7 4 Dq] .ret) .skip))) (.region false [af 10 5,al 11 .add 10 1,ae 5 11])))))) (cR [af 23 0,ae 2 23,aC 3 (aS []),b7 4 jz] .ret))⟩
theorem RW:bo Tryz.f95 NM=some NM:=by kernel_rfl
def NO:au:=⟨[2,3,4,8,13,21],[1],[],28,1,[.tmp 2],cR [oO 1 (.boxL (aT 0)),aC 2 (aI 0)] (.seq (cR [dE 5 0 1,aE 6 1 5,al 7 .eql 6 5,ae 8 7,bF 9 8 (iR 0 1),bF 10 8 (bL 1 9),bF 11 8 (cj .eql (aT 10) (aI 6)),kW 12 8 11,ae 13 12,bF 14 13 (iR 0 1),bF 15 13 (bL 1 14),bF 16 13 (cj .eql (aT 15) (aI 12)),kW 17 13 16] (cu 17 (cR [aC 2 (aI 0)] .ret) .skip)) (.seq (cR [dE 18 0 1,aE 19 1 18,al 20 .eql 19 4] (cu 20 (cR [dE 22 1 1,aE 23 1 22,aY 24 63 23,ae 21 24,nG 25 21 0,nG 26 21 1,ae 3 25,ae 4 26] (cR [af 27 4,ae 2 27] .ret)) .skip)) (cR [aC 2 (aI 8)] .ret)))⟩
theorem RX:bo Tryz.f96 NO=some NO:=by kernel_rfl
def NP:au:=⟨[4,10],[999999],[],18,2,[.tmp 4],cR [aC 4 jz] (cR [af 5 0,bQ 6 .str 5,af 7 1,bQ 8 .str 7,bz 9 .geq 6 8,ae 10 9,bK 11 10 (cx 0),bK 12 10 (cx 1),bK 13 10 (.len .str (aT 12)),bK 14 10 (.slice .str (aT 11) none (some (aT 13)) none),bK 15 10 (cx 1),bK 16 10 (cj .eql (aT 14) (aT 15)),iu 17 10 16,ae 4 17] .ret)⟩
theorem RY:bo Tryz.f98 NP=some NP:=by kernel_rfl
def Cd:au:=⟨[2,5,9,12],[999999],[],17,1,[.tmp 2],cR [aC 2 jz] (cR [af 3 0,je 4 .geq (aT 3) (.bC (.int IntKind.u8 97)),ae 5 4,bK 6 5 (cx 0),bK 7 5 (cj .leq (aT 6) (.bC (.int IntKind.u8 122))),iu 8 5 7,ae 9 8,bF 10 9 (cx 0),bF 11 9 (cj .geq (aT 10) (.bC (.int IntKind.u8 65))),bF 12 9 (jO 11),bK 13 12 (cx 0),bK 14 12 (cj .leq (aT 13) (.bC (.int IntKind.u8 90))),bF 15 9 (.pick (aT 12) (aT 14) jz),kW 16 9 15,ae 2 16] .ret)⟩
theorem LY:bo Tryz.f100 Cd=some Cd:=by kernel_rfl
def LZ:au:=⟨[4],[999999],[],9,2,[.tmp 4],cR [aC 4 jz] (cR [af 5 0,af 6 1,df 7 71 5 6,al 8 .geq 7 0,ae 4 8] .ret)⟩
theorem L0:bo Tryz.f101 LZ=some LZ:=by kernel_rfl
noncomputable def L1:au:=cL [700002,700003] [2,3,999999] [] Tryz.f102
theorem L2:bo Tryz.f102 L1=some L1:=by kernel_rfl
noncomputable def L3:au:=cL [2,3,11] [999999] [] Tryz.f103
theorem L4:bo Tryz.f103 L3=some L3:=by kernel_rfl
noncomputable def L5:au:=cL [2,3,4,5,12,16,22] [999999] [] Tryz.f104
theorem L6:bo Tryz.f104 L5=some L5:=by kernel_rfl
noncomputable def L7:au:=cL [] [999999] [] Tryz.f105
theorem L8:bo Tryz.f105 L7=some L7:=by kernel_rfl
noncomputable def L9:au:=cL [5,6,9,39,48,27,69,700004,700007,700008] [4,7,8,999999] [14] Tryz.f106
theorem L':bo Tryz.f106 L9=some L9:=by kernel_rfl
noncomputable def Ma:au:=cL [] [999999] [] Tryz.f107
theorem Mb:bo Tryz.f107 Ma=some Ma:=by kernel_rfl
noncomputable def Mc:au:=cL [4,5,6,7] [999999] [] Tryz.f108
theorem Md:bo Tryz.f108 Mc=some Mc:=by kernel_rfl
noncomputable def Mf:au:=cL [3] [999999] [] Tryz.f110
theorem Mg:bo Tryz.f110 Mf=some Mf:=by kernel_rfl
noncomputable def Mh:au:=cL [4] [999999] [] Tryz.f111
theorem Mi:bo Tryz.f111 Mh=some Mh:=by kernel_rfl
noncomputable def Mj:au:=cL [] [999999] [] Tryz.f112
theorem Mk:bo Tryz.f112 Mj=some Mj:=by kernel_rfl
noncomputable def Ml:au:=cL [4] [999999] [] Tryz.f113
theorem Mm:bo Tryz.f113 Ml=some Ml:=by kernel_rfl
noncomputable def Mn:au:=cL [2] [999999] [] Tryz.f114
theorem Mo:bo Tryz.f114 Mn=some Mn:=by kernel_rfl
noncomputable def Mp:au:=cL [6,10,700007] [7,999999] [] Tryz.f115
theorem Mq:bo Tryz.f115 Mp=some Mp:=by kernel_rfl
noncomputable def Mr:au:=cL [4,5,6,7] [999999] [] Tryz.f116
theorem Ms:bo Tryz.f116 Mr=some Mr:=by kernel_rfl
noncomputable def Mt:au:=cL [8,15] [999999] [] Tryz.f117
theorem Mu:bo Tryz.f117 Mt=some Mt:=by kernel_rfl
noncomputable def Mv:au:=cL [6,10,700007] [7,999999] [] Tryz.f118
theorem Mw:bo Tryz.f118 Mv=some Mv:=by kernel_rfl
noncomputable def Mx:au:=cL [4] [999999,999996] [] Tryz.f119
theorem My:bo Tryz.f119 Mx=some Mx:=by kernel_rfl
def Ce:au:=⟨[4,7],[],[],26,1,[.tmp 2],cR [b7 2 jz] (.seq (cR [af 5 0,je 6 .eql (aT 5) (aS [61,61]),ae 7 6,bF 8 7 (cx 0),bF 9 7 (cj .eql (aT 8) (aS [45,62])),kW 10 7 9] (cu 10 (cR [b7 2 Dq] .ret) .skip)) (.seq (cR [af 11 0,bQ 12 .str 11,al 13 .neq 12 1] (cu 13 (cR [b7 2 jz] .ret) .skip)) (cR [b7 3 (aS [40,41,123,125,91,93,44,58,46,61,43,45,42,47,37,60])] (.seq (cR [aC 4 (aI 0)] (.block 0 (.loop (.seq (cR [af 14 4,af 15 3,bQ 16 .str 15,bz 17 .lss 14 16] (cu 17 .skip (.exit 0))) (.seq (.block 1 (.seq (.region true [af 20 3,af 21 4,oO 22 (.indexStr (aT 20) (aT 21)),af 23 0,oO 24 (.indexStr (aT 23) (aI 0)),bz 25 .eql 22 24]) (cu 25 (cR [b7 2 Dq] .ret) .skip))) (.region false [af 18 4,al 19 .add 18 1,ae 4 19])))))) (cR [b7 2 jz] .ret)))))⟩
theorem Mz:bo Tryz.f120 Ce=some Ce:=by kernel_rfl
noncomputable def MA:au:=cL [4,8,16,23,27,31,39,52,6,15,22,26,30,700002,700003] [2,999999] [] Tryz.f123
theorem MB:bo Tryz.f123 MA=some MA:=by kernel_rfl
noncomputable def MC:au:=cL [4,5,6] [999999] [] Tryz.f124
theorem MD:bo Tryz.f124 MC=some MC:=by kernel_rfl
noncomputable def ME:au:=cL [4] [999999] [] Tryz.f126
theorem MF:bo Tryz.f126 ME=some ME:=by kernel_rfl
noncomputable def MG:au:=cL [4] [999999] [] Tryz.f127
theorem MH:bo Tryz.f127 MG=some MG:=by kernel_rfl
noncomputable def MI:au:=cL [] [999999] [] Tryz.f128
theorem MJ:bo Tryz.f128 MI=some MI:=by kernel_rfl
noncomputable def MK:au:=cL [2,3,4,700005] [5,999999] [7] Tryz.f129
theorem ML:bo Tryz.f129 MK=some MK:=by kernel_rfl
noncomputable def MN:au:=cL [] [999999] [] Tryz.f130
theorem MO:bo Tryz.f130 MN=some MN:=by kernel_rfl
noncomputable def MP:au:=cL [] [999999,999996] [] Tryz.f131
theorem MQ:bo Tryz.f131 MP=some MP:=by kernel_rfl
noncomputable def MR:au:=cL [] [999999,999996] [] Tryz.f132
theorem MS:bo Tryz.f132 MR=some MR:=by kernel_rfl
noncomputable def MT:au:=cL [24,700002] [2,999999] [] Tryz.f135
theorem MU:bo Tryz.f135 MT=some MT:=by kernel_rfl
noncomputable def MV:au:=cL [18,29,39,6,700002,700003] [2,3,999999] [] Tryz.f136
theorem MW:bo Tryz.f136 MV=some MV:=by kernel_rfl
noncomputable def MX:au:=cL [13,20,27,44,8,10,700002,700003,700004] [2,999999] [] Tryz.f137
theorem MY:bo Tryz.f137 MX=some MX:=by kernel_rfl
noncomputable def MZ:au:=cL [4,5,7] [999999] [] Tryz.f138
theorem M0:bo Tryz.f138 MZ=some MZ:=by kernel_rfl
noncomputable def M1:au:=cL [4,5,6,7,8,9,10,11,12,13,16,19,24,31,36,40,84,102,121,128] [999999] [] Tryz.f143
theorem M3:bo Tryz.f143 M1=some M1:=by kernel_rfl
noncomputable def M4:au:=cL [2,3,4,7,11,13] [999999] [] Tryz.f144
theorem M5:bo Tryz.f144 M4=some M4:=by kernel_rfl
noncomputable def M7:au:=cL [4] [999999] [] Tryz.f150
theorem M8:bo Tryz.f150 M7=some M7:=by kernel_rfl
noncomputable def M9:au:=cL [2] [999999] [] Tryz.f157
theorem M':bo Tryz.f157 M9=some M9:=by kernel_rfl
noncomputable def Na:au:=cL [4,5,6,7,8,9,10,11,33,68] [999999] [] Tryz.f158
theorem Nb:bo Tryz.f158 Na=some Na:=by kernel_rfl
noncomputable def Nd:au:=cL [2,3,4,5,6,7,8] [999999] [] Tryz.f164
theorem Nf:bo Tryz.f164 Nd=some Nd:=by kernel_rfl
def Cf:au:=⟨[2,5],[999999],[],9,1,[.tmp 2],cR [aC 2 jz] (cR [af 3 0,aY 4 100 3,ae 5 4,bF 6 5 (cx 0),bF 7 5 (gD 188 [aT 6]),kW 8 5 7,ae 2 8] .ret)⟩
theorem Nh:bo Tryz.f187 Cf=some Cf:=by kernel_rfl
def Cg:au:=⟨[2,5],[999999],[],9,1,[.tmp 2],cR [aC 2 jz] (cR [af 3 0,je 4 .geq (aT 3) (.bC (.int IntKind.u8 48)),ae 5 4,bK 6 5 (cx 0),bK 7 5 (cj .leq (aT 6) (.bC (.int IntKind.u8 57))),iu 8 5 7,ae 2 8] .ret)⟩
theorem Ni:bo Tryz.f188 Cg=some Cg:=by kernel_rfl
def gK(c:Int):Nat->List UInt8->Int
 | _,[]=>-1
 | k,b :: r=>cond (decide ((b.toNat:Int)=c)) k (gK c (k+1) r)
def Aa(args:List AV)(_:ag):Option (AV × Option fD) :=
 match args with
 | [.str l]=>cond (Nat.ble l.length 281474976710656) (match Lib.atoiAll l with
  | .ok v=>some (.tuple [.int .i64 v,.bt],none)
  | .range=>some (.tuple [.int .i64 (Lib.atoiSat l),.iface 190 .any],none)
  | _=>some (.tuple [.int .i64 0,.iface 190 .any],none)) none
 | _=>none
def fL(args:List AV)(_:ag):Option (AV × Option fD) :=
 match args with
 | [.str l,.int .u8 c]=>cond (decide (0<=c)&&decide (c<256)) (some (.int .i64 (gK c 0 l),none)) none
 | _=>none
def Ia(e:List (List AV)):Bool:=e.all fun r=>match r with|[.int .u8 n]=>decide (0<=n)&&decide (n<256)|_=>false
def rJ(args:List AV)(H:ag):Option (AV × Option fD) :=
 match args with
 | [.ref l 0]=>match H[l]? with
  | some (.box 92 [_,.slice e true])=>cond (Nat.ble e.length 4611686018427387904&&Ia e) ((bytesOf e).map fun b=>(.str b,none)) none
  | _=>none
 | _=>none
def ml(args:List AV)(H:ag):Option (AV × Option fD) :=
 match args with
 | [.ref l 0]=>match H[l]? with
  | some (.box 92 [.cJ,x])=>some (.undef,some ⟨H.set l (.box 92 [.ref l 0,x]),l⟩)
  | some (.box 92 [.ref l' 0,_])=>cond (Nat.beq l l') (some (.undef,none)) none
  | _=>none
 | _=>none
def da:Nat->Nat->List UInt8->List UInt8
 | 0,_,acc=>acc
 | f+1,n,acc=>cond (Nat.blt n 10) (UInt8.ofNat (48+n) :: acc) (da f (n / 10) (UInt8.ofNat (48+n % 10) :: acc))
def NQ(n:Int):List UInt8 :=
 match n with
 | .ofNat k=>da (k+1) k []
 | .negSucc k=>45 :: da (k+2) (k+1) []
def Ab(args:List AV)(_:ag):Option (AV × Option fD) :=
 match args with
 | [.int .i64 n]=>cond (decide (-9223372036854775808<=n)&&decide (n<=9223372036854775807)) (some (.str (NQ n),none)) none
 | _=>none
def Yr:List (List UInt8):=[[43],[45],[42],[47],[37],[60],[61,61],[97,110,100],[111,114],[110,111,116],[106,111,105,110],[108,101,110]]
def R8:List Int:=[5,5,6,6,6,3,3,2,1,7,4,7]
def fm(n:Int):List UInt8 × Int:=if n<0\/11<n then ([],0) else (Yr.getD n.toNat [],R8.getD n.toNat 0)
def Ac(args:List AV)(H:ag):Option (AV × Option fD) :=
 match args,H with
 | [],[]=>some (.bool true,none)
 | _,_=>none
def ov0:FuncId->Option (List AV->ag->Option (AV × Option fD))
 | 38=>some rJ
 | 81=>some Ab
 | 68=>some ml
 | 66=>some fL
 | 97=>some fL
 | 122=>some Aa
 | _=>none
def ov:FuncId->Option (List AV->ag->Option (AV × Option fD))
 | 6=>some Ac
 | 38=>some rJ
 | 81=>some Ab
 | 68=>some ml
 | 66=>some fL
 | 97=>some fL
 | 122=>some Aa
 | _=>none
noncomputable def fns:FuncId->Option au
 | 3=>some zR
 | 4=>some ir4
 | 5=>some yd
 | 6=>some ir6
 | 7=>some ir7
 | 8=>some ir8
 | 9=>some ir9
 | 10=>some FZ
 | 11=>some Me
 | 12=>some F0
 | 13=>some MM
 | 14=>some Wq
 | 15=>some M6
 | 16=>some Nc
 | 17=>some Wr
 | 18=>some Ng
 | 19=>some Nj
 | 20=>some Nk
 | 21=>some Nl
 | 22=>some oI
 | 23=>some cT
 | 24=>some Ws
 | 25=>some Wt
 | 26=>some Nn
 | 27=>some Wu
 | 28=>some Wv
 | 29=>some Ww
 | 30=>some No
 | 31=>some F1
 | 32=>some Np
 | 33=>some jc
 | 34=>some Nq
 | 35=>some Nr
 | 36=>some Ns
 | 37=>some Wx
 | 39=>some Nt
 | 40=>some F2
 | 41=>some Nu
 | 42=>some Wz
 | 43=>some WA
 | 44=>some WB
 | 45=>some WC
 | 46=>some WD
 | 47=>some WE
 | 48=>some WG
 | 49=>some WH
 | 50=>some WJ
 | 51=>some WK
 | 52=>some WL
 | 53=>some WM
 | 54=>some WQ
 | 55=>some WR
 | 56=>some Nv
 | 57=>some F3
 | 58=>some Nw
 | 59=>some oJ
 | 60=>some Nx
 | 61=>some Ny
 | 62=>some Nz
 | 63=>some NA
 | 64=>some NB
 | 65=>some NC
 | 67=>some ND
 | 69=>some WT
 | 70=>some WV
 | 71=>some WW
 | 72=>some WX
 | 73=>some WY
 | 74=>some WZ
 | 75=>some W0
 | 76=>some W2
 | 77=>some W3
 | 78=>some W4
 | 79=>some W5
 | 80=>some W7
 | 82=>some W8
 | 83=>some W9
 | 84=>some Xa
 | 85=>some Xb
 | 86=>some Xc
 | 87=>some Xe
 | 88=>some NF
 | 89=>some NG
 | 90=>some NH
 | 91=>some NI
 | 92=>some NJ
 | 93=>some NK
 | 94=>some NL
 | 95=>some NM
 | 96=>some NO
 | 98=>some NP
 | 100=>some Cd
 | 101=>some LZ
 | 102=>some L1
 | 103=>some L3
 | 104=>some L5
 | 105=>some L7
 | 106=>some L9
 | 107=>some Ma
 | 108=>some Mc
 | 110=>some Mf
 | 111=>some Mh
 | 112=>some Mj
 | 113=>some Ml
 | 114=>some Mn
 | 115=>some Mp
 | 116=>some Mr
 | 117=>some Mt
 | 118=>some Mv
 | 119=>some Mx
 | 120=>some Ce
 | 123=>some MA
 | 124=>some MC
 | 126=>some ME
 | 127=>some MG
 | 128=>some MI
 | 129=>some MK
 | 130=>some MN
 | 131=>some MP
 | 132=>some MR
 | 135=>some MT
 | 136=>some MV
 | 137=>some MX
 | 138=>some MZ
 | 143=>some M1
 | 144=>some M4
 | 150=>some M7
 | 157=>some M9
 | 158=>some Na
 | 164=>some Nd
 | 187=>some Cf
 | 188=>some Cg
 | _=>none
def yM:TypeId:=210
def dP:List (List UInt8):=[[109,111,100,117,108,101],[117,115,101],[114,101,99],[99,97,115,101],[102,117,110],[111,110],[116,101,115,116],[99,111,110,118],[116,114,117,101],[102,97,108,115,101],[110,111,116],[97,110,100],[111,114],[105,102],[116,104,101,110],[101,108,115,101],[108,101,116],[105,110],[109,97,116,99,104],[102,111,108,100],[111,118,101,114],[100,111],[108,101,110],[106,111,105,110],[76,105,115,116],[73,110,116],[66,111,111,108]]
def jf:List (List UInt8):=[[61,61],[45,62],[40],[41],[123],[125],[91],[93],[44],[58],[46],[61],[43],[45],[42],[47],[37],[60]]
def qp:List (List UInt8):=[[114,101,99],[99,97,115,101],[102,117,110],[111,110],[116,101,115,116],[99,111,110,118]]
def adU:List (List AV):=[[.str [37],.int .i64 4,.int .i64 6],[.str [42],.int .i64 2,.int .i64 6],[.str [43],.int .i64 0,.int .i64 5],[.str [45],.int .i64 1,.int .i64 5],[.str [47],.int .i64 3,.int .i64 6],[.str [60],.int .i64 5,.int .i64 3],[.str [61,61],.int .i64 6,.int .i64 3],[.str [97,110,100],.int .i64 7,.int .i64 2],[.str [106,111,105,110],.int .i64 10,.int .i64 4],[.str [111,114],.int .i64 8,.int .i64 1]]
def HN:Nat->List AV
 | 0=>[.func (.func 100) [] [],.func (.func 187) [] [],.func (.func 188) [] [],.func (.func 188) [] []]
 | 1=>jf.map .str
 | 2=>[.slice (qp.map fun s=>[.str s]) false]
 | 3=>dP.map .str
 | 4=>[.l9 1 false true adU]
 | 6=>Lib.pow10Tab.map (.int .u64)
 | 7=>[.iface yM .any]
 | 8=>[.iface yM .any]
 | _=>[]
noncomputable def A0:AP:={ fns,ov:=ov0,aP:=HN }
noncomputable def A:AP:={ fns,ov,aP:=HN }
end Go.Proofs.YtocbgffdpfiidaaGreatDoor
namespace Go.Proofs
open Go.Shelf
def YtocbgffdpfiidaaGreatDoor.Cl:Go.Shelf.Ren:=⟨fun|172=>122|244=>133|245=>134|247=>145|279=>146|280=>147|281=>148|282=>149|287=>159|316=>160|171=>81|205=>161|321=>165|322=>166|243=>109|246=>125|283=>139|284=>140|285=>141|286=>142|129=>152|317=>151|318=>153|319=>154|320=>155|337=>162|338=>163|n=>n,fun|9=>9|3=>3|75=>94|76=>95|4=>4|5=>5|167=>187|37=>90|0=>0|85=>188|2=>2|168=>190|53=>181|175=>200|46=>198|210=>204|127=>131|145=>212|143=>210|21=>21|171=>180|173=>184|212=>194|51=>195|20=>20|213=>196|232=>213|233=>214|80=>56|n=>n,fun|15=>7|16=>8|17=>6|18=>9|19=>10|n=>n⟩
theorem YtocbgffdpfiidaaGreatDoor.zU:Go.Proofs.LaysC.n172 Tryz.prog YtocbgffdpfiidaaGreatDoor.Cl:={
 mixed:=by kernel_rfl
 f129:=tk Tryz.func152 (by kernel_rfl)
 f171:=tk Tryz.func81 (by kernel_rfl)
 f172:=tk Tryz.func122 (by kernel_rfl)
 f205:=tk Tryz.func161 (by kernel_rfl)
 f243:=tk Tryz.func109 (by kernel_rfl)
 f244:=tk Tryz.func133 (by kernel_rfl)
 f245:=tk Tryz.func134 (by kernel_rfl)
 f246:=tk Tryz.func125 (by kernel_rfl)
 f247:=tk Tryz.func145 (by kernel_rfl)
 f279:=tk Tryz.func146 (by kernel_rfl)
 f280:=tk Tryz.func147 (by kernel_rfl)
 f281:=tk Tryz.func148 (by kernel_rfl)
 f282:=tk Tryz.func149 (by kernel_rfl)
 f283:=tk Tryz.func139 (by kernel_rfl)
 f284:=tk Tryz.func140 (by kernel_rfl)
 f285:=tk Tryz.func141 (by kernel_rfl)
 f286:=tk Tryz.func142 (by kernel_rfl)
 f287:=tk Tryz.func159 (by kernel_rfl)
 f316:=tk Tryz.func160 (by kernel_rfl)
 f317:=tk Tryz.func151 (by kernel_rfl)
 f318:=tk Tryz.func153 (by kernel_rfl)
 f319:=tk Tryz.func154 (by kernel_rfl)
 f320:=tk Tryz.func155 (by kernel_rfl)
 f321:=tk Tryz.func165 (by kernel_rfl)
 f322:=tk Tryz.func166 (by kernel_rfl)
 f337:=tk Tryz.func162 (by kernel_rfl)
 f338:=tk Tryz.func163 (by kernel_rfl)
 t0:=Tryz.underlying0
 a0:=Tryz.isAgg0
 z0:=Tryz.sizeOf0
 v0:=Tryz.zeroValue0
 t2:=Tryz.underlying2
 a2:=Tryz.isAgg2
 z2:=Tryz.sizeOf2
 v2:=Tryz.zeroValue2
 t3:=Tryz.underlying3
 a3:=Tryz.isAgg3
 z3:=Tryz.sizeOf3
 v3:=Tryz.zeroValue3
 t4:=Tryz.underlying4
 a4:=Tryz.isAgg4
 z4:=Tryz.sizeOf4
 v4:=Tryz.zeroValue4
 t5:=Tryz.underlying5
 a5:=Tryz.isAgg5
 z5:=Tryz.sizeOf5
 v5:=Tryz.zeroValue5
 t9:=Tryz.underlying9
 a9:=Tryz.isAgg9
 z9:=Tryz.sizeOf9
 v9:=Tryz.zeroValue9
 t20:=Tryz.underlying20
 a20:=Tryz.isAgg20
 z20:=Tryz.sizeOf20
 v20:=Tryz.zeroValue20
 t21:=Tryz.underlying21
 a21:=Tryz.isAgg21
 z21:=Tryz.sizeOf21
 v21:=Tryz.zeroValue21
 t37:=Tryz.underlying90
 a37:=Tryz.isAgg90
 z37:=Tryz.sizeOf90
 v37:=Tryz.zeroValue90
 t46:=Tryz.underlying198
 a46:=Tryz.isAgg198
 z46:=Tryz.sizeOf198
 v46:=Tryz.zeroValue198
 t51:=Tryz.underlying195
 a51:=Tryz.isAgg195
 z51:=Tryz.sizeOf195
 v51:=Tryz.zeroValue195
 t53:=Tryz.underlying181
 a53:=Tryz.isAgg181
 z53:=Tryz.sizeOf181
 v53:=Tryz.zeroValue181
 t75:=Tryz.underlying94
 a75:=Tryz.isAgg94
 z75:=Tryz.sizeOf94
 v75:=Tryz.zeroValue94
 t76:=Tryz.underlying95
 a76:=Tryz.isAgg95
 z76:=Tryz.sizeOf95
 v76:=Tryz.zeroValue95
 t85:=Tryz.underlying188
 a85:=Tryz.isAgg188
 z85:=Tryz.sizeOf188
 v85:=Tryz.zeroValue188
 t127:=Tryz.underlying131
 a127:=Tryz.isAgg131
 z127:=Tryz.sizeOf131
 v127:=Tryz.zeroValue131
 t143:=Tryz.underlying210
 a143:=Tryz.isAgg210
 z143:=Tryz.sizeOf210
 v143:=Tryz.zeroValue210
 t145:=Tryz.underlying212
 a145:=Tryz.isAgg212
 z145:=Tryz.sizeOf212
 v145:=Tryz.zeroValue212
 t167:=Tryz.underlying187
 a167:=Tryz.isAgg187
 z167:=Tryz.sizeOf187
 v167:=Tryz.zeroValue187
 t168:=Tryz.underlying190
 a168:=Tryz.isAgg190
 z168:=Tryz.sizeOf190
 v168:=Tryz.zeroValue190
 t171:=Tryz.underlying180
 a171:=Tryz.isAgg180
 z171:=Tryz.sizeOf180
 v171:=Tryz.zeroValue180
 t173:=Tryz.underlying184
 a173:=Tryz.isAgg184
 z173:=Tryz.sizeOf184
 v173:=Tryz.zeroValue184
 t175:=Tryz.underlying200
 a175:=Tryz.isAgg200
 z175:=Tryz.sizeOf200
 v175:=Tryz.zeroValue200
 t210:=Tryz.underlying204
 a210:=Tryz.isAgg204
 z210:=Tryz.sizeOf204
 v210:=Tryz.zeroValue204
 t212:=Tryz.underlying194
 a212:=Tryz.isAgg194
 z212:=Tryz.sizeOf194
 v212:=Tryz.zeroValue194
 t213:=Tryz.underlying196
 a213:=Tryz.isAgg196
 z213:=Tryz.sizeOf196
 t232:=Tryz.underlying213
 a232:=Tryz.isAgg213
 z232:=Tryz.sizeOf213
 v232:=Tryz.zeroValue213
 t233:=Tryz.underlying214
 a233:=Tryz.isAgg214
 z233:=Tryz.sizeOf214
 v233:=Tryz.zeroValue214
 g15:=by kernel_rfl
 g16:=by kernel_rfl
 g17:=by kernel_rfl
 g18:=by kernel_rfl
 g19:=by kernel_rfl
 t80:=Tryz.underlying56
 a80:=Tryz.isAgg56
 z80:=Tryz.sizeOf56
 v80:=Tryz.zeroValue56
 i0:=by kernel_rfl
 i2:=by kernel_rfl
 i3:=by kernel_rfl
 i4:=by kernel_rfl
 i5:=by kernel_rfl
 i9:=by kernel_rfl
 i20:=by kernel_rfl
 i21:=by kernel_rfl
 i37:=by kernel_rfl
 i46:=by kernel_rfl
 i51:=by kernel_rfl
 i53:=by kernel_rfl
 i75:=by kernel_rfl
 i76:=by kernel_rfl
 i80:=by kernel_rfl
 i85:=by kernel_rfl
 i127:=by kernel_rfl
 i143:=by kernel_rfl
 i145:=by kernel_rfl
 i167:=by kernel_rfl
 i168:=by kernel_rfl
 i171:=by kernel_rfl
 i173:=by kernel_rfl
 i175:=by kernel_rfl
 i210:=by kernel_rfl
 i212:=by kernel_rfl
 i232:=by kernel_rfl
 i233:=by kernel_rfl
 m15:=by kernel_rfl
 m16:=by kernel_rfl
 m17:=by kernel_rfl
 m18:=by kernel_rfl
 m19:=by kernel_rfl
 c0:=by kernel_rfl
 c2:=by kernel_rfl
 c3:=by kernel_rfl
 c4:=by kernel_rfl
 c5:=by kernel_rfl
 c9:=by kernel_rfl
 c20:=by kernel_rfl
 c21:=by kernel_rfl
 c37:=by kernel_rfl
 c46:=by kernel_rfl
 c51:=by kernel_rfl
 c53:=by kernel_rfl
 c75:=by kernel_rfl
 c76:=by kernel_rfl
 c80:=by kernel_rfl
 c85:=by kernel_rfl
 c127:=by kernel_rfl
 c143:=by kernel_rfl
 c145:=by kernel_rfl
 c167:=by kernel_rfl
 c168:=by kernel_rfl
 c171:=by kernel_rfl
 c173:=by kernel_rfl
 c175:=by kernel_rfl
 c210:=by kernel_rfl
 c212:=by kernel_rfl
 c213:=by kernel_rfl
 c232:=by kernel_rfl
 c233:=by kernel_rfl }
def YtocbgffdpfiidaaGreatDoor.Cm:Go.Shelf.Ren:=⟨fun|171=>81|243=>109|246=>125|283=>139|284=>140|285=>141|286=>142|129=>152|317=>151|318=>153|319=>154|320=>155|337=>162|338=>163|n=>n,fun|3=>3|9=>9|2=>2|4=>4|171=>180|0=>0|53=>181|37=>90|5=>5|173=>184|212=>194|51=>195|20=>20|213=>196|46=>198|232=>213|233=>214|n=>n,fun|17=>6|18=>9|19=>10|n=>n⟩
theorem YtocbgffdpfiidaaGreatDoor.R4:Go.Proofs.LaysM.n171 Tryz.prog YtocbgffdpfiidaaGreatDoor.Cm:={
 mixed:=by kernel_rfl
 f129:=tk Tryz.func152 (by kernel_rfl)
 f171:=tk Tryz.func81 (by kernel_rfl)
 f243:=tk Tryz.func109 (by kernel_rfl)
 f246:=tk Tryz.func125 (by kernel_rfl)
 f283:=tk Tryz.func139 (by kernel_rfl)
 f284:=tk Tryz.func140 (by kernel_rfl)
 f285:=tk Tryz.func141 (by kernel_rfl)
 f286:=tk Tryz.func142 (by kernel_rfl)
 f317:=tk Tryz.func151 (by kernel_rfl)
 f318:=tk Tryz.func153 (by kernel_rfl)
 f319:=tk Tryz.func154 (by kernel_rfl)
 f320:=tk Tryz.func155 (by kernel_rfl)
 f337:=tk Tryz.func162 (by kernel_rfl)
 f338:=tk Tryz.func163 (by kernel_rfl)
 t0:=Tryz.underlying0
 a0:=Tryz.isAgg0
 z0:=Tryz.sizeOf0
 v0:=Tryz.zeroValue0
 t2:=Tryz.underlying2
 a2:=Tryz.isAgg2
 z2:=Tryz.sizeOf2
 v2:=Tryz.zeroValue2
 t3:=Tryz.underlying3
 a3:=Tryz.isAgg3
 z3:=Tryz.sizeOf3
 v3:=Tryz.zeroValue3
 t4:=Tryz.underlying4
 a4:=Tryz.isAgg4
 z4:=Tryz.sizeOf4
 v4:=Tryz.zeroValue4
 t5:=Tryz.underlying5
 a5:=Tryz.isAgg5
 z5:=Tryz.sizeOf5
 v5:=Tryz.zeroValue5
 t9:=Tryz.underlying9
 a9:=Tryz.isAgg9
 z9:=Tryz.sizeOf9
 v9:=Tryz.zeroValue9
 t20:=Tryz.underlying20
 a20:=Tryz.isAgg20
 z20:=Tryz.sizeOf20
 v20:=Tryz.zeroValue20
 t37:=Tryz.underlying90
 a37:=Tryz.isAgg90
 z37:=Tryz.sizeOf90
 v37:=Tryz.zeroValue90
 t46:=Tryz.underlying198
 a46:=Tryz.isAgg198
 z46:=Tryz.sizeOf198
 v46:=Tryz.zeroValue198
 t51:=Tryz.underlying195
 a51:=Tryz.isAgg195
 z51:=Tryz.sizeOf195
 v51:=Tryz.zeroValue195
 t53:=Tryz.underlying181
 a53:=Tryz.isAgg181
 z53:=Tryz.sizeOf181
 v53:=Tryz.zeroValue181
 t171:=Tryz.underlying180
 a171:=Tryz.isAgg180
 z171:=Tryz.sizeOf180
 v171:=Tryz.zeroValue180
 t173:=Tryz.underlying184
 a173:=Tryz.isAgg184
 z173:=Tryz.sizeOf184
 v173:=Tryz.zeroValue184
 t212:=Tryz.underlying194
 a212:=Tryz.isAgg194
 z212:=Tryz.sizeOf194
 v212:=Tryz.zeroValue194
 t213:=Tryz.underlying196
 a213:=Tryz.isAgg196
 z213:=Tryz.sizeOf196
 t232:=Tryz.underlying213
 a232:=Tryz.isAgg213
 z232:=Tryz.sizeOf213
 v232:=Tryz.zeroValue213
 t233:=Tryz.underlying214
 a233:=Tryz.isAgg214
 z233:=Tryz.sizeOf214
 v233:=Tryz.zeroValue214
 g17:=by kernel_rfl
 g18:=by kernel_rfl
 g19:=by kernel_rfl
 i0:=by kernel_rfl
 i2:=by kernel_rfl
 i3:=by kernel_rfl
 i4:=by kernel_rfl
 i5:=by kernel_rfl
 i9:=by kernel_rfl
 i20:=by kernel_rfl
 i37:=by kernel_rfl
 i46:=by kernel_rfl
 i51:=by kernel_rfl
 i53:=by kernel_rfl
 i171:=by kernel_rfl
 i173:=by kernel_rfl
 i212:=by kernel_rfl
 i232:=by kernel_rfl
 i233:=by kernel_rfl
 m17:=by kernel_rfl
 m18:=by kernel_rfl
 m19:=by kernel_rfl }
def YtocbgffdpfiidaaGreatDoor.zV:Go.Shelf.Ren:=⟨fun|137=>66|217=>97|266=>121|n=>n,fun|9=>9|5=>5|3=>3|n=>n,fun|n=>n⟩
theorem YtocbgffdpfiidaaGreatDoor.NZ:Go.Proofs.Lays.n137 Tryz.prog YtocbgffdpfiidaaGreatDoor.zV:={
 mixed:=by kernel_rfl
 f137:=tk Tryz.func66 (by kernel_rfl)
 f217:=tk Tryz.func97 (by kernel_rfl)
 f266:=tk Tryz.func121 (by kernel_rfl)
 t3:=Tryz.underlying3
 a3:=Tryz.isAgg3
 z3:=Tryz.sizeOf3
 v3:=Tryz.zeroValue3
 t5:=Tryz.underlying5
 a5:=Tryz.isAgg5
 z5:=Tryz.sizeOf5
 v5:=Tryz.zeroValue5
 t9:=Tryz.underlying9
 a9:=Tryz.isAgg9
 z9:=Tryz.sizeOf9
 v9:=Tryz.zeroValue9 }
def YtocbgffdpfiidaaGreatDoor.xi:Go.Shelf.Ren:=⟨fun|217=>97|266=>121|n=>n,fun|9=>9|5=>5|3=>3|n=>n,fun|n=>n⟩
theorem YtocbgffdpfiidaaGreatDoor.Jg:Go.Proofs.Lays.n217 Tryz.prog YtocbgffdpfiidaaGreatDoor.xi:={
 mixed:=by kernel_rfl
 f217:=tk Tryz.func97 (by kernel_rfl)
 f266:=tk Tryz.func121 (by kernel_rfl)
 t3:=Tryz.underlying3
 a3:=Tryz.isAgg3
 z3:=Tryz.sizeOf3
 v3:=Tryz.zeroValue3
 t5:=Tryz.underlying5
 a5:=Tryz.isAgg5
 z5:=Tryz.sizeOf5
 v5:=Tryz.zeroValue5
 t9:=Tryz.underlying9
 a9:=Tryz.isAgg9
 z9:=Tryz.sizeOf9
 v9:=Tryz.zeroValue9 }
end Go.Proofs
