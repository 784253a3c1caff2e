/-
  A part of the proof of PrintNames: AbsIrSa, AbsIrS, AbsProgS, AbsLaidS.
-/
import Derived.Test.YtocbgffdpfiidaaGreatDoorProg
import Derived.KernelRfl
import Derived.Lib.AtoiAll
import Derived.Lib.ItoaNum
import Derived.Shelf.Strconv.AtoiAll
import Derived.Shelf.Strconv.Itoa3
import Derived.Shelf.Small.Strs
import Derived.Shelf.Strings.Search1
import Derived.Ground.NamesProg
import Derived.Test.YtocbgffdpfiidaaGreatDoorChecked
import Derived.Test.YtocbgffdpfiidaaGreatDoorP06
set_option linter.unusedSimpArgs false
set_option linter.unusedVariables false
set_option linter.defProp false
set_option maxRecDepth 100000
namespace Go.Proofs.YtocbgffdpfiidaaGreatDoor
open Go Go.Abs Go.Proofs
abbrev aT(n:Nat):ak:=.tmp n
abbrev aI(n:Int):ak:=.a8 (.int .i64 n)
abbrev aS(s:List UInt8):ak:=.a8 (.str s)
abbrev DK:ak:=.a8 (.bool true)
abbrev jC:ak:=.a8 (.bool false)
abbrev oO(d:Nat)(x:dQ):az:=⟨some d,none,x⟩
abbrev oN(x:dQ):az:=⟨none,none,x⟩
abbrev bI(d g:Nat)(x:dQ):az:=⟨some d,some (g,true),x⟩
abbrev bF(d g:Nat)(x:dQ):az:=⟨some d,some (g,false),x⟩
abbrev uK(g:Nat)(x:dQ):az:=⟨none,some (g,true),x⟩
abbrev oHf(g:Nat)(x:dQ):az:=⟨none,some (g,false),x⟩
abbrev cA(i:Nat):dQ:=.mov false false (.tmp i)
abbrev jS(i:Nat):dQ:=.mov true false (.tmp i)
abbrev bM(k i:Nat):dQ:=.load false false k (.tmp i)
abbrev qD(k i:Nat):dQ:=.load false true k (.tmp i)
abbrev iW(k i:Nat):dQ:=.fieldAddr k (.tmp i)
abbrev cn(b:BinOp)(x y:ak):dQ:=.bin b .other x y
abbrev gG(f:Nat)(l:List ak):dQ:=.call (.fn f) l
abbrev od(i:Nat):dQ:=.len .sl (.tmp i)
abbrev w6(i:Nat):dQ:=.qN .heap (.tmp i)
abbrev gM(k:Nat)(z:List (List AV))(l:List (Nat × ak)):dQ:=.mkslice false k z l
abbrev aY(d f i:Nat):az:=⟨some d,none,.call (.fn f) [.tmp i]⟩
abbrev di(d f i j:Nat):az:=⟨some d,none,.call (.fn f) [.tmp i,.tmp j]⟩
abbrev Aq(d f i j k:Nat):az:=⟨some d,none,.call (.fn f) [.tmp i,.tmp j,.tmp k]⟩
abbrev aeP(d f i j k l:Nat):az:=⟨some d,none,.call (.fn f) [.tmp i,.tmp j,.tmp k,.tmp l]⟩
abbrev bu(d:Nat)(b:BinOp)(i j:Nat):az:=⟨some d,none,.bin b .other (.tmp i) (.tmp j)⟩
abbrev al(d:Nat)(b:BinOp)(i:Nat)(n:Int):az:=⟨some d,none,.bin b .other (.tmp i) (.a8 (.int .i64 n))⟩
abbrev dV(d k i j:Nat):az:=⟨some d,none,.ixSl k (.tmp i) (.tmp j)⟩
abbrev bJ(d:Nat)(k:j5)(i:Nat):az:=⟨some d,none,.len k (.tmp i)⟩
abbrev kY(d i j:Nat):az:=⟨some d,none,.pick (.tmp i) (.a8 (.bool true)) (.tmp j)⟩
abbrev iB(d i j:Nat):az:=⟨some d,none,.pick (.tmp i) (.tmp j) (.a8 (.bool false))⟩
abbrev cz(d k t i j:Nat):az:=⟨some d,none,.append false false k t (.tmp i) (.tmp j)⟩
abbrev af(d i:Nat):az:=⟨some d,none,.mov false false (.tmp i)⟩
abbrev ae(d i:Nat):az:=⟨some d,none,.mov true false (.tmp i)⟩
abbrev aB(d:Nat)(x:ak):az:=⟨some d,none,.mov true false x⟩
abbrev bW(d:Nat)(x:ak):az:=⟨some d,none,.mov false false x⟩
abbrev aD(d k i:Nat):az:=⟨some d,none,.load false false k (.tmp i)⟩
abbrev ct(d k i:Nat):az:=⟨some d,none,.load false true k (.tmp i)⟩
abbrev dD(d k i:Nat):az:=⟨some d,none,.fieldAddr k (.tmp i)⟩
abbrev dk(d f:Nat)(l:List ak):az:=⟨some d,none,.call (.fn f) l⟩
abbrev jh(d:Nat)(b:BinOp)(x y:ak):az:=⟨some d,none,.bin b .other x y⟩
abbrev yM(d k:Nat)(x y:ak):az:=⟨some d,none,.ixSl k x y⟩
abbrev ahQ(d:Nat)(k:j5)(x:ak):az:=⟨some d,none,.len k x⟩
abbrev af4(d:Nat)(c x y:ak):az:=⟨some d,none,.pick c x y⟩
abbrev ahP(d k t:Nat)(x y:ak):az:=⟨some d,none,.append false false k t x y⟩
abbrev JF(d i:Nat):az:=⟨some d,none,.nilCheck (.tmp i)⟩
abbrev nH(d i k:Nat):az:=⟨some d,none,.extract (.tmp i) k⟩
abbrev mH(k i j:Nat):az:=⟨none,none,.store k (.tmp i) (.tmp j)⟩
abbrev iC(i:Nat):az:=⟨none,none,.qN .heap (.tmp i)⟩
abbrev gp(k i:Nat):az:=⟨none,none,.qN (.frame k) (.tmp i)⟩
abbrev cR(l:List az)(c:aZ):aZ:=.seq (.region false l) c
abbrev cv(i:Nat)(a b:aZ):aZ:=.cond (.tmp i) a b
noncomputable def bq(f:Func)(i:au):Option au:=mQ Tryz.prog i.bK i.locals i.muts f
noncomputable def cT(t l m:List Nat)(f:Func):au:=(mQ Tryz.prog t l m f).getD ⟨[],[],[],0,0,[],.skip⟩
def ir3:au:=⟨[6,10,11,12,13,14,15,16,17,18,19,20,21,30,83,87,91,106,114,161,700007,700008,700009],[7,8,9],[],164,3,[.tmp 6],cR [aB 6 jC] (cR [af 22 0,aY 23 5 22,oO 7 (.allocL [.str [],.ay,.ay,.ay,.str []]),mH 5 7 23] (cR [af 24 1,aY 25 5 24,oO 8 (.allocL [.str [],.ay,.ay,.ay,.str []]),mH 5 8 25] (.seq (cR [dD 26 2 7,aD 27 1 26,bJ 28 .sl 27,al 29 .eql 28 0,ae 30 29,bF 31 30 (iW 2 8),bF 32 30 (bM 1 31),bF 33 30 (od 32),bF 34 30 (cn .eql (aT 33) (aI 0)),kY 35 30 34] (cv 35 (cR [dk 36 6 [],ae 6 36] .ret) .skip)) (cR [gp 7 7,dD 37 2 7,gp 7 37,aD 38 1 37,af 39 2,gp 7 7,dD 40 2 7,gp 7 40,aD 41 1 40,iC 41,bJ 42 .sl 41,di 43 7 39 42,iC 38,dV 44 14 38 43,iC 44,ct 45 14 44,oO 9 (.allocL [.int .i64 0,.str [],.ay,.str [],.ay,.int .i64 0,.int .i64 0,.str [],.str [],.str [],.ay,.ay,.ay,.ay]),gp 9 9,mH 14 9 45] (cR [ct 46 14 9,aY 47 8 46,ae 10 47] (cR [dD 48 13 9,aD 49 1 48,ae 11 49] (.seq (cR [af 50 11,bJ 51 .sl 50,al 52 .eql 51 0] (cv 52 (.region false [af 53 10,aY 54 9 53,ae 11 54]) .skip)) (cR [dD 55 2 8,aD 56 1 55,yM 57 14 (aT 56) (aI 0),ct 58 14 57,aY 59 8 58,ae 12 59] (cR [af 60 2,al 61 .quo 60 3,af 62 10,bJ 63 .sl 62,al 64 .add 63 1,di 65 7 61 64,ae 13 65] (cR [af 66 13,af 67 2,al 68 .quo 67 5,af 69 10,bJ 70 .sl 69,af 71 13,bu 72 .sub 70 71,al 73 .add 72 1,di 74 7 68 73,bu 75 .add 66 74,ae 14 75] (cR [af 76 2,al 77 .quo 76 7,af 78 12,bJ 79 .sl 78,oO 80 (.mm false (aT 79) (aI 4)),al 81 .add 80 1,di 82 7 77 81,ae 15 82] (cR [oO 83 (gM 1 [] []),af 84 10,af 85 13,oO 86 (.slice (.sl 1) (aT 84) none (some (aT 85)) none),cz 87 1 16 83 86,af 88 12,af 89 15,oO 90 (.slice (.sl 1) (aT 88) none (some (aT 89)) none),cz 91 1 16 87 90,af 92 10,af 93 14,oO 94 (.slice (.sl 1) (aT 92) (some (aT 93)) none none),cz 95 1 16 91 94,ae 16 95] (cR [af 96 11,af 97 10,af 98 16,Aq 99 10 96 97 98,ae 17 99] (.seq (cR [af 100 17,bJ 101 .sl 100,af 102 16,bJ 103 .sl 102,al 104 .add 103 1,bu 105 .neq 101 104,ae 106 105,bF 107 106 (cA 10),bF 108 106 (cA 11),bF 109 106 (gG 12 [aT 107,aT 108]),bF 110 106 (cA 10),bF 111 106 (gG 11 [aT 109,aT 110]),bF 112 106 (.un .not (aT 111)),kY 113 106 112] (cv 113 (cR [aB 6 jC] .ret) .skip)) (cR [af 115 10,af 116 16,di 117 13 115 116,ae 114 117,nH 118 114 0,nH 119 114 1,ae 18 118,ae 19 119] (.seq (cR [aB 20 (aI 0)] (.block 0 (.loop (.seq (cR [af 120 20,af 121 18,bu 122 .lss 120 121] (cv 122 .skip (.exit 0))) (.seq (.block 1 (.seq (.region true [af 125 17,af 126 20,dV 127 1 125 126,aD 128 1 127,af 129 11,af 130 20,dV 131 1 129 130,aD 132 1 131,bu 133 .neq 128 132]) (cv 133 (cR [aB 6 jC] .ret) .skip))) (.region false [af 123 20,al 124 .add 123 1,ae 20 124])))))) (.seq (cR [aB 21 (aI 0)] (.block 2 (.loop (.seq (cR [af 134 21,af 135 19,bu 136 .lss 134 135] (cv 136 .skip (.exit 2))) (.seq (.block 3 (.seq (.region true [af 139 17,af 140 17,bJ 141 .sl 140,al 142 .sub 141 1,af 143 21,bu 144 .sub 142 143,dV 145 1 139 144,aD 146 1 145,af 147 11,af 148 11,bJ 149 .sl 148,al 150 .sub 149 1,af 151 21,bu 152 .sub 150 151,dV 153 1 147 152,aD 154 1 153,bu 155 .neq 146 154]) (cv 155 (cR [aB 6 jC] .ret) .skip))) (.region false [af 137 21,al 138 .add 137 1,ae 21 138])))))) (cR [af 156 16,af 157 17,di 158 12 156 157,af 159 16,di 160 11 158 159,ae 161 160,bI 162 161 (gG 6 []),iB 163 161 162,ae 6 163] .ret))))))))))))))))))⟩
theorem Xc:bq Tryz.f3 ir3=some ir3:=by kernel_rfl
noncomputable def ir4:au:=cT [6,8,9,10,11,12,13,14,15,16,17,18,54,67,75,86,90,121,136,140,700007] [7] [12,56] Tryz.f4
theorem Xm:bq Tryz.f4 ir4=some ir4:=by kernel_rfl
def yC:au:=⟨[3,5,6,7,8,10,11,29,78,86,115],[2,4,9,12],[777777],128,1,[.cell 2 true 5],cR [oO 2 (.allocL [.str [],.slice [] true,.slice [] true,.slice [] true,.str []])] (cR [af 13 0,oO 14 (.build [.slice [] true,.int .i64 0] [(0,1,.tmp 13)]),oO 15 (.box 55 (aT 14)),ae 3 15] (cR [af 16 3,aY 17 18 16,oO 18 (.build [.str [],.slice [] true,.slice [] true,.slice [] true,.str []] [(0,1,.tmp 17)]),oO 4 (.allocL [.str [],.slice [] true,.slice [] true,.slice [] true,.str []]),mH 5 4 18] (cR [af 19 3,dk 20 19 [aT 19,aI 2],al 21 .eql 20 1,ae 5 21] (.seq (cR [aB 6 (aI 0)] (.block 0 (.loop (.seq (cR [af 22 6,af 23 3,dk 24 19 [aT 23,aI 3],bu 25 .lss 22 24] (cv 25 .skip (.exit 0))) (.seq (.block 1 (.region false [gp 4 4,dD 28 1 4,gp 4 28,oO 29 (.load true false 1 (aT 28)),af 30 3,aY 31 18 30,oO 32 (gM 1 [[.str []]] [(0,.tmp 31)]),cz 33 1 16 29 32,gp 4 4,dD 34 1 4,gp 4 34,mH 1 34 33])) (.region false [af 26 6,al 27 .add 26 1,ae 6 27])))))) (.seq (cR [af 35 5] (cv 35 (.region false [af 36 3,gp 4 4,dD 37 1 4,gp 4 37,aD 38 1 37,iC 38,bJ 39 .sl 38,jh 40 .mul (aI 2) (aT 39),jh 41 .add (aI 2) (aT 40),af 42 3,dk 43 19 [aT 42,aI 1000],dk 44 21 [aT 43,aI 0],Aq 45 20 36 41 44,gp 4 4,dD 46 3 4,gp 4 46,mH 1 46 45]) .skip)) (cR [af 47 3,dk 48 19 [aT 47,aI 4],ae 7 48] (.seq (cR [aB 8 (aI 0)] (.block 2 (.loop (.seq (cR [af 49 8,af 50 7,bu 51 .lss 49 50] (cv 51 .skip (.exit 2))) (.seq (.block 3 (cR [af 54 3,dk 55 19 [aT 54,aI 6],af 56 3,aY 57 18 56,oO 58 (.build [.int .i64 0,.str [],.slice [] true,.str [],.slice [] true,.int .i64 0,.int .i64 0,.str [],.str [],.str [],.slice [] true,.slice [] true,.slice [] true,.slice [] true] [(0,1,.tmp 55),(1,1,.tmp 57)]),oO 9 (.allocL [.int .i64 0,.str [],.slice [] true,.str [],.slice [] true,.int .i64 0,.int .i64 0,.str [],.str [],.str [],.slice [] true,.slice [] true,.slice [] true,.slice [] true]),mH 14 9 58] (cR [af 59 3,dk 60 19 [aT 59,aI 4],ae 10 60] (.seq (cR [aB 11 (aI 0)] (.block 4 (.loop (.seq (cR [af 61 11,af 62 10,bu 63 .lss 61 62] (cv 63 .skip (.exit 4))) (.seq (.block 5 (cR [af 66 3,aY 67 18 66,af 68 3,dk 69 22 [aT 68,aI 2],oO 70 (.build [.str [],.str [],.slice [] true,.int .i64 0] [(0,1,.tmp 67),(1,2,.tmp 69)]),oO 12 (.allocL [.str [],.str [],.slice [] true,.int .i64 0]),mH 4 12 70] (.seq (cR [dD 71 0 9,aD 72 1 71,al 73 .eql 72 4] (cv 73 (.region false [af 74 3,dk 75 19 [aT 74,aI 12],dD 76 3 12,mH 1 76 75]) .skip)) (.region false [dD 77 2 9,oO 78 (.load true false 1 (aT 77)),ct 79 4 12,oO 80 (gM 4 [[.str [],.str [],.slice [] false,.int .i64 0]] [(0,.tmp 79)]),cz 81 4 64 78 80,dD 82 2 9,mH 1 82 81])))) (.region false [af 64 11,al 65 .add 64 1,ae 11 65])))))) (.seq (cR [dD 83 0 9,aD 84 1 83,al 85 .neq 84 0,ae 86 85,bI 87 86 (iW 0 9),bI 88 86 (bM 1 87),bI 89 86 (cn .neq (aT 88) (aI 1)),iB 90 86 89] (cv 90 (cR [af 91 3,dk 92 22 [aT 91,aI 2],dD 93 3 9,mH 2 93 92] (cR [af 94 3,dk 95 23 [aT 94,aI 4],dD 96 5 9,mH 8 96 95] (cR [ct 97 14 9,aY 98 8 97,bJ 99 .sl 98,al 100 .gtr 99 120] (cv 100 (.region false [af 101 3,dk 102 23 [aT 101,aI 0],dD 103 5 9,mH 8 103 102]) .skip)))) .skip)) (.seq (cR [af 104 5] (cv 104 (.region false [af 105 3,ct 106 14 9,aY 107 8 106,bJ 108 .sl 107,af 109 3,dk 110 19 [aT 109,aI 1000],dk 111 21 [aT 110,aI 0],Aq 112 20 105 108 111,dD 113 13 9,mH 1 113 112]) .skip)) (.region false [dD 114 2 4,oO 115 (.load true false 1 (aT 114)),ct 116 14 9,oO 117 (gM 14 [[.int .i64 0,.str [],.slice [] false,.str [],.slice [] false,.int .i64 0,.int .i64 0,.str [],.str [],.str [],.slice [] false,.slice [] false,.slice [] false,.slice [] false]] [(0,.tmp 116)]),cz 118 14 248 115 117,dD 119 2 4,mH 1 119 118]))))))) (.region false [af 52 8,al 53 .add 52 1,ae 8 53])))))) (.seq (cR [af 120 5] (cv 120 (.region false [oO 121 (gM 1 [[.str []],[.str []],[.str []],[.str []]] [(0,.a8 (.str [])),(1,.a8 (.str [32])),(2,.a8 (.str [35,32,101,110,100])),(3,.a8 (.str [10,10]))]),af 122 3,dk 123 19 [aT 122,aI 4],dV 124 1 121 123,aD 125 1 124,dD 126 4 4,mH 1 126 125]) .skip)) (cR [ct 127 5 4,mH 5 2 127] .ret)))))))))⟩
theorem Xt:bq Tryz.f5 yC=some yC:=by kernel_rfl
noncomputable def ir6:au:=cT [0,1,2,3,4,6,18,24,30,45,50,55,700005,700007,700008] [5,7,8,999999] [2,10] Tryz.f6
theorem Xv:bq Tryz.f6 ir6=some ir6:=by kernel_rfl
def ir7:au:=⟨[0,4],[],[],13,2,[.tmp 4],cR [aB 4 (aI 0)] (.seq (cR [af 5 0,al 6 .lss 5 0] (cv 6 (.region false [af 7 0,al 8 .add 7 1,oO 9 (.un .neg (aT 8)),ae 0 9]) .skip)) (cR [af 10 0,af 11 1,bu 12 .rem 10 11,ae 4 12] .ret))⟩
theorem XG:bq Tryz.f7 ir7=some ir7:=by kernel_rfl
def ir8:au:=⟨[2,3,4,25,28,36,48,58,64,70,74,77],[1],[],82,1,[.tmp 2],cR [oO 1 (.boxL (aT 0)),aB 2 (.a8 (.slice [] true))] (.seq (cR [ct 5 14 1,aY 6 30 5,oO 7 (.un .not (aT 6))] (cv 7 (cR [aB 2 (.a8 (.slice [] true))] .ret) .skip)) (cR [oO 8 (gM 1 [[.str []],[.str []],[.str []],[.str []],[.str []],[.str []]] [(0,.a8 (.str [114,101,99])),(1,.a8 (.str [99,97,115,101])),(2,.a8 (.str [102,117,110])),(3,.a8 (.str [111,110])),(4,.a8 (.str [116,101,115,116])),(5,.a8 (.str [99,111,110,118]))]),gp 1 1,dD 9 0 1,gp 1 9,aD 10 1 9,iC 8,dV 11 1 8 10,iC 11,aD 12 1 11,gp 1 1,dD 13 1 1,gp 1 13,aD 14 1 13,oO 15 (gM 1 [[.str []],[.str []],[.str []]] [(0,.tmp 12),(1,.tmp 14),(2,.a8 (.str [40]))]),ae 3 15] (.seq (cR [aB 4 (aI 0)] (.block 0 (.loop (.seq (cR [af 16 4,dD 17 2 1,aD 18 1 17,bJ 19 .sl 18,bu 20 .lss 16 19] (cv 20 .skip (.exit 0))) (.seq (.block 1 (.seq (cR [af 23 4,al 24 .gtr 23 0] (cv 24 (.region false [ae 25 3,oO 26 (gM 1 [[.str []]] [(0,.a8 (.str [44]))]),cz 27 1 16 25 26,ae 3 27]) .skip)) (cR [ae 28 3,gp 1 1,dD 29 2 1,gp 1 29,aD 30 1 29,af 31 4,iC 30,dV 32 4 30 31,iC 32,dD 33 0 32,iC 33,aD 34 1 33,oO 35 (gM 1 [[.str []]] [(0,.tmp 34)]),cz 36 1 16 28 35,gp 1 1,dD 37 2 1,gp 1 37,aD 38 1 37,af 39 4,iC 38,dV 40 4 38 39,iC 40,dD 41 1 40,iC 41,ct 42 2 41,aY 43 31 42,cz 44 1 16 36 43,ae 3 44] (cR [dD 45 0 1,aD 46 1 45,al 47 .eql 46 4] (cv 47 (.region false [ae 48 3,dD 49 2 1,aD 50 1 49,af 51 4,dV 52 4 50 51,dD 53 3 52,aD 54 1 53,aY 55 32 54,oO 56 (gM 1 [[.str []]] [(0,.tmp 55)]),cz 57 1 16 48 56,ae 3 57]) .skip))))) (.region false [af 21 4,al 22 .add 21 1,ae 4 22])))))) (cR [ae 58 3,oO 59 (gM 1 [[.str []]] [(0,.a8 (.str [41]))]),cz 60 1 16 58 59,ae 3 60] (.seq (cR [dD 61 0 1,aD 62 1 61,al 63 .eql 62 0,ae 64 63,bF 65 64 (iW 0 1),bF 66 64 (bM 1 65),bF 67 64 (cn .eql (aT 66) (aI 1)),kY 68 64 67] (cv 68 (cR [af 69 3,ae 2 69] .ret) .skip)) (cR [ae 70 3,dD 71 3 1,ct 72 2 71,aY 73 31 72,cz 74 1 16 70 73,oO 75 (gM 1 [[.str []]] [(0,.a8 (.str [61]))]),cz 76 1 16 74 75,ae 3 76] (cR [ae 77 3,dD 78 5 1,ct 79 8 78,aY 80 33 79,cz 81 1 16 77 80,ae 2 81] .ret)))))))⟩
theorem XO:bq Tryz.f8 ir8=some ir8:=by kernel_rfl
def ir9:au:=⟨[2,3],[],[3,5],12,1,[.tmp 2],cR [aB 2 (.a8 (.slice [] true))] (cR [af 4 0,aY 5 15 4,oO 3 (.mov true true (aT 5))] (cR [af 6 3,af 7 3,bJ 8 .sl 7,al 9 .sub 8 1,dV 10 1 6 9,oN (.store 1 (aT 10) (aS [10]))] (cR [af 11 3,ae 2 11] .ret)))⟩
theorem XP:bq Tryz.f9 ir9=some ir9:=by kernel_rfl
def Gf:au:=⟨[6,7,8,9,10,11,12,27,45,86],[999999],[10,67],108,3,[.tmp 6],cR [aB 6 (.a8 (.slice [] true))] (.seq (cR [af 13 0,bJ 14 .sl 13,af 15 1,bJ 16 .sl 15,al 17 .add 16 1,bu 18 .neq 14 17] (cv 18 (cR [aB 6 (.a8 (.slice [] true))] .ret) .skip)) (cR [af 19 1,bJ 20 .sl 19,af 21 2,bJ 22 .sl 21,oO 23 (.mm false (aT 20) (aT 22)),ae 7 23] (cR [aB 8 (aI 0)] (.seq (.block 0 (.loop (.seq (cR [af 24 8,af 25 7,bu 26 .lss 24 25,ae 27 26,bI 28 27 (cA 1),bI 29 27 (cA 8),uK 27 (w6 28),bI 30 27 (.ixSl 1 (aT 28) (aT 29)),uK 27 (w6 30),bI 31 27 (bM 1 30),bI 32 27 (cA 2),bI 33 27 (cA 8),uK 27 (w6 32),bI 34 27 (.ixSl 1 (aT 32) (aT 33)),uK 27 (w6 34),bI 35 27 (bM 1 34),bI 36 27 (cn .eql (aT 31) (aT 35)),iB 37 27 36] (cv 37 .skip (.exit 0))) (.block 1 (.region false [af 38 8,al 39 .add 38 1,ae 8 39]))))) (cR [aB 9 (aI 0)] (.seq (.block 2 (.loop (.seq (cR [af 40 9,af 41 7,af 42 8,bu 43 .sub 41 42,bu 44 .lss 40 43,ae 45 44,bI 46 45 (cA 1),bI 47 45 (cA 1),uK 45 (w6 47),bI 48 45 (od 47),bI 49 45 (cn .sub (aT 48) (aI 1)),bI 50 45 (cA 9),bI 51 45 (cn .sub (aT 49) (aT 50)),uK 45 (w6 46),bI 52 45 (.ixSl 1 (aT 46) (aT 51)),uK 45 (w6 52),bI 53 45 (bM 1 52),bI 54 45 (cA 2),bI 55 45 (cA 2),uK 45 (w6 55),bI 56 45 (od 55),bI 57 45 (cn .sub (aT 56) (aI 1)),bI 58 45 (cA 9),bI 59 45 (cn .sub (aT 57) (aT 58)),uK 45 (w6 54),bI 60 45 (.ixSl 1 (aT 54) (aT 59)),uK 45 (w6 60),bI 61 45 (bM 1 60),bI 62 45 (cn .eql (aT 53) (aT 61)),iB 63 45 62] (cv 63 .skip (.exit 2))) (.block 3 (.region false [af 64 9,al 65 .add 64 1,ae 9 65]))))) (cR [af 66 2,aY 67 34 66,oO 10 (.mov true true (aT 67))] (cR [af 68 10,af 69 0,af 70 8,oO 71 (.slice (.sl 1) (aT 69) none (some (aT 70)) none),oO 72 (.copyO (aT 68) (aT 71))] (cR [af 73 2,bJ 74 .sl 73,af 75 9,bu 76 .sub 74 75,ae 11 76] (.seq (cR [af 77 0,af 78 1,bJ 79 .sl 78,af 80 9,bu 81 .sub 79 80,dV 82 1 77 81,aD 83 1 82,ae 12 83] (cR [af 84 12,jh 85 .neq (aT 84) (aS []),ae 86 85,bI 87 86 (cA 8),bI 88 86 (cA 11),bI 89 86 (cn .leq (aT 87) (aT 88)),iB 90 86 89] (cv 90 (.region false [af 91 10,af 92 11,af 93 12,dV 94 1 91 92,mH 1 94 93]) .skip))) (cR [af 95 10,af 96 11,al 97 .add 96 1,oO 98 (.slice (.sl 1) (aT 95) (some (aT 97)) none none),af 99 0,af 100 1,iC 100,bJ 101 .sl 100,af 102 9,bu 103 .sub 101 102,al 104 .add 103 1,oO 105 (.slice (.sl 1) (aT 99) (some (aT 104)) none none),oO 106 (.copyO (aT 98) (aT 105))] (cR [af 107 10,ae 6 107] .ret))))))))))))⟩
theorem Q6:bq Tryz.f10 Gf=some Gf:=by kernel_rfl
def W5:au:=⟨[5,6,7,8,9,17],[],[],40,2,[.tmp 4],cR [bW 4 jC] (cR [af 10 0,aY 11 16 10,ae 9 11,nH 12 9 0,nH 13 9 1,nH 14 9 2,ae 5 12,ae 6 13,ae 7 14] (.seq (cR [af 15 7,al 16 .neq 15 (-1),ae 17 16,bF 18 17 (cA 5),bF 19 17 (od 18),bF 20 17 (cA 1),bF 21 17 (od 20),bF 22 17 (cn .neq (aT 19) (aT 21)),kY 23 17 22] (cv 23 (cR [bW 4 jC] .ret) .skip)) (.seq (cR [aB 8 (aI 0)] (.block 0 (.loop (.seq (cR [af 24 8,af 25 5,bJ 26 .sl 25,bu 27 .lss 24 26] (cv 27 .skip (.exit 0))) (.seq (.block 1 (.seq (.region true [af 30 5,af 31 8,dV 32 2 30 31,dD 33 0 32,aD 34 1 33,af 35 1,af 36 8,dV 37 1 35 36,aD 38 1 37,bu 39 .neq 34 38]) (cv 39 (cR [bW 4 jC] .ret) .skip))) (.region false [af 28 8,al 29 .add 28 1,ae 8 29])))))) (cR [bW 4 DK] .ret))))⟩
theorem Q7:bq Tryz.f11 W5=some W5:=by kernel_rfl
def Gg:au:=⟨[1,4,5,6],[],[],37,2,[.tmp 4],cR [aB 4 (aS [])] (.seq (cR [af 7 1,bJ 8 .sl 7,af 9 0,bJ 10 .sl 9,al 11 .add 10 1,bu 12 .neq 8 11] (cv 12 (.region false [af 13 0,aY 14 9 13,ae 1 14]) .skip)) (cR [af 15 1,yM 16 1 (aT 15) (aI 0),aD 17 1 16,ae 5 17] (.seq (cR [aB 6 (aI 0)] (.block 0 (.loop (.seq (cR [af 18 6,af 19 0,bJ 20 .sl 19,bu 21 .lss 18 20] (cv 21 .skip (.exit 0))) (.seq (.block 1 (.region false [af 24 5,af 25 0,af 26 6,iC 25,dV 27 1 25 26,iC 27,aD 28 1 27,bu 29 .add 24 28,af 30 1,af 31 6,al 32 .add 31 1,iC 30,dV 33 1 30 32,iC 33,aD 34 1 33,bu 35 .add 29 34,ae 5 35])) (.region false [af 22 6,al 23 .add 22 1,ae 6 23])))))) (cR [af 36 5,ae 4 36] .ret))))⟩
theorem Q8:bq Tryz.f12 Gg=some Gg:=by kernel_rfl
def W6:au:=⟨[4,5,6,7,12,18,37,45],[],[],68,2,[.tmp 4,.tmp 5],cR [aB 4 (aI 0),aB 5 (aI 0)] (cR [aB 6 (aI 0)] (.seq (.block 0 (.loop (.seq (cR [af 8 6,af 9 0,iC 9,bJ 10 .sl 9,bu 11 .lss 8 10,ae 12 11,bI 13 12 (cA 6),bI 14 12 (cA 1),uK 12 (w6 14),bI 15 12 (od 14),bI 16 12 (cn .lss (aT 13) (aT 15)),iB 17 12 16,ae 18 17,bI 19 18 (cA 0),bI 20 18 (cA 6),uK 18 (w6 19),bI 21 18 (.ixSl 1 (aT 19) (aT 20)),uK 18 (w6 21),bI 22 18 (bM 1 21),bI 23 18 (cA 1),bI 24 18 (cA 6),uK 18 (w6 23),bI 25 18 (.ixSl 1 (aT 23) (aT 24)),uK 18 (w6 25),bI 26 18 (bM 1 25),bI 27 18 (cn .eql (aT 22) (aT 26)),iB 28 18 27] (cv 28 .skip (.exit 0))) (.block 1 (.region false [af 29 6,al 30 .add 29 1,ae 6 30]))))) (cR [aB 7 (aI 0)] (.seq (.block 2 (.loop (.seq (cR [af 31 7,af 32 0,iC 32,bJ 33 .sl 32,af 34 6,bu 35 .sub 33 34,bu 36 .lss 31 35,ae 37 36,bI 38 37 (cA 7),bI 39 37 (cA 1),uK 37 (w6 39),bI 40 37 (od 39),bI 41 37 (cA 6),bI 42 37 (cn .sub (aT 40) (aT 41)),bI 43 37 (cn .lss (aT 38) (aT 42)),iB 44 37 43,ae 45 44,bI 46 45 (cA 0),bI 47 45 (cA 0),uK 45 (w6 47),bI 48 45 (od 47),bI 49 45 (cn .sub (aT 48) (aI 1)),bI 50 45 (cA 7),bI 51 45 (cn .sub (aT 49) (aT 50)),uK 45 (w6 46),bI 52 45 (.ixSl 1 (aT 46) (aT 51)),uK 45 (w6 52),bI 53 45 (bM 1 52),bI 54 45 (cA 1),bI 55 45 (cA 1),uK 45 (w6 55),bI 56 45 (od 55),bI 57 45 (cn .sub (aT 56) (aI 1)),bI 58 45 (cA 7),bI 59 45 (cn .sub (aT 57) (aT 58)),uK 45 (w6 54),bI 60 45 (.ixSl 1 (aT 54) (aT 59)),uK 45 (w6 60),bI 61 45 (bM 1 60),bI 62 45 (cn .eql (aT 53) (aT 61)),iB 63 45 62] (cv 63 .skip (.exit 2))) (.block 3 (.region false [af 64 7,al 65 .add 64 1,ae 7 65]))))) (cR [af 66 6,af 67 7,ae 4 66,ae 5 67] .ret)))))⟩
theorem Q9:bq Tryz.f13 W6=some W6:=by kernel_rfl
def Ni:au:=⟨[2,3,4,5,12,23],[],[],39,1,[.tmp 2],cR [aB 2 (aS [])] (cR [af 6 0,dk 7 7 [aT 6,aI 1000000],ae 3 7] (cR [oO 8 (gM 1 [[.str []],[.str []],[.str []],[.str []],[.str []],[.str []],[.str []],[.str []]] [(0,.a8 (.str [102])),(1,.a8 (.str [120,49])),(2,.a8 (.str [99,97,115,101])),(3,.a8 (.str [80,111,105,110,116])),(4,.a8 (.str [97,86,101,114,121,76,111,110,103,78,97,109,101,49,50,51])),(5,.a8 (.str [105,102])),(6,.a8 (.str [90,57])),(7,.a8 (.str [110,111,116]))]),ae 4 8] (cR [oO 9 (gM 1 [[.str []],[.str []],[.str []],[.str []],[.str []],[.str []],[.str []],[.str []],[.str []],[.str []],[.str []],[.str []],[.str []],[.str []],[.str []],[.str []],[.str []],[.str []]] [(0,.a8 (.str [40])),(1,.a8 (.str [41])),(2,.a8 (.str [123])),(3,.a8 (.str [125])),(4,.a8 (.str [91])),(5,.a8 (.str [93])),(6,.a8 (.str [44])),(7,.a8 (.str [58])),(8,.a8 (.str [46])),(9,.a8 (.str [61])),(10,.a8 (.str [61,61])),(11,.a8 (.str [45,62])),(12,.a8 (.str [43])),(13,.a8 (.str [45])),(14,.a8 (.str [42])),(15,.a8 (.str [47])),(16,.a8 (.str [37])),(17,.a8 (.str [60]))]),ae 5 9] (.seq (cR [af 10 3,al 11 .rem 10 5] (.block 0 (.seq (cR [al 13 .eql 11 0,ae 12 13] (cv 12 .skip (.region false [al 14 .eql 11 1,ae 12 14]))) (cv 12 (cR [af 15 4,af 16 3,al 17 .quo 16 5,af 18 4,bJ 19 .sl 18,bu 20 .rem 17 19,dV 21 1 15 20,aD 22 1 21,ae 2 22] .ret) (cR [al 24 .eql 11 2,ae 23 24] (cv 23 (cR [oO 25 (gM 1 [[.str []],[.str []],[.str []],[.str []]] [(0,.a8 (.str [48])),(1,.a8 (.str [55])),(2,.a8 (.str [52,50])),(3,.a8 (.str [49,50,51,52,53,54,55,56,57,48,49,50,51,52,53,54]))]),af 26 3,al 27 .quo 26 5,al 28 .rem 27 4,dV 29 1 25 28,aD 30 1 29,ae 2 30] .ret) .skip)))))) (cR [af 31 5,af 32 3,al 33 .quo 32 5,af 34 5,bJ 35 .sl 34,bu 36 .rem 33 35,dV 37 1 31 36,aD 38 1 37,ae 2 38] .ret)))))⟩
theorem Ra:bq Tryz.f14 Ni=some Ni:=by kernel_rfl
def No:au:=⟨[2,3,4,6,23,27,31,40,47,54,61,65],[7,64],[888888],66,1,[.tmp 2],cR [aB 2 (.a8 (.slice [] true))] (cR [oO 7 (.lS 1 [[.str []]] [(0,.a8 (.str []))]),ae 3 7] (.seq (cR [aB 4 (aI 1)] (.block 0 (.loop (.seq (cR [af 8 4,af 9 0,bJ 10 .sl 9,bu 11 .leq 8 10] (cv 11 .skip (.exit 0))) (.seq (.block 1 (cR [bW 5 (aS [32])] (cR [af 14 0,af 15 4,al 16 .sub 15 1,dV 17 1 14 16,aD 18 1 17,ae 6 18] (.seq (cR [af 19 4,af 20 0,bJ 21 .sl 20,bu 22 .eql 19 21,ae 23 22,bF 24 23 (cA 6),bF 25 23 (cn .eql (aT 24) (aS [40])),kY 26 23 25,ae 27 26,bF 28 27 (cA 6),bF 29 27 (cn .eql (aT 28) (aS [91])),kY 30 27 29,ae 31 30,bF 32 31 (cA 6),bF 33 31 (cn .eql (aT 32) (aS [46])),kY 34 31 33] (cv 34 (.region false [bW 5 (aS [])]) (cR [af 35 0,af 36 4,dV 37 1 35 36,aD 38 1 37,jh 39 .eql (aT 38) (aS [41]),ae 40 39,bF 41 40 (cA 0),bF 42 40 (cA 4),bF 43 40 (.ixSl 1 (aT 41) (aT 42)),bF 44 40 (bM 1 43),bF 45 40 (cn .eql (aT 44) (aS [93])),kY 46 40 45,ae 47 46,bF 48 47 (cA 0),bF 49 47 (cA 4),bF 50 47 (.ixSl 1 (aT 48) (aT 49)),bF 51 47 (bM 1 50),bF 52 47 (cn .eql (aT 51) (aS [44])),kY 53 47 52,ae 54 53,bF 55 54 (cA 0),bF 56 54 (cA 4),bF 57 54 (.ixSl 1 (aT 55) (aT 56)),bF 58 54 (bM 1 57),bF 59 54 (cn .eql (aT 58) (aS [46])),kY 60 54 59] (cv 60 (.region false [bW 5 (aS [])]) .skip)))) (.region false [ae 61 3,af 62 5,oO 63 (gM 1 [[.str []]] [(0,.tmp 62)]),oO 64 (.appendO 1 16 (aT 61) (aT 63)),ae 3 64]))))) (.region false [af 12 4,al 13 .add 12 1,ae 4 13])))))) (cR [ae 65 3,ae 2 65] .ret)))⟩
theorem Rb:bq Tryz.f15 No=some No:=by kernel_rfl
def Nv:au:=⟨[2,3,4,5,6,7,8,9,38,46],[999999],[],53,1,[.tmp 2,.tmp 3,.tmp 4],cR [aB 2 (.a8 (.slice [] true)),aB 3 (aS []),aB 4 (aI 0)] (.seq (cR [af 10 0,bJ 11 .str 10,al 12 .gtr 11 8192] (cv 12 (cR [aB 2 (.a8 (.slice [] true)),aB 3 (aS []),aB 4 (aI 8192)] .ret) .skip)) (cR [aB 5 (.a8 (.slice [] true))] (cR [aB 6 (aI 0)] (.seq .skip (.block 0 (.loop (.block 1 (cR [af 13 0,af 14 6,oO 15 (.slice .str (aT 13) (some (aT 14)) none none),aY 16 35 15,ae 7 16] (cR [af 17 0,af 18 6,af 19 6,af 20 7,bu 21 .add 19 20,oO 22 (.slice .str (aT 17) (some (aT 18)) (some (aT 21)) none),ae 8 22] (cR [af 23 6,af 24 7,bu 25 .add 23 24,ae 6 25] (.seq (cR [af 26 6,af 27 0,bJ 28 .str 27,bu 29 .eql 26 28] (cv 29 (cR [af 30 5,af 31 8,ae 2 30,ae 3 31,aB 4 (aI (-1))] .ret) .skip)) (.seq (cR [af 32 0,af 33 6,oO 34 (.slice .str (aT 32) (some (aT 33)) none none),aY 35 36 34,ae 9 35] (cR [af 36 9,al 37 .gtr 36 0] (cv 37 (cR [ae 38 5,af 39 0,af 40 6,af 41 6,af 42 9,bu 43 .add 41 42,oO 44 (.slice .str (aT 39) (some (aT 40)) (some (aT 43)) none),af 45 8,oO 46 (.build [.str [],.str []] [(0,1,.tmp 44),(1,1,.tmp 45)]),oO 47 (gM 2 [[.str [],.str []]] [(0,.tmp 46)]),cz 48 2 32 38 47,ae 5 48] (cR [af 49 6,af 50 9,bu 51 .add 49 50,ae 6 51] (.exit 1))) .skip))) (cR [af 52 6,aB 2 (.a8 (.slice [] true)),aB 3 (aS []),ae 4 52] .ret)))))))))))))⟩
theorem Rc:bq Tryz.f16 Nv=some Nv:=by kernel_rfl
def Ny:au:=⟨[4,10,700005,700007],[7,999999],[],24,2,[.tmp 4],cR [aB 4 (aS [])] (cR [oO 5 (.ot 92 [.cx,.ay])] (.seq (cR [af 8 0,bJ 9 .sl 8,aB 10 (aI 0)] (.block 0 (.loop (cR [bu 11 .lss 10 9] (.seq (cv 11 .skip (.exit 0)) (.seq (.block 1 (cR [dV 12 2 8 10,ct 13 2 12,oO 7 (.allocL [.str [],.str []]),mH 2 7 13] (.region false [dD 14 1 7,aD 15 1 14,dD 16 0 7,aD 17 1 16,bu 18 .add 15 17,di 19 37 5 18]))) (.region false [al 20 .add 10 1,ae 10 20]))))))) (cR [aY 21 38 5,af 22 1,bu 23 .add 21 22,ae 4 23] .ret)))⟩
theorem Rd:bq Tryz.f17 Ny=some Ny:=by kernel_rfl
def Nz:au:=⟨[2],[],[777777],8,1,[.tmp 2],cR [aB 2 (aS [])] (cR [oO 3 (gM 1 [[.str []],[.str []],[.str []],[.str []],[.str []],[.str []],[.str []],[.str []]] [(0,.a8 (.str [97])),(1,.a8 (.str [98])),(2,.a8 (.str [102])),(3,.a8 (.str [80,111,105,110,116])),(4,.a8 (.str [83,104,97,112,101])),(5,.a8 (.str [120,49])),(6,.a8 (.str [99,111,114,101])),(7,.a8 (.str [117]))]),af 4 0,dk 5 19 [aT 4,aI 8],dV 6 1 3 5,aD 7 1 6,ae 2 7] .ret)⟩
theorem Re:bq Tryz.f18 Nz=some Nz:=by kernel_rfl
def NC:au:=⟨[4],[],[777777],23,2,[.tmp 4],cR [aB 4 (aI 0)] (cR [af 5 0,JF 6 5,dD 7 1 6,aD 8 1 7,al 9 .add 8 1,JF 10 5,dD 11 1 10,mH 1 11 9] (cR [af 12 0,iC 12,JF 13 12,iC 13,dD 14 0 13,iC 14,aD 15 1 14,af 16 0,iC 16,JF 17 16,iC 17,dD 18 1 17,iC 18,aD 19 1 18,al 20 .sub 19 1,af 21 1,Aq 22 39 15 20 21,ae 4 22] .ret))⟩
theorem Rf:bq Tryz.f19 NC=some NC:=by kernel_rfl
def ND:au:=⟨[6,7,8,16,22],[],[777777],30,3,[.tmp 6],cR [aB 6 (.a8 (.slice [] true))] (cR [af 9 2,oO 10 (gM 1 [[.str []]] [(0,.tmp 9)]),ae 7 10] (.seq (cR [aB 8 (aI 1)] (.block 0 (.loop (.seq (cR [af 11 8,af 12 1,bu 13 .lss 11 12] (cv 13 .skip (.exit 0))) (.seq (.block 1 (.region false [ae 16 7,af 17 0,dk 18 19 [aT 17,aI 1000],dk 19 21 [aT 18,aI 1],oO 20 (gM 1 [[.str []]] [(0,.tmp 19)]),cz 21 1 16 16 20,ae 7 21])) (.region false [af 14 8,al 15 .add 14 1,ae 8 15])))))) (cR [ae 22 7,oO 23 (gM 1 [[.str []],[.str []],[.str []],[.str []]] [(0,.a8 (.str [10])),(1,.a8 (.str [32,10])),(2,.a8 (.str [35,32,120,10])),(3,.a8 (.str [32,32,35,32,121,32,40,10]))]),af 24 0,dk 25 19 [aT 24,aI 4],dV 26 1 23 25,aD 27 1 26,oO 28 (gM 1 [[.str []]] [(0,.tmp 27)]),cz 29 1 16 22 28,ae 6 29] .ret)))⟩
theorem Rg:bq Tryz.f20 ND=some ND:=by kernel_rfl
def NF:au:=⟨[4,5,6,7,29],[],[],34,2,[.tmp 4],cR [aB 4 (aS [])] (cR [af 8 0,dk 9 7 [aT 8,aI 1000000],ae 5 9] (cR [oO 10 (gM 1 [[.str []],[.str []],[.str []],[.str []],[.str []],[.str []],[.str []],[.str []]] [(0,.a8 (.str [])),(1,.a8 (.str [32])),(2,.a8 (.str [10])),(3,.a8 (.str [32,32])),(4,.a8 (.str [35,32,97,32,40,98,10])),(5,.a8 (.str [32,35,10,32])),(6,.a8 (.str [10,10])),(7,.a8 (.str [35,255,35,32,49,10]))]),ae 6 10] (cR [af 11 6,af 12 5,al 13 .rem 12 8,dV 14 1 11 13,aD 15 1 14,ae 7 15] (.seq (cR [af 16 5,al 17 .rem 16 3,al 18 .eql 17 0] (cv 18 (.region false [af 19 7,af 20 6,af 21 5,al 22 .quo 21 8,al 23 .rem 22 8,dV 24 1 20 23,aD 25 1 24,bu 26 .add 19 25,ae 7 26]) .skip)) (.seq (cR [af 27 7,jh 28 .eql (aT 27) (aS []),ae 29 28,bI 30 29 (cA 1),bI 31 29 (cn .neq (aT 30) (aI 0)),iB 32 29 31] (cv 32 (cR [aB 4 (aS [32])] .ret) .skip)) (cR [af 33 7,ae 4 33] .ret))))))⟩
theorem Rh:bq Tryz.f21 NF=some NF:=by kernel_rfl
def oP:au:=⟨[5,18,10,15,27,28,700004],[4],[777777],29,2,[.cell 4 true 2],cR [oO 4 (.allocL [.str [],.ay])] (cR [af 6 0,dk 7 19 [aT 6,aI 5],ae 5 7] (.seq (cR [af 8 5,al 9 .eql 8 1] (cv 9 (cR [oO 10 (.build [.str [],.ay] [(0,1,.a8 (.str [66,111,111,108]))]),mH 2 4 10] .ret) .skip)) (.seq (cR [af 11 5,al 12 .eql 11 2] (cv 12 (cR [af 13 0,aY 14 40 13,oO 15 (.build [.str [],.ay] [(0,1,.tmp 14)]),mH 2 4 15] .ret) .skip)) (.seq (cR [af 16 5,al 17 .eql 16 3,ae 18 17,bI 19 18 (cA 1),bI 20 18 (cn .gtr (aT 19) (aI 0)),iB 21 18 20] (cv 21 (cR [af 22 0,af 23 1,al 24 .sub 23 1,di 25 22 22 24,oO 26 (gM 2 [[.str [],.slice [] false]] [(0,.tmp 25)]),oO 27 (.build [.str [],.ay] [(0,1,.a8 (.str [76,105,115,116])),(1,1,.tmp 26)]),mH 2 4 27] .ret) .skip)) (cR [oO 28 (.build [.str [],.ay] [(0,1,.a8 (.str [73,110,116]))]),mH 2 4 28] .ret)))))⟩
theorem Ri:bq Tryz.f22 oP=some oP:=by kernel_rfl
def cV:au:=⟨[5,6,7,8,9,10,11,12,20,26,34,39,48,64,79,100,112,122,134,146,156,168,180,189,25,33,38,47,63,78,99,121,133,145,179,188,201,219,222,700004],[4],[777777],223,2,[.cell 4 true 8],cR [oO 4 (.allocL [.int .i64 0,.int .i64 0,.str [],.str [],.str [],.ay,.ay,.ay])] (cR [af 13 0,dk 14 19 [aT 13,aI 24],ae 5 14] (.seq (cR [af 15 1,al 16 .leq 15 0] (cv 16 (.region false [af 17 5,al 18 .rem 17 5,ae 5 18]) .skip)) (.seq (cR [af 19 5] (.block 0 (cR [al 21 .eql 19 0,ae 20 21] (cv 20 (cR [af 22 0,dk 23 19 [aT 22,aI 30],al 24 .sub 23 9,oO 25 (.build [.int .i64 0,.int .i64 0,.str [],.str [],.str [],.ay,.ay,.ay] [(0,1,.a8 (.int .i64 0)),(1,1,.tmp 24)]),mH 8 4 25] .ret) (cR [al 27 .eql 19 1,ae 26 27] (cv 26 (cR [oO 28 (gM 1 [[.int .i64 0],[.int .i64 0],[.int .i64 0],[.int .i64 0]] [(0,.a8 (.int .i64 0)),(1,.a8 (.int .i64 1099511627776)),(2,.a8 (.int .i64 (-1099511627776))),(3,.a8 (.int .i64 10))]),af 29 0,dk 30 19 [aT 29,aI 4],dV 31 1 28 30,aD 32 1 31,oO 33 (.build [.int .i64 0,.int .i64 0,.str [],.str [],.str [],.ay,.ay,.ay] [(0,1,.a8 (.int .i64 0)),(1,1,.tmp 32)]),mH 8 4 33] .ret) (cR [al 35 .eql 19 2,ae 34 35] (cv 34 (cR [af 36 0,dk 37 19 [aT 36,aI 2],oO 38 (.build [.int .i64 0,.int .i64 0,.str [],.str [],.str [],.ay,.ay,.ay] [(0,1,.a8 (.int .i64 1)),(1,1,.tmp 37)]),mH 8 4 38] .ret) (cR [al 40 .eql 19 5,ae 39 40] (cv 39 (cR [af 41 0,aY 42 40 41,af 43 0,af 44 1,al 45 .sub 44 1,dk 46 41 [aT 43,aT 45,aI 3],oO 47 (.build [.int .i64 0,.int .i64 0,.str [],.str [],.str [],.ay,.ay,.ay] [(0,1,.a8 (.int .i64 3)),(2,1,.tmp 42),(6,1,.tmp 46)]),mH 8 4 47] .ret) (cR [al 49 .eql 19 6,ae 48 49] (cv 48 (cR [af 50 0,af 51 1,al 52 .sub 51 1,di 53 23 50 52,af 54 0,af 55 1,al 56 .sub 55 1,di 57 23 54 56,af 58 0,af 59 1,al 60 .sub 59 1,di 61 23 58 60,oO 62 (gM 8 [[.int .i64 0,.int .i64 0,.str [],.str [],.str [],.slice [] false,.slice [] false,.slice [] false],[.int .i64 0,.int .i64 0,.str [],.str [],.str [],.slice [] false,.slice [] false,.slice [] false],[.int .i64 0,.int .i64 0,.str [],.str [],.str [],.slice [] false,.slice [] false,.slice [] false]] [(0,.tmp 53),(1,.tmp 57),(2,.tmp 61)]),oO 63 (.build [.int .i64 0,.int .i64 0,.str [],.str [],.str [],.ay,.ay,.ay] [(0,1,.a8 (.int .i64 5)),(6,1,.tmp 62)]),mH 8 4 63] .ret) (cR [al 65 .eql 19 7,ae 64 65] (cv 64 (cR [af 66 0,aY 67 18 66,oO 68 (gM 1 [[.str []]] [(0,.tmp 67)]),af 69 0,af 70 1,al 71 .sub 70 1,di 72 23 69 71,af 73 0,af 74 1,al 75 .sub 74 1,di 76 23 73 75,oO 77 (gM 8 [[.int .i64 0,.int .i64 0,.str [],.str [],.str [],.slice [] false,.slice [] false,.slice [] false],[.int .i64 0,.int .i64 0,.str [],.str [],.str [],.slice [] false,.slice [] false,.slice [] false]] [(0,.tmp 72),(1,.tmp 76)]),oO 78 (.build [.int .i64 0,.int .i64 0,.str [],.str [],.str [],.ay,.ay,.ay] [(0,1,.a8 (.int .i64 6)),(7,1,.tmp 68),(6,1,.tmp 77)]),mH 8 4 78] .ret) (cR [al 80 .eql 19 8,ae 79 80] (cv 79 (cR [af 81 0,aY 82 18 81,af 83 0,aY 84 18 83,oO 85 (gM 1 [[.str []],[.str []]] [(0,.tmp 82),(1,.tmp 84)]),af 86 0,af 87 1,al 88 .sub 87 1,di 89 23 86 88,af 90 0,af 91 1,al 92 .sub 91 1,di 93 23 90 92,af 94 0,af 95 1,al 96 .sub 95 1,di 97 23 94 96,oO 98 (gM 8 [[.int .i64 0,.int .i64 0,.str [],.str [],.str [],.slice [] false,.slice [] false,.slice [] false],[.int .i64 0,.int .i64 0,.str [],.str [],.str [],.slice [] false,.slice [] false,.slice [] false],[.int .i64 0,.int .i64 0,.str [],.str [],.str [],.slice [] false,.slice [] false,.slice [] false]] [(0,.tmp 89),(1,.tmp 93),(2,.tmp 97)]),oO 99 (.build [.int .i64 0,.int .i64 0,.str [],.str [],.str [],.ay,.ay,.ay] [(0,1,.a8 (.int .i64 12)),(7,1,.tmp 85),(6,1,.tmp 98)]),mH 8 4 99] .ret) (cR [al 101 .eql 19 9,ae 100 101] (cv 100 (cR [af 102 0,af 103 1,al 104 .sub 103 1,dk 105 41 [aT 102,aT 104,aI 2],ae 6 105] (cR [aB 7 (.a8 (.slice [] true))] (.seq (cR [aB 8 (aI 0)] (.block 1 (.loop (.seq (cR [af 106 8,af 107 6,bJ 108 .sl 107,bu 109 .lss 106 108] (cv 109 .skip (.exit 1))) (.seq (.block 2 (.region false [ae 112 7,af 113 0,aY 114 18 113,oO 115 (gM 1 [[.str []]] [(0,.tmp 114)]),cz 116 1 16 112 115,ae 7 116])) (.region false [af 110 8,al 111 .add 110 1,ae 8 111])))))) (cR [af 117 0,aY 118 40 117,af 119 7,af 120 6,oO 121 (.build [.int .i64 0,.int .i64 0,.str [],.str [],.str [],.ay,.ay,.ay] [(0,1,.a8 (.int .i64 7)),(2,1,.tmp 118),(7,1,.tmp 119),(6,1,.tmp 120)]),mH 8 4 121] .ret)))) (cR [al 123 .eql 19 10,ae 122 123] (cv 122 (cR [af 124 0,aY 125 40 124,af 126 0,aY 127 18 126,af 128 0,af 129 1,al 130 .sub 129 1,di 131 23 128 130,oO 132 (gM 8 [[.int .i64 0,.int .i64 0,.str [],.str [],.str [],.slice [] false,.slice [] false,.slice [] false]] [(0,.tmp 131)]),oO 133 (.build [.int .i64 0,.int .i64 0,.str [],.str [],.str [],.ay,.ay,.ay] [(0,1,.a8 (.int .i64 8)),(2,1,.tmp 125),(3,1,.tmp 127),(6,1,.tmp 132)]),mH 8 4 133] .ret) (cR [al 135 .eql 19 11,ae 134 135] (cv 134 (cR [af 136 0,aY 137 40 136,af 138 0,aY 139 18 138,af 140 0,af 141 1,al 142 .sub 141 1,di 143 23 140 142,oO 144 (gM 8 [[.int .i64 0,.int .i64 0,.str [],.str [],.str [],.slice [] false,.slice [] false,.slice [] false]] [(0,.tmp 143)]),oO 145 (.build [.int .i64 0,.int .i64 0,.str [],.str [],.str [],.ay,.ay,.ay] [(0,1,.a8 (.int .i64 9)),(2,1,.tmp 137),(3,1,.tmp 139),(6,1,.tmp 144)]),mH 8 4 145] .ret) (cR [al 147 .eql 19 12,ae 146 147] (cv 146 (cR [af 148 0,af 149 1,al 150 .sub 149 1,di 151 23 148 150,af 152 0,af 153 1,al 154 .sub 153 1,di 155 23 152 154,oO 156 (gM 8 [[.int .i64 0,.int .i64 0,.str [],.str [],.str [],.slice [] false,.slice [] false,.slice [] false],[.int .i64 0,.int .i64 0,.str [],.str [],.str [],.slice [] false,.slice [] false,.slice [] false]] [(0,.tmp 151),(1,.tmp 155)]),af 157 0,af 158 1,al 159 .sub 158 1,dk 160 41 [aT 157,aT 159,aI 1],cz 161 8 136 156 160,ae 9 161] (cR [aB 10 (.a8 (.slice [] true))] (.seq (cR [aB 11 (aI 1)] (.block 3 (.loop (.seq (cR [af 162 11,af 163 9,bJ 164 .sl 163,bu 165 .lss 162 164] (cv 165 .skip (.exit 3))) (.seq (.block 4 (.region false [ae 168 10,af 169 0,aY 170 18 169,af 171 0,aY 172 18 171,oO 173 (gM 1 [[.str []],[.str []]] [(0,.tmp 170),(1,.tmp 172)]),cz 174 1 16 168 173,ae 10 174])) (.region false [af 166 11,al 167 .add 166 1,ae 11 167])))))) (cR [af 175 0,aY 176 40 175,af 177 10,af 178 9,oO 179 (.build [.int .i64 0,.int .i64 0,.str [],.str [],.str [],.ay,.ay,.ay] [(0,1,.a8 (.int .i64 10)),(2,1,.tmp 176),(7,1,.tmp 177),(6,1,.tmp 178)]),mH 8 4 179] .ret)))) (cR [al 181 .eql 19 13,ae 180 181] (cv 180 (cR [af 182 0,dk 183 22 [aT 182,aI 2],af 184 0,af 185 1,al 186 .sub 185 1,dk 187 41 [aT 184,aT 186,aI 3],oO 188 (.build [.int .i64 0,.int .i64 0,.str [],.str [],.str [],.ay,.ay,.ay] [(0,1,.a8 (.int .i64 11)),(4,2,.tmp 183),(6,1,.tmp 187)]),mH 8 4 188] .ret) (cR [al 190 .eql 19 14,ae 189 190] (cv 189 (cR [oO 191 (gM 1 [[.int .i64 0],[.int .i64 0]] [(0,.a8 (.int .i64 9)),(1,.a8 (.int .i64 11))]),af 192 0,dk 193 19 [aT 192,aI 2],iC 191,dV 194 1 191 193,oN (.qN .Q4 (aT 194)),aD 195 1 194,af 196 0,af 197 1,al 198 .sub 197 1,di 199 23 196 198,oO 200 (gM 8 [[.int .i64 0,.int .i64 0,.str [],.str [],.str [],.slice [] false,.slice [] false,.slice [] false]] [(0,.tmp 199)]),oO 201 (.build [.int .i64 0,.int .i64 0,.str [],.str [],.str [],.ay,.ay,.ay] [(0,1,.a8 (.int .i64 4)),(1,1,.tmp 195),(6,1,.tmp 200)]),gp 4 4,mH 8 4 201] .ret) .skip)))))))))))))))))))))))))))) (.seq (cR [af 202 5,al 203 .gtr 202 14] (cv 203 (cR [oO 204 (gM 1 [[.int .i64 0],[.int .i64 0],[.int .i64 0],[.int .i64 0],[.int .i64 0],[.int .i64 0],[.int .i64 0],[.int .i64 0],[.int .i64 0],[.int .i64 0]] [(0,.a8 (.int .i64 0)),(1,.a8 (.int .i64 1)),(2,.a8 (.int .i64 2)),(3,.a8 (.int .i64 3)),(4,.a8 (.int .i64 4)),(5,.a8 (.int .i64 5)),(6,.a8 (.int .i64 6)),(7,.a8 (.int .i64 7)),(8,.a8 (.int .i64 8)),(9,.a8 (.int .i64 10))]),af 205 0,dk 206 19 [aT 205,aI 10],dV 207 1 204 206,aD 208 1 207,ae 12 208] (cR [af 209 12,af 210 0,af 211 1,al 212 .sub 211 1,di 213 23 210 212,af 214 0,af 215 1,al 216 .sub 215 1,di 217 23 214 216,oO 218 (gM 8 [[.int .i64 0,.int .i64 0,.str [],.str [],.str [],.slice [] false,.slice [] false,.slice [] false],[.int .i64 0,.int .i64 0,.str [],.str [],.str [],.slice [] false,.slice [] false,.slice [] false]] [(0,.tmp 213),(1,.tmp 217)]),oO 219 (.build [.int .i64 0,.int .i64 0,.str [],.str [],.str [],.ay,.ay,.ay] [(0,1,.a8 (.int .i64 4)),(1,1,.tmp 209),(6,1,.tmp 218)]),mH 8 4 219] .ret)) .skip)) (cR [af 220 0,aY 221 18 220,oO 222 (.build [.int .i64 0,.int .i64 0,.str [],.str [],.str [],.ay,.ay,.ay] [(0,1,.a8 (.int .i64 2)),(2,1,.tmp 221)]),mH 8 4 222] .ret)))))⟩
theorem Rj:bq Tryz.f23 cV=some cV:=by kernel_rfl
noncomputable def W7:au:=cT [0] [999999,1] [888888] Tryz.f24
theorem Rk:bq Tryz.f24 W7=some W7:=by kernel_rfl
noncomputable def W8:au:=cT [3,4,5,6,7,9,10,13,15,16,17,18,19,20,21,22,45,50,56,68,78,84,109,113,120,129,147,158,181,186,193,199,30,33,95,138,700002,700008,700012,700014] [2,8,12,14,82,999999] [19,158,165,186,189] Tryz.f25
theorem Rl:bq Tryz.f25 W8=some W8:=by kernel_rfl
def NG:au:=⟨[5],[],[],26,2,[.tmp 4],cR [bW 4 jC] (.seq (cR [af 6 0,bJ 7 .sl 6,af 8 1,bJ 9 .sl 8,bu 10 .neq 7 9] (cv 10 (cR [bW 4 jC] .ret) .skip)) (.seq (cR [aB 5 (aI 0)] (.block 0 (.loop (.seq (cR [af 11 5,af 12 0,bJ 13 .sl 12,bu 14 .lss 11 13] (cv 14 .skip (.exit 0))) (.seq (.block 1 (.seq (.region true [af 17 0,af 18 5,dV 19 1 17 18,aD 20 1 19,af 21 1,af 22 5,dV 23 1 21 22,aD 24 1 23,bu 25 .neq 20 24]) (cv 25 (cR [bW 4 jC] .ret) .skip))) (.region false [af 15 5,al 16 .add 15 1,ae 5 16])))))) (cR [bW 4 DK] .ret)))⟩
theorem Rm:bq Tryz.f26 NG=some NG:=by kernel_rfl
noncomputable def W9:au:=cT [3,5,20,53,700002,700004,700006] [2,4,6,999999,999998] [500001] Tryz.f27
theorem Rn:bq Tryz.f27 W9=some W9:=by kernel_rfl
noncomputable def Xa:au:=cT [2,3] [999999] [] Tryz.f28
theorem Ro:bq Tryz.f28 Xa=some Xa:=by kernel_rfl
noncomputable def Xb:au:=cT [2,3,4,7,20,700006] [6,999999] [] Tryz.f29
theorem Rp:bq Tryz.f29 Xb=some Xb:=by kernel_rfl
def NH:au:=⟨[2,3,8,13,35,41,46,51,55,64,73,80,89,700004],[1,4],[],94,1,[.tmp 2],cR [oO 1 (.boxL (aT 0)),aB 2 jC] (.seq (cR [dD 5 0 1,aD 6 1 5,al 7 .lss 6 0,ae 8 7,bF 9 8 (iW 0 1),bF 10 8 (bM 1 9),bF 11 8 (cn .gtr (aT 10) (aI 5)),kY 12 8 11,ae 13 12,bF 14 13 (iW 1 1),bF 15 13 (bM 1 14),bF 16 13 (gG 56 [aT 15]),bF 17 13 (.un .not (aT 16)),kY 18 13 17] (cv 18 (cR [aB 2 jC] .ret) .skip)) (.seq (cR [aB 3 (aI 0)] (.block 0 (.loop (.seq (cR [af 19 3,dD 20 2 1,aD 21 1 20,bJ 22 .sl 21,bu 23 .lss 19 22] (cv 23 .skip (.exit 0))) (.seq (.block 1 (cR [dD 26 2 1,aD 27 1 26,af 28 3,dV 29 4 27 28,ct 30 4 29,oO 4 (.allocL [.str [],.str [],.ay,.int .i64 0]),mH 4 4 30] (cR [dD 31 0 4,aD 32 1 31,aY 33 56 32,oO 34 (.un .not (aT 33)),ae 35 34,bF 36 35 (iW 1 4),bF 37 35 (qD 2 36),bF 38 35 (gG 57 [aT 37]),bF 39 35 (.un .not (aT 38)),kY 40 35 39,ae 41 40,bF 42 41 (iW 3 4),bF 43 41 (bM 1 42),bF 44 41 (cn .lss (aT 43) (aI 0)),kY 45 41 44,ae 46 45,bF 47 46 (iW 3 4),bF 48 46 (bM 1 47),bF 49 46 (cn .gtr (aT 48) (aI 1099511627776)),kY 50 46 49,ae 51 50,bF 52 51 (iW 0 1),bF 53 51 (bM 1 52),bF 54 51 (cn .neq (aT 53) (aI 4)),bF 55 51 (jS 54),bI 56 55 (iW 3 4),bI 57 55 (bM 1 56),bI 58 55 (cn .neq (aT 57) (aI 0)),bF 59 51 (.pick (aT 55) (aT 58) jC),kY 60 51 59] (cv 60 (cR [aB 2 jC] .ret) .skip)))) (.region false [af 24 3,al 25 .add 24 1,ae 3 25])))))) (.seq (cR [dD 61 0 1,aD 62 1 61,al 63 .eql 62 0,ae 64 63,bF 65 64 (iW 0 1),bF 66 64 (bM 1 65),bF 67 64 (cn .eql (aT 66) (aI 1)),kY 68 64 67] (cv 68 (cR [dD 69 3 1,dD 70 0 69,aD 71 1 70,jh 72 .eql (aT 71) (aS []),ae 73 72,bI 74 73 (iW 3 1),bI 75 73 (iW 1 74),bI 76 73 (bM 1 75),bI 77 73 (od 76),bI 78 73 (cn .eql (aT 77) (aI 0)),iB 79 73 78,ae 80 79,bI 81 80 (iW 5 1),bI 82 80 (qD 8 81),bI 83 80 (.build [.int .i64 0,.int .i64 0,.str [],.str [],.str [],.slice [] true,.slice [] true,.slice [] true] []),bI 84 80 (gG 58 [aT 82,aT 83]),iB 85 80 84,ae 2 85] .ret) .skip)) (cR [dD 86 3 1,ct 87 2 86,aY 88 57 87,ae 89 88,bI 90 89 (iW 5 1),bI 91 89 (qD 8 90),bI 92 89 (gG 59 [aT 91]),iB 93 89 92,ae 2 93] .ret))))⟩
theorem Rq:bq Tryz.f30 NH=some NH:=by kernel_rfl
def Gi:au:=⟨[2,6,12,18],[1],[],29,1,[.tmp 2],cR [oO 1 (.boxL (aT 0)),aB 2 (.a8 (.slice [] true))] (.seq (cR [dD 3 0 1,aD 4 1 3,jh 5 .eql (aT 4) (aS [76,105,115,116])] (cv 5 (cR [oO 6 (gM 1 [[.str []],[.str []]] [(0,.a8 (.str [76,105,115,116])),(1,.a8 (.str [40]))]),dD 7 1 1,aD 8 1 7,yM 9 2 (aT 8) (aI 0),ct 10 2 9,aY 11 31 10,cz 12 1 16 6 11,oO 13 (gM 1 [[.str []]] [(0,.a8 (.str [41]))]),cz 14 1 16 12 13,ae 2 14] .ret) .skip)) (.seq (cR [dD 15 0 1,aD 16 1 15,jh 17 .eql (aT 16) (aS [73,110,116]),ae 18 17,bF 19 18 (iW 0 1),bF 20 18 (bM 1 19),bF 21 18 (cn .eql (aT 20) (aS [66,111,111,108])),kY 22 18 21] (cv 22 (cR [dD 23 0 1,aD 24 1 23,oO 25 (gM 1 [[.str []]] [(0,.tmp 24)]),ae 2 25] .ret) .skip)) (cR [dD 26 0 1,aD 27 1 26,aY 28 60 27,ae 2 28] .ret)))⟩
theorem Rr:bq Tryz.f31 Gi=some Gi:=by kernel_rfl
def NI:au:=⟨[0,2,3],[],[],23,1,[.tmp 2],cR [aB 2 (aS [])] (cR [aB 3 (aS [])] (.seq (.block 0 (.loop (.seq (cR [af 4 0,al 5 .gtr 4 9] (cv 5 .skip (.exit 0))) (.block 1 (cR [af 6 0,al 7 .rem 6 10,jh 8 .add (aI 48) (aT 7),oO 9 (.conv (.toInt IntKind.u8) (aT 8)),oO 10 (.mkslice true 1 [[.int IntKind.u8 0]] [(0,.tmp 9)]),oO 11 (.conv .oy (aT 10)),af 12 3,bu 13 .add 11 12,ae 3 13] (.region false [af 14 0,al 15 .quo 14 10,ae 0 15])))))) (cR [af 16 0,jh 17 .add (aI 48) (aT 16),oO 18 (.conv (.toInt IntKind.u8) (aT 17)),oO 19 (.mkslice true 1 [[.int IntKind.u8 0]] [(0,.tmp 18)]),oO 20 (.conv .oy (aT 19)),af 21 3,bu 22 .add 20 21,ae 2 22] .ret)))⟩
theorem Rs:bq Tryz.f32 NI=some NI:=by kernel_rfl
def jf:au:=⟨[2,3,4,5,6,7,8,9,10,11,12,13,16,30,38,43,52,54,63,78,81,90,92,99,101,108,110,117,123,130,132,139,150,153,160,173,177,188,192,203,214,217,233,241,255,266,276,283,285,292,294],[1],[],301,1,[.tmp 2],cR [oO 1 (.boxL (aT 0)),aB 2 (.a8 (.slice [] true))] (.seq (cR [dD 14 0 1,aD 15 1 14] (.block 0 (cR [al 17 .eql 15 0,ae 16 17] (cv 16 (.seq (cR [dD 18 1 1,aD 19 1 18,al 20 .lss 19 0] (cv 20 (cR [dD 21 1 1,aD 22 1 21,oO 23 (.un .neg (aT 22)),aY 24 32 23,oO 25 (gM 1 [[.str []],[.str []]] [(0,.a8 (.str [45])),(1,.tmp 24)]),ae 2 25] .ret) .skip)) (cR [dD 26 1 1,aD 27 1 26,aY 28 32 27,oO 29 (gM 1 [[.str []]] [(0,.tmp 28)]),ae 2 29] .ret)) (cR [al 31 .eql 15 1,ae 30 31] (cv 30 (cR [oO 32 (gM 1 [[.str []],[.str []]] [(0,.a8 (.str [102,97,108,115,101])),(1,.a8 (.str [116,114,117,101]))]),dD 33 1 1,aD 34 1 33,dV 35 1 32 34,aD 36 1 35,oO 37 (gM 1 [[.str []]] [(0,.tmp 36)]),ae 2 37] .ret) (cR [al 39 .eql 15 2,ae 38 39] (cv 38 (cR [dD 40 2 1,aD 41 1 40,oO 42 (gM 1 [[.str []]] [(0,.tmp 41)]),ae 2 42] .ret) (cR [al 44 .eql 15 3,ae 43 44] (cv 43 (cR [gp 1 1,dD 45 2 1,gp 1 45,aD 46 1 45,aY 47 60 46,gp 1 1,dD 48 6 1,gp 1 48,aD 49 1 48,aY 50 62 49,dk 51 61 [aT 47,aS [40],aT 50,aS [41]],ae 2 51] .ret) (cR [al 53 .eql 15 4,ae 52 53] (cv 52 (cR [dD 55 1 1,aD 56 1 55,aY 57 63 56,ae 54 57,nH 58 54 0,nH 59 54 1,ae 3 58,ae 4 59] (.seq (cR [af 60 4,al 61 .eql 60 7] (cv 61 (cR [af 62 3,oO 63 (gM 1 [[.str []]] [(0,.tmp 62)]),dD 64 6 1,aD 65 1 64,yM 66 8 (aT 65) (aI 0),ct 67 8 66,dk 68 64 [aT 67,aI 7],cz 69 1 16 63 68,ae 2 69] .ret) .skip)) (cR [af 70 4,ae 5 70] (.seq (cR [af 71 4,al 72 .eql 71 3] (cv 72 (.region false [aB 5 (aI 4)]) .skip)) (cR [gp 1 1,dD 73 6 1,gp 1 73,aD 74 1 73,iC 74,yM 75 8 (aT 74) (aI 0),iC 75,ct 76 8 75,af 77 5,oO 78 (.iP (.fn 64) [aT 76,aT 77]),af 79 3,oO 80 (gM 1 [[.str []]] [(0,.tmp 79)]),cz 81 1 16 78 80,gp 1 1,dD 82 6 1,gp 1 82,aD 83 1 82,iC 83,yM 84 8 (aT 83) (aI 1),iC 84,ct 85 8 84,af 86 4,al 87 .add 86 1,oO 88 (.iP (.fn 64) [aT 85,aT 87]),cz 89 1 16 81 88,ae 2 89] .ret))))) (cR [al 91 .eql 15 5,ae 90 91] (cv 90 (cR [oO 92 (gM 1 [[.str []]] [(0,.a8 (.str [105,102]))]),dD 93 6 1,aD 94 1 93,yM 95 8 (aT 94) (aI 0),ct 96 8 95,aY 97 33 96,cz 98 1 16 92 97,ae 6 98] (cR [ae 99 6,oO 100 (gM 1 [[.str []]] [(0,.a8 (.str [116,104,101,110]))]),cz 101 1 16 99 100,gp 1 1,dD 102 6 1,gp 1 102,aD 103 1 102,iC 103,yM 104 8 (aT 103) (aI 1),iC 104,ct 105 8 104,aY 106 33 105,cz 107 1 16 101 106,ae 6 107] (cR [ae 108 6,oO 109 (gM 1 [[.str []]] [(0,.a8 (.str [101,108,115,101]))]),cz 110 1 16 108 109,gp 1 1,dD 111 6 1,gp 1 111,aD 112 1 111,iC 112,yM 113 8 (aT 112) (aI 2),iC 113,ct 114 8 113,aY 115 33 114,cz 116 1 16 110 115,ae 2 116] .ret))) (cR [al 118 .eql 15 6,ae 117 118] (cv 117 (cR [gp 1 1,dD 119 7 1,gp 1 119,aD 120 1 119,iC 120,yM 121 1 (aT 120) (aI 0),iC 121,aD 122 1 121,oO 123 (gM 1 [[.str []],[.str []],[.str []]] [(0,.a8 (.str [108,101,116])),(1,.tmp 122),(2,.a8 (.str [61]))]),gp 1 1,dD 124 6 1,gp 1 124,aD 125 1 124,iC 125,yM 126 8 (aT 125) (aI 0),iC 126,ct 127 8 126,oO 128 (.iP (.fn 33) [aT 127]),cz 129 1 16 123 128,ae 7 129] (cR [ae 130 7,oO 131 (gM 1 [[.str []]] [(0,.a8 (.str [105,110]))]),cz 132 1 16 130 131,gp 1 1,dD 133 6 1,gp 1 133,aD 134 1 133,iC 134,yM 135 8 (aT 134) (aI 1),iC 135,ct 136 8 135,aY 137 33 136,cz 138 1 16 132 137,ae 2 138] .ret)) (cR [al 140 .eql 15 7,ae 139 140] (cv 139 (cR [aB 8 (.a8 (.slice [] true))] (.seq (cR [aB 9 (aI 0)] (.block 1 (.loop (.seq (cR [af 141 9,dD 142 6 1,aD 143 1 142,bJ 144 .sl 143,bu 145 .lss 141 144] (cv 145 .skip (.exit 1))) (.seq (.block 2 (.seq (cR [af 148 9,al 149 .gtr 148 0] (cv 149 (.region false [ae 150 8,oO 151 (gM 1 [[.str []]] [(0,.a8 (.str [44]))]),cz 152 1 16 150 151,ae 8 152]) .skip)) (.region false [ae 153 8,gp 1 1,dD 154 7 1,gp 1 154,aD 155 1 154,af 156 9,iC 155,dV 157 1 155 156,iC 157,aD 158 1 157,oO 159 (gM 1 [[.str []],[.str []]] [(0,.tmp 158),(1,.a8 (.str [61]))]),cz 160 1 16 153 159,gp 1 1,dD 161 6 1,gp 1 161,aD 162 1 161,af 163 9,iC 162,dV 164 8 162 163,iC 164,ct 165 8 164,aY 166 33 165,cz 167 1 16 160 166,ae 8 167]))) (.region false [af 146 9,al 147 .add 146 1,ae 9 147])))))) (cR [dD 168 2 1,aD 169 1 168,aY 170 60 169,af 171 8,dk 172 61 [aT 170,aS [123],aT 171,aS [125]],ae 2 172] .ret))) (cR [al 174 .eql 15 8,ae 173 174] (cv 173 (cR [gp 1 1,dD 175 2 1,gp 1 175,aD 176 1 175,oO 177 (.iP (.fn 60) [aT 176]),gp 1 1,dD 178 3 1,gp 1 178,aD 179 1 178,oO 180 (gM 1 [[.str []],[.str []]] [(0,.a8 (.str [58])),(1,.tmp 179)]),cz 181 1 16 177 180,gp 1 1,dD 182 6 1,gp 1 182,aD 183 1 182,iC 183,yM 184 8 (aT 183) (aI 0),iC 184,ct 185 8 184,oO 186 (.iP (.fn 33) [aT 185]),oO 187 (.iP (.fn 61) [aT 181,aS [91],aT 186,aS [93]]),ae 2 187] .ret) (cR [al 189 .eql 15 9,ae 188 189] (cv 188 (cR [gp 1 1,dD 190 2 1,gp 1 190,aD 191 1 190,oO 192 (.iP (.fn 60) [aT 191]),gp 1 1,dD 193 3 1,gp 1 193,aD 194 1 193,oO 195 (gM 1 [[.str []],[.str []]] [(0,.a8 (.str [58])),(1,.tmp 194)]),cz 196 1 16 192 195,gp 1 1,dD 197 6 1,gp 1 197,aD 198 1 197,iC 198,yM 199 8 (aT 198) (aI 0),iC 199,ct 200 8 199,oO 201 (.iP (.fn 33) [aT 200]),oO 202 (.iP (.fn 61) [aT 196,aS [40],aT 201,aS [41]]),ae 2 202] .ret) (cR [al 204 .eql 15 10,ae 203 204] (cv 203 (cR [aB 10 (.a8 (.slice [] true))] (.seq (cR [aB 11 (aI 1)] (.block 3 (.loop (.seq (cR [af 205 11,dD 206 6 1,aD 207 1 206,bJ 208 .sl 207,bu 209 .lss 205 208] (cv 209 .skip (.exit 3))) (.seq (.block 4 (.seq (cR [af 212 11,al 213 .gtr 212 1] (cv 213 (.region false [ae 214 10,oO 215 (gM 1 [[.str []]] [(0,.a8 (.str [44]))]),cz 216 1 16 214 215,ae 10 216]) .skip)) (.region false [ae 217 10,gp 1 1,dD 218 7 1,gp 1 218,aD 219 1 218,af 220 11,jh 221 .mul (aI 2) (aT 220),al 222 .sub 221 2,iC 219,dV 223 1 219 222,iC 223,aD 224 1 223,gp 1 1,dD 225 7 1,gp 1 225,aD 226 1 225,af 227 11,jh 228 .mul (aI 2) (aT 227),al 229 .sub 228 1,iC 226,dV 230 1 226 229,iC 230,aD 231 1 230,oO 232 (gM 1 [[.str []],[.str []],[.str []]] [(0,.tmp 224),(1,.tmp 231),(2,.a8 (.str [45,62]))]),cz 233 1 16 217 232,gp 1 1,dD 234 6 1,gp 1 234,aD 235 1 234,af 236 11,iC 235,dV 237 8 235 236,iC 237,ct 238 8 237,aY 239 33 238,cz 240 1 16 233 239,ae 10 240]))) (.region false [af 210 11,al 211 .add 210 1,ae 11 211])))))) (cR [oO 241 (gM 1 [[.str []]] [(0,.a8 (.str [109,97,116,99,104]))]),gp 1 1,dD 242 2 1,gp 1 242,aD 243 1 242,oO 244 (.iP (.fn 60) [aT 243]),cz 245 1 16 241 244,gp 1 1,dD 246 6 1,gp 1 246,aD 247 1 246,iC 247,yM 248 8 (aT 247) (aI 0),iC 248,ct 249 8 248,oO 250 (.iP (.fn 33) [aT 249]),oO 251 (.iP (.fn 61) [aT 245,aS [40],aT 250,aS [41]]),ae 12 251] (cR [af 252 12,af 253 10,dk 254 61 [aT 252,aS [123],aT 253,aS [125]],ae 2 254] .ret)))) (cR [al 256 .eql 15 11,ae 255 256] (cv 255 (cR [oO 257 (gM 1 [[.str []]] [(0,.a8 (.str [76,105,115,116]))]),gp 1 1,dD 258 4 1,gp 1 258,ct 259 2 258,aY 260 31 259,dk 261 61 [aT 257,aS [40],aT 260,aS [41]],gp 1 1,dD 262 6 1,gp 1 262,aD 263 1 262,aY 264 62 263,dk 265 61 [aT 261,aS [91],aT 264,aS [93]],ae 2 265] .ret) (cR [al 267 .eql 15 12,ae 266 267] (cv 266 (cR [gp 1 1,dD 268 7 1,gp 1 268,aD 269 1 268,iC 269,yM 270 1 (aT 269) (aI 0),iC 270,aD 271 1 270,gp 1 1,dD 272 7 1,gp 1 272,aD 273 1 272,iC 273,yM 274 1 (aT 273) (aI 1),iC 274,aD 275 1 274,oO 276 (gM 1 [[.str []],[.str []],[.str []],[.str []],[.str []]] [(0,.a8 (.str [102,111,108,100])),(1,.tmp 271),(2,.a8 (.str [44])),(3,.tmp 275),(4,.a8 (.str [61]))]),gp 1 1,dD 277 6 1,gp 1 277,aD 278 1 277,iC 278,yM 279 8 (aT 278) (aI 1),iC 279,ct 280 8 279,oO 281 (.iP (.fn 33) [aT 280]),cz 282 1 16 276 281,ae 13 282] (cR [ae 283 13,oO 284 (gM 1 [[.str []]] [(0,.a8 (.str [111,118,101,114]))]),cz 285 1 16 283 284,gp 1 1,dD 286 6 1,gp 1 286,aD 287 1 286,iC 287,yM 288 8 (aT 287) (aI 0),iC 288,ct 289 8 288,aY 290 33 289,cz 291 1 16 285 290,ae 13 291] (cR [ae 292 13,oO 293 (gM 1 [[.str []]] [(0,.a8 (.str [100,111]))]),cz 294 1 16 292 293,gp 1 1,dD 295 6 1,gp 1 295,aD 296 1 295,iC 296,yM 297 8 (aT 296) (aI 2),iC 297,ct 298 8 297,aY 299 33 298,cz 300 1 16 294 299,ae 2 300] .ret))) .skip)))))))))))))))))))))))))))) (cR [aB 2 (.a8 (.slice [] true))] .ret))⟩
theorem Rt:bq Tryz.f33 jf=some jf:=by kernel_rfl
def NJ:au:=⟨[2,3,4,29],[999999],[3,8,888888],30,1,[.tmp 2],cR [aB 2 (.a8 (.slice [] true))] (cR [af 5 0,bJ 6 .sl 5,al 7 .add 6 1,oO 8 (.tU 1 16 [.str []] (aT 7)),oO 3 (.mov true true (aT 8))] (.seq (cR [aB 4 (aI 1)] (.block 0 (.loop (.seq (cR [af 9 4,af 10 0,bJ 11 .sl 10,bu 12 .lss 9 11] (cv 12 .skip (.exit 0))) (.seq (.block 1 (.seq (.region true [af 15 0,af 16 4,al 17 .sub 16 1,dV 18 1 15 17,aD 19 1 18,af 20 0,af 21 4,dV 22 1 20 21,aD 23 1 22,di 24 65 19 23,oO 25 (.un .not (aT 24))]) (cv 25 (.region false [af 26 3,af 27 4,dV 28 1 26 27,oN (.store 1 (aT 28) (aS [32]))]) .skip))) (.region false [af 13 4,al 14 .add 13 1,ae 4 14])))))) (cR [ae 29 3,ae 2 29] .ret)))⟩
theorem Ru:bq Tryz.f34 NJ=some NJ:=by kernel_rfl
def NK:au:=⟨[2,3,4,13,18],[999999],[],32,1,[.tmp 2],cR [aB 2 (aI 0)] (cR [aB 3 (aI 0)] (.seq (.block 0 (.loop (.seq (cR [af 5 3,af 6 0,bJ 7 .str 6,bu 8 .lss 5 7] (cv 8 .skip (.exit 0))) (.block 1 (cR [af 9 0,af 10 3,oO 11 (.indexStr (aT 9) (aT 10))] (.block 2 (.seq (cR [jh 14 .eql (aT 11) (.a8 (.int IntKind.u8 32)),ae 13 14] (cv 13 .skip (.region false [jh 15 .eql (aT 11) (.a8 (.int IntKind.u8 10)),ae 13 15]))) (cv 13 (.region false [af 16 3,al 17 .add 16 1,ae 3 17]) (cR [jh 19 .eql (aT 11) (.a8 (.int IntKind.u8 35)),ae 18 19] (cv 18 (cR [af 20 0,af 21 3,oO 22 (.slice .str (aT 20) (some (aT 21)) none none),dk 23 66 [aT 22,.a8 (.int IntKind.u8 10)],ae 4 23] (.seq (cR [af 24 4,al 25 .lss 24 0] (cv 25 (cR [af 26 0,bJ 27 .str 26,ae 2 27] .ret) .skip)) (.region false [af 28 3,af 29 4,bu 30 .add 28 29,ae 3 30]))) (cR [af 12 3,ae 2 12] .ret))))))))))) (cR [af 31 3,ae 2 31] .ret)))⟩
theorem Rv:bq Tryz.f35 NK=some NK:=by kernel_rfl
def NL:au:=⟨[2,5,7,9,22,37,700004],[4,999999],[],46,1,[.tmp 2],cR [aB 2 (aI 0)] (.seq (cR [oO 8 (.load false true 4 (.aP 0)),aB 9 (aI 0)] (.block 0 (.loop (cR [al 10 .lss 9 2] (.seq (cv 10 .skip (.exit 0)) (.seq (.block 1 (cR [oO 11 (.index true 2 2 (aT 8) (aT 9)),oO 4 (.allocL [.bV,.bV]),mH 2 4 11] (.seq (.seq (.region true [oO 12 (.ixArr 2 1 (aT 4) (aI 0)),aD 13 1 12,af 14 0,oO 15 (.indexStr (aT 14) (aI 0)),oO 16 (.call (aT 13) [aT 15]),oO 17 (.un .not (aT 16))]) (cv 17 (.exit 1) .skip)) (cR [aB 5 (aI 1)] (.seq (.block 2 (.loop (.seq (cR [af 18 5,af 19 0,iC 19,bJ 20 .str 19,bu 21 .lss 18 20,ae 22 21,uK 22 (.qN (.frame 4) (aT 4)),bI 23 22 (.ixArr 2 1 (aT 4) (aI 1)),uK 22 (.qN (.frame 4) (aT 23)),bI 24 22 (bM 1 23),bI 25 22 (cA 0),bI 26 22 (cA 5),bI 27 22 (.indexStr (aT 25) (aT 26)),bI 28 22 (.call (aT 24) [aT 27]),iB 29 22 28] (cv 29 .skip (.exit 2))) (.block 3 (.region false [af 30 5,al 31 .add 30 1,ae 5 31]))))) (.seq (cR [af 32 5,al 33 .gtr 32 16] (cv 33 (cR [aB 2 (aI 0)] .ret) .skip)) (cR [af 34 5,ae 2 34] .ret))))))) (.region false [al 35 .add 9 1,ae 9 35]))))))) (.seq (cR [oO 36 (.load false true 18 (.aP 1)),aB 37 (aI 0)] (.block 4 (.loop (cR [al 38 .lss 37 18] (.seq (cv 38 .skip (.exit 4)) (.seq (.block 5 (cR [oO 39 (.index false 18 1 (aT 36) (aT 37)),ae 7 39] (cR [af 40 0,af 41 7,di 42 67 40 41] (cv 42 (cR [af 43 7,bJ 44 .str 43,ae 2 44] .ret) .skip)))) (.region false [al 45 .add 37 1,ae 37 45]))))))) (cR [aB 2 (aI 0)] .ret)))⟩
theorem Rw:bq Tryz.f36 NL=some NL:=by kernel_rfl
def NM:au:=⟨[4,12],[999999],[],19,2,[.tmp 4,.tmp 5],cR [aB 4 (aI 0),bW 5 (.a8 .bt)] (cR [af 6 0,aY 7 68 6] (cR [af 8 0,af 9 0,JF 10 9,dD 11 1 10,oO 12 (.load true false 1 (aT 11)),af 13 1,oO 14 (.append true false 1 1 (aT 12) (aT 13)),JF 15 8,dD 16 1 15,mH 1 16 14] (cR [af 17 1,bJ 18 .str 17,ae 4 18,bW 5 (.a8 .bt)] .ret)))⟩
theorem Rx:bq Tryz.f37 NM=some NM:=by kernel_rfl
def NO:au:=⟨[6,9],[],[],21,3,[.tmp 6],cR [aB 6 (aI 0)] (.seq (cR [af 7 1,al 8 .lss 7 0,ae 9 8,bF 10 9 (cA 1),bF 11 9 (cA 0),bF 12 9 (od 11),bF 13 9 (cn .geq (aT 10) (aT 12)),kY 14 9 13] (cv 14 (cR [aB 6 (aI 0)] .ret) .skip)) (cR [af 15 0,af 16 1,dV 17 1 15 16,aD 18 1 17,af 19 2,di 20 7 18 19,ae 6 20] .ret))⟩
theorem Ry:bq Tryz.f39 NO=some NO:=by kernel_rfl
def Gj:au:=⟨[2],[],[777777],11,1,[.tmp 2],cR [aB 2 (aS [])] (.seq (cR [af 3 0,dk 4 19 [aT 3,aI 4],al 5 .eql 4 1] (cv 5 (cR [af 6 0,aY 7 18 6,jh 8 .add (aS [107,46]) (aT 7),ae 2 8] .ret) .skip)) (cR [af 9 0,aY 10 18 9,ae 2 10] .ret))⟩
theorem Rz:bq Tryz.f40 Gj=some Gj:=by kernel_rfl
def NP:au:=⟨[6,7,8,9,19],[],[777777],26,3,[.tmp 6],cR [aB 6 (.a8 (.slice [] true))] (cR [aB 7 (.a8 (.slice [] true))] (cR [af 10 0,af 11 2,al 12 .add 11 1,di 13 19 10 12,ae 8 13] (.seq (cR [aB 9 (aI 0)] (.block 0 (.loop (.seq (cR [af 14 9,af 15 8,bu 16 .lss 14 15] (cv 16 .skip (.exit 0))) (.seq (.block 1 (.region false [ae 19 7,af 20 0,af 21 1,di 22 23 20 21,oO 23 (gM 8 [[.int .i64 0,.int .i64 0,.str [],.str [],.str [],.slice [] false,.slice [] false,.slice [] false]] [(0,.tmp 22)]),cz 24 8 136 19 23,ae 7 24])) (.region false [af 17 9,al 18 .add 17 1,ae 9 18])))))) (cR [af 25 7,ae 6 25] .ret))))⟩
theorem RA:bq Tryz.f41 NP=some NP:=by kernel_rfl
noncomputable def Xe:au:=cT [] [999999] [] Tryz.f42
theorem RB:bq Tryz.f42 Xe=some Xe:=by kernel_rfl
noncomputable def Xf:au:=cT [2,3] [999999] [] Tryz.f43
theorem RC:bq Tryz.f43 Xf=some Xf:=by kernel_rfl
noncomputable def Xg:au:=cT [] [999999] [] Tryz.f44
theorem RD:bq Tryz.f44 Xg=some Xg:=by kernel_rfl
noncomputable def Xh:au:=cT [34,8,700002,700003] [2,999999,999998] [] Tryz.f45
theorem RE:bq Tryz.f45 Xh=some Xh:=by kernel_rfl
noncomputable def Xi:au:=cT [6,7,19,700009] [9,999999] [] Tryz.f46
theorem RF:bq Tryz.f46 Xi=some Xi:=by kernel_rfl
noncomputable def Xj:au:=cT [2,3,5,18,36,6] [999999] [] Tryz.f47
theorem RG:bq Tryz.f47 Xj=some Xj:=by kernel_rfl
noncomputable def Xk:au:=cT [2,3,4,9,34,59,83,93,100,106,111,136,14,700005] [5,999999] [] Tryz.f48
theorem RH:bq Tryz.f48 Xk=some Xk:=by kernel_rfl
noncomputable def Xl:au:=cT [2,3,4,17] [999999] [] Tryz.f49
theorem RI:bq Tryz.f49 Xl=some Xl:=by kernel_rfl
noncomputable def Xn:au:=cT [2,5] [999999,7] [888888] Tryz.f50
theorem RJ:bq Tryz.f50 Xn=some Xn:=by kernel_rfl
noncomputable def Xo:au:=cT [2,5] [999999,7] [888888] Tryz.f51
theorem RL:bq Tryz.f51 Xo=some Xo:=by kernel_rfl
noncomputable def Xp:au:=cT [2,5] [999999,7] [888888] Tryz.f52
theorem RM:bq Tryz.f52 Xp=some Xp:=by kernel_rfl
noncomputable def Xq:au:=cT [3,20,700002,700004] [2,4,999999,999998] [500001] Tryz.f53
theorem RN:bq Tryz.f53 Xq=some Xq:=by kernel_rfl
noncomputable def Xr:au:=cT [3,12,700002,700004] [2,4,999999] [500001] Tryz.f54
theorem RO:bq Tryz.f54 Xr=some Xr:=by kernel_rfl
noncomputable def Xs:au:=cT [4,6,700005] [999999] [500002,500003] Tryz.f55
theorem RP:bq Tryz.f55 Xs=some Xs:=by kernel_rfl
def NQ:au:=⟨[2,3,4,8],[],[],32,1,[.tmp 2],cR [aB 2 jC] (.seq (cR [af 5 0,bJ 6 .str 5,al 7 .eql 6 0,ae 8 7,bF 9 8 (cA 0),bF 10 8 (.indexStr (aT 9) (aI 0)),bF 11 8 (gG 88 [aT 10]),bF 12 8 (cn .neq (aT 11) (aI 1)),kY 13 8 12] (cv 13 (cR [aB 2 jC] .ret) .skip)) (cR [dk 14 89 [],ae 3 14] (.seq (cR [aB 4 (aI 0)] (.block 0 (.loop (.seq (cR [af 15 4,af 16 3,bJ 17 .sl 16,bu 18 .lss 15 17] (cv 18 .skip (.exit 0))) (.seq (.block 1 (cR [af 21 3,af 22 4,dV 23 1 21 22,aD 24 1 23,af 25 0,bu 26 .eql 24 25] (cv 26 (cR [aB 2 jC] .ret) .skip))) (.region false [af 19 4,al 20 .add 19 1,ae 4 20])))))) (cR [af 27 0,dk 28 90 [aT 27,aI 0],af 29 0,bJ 30 .str 29,bu 31 .eql 28 30,ae 2 31] .ret))))⟩
theorem RQ:bq Tryz.f56 NQ=some NQ:=by kernel_rfl
def Gk:au:=⟨[2,10,21,25,30],[1],[],36,1,[.tmp 2],cR [oO 1 (.boxL (aT 0)),aB 2 jC] (.seq (cR [dD 3 0 1,aD 4 1 3,jh 5 .eql (aT 4) (aS [76,105,115,116])] (cv 5 (cR [dD 6 1 1,aD 7 1 6,bJ 8 .sl 7,al 9 .eql 8 1,ae 10 9,bI 11 10 (iW 1 1),bI 12 10 (bM 1 11),bI 13 10 (.ixSl 2 (aT 12) (aI 0)),bI 14 10 (qD 2 13),bI 15 10 (gG 57 [aT 14]),iB 16 10 15,ae 2 16] .ret) .skip)) (cR [dD 17 1 1,aD 18 1 17,bJ 19 .sl 18,al 20 .eql 19 0,ae 21 20,bI 22 21 (iW 0 1),bI 23 21 (bM 1 22),bI 24 21 (cn .eql (aT 23) (aS [73,110,116])),bI 25 21 (jS 24),bF 26 25 (iW 0 1),bF 27 25 (bM 1 26),bF 28 25 (cn .eql (aT 27) (aS [66,111,111,108])),bI 29 21 (.pick (aT 25) DK (aT 28)),bI 30 21 (jS 29),bF 31 30 (iW 0 1),bF 32 30 (bM 1 31),bF 33 30 (gG 91 [aT 32]),bI 34 21 (.pick (aT 30) DK (aT 33)),iB 35 21 34,ae 2 35] .ret))⟩
theorem RR:bq Tryz.f57 Gk=some Gk:=by kernel_rfl
def NR:au:=⟨[5,11,18,25,32,40,48],[2,3],[],76,2,[.tmp 4],cR [oO 2 (.boxL (aT 0)),oO 3 (.boxL (aT 1)),bW 4 jC] (.seq (cR [dD 6 0 2,aD 7 1 6,dD 8 0 3,aD 9 1 8,bu 10 .neq 7 9,ae 11 10,bF 12 11 (iW 1 2),bF 13 11 (bM 1 12),bF 14 11 (iW 1 3),bF 15 11 (bM 1 14),bF 16 11 (cn .neq (aT 13) (aT 15)),kY 17 11 16,ae 18 17,bF 19 18 (iW 2 2),bF 20 18 (bM 1 19),bF 21 18 (iW 2 3),bF 22 18 (bM 1 21),bF 23 18 (cn .neq (aT 20) (aT 22)),kY 24 18 23,ae 25 24,bF 26 25 (iW 3 2),bF 27 25 (bM 1 26),bF 28 25 (iW 3 3),bF 29 25 (bM 1 28),bF 30 25 (cn .neq (aT 27) (aT 29)),kY 31 25 30,ae 32 31,bF 33 32 (iW 4 2),bF 34 32 (qD 2 33),bF 35 32 (iW 4 3),bF 36 32 (qD 2 35),bF 37 32 (gG 92 [aT 34,aT 36]),bF 38 32 (.un .not (aT 37)),kY 39 32 38,ae 40 39,bF 41 40 (iW 7 2),bF 42 40 (bM 1 41),bF 43 40 (iW 7 3),bF 44 40 (bM 1 43),bF 45 40 (gG 26 [aT 42,aT 44]),bF 46 40 (.un .not (aT 45)),kY 47 40 46,ae 48 47,bF 49 48 (iW 6 2),bF 50 48 (bM 1 49),bF 51 48 (od 50),bF 52 48 (iW 6 3),bF 53 48 (bM 1 52),bF 54 48 (od 53),bF 55 48 (cn .neq (aT 51) (aT 54)),kY 56 48 55] (cv 56 (cR [bW 4 jC] .ret) .skip)) (.seq (cR [aB 5 (aI 0)] (.block 0 (.loop (.seq (cR [af 57 5,dD 58 6 2,aD 59 1 58,bJ 60 .sl 59,bu 61 .lss 57 60] (cv 61 .skip (.exit 0))) (.seq (.block 1 (.seq (.region true [dD 64 6 2,aD 65 1 64,af 66 5,dV 67 8 65 66,ct 68 8 67,dD 69 6 3,aD 70 1 69,af 71 5,dV 72 8 70 71,ct 73 8 72,di 74 58 68 73,oO 75 (.un .not (aT 74))]) (cv 75 (cR [bW 4 jC] .ret) .skip))) (.region false [af 62 5,al 63 .add 62 1,ae 5 63])))))) (cR [bW 4 DK] .ret)))⟩
theorem RS:bq Tryz.f58 NR=some NR:=by kernel_rfl
def oQ:au:=⟨[3,4,5,6,7,8,15,18,26,33,42,47,52,57,63,69,73,80,83,88,97,103,109,112,121,127,131,136,148,152,158,162,167,176,181,186],[1],[],205,1,[.tmp 2],cR [oO 1 (.boxL (aT 0)),bW 2 jC] (cR [ct 9 8 1,aY 10 93 9,ae 8 10,nH 11 8 0,nH 12 8 1,ae 3 11,ae 4 12] (.seq (cR [af 13 3,al 14 .eql 13 (-2),ae 15 14,bF 16 15 (cA 3),bF 17 15 (cn .geq (aT 16) (aI 0)),bF 18 15 (jS 17),bI 19 18 (iW 6 1),bI 20 18 (bM 1 19),bI 21 18 (od 20),bI 22 18 (cA 3),bI 23 18 (cn .neq (aT 21) (aT 22)),bF 24 15 (.pick (aT 18) (aT 23) jC),kY 25 15 24,ae 26 25,bF 27 26 (iW 7 1),bF 28 26 (bM 1 27),bF 29 26 (od 28),bF 30 26 (cA 4),bF 31 26 (cn .neq (aT 29) (aT 30)),kY 32 26 31,ae 33 32,bF 34 33 (iW 7 1),bF 35 33 (bM 1 34),bF 36 33 (gG 94 [aT 35]),bF 37 33 (.un .not (aT 36)),kY 38 33 37] (cv 38 (cR [bW 2 jC] .ret) .skip)) (cR [dD 39 0 1,aD 40 1 39,al 41 .eql 40 3,ae 42 41,bF 43 42 (iW 0 1),bF 44 42 (bM 1 43),bF 45 42 (cn .eql (aT 44) (aI 7)),kY 46 42 45,ae 47 46,bF 48 47 (iW 0 1),bF 49 47 (bM 1 48),bF 50 47 (cn .eql (aT 49) (aI 8)),kY 51 47 50,ae 52 51,bF 53 52 (iW 0 1),bF 54 52 (bM 1 53),bF 55 52 (cn .eql (aT 54) (aI 9)),kY 56 52 55,ae 57 56,bF 58 57 (iW 0 1),bF 59 57 (bM 1 58),bF 60 57 (cn .eql (aT 59) (aI 10)),kY 61 57 60,ae 5 61] (.seq (cR [af 62 5,ae 63 62,bI 64 63 (iW 2 1),bI 65 63 (bM 1 64),bI 66 63 (gG 91 [aT 65]),bI 67 63 (.un .not (aT 66)),iB 68 63 67,ae 69 68,bF 70 69 (iW 0 1),bF 71 69 (bM 1 70),bF 72 69 (cn .eql (aT 71) (aI 2)),bF 73 69 (jS 72),bI 74 73 (iW 2 1),bI 75 73 (bM 1 74),bI 76 73 (gG 56 [aT 75]),bI 77 73 (.un .not (aT 76)),bF 78 69 (.pick (aT 73) (aT 77) jC),kY 79 69 78,ae 80 79,bF 81 80 (cA 5),bF 82 80 (.un .not (aT 81)),bF 83 80 (jS 82),bI 84 83 (iW 0 1),bI 85 83 (bM 1 84),bI 86 83 (cn .neq (aT 85) (aI 2)),bF 87 80 (.pick (aT 83) (aT 86) jC),bF 88 80 (jS 87),bI 89 88 (iW 2 1),bI 90 88 (bM 1 89),bI 91 88 (cn .neq (aT 90) (aS [])),bF 92 80 (.pick (aT 88) (aT 91) jC),kY 93 80 92] (cv 93 (cR [bW 2 jC] .ret) .skip)) (cR [dD 94 0 1,aD 95 1 94,al 96 .eql 95 8,ae 97 96,bF 98 97 (iW 0 1),bF 99 97 (bM 1 98),bF 100 97 (cn .eql (aT 99) (aI 9)),kY 101 97 100,ae 6 101] (.seq (cR [af 102 6,ae 103 102,bI 104 103 (iW 3 1),bI 105 103 (bM 1 104),bI 106 103 (gG 56 [aT 105]),bI 107 103 (.un .not (aT 106)),iB 108 103 107,ae 109 108,bF 110 109 (cA 6),bF 111 109 (.un .not (aT 110)),bF 112 109 (jS 111),bI 113 112 (iW 3 1),bI 114 112 (bM 1 113),bI 115 112 (cn .neq (aT 114) (aS [])),bF 116 109 (.pick (aT 112) (aT 115) jC),kY 117 109 116] (cv 117 (cR [bW 2 jC] .ret) .skip)) (.seq (cR [dD 118 0 1,aD 119 1 118,al 120 .eql 119 11,ae 121 120,bI 122 121 (iW 4 1),bI 123 121 (qD 2 122),bI 124 121 (gG 57 [aT 123]),bI 125 121 (.un .not (aT 124)),iB 126 121 125,ae 127 126,bF 128 127 (iW 0 1),bF 129 127 (bM 1 128),bF 130 127 (cn .neq (aT 129) (aI 11)),bF 131 127 (jS 130),bI 132 131 (iW 4 1),bI 133 131 (iW 0 132),bI 134 131 (bM 1 133),bI 135 131 (cn .neq (aT 134) (aS [])),bI 136 131 (jS 135),bF 137 136 (iW 4 1),bF 138 136 (iW 1 137),bF 139 136 (bM 1 138),bF 140 136 (od 139),bF 141 136 (cn .gtr (aT 140) (aI 0)),bI 142 131 (.pick (aT 136) DK (aT 141)),bF 143 127 (.pick (aT 131) (aT 142) jC),kY 144 127 143] (cv 144 (cR [bW 2 jC] .ret) .skip)) (.seq (cR [dD 145 0 1,aD 146 1 145,al 147 .eql 146 0,ae 148 147,bI 149 148 (iW 1 1),bI 150 148 (bM 1 149),bI 151 148 (cn .lss (aT 150) (aI (-1099511627776))),bI 152 148 (jS 151),bF 153 152 (iW 1 1),bF 154 152 (bM 1 153),bF 155 152 (cn .gtr (aT 154) (aI 1099511627776)),bI 156 148 (.pick (aT 152) DK (aT 155)),iB 157 148 156,ae 158 157,bF 159 158 (iW 0 1),bF 160 158 (bM 1 159),bF 161 158 (cn .eql (aT 160) (aI 1)),bF 162 158 (jS 161),bI 163 162 (iW 1 1),bI 164 162 (bM 1 163),bI 165 162 (cn .neq (aT 164) (aI 0)),bF 166 158 (.pick (aT 162) (aT 165) jC),bF 167 158 (jS 166),bI 168 167 (iW 1 1),bI 169 167 (bM 1 168),bI 170 167 (cn .neq (aT 169) (aI 1)),bF 171 158 (.pick (aT 167) (aT 170) jC),kY 172 158 171] (cv 172 (cR [bW 2 jC] .ret) .skip)) (.seq (cR [dD 173 0 1,aD 174 1 173,al 175 .neq 174 0,ae 176 175,bI 177 176 (iW 0 1),bI 178 176 (bM 1 177),bI 179 176 (cn .neq (aT 178) (aI 1)),iB 180 176 179,ae 181 180,bI 182 181 (iW 0 1),bI 183 181 (bM 1 182),bI 184 181 (cn .neq (aT 183) (aI 4)),iB 185 181 184,ae 186 185,bI 187 186 (iW 1 1),bI 188 186 (bM 1 187),bI 189 186 (cn .neq (aT 188) (aI 0)),iB 190 186 189] (cv 190 (cR [bW 2 jC] .ret) .skip)) (.seq (cR [aB 7 (aI 0)] (.block 0 (.loop (.seq (cR [af 191 7,dD 192 6 1,aD 193 1 192,bJ 194 .sl 193,bu 195 .lss 191 194] (cv 195 .skip (.exit 0))) (.seq (.block 1 (cR [dD 198 6 1,aD 199 1 198,af 200 7,dV 201 8 199 200,ct 202 8 201,aY 203 59 202,oO 204 (.un .not (aT 203))] (cv 204 (cR [bW 2 jC] .ret) .skip))) (.region false [af 196 7,al 197 .add 196 1,ae 7 197])))))) (cR [bW 2 DK] .ret)))))))))))⟩
theorem RT:bq Tryz.f59 oQ=some oQ:=by kernel_rfl
def NS:au:=⟨[2,3,4,5,6],[],[],18,1,[.tmp 2],cR [aB 2 (.a8 (.slice [] true))] (cR [af 7 0,aY 8 95 7,ae 6 8,nH 9 6 0,nH 10 6 1,nH 11 6 2,ae 3 9,ae 4 10,ae 5 11] (.seq (cR [af 12 5] (cv 12 (cR [af 13 3,af 14 4,oO 15 (gM 1 [[.str []],[.str []],[.str []]] [(0,.tmp 13),(1,.a8 (.str [46])),(2,.tmp 14)]),ae 2 15] .ret) .skip)) (cR [af 16 3,oO 17 (gM 1 [[.str []]] [(0,.tmp 16)]),ae 2 17] .ret)))⟩
theorem RU:bq Tryz.f60 NS=some NS:=by kernel_rfl
def NT:au:=⟨[8,9,10,12,16,18],[],[],22,4,[.tmp 8],cR [aB 8 (.a8 (.slice [] true))] (cR [aB 9 (.a8 (.slice [] true))] (cR [ae 10 9,af 11 0,cz 12 1 16 10 11,af 13 1,oO 14 (gM 1 [[.str []]] [(0,.tmp 13)]),cz 15 1 16 12 14,ae 9 15] (cR [ae 16 9,af 17 2,cz 18 1 16 16 17,af 19 3,oO 20 (gM 1 [[.str []]] [(0,.tmp 19)]),cz 21 1 16 18 20,ae 8 21] .ret)))⟩
theorem RV:bq Tryz.f61 NT=some NT:=by kernel_rfl
def NU:au:=⟨[2,3,4,13,16],[],[],24,1,[.tmp 2],cR [aB 2 (.a8 (.slice [] true))] (cR [aB 3 (.a8 (.slice [] true))] (.seq (cR [aB 4 (aI 0)] (.block 0 (.loop (.seq (cR [af 5 4,af 6 0,bJ 7 .sl 6,bu 8 .lss 5 7] (cv 8 .skip (.exit 0))) (.seq (.block 1 (.seq (cR [af 11 4,al 12 .gtr 11 0] (cv 12 (.region false [ae 13 3,oO 14 (gM 1 [[.str []]] [(0,.a8 (.str [44]))]),cz 15 1 16 13 14,ae 3 15]) .skip)) (.region false [ae 16 3,af 17 0,af 18 4,dV 19 8 17 18,ct 20 8 19,aY 21 33 20,cz 22 1 16 16 21,ae 3 22]))) (.region false [af 9 4,al 10 .add 9 1,ae 4 10])))))) (cR [af 23 3,ae 2 23] .ret)))⟩
theorem RW:bq Tryz.f62 NU=some NU:=by kernel_rfl
def NV:au:=⟨[2,3,4,5,8],[],[],22,1,[.tmp 2,.tmp 3],cR [aB 2 (aS []),aB 3 (aI 0)] (.seq (cR [af 6 0,al 7 .lss 6 0,ae 8 7,bF 9 8 (cA 0),bF 10 8 (cn .gtr (aT 9) (aI 11)),kY 11 8 10] (cv 11 (cR [aB 2 (aS []),aB 3 (aI 0)] .ret) .skip)) (cR [oO 12 (gM 1 [[.str []],[.str []],[.str []],[.str []],[.str []],[.str []],[.str []],[.str []],[.str []],[.str []],[.str []],[.str []]] [(0,.a8 (.str [43])),(1,.a8 (.str [45])),(2,.a8 (.str [42])),(3,.a8 (.str [47])),(4,.a8 (.str [37])),(5,.a8 (.str [60])),(6,.a8 (.str [61,61])),(7,.a8 (.str [97,110,100])),(8,.a8 (.str [111,114])),(9,.a8 (.str [110,111,116])),(10,.a8 (.str [106,111,105,110])),(11,.a8 (.str [108,101,110]))]),ae 4 12] (cR [oO 13 (gM 1 [[.int .i64 0],[.int .i64 0],[.int .i64 0],[.int .i64 0],[.int .i64 0],[.int .i64 0],[.int .i64 0],[.int .i64 0],[.int .i64 0],[.int .i64 0],[.int .i64 0],[.int .i64 0]] [(0,.a8 (.int .i64 5)),(1,.a8 (.int .i64 5)),(2,.a8 (.int .i64 6)),(3,.a8 (.int .i64 6)),(4,.a8 (.int .i64 6)),(5,.a8 (.int .i64 3)),(6,.a8 (.int .i64 3)),(7,.a8 (.int .i64 2)),(8,.a8 (.int .i64 1)),(9,.a8 (.int .i64 7)),(10,.a8 (.int .i64 4)),(11,.a8 (.int .i64 7))]),ae 5 13] (cR [af 14 4,af 15 0,iC 14,dV 16 1 14 15,iC 16,aD 17 1 16,af 18 5,af 19 0,iC 18,dV 20 1 18 19,iC 20,aD 21 1 20,ae 2 17,ae 3 21] .ret))))⟩
theorem RX:bq Tryz.f63 NV=some NV:=by kernel_rfl
def NW:au:=⟨[4,9,12],[2],[],17,2,[.tmp 4],cR [oO 2 (.boxL (aT 0)),aB 4 (.a8 (.slice [] true))] (.seq (cR [ct 5 8 2,aY 6 96 5,af 7 1,bu 8 .lss 6 7] (cv 8 (cR [oO 9 (gM 1 [[.str []]] [(0,.a8 (.str [40]))]),ct 10 8 2,aY 11 33 10,cz 12 1 16 9 11,oO 13 (gM 1 [[.str []]] [(0,.a8 (.str [41]))]),cz 14 1 16 12 13,ae 4 14] .ret) .skip)) (cR [ct 15 8 2,aY 16 33 15,ae 4 16] .ret))⟩
theorem RY:bq Tryz.f64 NW=some NW:=by kernel_rfl
def NX:au:=⟨[4,6,13,17],[999999],[],21,2,[.tmp 4],cR [aB 4 jC] (.seq (cR [af 5 1] (.block 0 (.seq (cR [jh 7 .eql (aT 5) (aS [41]),ae 6 7] (cv 6 .skip (cR [jh 8 .eql (aT 5) (aS [93]),ae 6 8] (cv 6 .skip (cR [jh 9 .eql (aT 5) (aS [44]),ae 6 9] (cv 6 .skip (.region false [jh 10 .eql (aT 5) (aS [46]),ae 6 10]))))))) (cv 6 (cR [aB 4 DK] .ret) .skip)))) (cR [af 11 0,jh 12 .eql (aT 11) (aS [40]),ae 13 12,bF 14 13 (cA 0),bF 15 13 (cn .eql (aT 14) (aS [91])),kY 16 13 15,ae 17 16,bF 18 17 (cA 0),bF 19 17 (cn .eql (aT 18) (aS [46])),kY 20 17 19,ae 4 20] .ret))⟩
theorem RZ:bq Tryz.f65 NX=some NX:=by kernel_rfl
def NY:au:=⟨[4],[999999],[],8,2,[.tmp 4],cR [aB 4 jC] (cR [af 5 0,af 6 1,di 7 98 5 6,ae 4 7] .ret)⟩
theorem R0:bq Tryz.f67 NY=some NY:=by kernel_rfl
noncomputable def Xu:au:=cT [2,7] [999999] [] Tryz.f69
theorem R1:bq Tryz.f69 Xu=some Xu:=by kernel_rfl
def Xw:au:=⟨[2,5,10,17],[999999],[],23,1,[.tmp 2],cR [aB 2 jC] (cR [af 3 0,jh 4 .neq (aT 3) (aS []),ae 5 4,bI 6 5 (cA 0),bI 7 5 (.indexStr (aT 6) (aI 0)),bI 8 5 (gG 100 [aT 7]),iB 9 5 8,ae 10 9,bI 11 10 (cA 0),bI 12 10 (gG 36 [aT 11]),bI 13 10 (cA 0),bI 14 10 (.len .str (aT 13)),bI 15 10 (cn .eql (aT 12) (aT 14)),iB 16 10 15,ae 17 16,bI 18 17 (.slice (.arr 27 1) (.aP 3) none none none),bI 19 17 (cA 0),bI 20 17 (gG 101 [aT 18,aT 19]),bI 21 17 (.un .not (aT 20)),iB 22 17 21,ae 2 22] .ret)⟩
theorem R2:bq Tryz.f70 Xw=some Xw:=by kernel_rfl
def Xx:au:=⟨[4,5,8],[999999],[],19,2,[.tmp 4],cR [aB 4 (aI 0)] (.seq (cR [af 6 0,bJ 7 .sl 6,aB 8 (aI 0)] (.block 0 (.loop (cR [bu 9 .lss 8 7] (.seq (cv 9 .skip (.exit 0)) (.seq (.block 1 (cR [af 10 8,ae 5 10] (cR [af 11 1,af 12 0,af 13 5,dV 14 1 12 13,aD 15 1 14,bu 16 .eql 11 15] (cv 16 (cR [af 17 5,ae 4 17] .ret) .skip)))) (.region false [al 18 .add 8 1,ae 8 18]))))))) (cR [aB 4 (aI (-1))] .ret))⟩
theorem R3:bq Tryz.f71 Xx=some Xx:=by kernel_rfl
noncomputable def Xy:au:=cT [16] [999999] [] Tryz.f72
theorem R4:bq Tryz.f72 Xy=some Xy:=by kernel_rfl
noncomputable def Xz:au:=cT [15,7,700002] [2,999999,999998] [] Tryz.f73
theorem R5:bq Tryz.f73 Xz=some Xz:=by kernel_rfl
noncomputable def XA:au:=cT [3,7,11,6,10,17,20,700002] [2,999999] [] Tryz.f74
theorem R6:bq Tryz.f74 XA=some XA:=by kernel_rfl
noncomputable def XB:au:=cT [4,5] [999999] [] Tryz.f75
theorem R7:bq Tryz.f75 XB=some XB:=by kernel_rfl
noncomputable def XC:au:=cT [4,8,25,37,53,700002,700003] [2,18,999999] [] Tryz.f76
theorem R8:bq Tryz.f76 XC=some XC:=by kernel_rfl
noncomputable def XD:au:=cT [8] [999999] [] Tryz.f77
theorem R9:bq Tryz.f77 XD=some XD:=by kernel_rfl
noncomputable def XE:au:=cT [] [999999] [] Tryz.f78
theorem R':bq Tryz.f78 XE=some XE:=by kernel_rfl
noncomputable def XF:au:=cT [16,30] [999999] [] Tryz.f79
theorem Sa:bq Tryz.f79 XF=some XF:=by kernel_rfl
noncomputable def XH:au:=cT [9] [999999] [] Tryz.f80
theorem Sb:bq Tryz.f80 XH=some XH:=by kernel_rfl
noncomputable def XI:au:=cT [2,4,13,18,21,27,30,36,39,44,53,56,63,66,700003] [999999] [] Tryz.f82
theorem Sc:bq Tryz.f82 XI=some XI:=by kernel_rfl
noncomputable def XJ:au:=cT [18,24,43,49,62,68,85,90,100,119,158,179] [999999,999996] [] Tryz.f83
theorem Se:bq Tryz.f83 XJ=some XJ:=by kernel_rfl
noncomputable def XK:au:=cT [2,5] [999999,7] [888888] Tryz.f84
theorem Sf:bq Tryz.f84 XK=some XK:=by kernel_rfl
noncomputable def XL:au:=cT [2,5] [999999,7] [888888] Tryz.f85
theorem Sg:bq Tryz.f85 XL=some XL:=by kernel_rfl
noncomputable def XM:au:=cT [3,6] [999999] [] Tryz.f86
theorem Sh:bq Tryz.f86 XM=some XM:=by kernel_rfl
noncomputable def XN:au:=cT [] [999999] [] Tryz.f87
theorem Si:bq Tryz.f87 XN=some XN:=by kernel_rfl
def NZ:au:=⟨[5,9,12,19],[],[],23,1,[.tmp 2],cR [bW 2 (aI 0)] (.seq (cR [af 3 0,jh 4 .geq (aT 3) (.a8 (.int IntKind.u8 97)),ae 5 4,bI 6 5 (cA 0),bI 7 5 (cn .leq (aT 6) (.a8 (.int IntKind.u8 122))),iB 8 5 7,ae 9 8,bF 10 9 (cA 0),bF 11 9 (cn .geq (aT 10) (.a8 (.int IntKind.u8 65))),bF 12 9 (jS 11),bI 13 12 (cA 0),bI 14 12 (cn .leq (aT 13) (.a8 (.int IntKind.u8 90))),bF 15 9 (.pick (aT 12) (aT 14) jC),kY 16 9 15] (cv 16 (cR [bW 2 (aI 1)] .ret) .skip)) (.seq (cR [af 17 0,jh 18 .geq (aT 17) (.a8 (.int IntKind.u8 48)),ae 19 18,bI 20 19 (cA 0),bI 21 19 (cn .leq (aT 20) (.a8 (.int IntKind.u8 57))),iB 22 19 21] (cv 22 (cR [bW 2 (aI 2)] .ret) .skip)) (cR [bW 2 (aI 0)] .ret)))⟩
theorem Sj:bq Tryz.f88 NZ=some NZ:=by kernel_rfl
def N0:au:=⟨[0],[],[],2,0,[.tmp 0],cR [aB 0 (.a8 (.slice [] true))] (cR [oO 1 (gM 1 [[.str []],[.str []],[.str []],[.str []],[.str []],[.str []],[.str []],[.str []],[.str []],[.str []],[.str []],[.str []],[.str []],[.str []],[.str []],[.str []],[.str []],[.str []],[.str []],[.str []],[.str []],[.str []],[.str []],[.str []],[.str []],[.str []],[.str []]] [(0,.a8 (.str [109,111,100,117,108,101])),(1,.a8 (.str [117,115,101])),(2,.a8 (.str [114,101,99])),(3,.a8 (.str [99,97,115,101])),(4,.a8 (.str [102,117,110])),(5,.a8 (.str [111,110])),(6,.a8 (.str [116,101,115,116])),(7,.a8 (.str [99,111,110,118])),(8,.a8 (.str [116,114,117,101])),(9,.a8 (.str [102,97,108,115,101])),(10,.a8 (.str [110,111,116])),(11,.a8 (.str [97,110,100])),(12,.a8 (.str [111,114])),(13,.a8 (.str [105,102])),(14,.a8 (.str [116,104,101,110])),(15,.a8 (.str [101,108,115,101])),(16,.a8 (.str [108,101,116])),(17,.a8 (.str [105,110])),(18,.a8 (.str [109,97,116,99,104])),(19,.a8 (.str [102,111,108,100])),(20,.a8 (.str [111,118,101,114])),(21,.a8 (.str [100,111])),(22,.a8 (.str [108,101,110])),(23,.a8 (.str [106,111,105,110])),(24,.a8 (.str [76,105,115,116])),(25,.a8 (.str [73,110,116])),(26,.a8 (.str [66,111,111,108]))]),ae 0 1] .ret)⟩
theorem Sk:bq Tryz.f89 N0=some N0:=by kernel_rfl
def N1:au:=⟨[4,5,6,19,25,31,49],[],[],67,2,[.tmp 4],cR [aB 4 (aI 0)] (cR [af 7 0,af 8 1,oO 9 (.indexStr (aT 7) (aT 8)),aY 10 88 9,ae 5 10] (.seq (cR [af 11 5,al 12 .gtr 11 0] (cv 12 (cR [af 13 1,al 14 .add 13 1,ae 6 14] (.seq (.block 0 (.loop (.seq (cR [af 15 6,af 16 0,bJ 17 .str 16,bu 18 .lss 15 17,ae 19 18,bI 20 19 (cA 0),bI 21 19 (cA 6),bI 22 19 (.indexStr (aT 20) (aT 21)),bI 23 19 (gG 88 [aT 22]),bI 24 19 (cn .eql (aT 23) (aI 2)),bI 25 19 (jS 24),bF 26 25 (cA 0),bF 27 25 (cA 6),bF 28 25 (.indexStr (aT 26) (aT 27)),bF 29 25 (gG 88 [aT 28]),bF 30 25 (cn .eql (aT 29) (aI 1)),bF 31 25 (jS 30),bI 32 31 (cA 5),bI 33 31 (cn .eql (aT 32) (aI 1)),bF 34 25 (.pick (aT 31) (aT 33) jC),bI 35 19 (.pick (aT 25) DK (aT 34)),iB 36 19 35] (cv 36 .skip (.exit 0))) (.block 1 (.region false [af 37 6,al 38 .add 37 1,ae 6 38]))))) (.seq (cR [af 39 6,af 40 1,bu 41 .sub 39 40,al 42 .gtr 41 16] (cv 42 (cR [aB 4 (aI (-1))] .ret) .skip)) (cR [af 43 6,ae 4 43] .ret)))) .skip)) (.seq (cR [af 44 1,al 45 .add 44 1,af 46 0,bJ 47 .str 46,bu 48 .lss 45 47,ae 49 48,bI 50 49 (cA 0),bI 51 49 (cA 1),bI 52 49 (cA 1),bI 53 49 (cn .add (aT 52) (aI 2)),bI 54 49 (.slice .str (aT 50) (some (aT 51)) (some (aT 53)) none),bI 55 49 (gG 120 [aT 54]),iB 56 49 55] (cv 56 (cR [af 57 1,al 58 .add 57 2,ae 4 58] .ret) .skip)) (.seq (cR [af 59 0,af 60 1,af 61 1,al 62 .add 61 1,oO 63 (.slice .str (aT 59) (some (aT 60)) (some (aT 62)) none),aY 64 120 63] (cv 64 (cR [af 65 1,al 66 .add 65 1,ae 4 66] .ret) .skip)) (cR [aB 4 (aI (-1))] .ret)))))⟩
theorem Sl:bq Tryz.f90 N1=some N1:=by kernel_rfl
def N2:au:=⟨[2,3,4,5,6,14,17],[],[],22,1,[.tmp 2],cR [aB 2 jC] (cR [af 7 0,aY 8 95 7,ae 6 8,nH 9 6 0,nH 10 6 1,nH 11 6 2,ae 3 9,ae 4 10,ae 5 11] (cR [af 12 3,aY 13 56 12,ae 14 13,bI 15 14 (cA 5),bI 16 14 (.un .not (aT 15)),bI 17 14 (jS 16),bF 18 17 (cA 4),bF 19 17 (gG 56 [aT 18]),bI 20 14 (.pick (aT 17) DK (aT 19)),iB 21 14 20,ae 2 21] .ret))⟩
theorem Sm:bq Tryz.f91 N2=some N2:=by kernel_rfl
def N3:au:=⟨[5,11],[2,3],[],39,2,[.tmp 4],cR [oO 2 (.boxL (aT 0)),oO 3 (.boxL (aT 1)),bW 4 jC] (.seq (cR [dD 6 0 2,aD 7 1 6,dD 8 0 3,aD 9 1 8,bu 10 .neq 7 9,ae 11 10,bF 12 11 (iW 1 2),bF 13 11 (bM 1 12),bF 14 11 (od 13),bF 15 11 (iW 1 3),bF 16 11 (bM 1 15),bF 17 11 (od 16),bF 18 11 (cn .neq (aT 14) (aT 17)),kY 19 11 18] (cv 19 (cR [bW 4 jC] .ret) .skip)) (.seq (cR [aB 5 (aI 0)] (.block 0 (.loop (.seq (cR [af 20 5,dD 21 1 2,aD 22 1 21,bJ 23 .sl 22,bu 24 .lss 20 23] (cv 24 .skip (.exit 0))) (.seq (.block 1 (.seq (.region true [dD 27 1 2,aD 28 1 27,af 29 5,dV 30 2 28 29,ct 31 2 30,dD 32 1 3,aD 33 1 32,af 34 5,dV 35 2 33 34,ct 36 2 35,di 37 92 31 36,oO 38 (.un .not (aT 37))]) (cv 38 (cR [bW 4 jC] .ret) .skip))) (.region false [af 25 5,al 26 .add 25 1,ae 5 26])))))) (cR [bW 4 DK] .ret)))⟩
theorem Sn:bq Tryz.f92 N3=some N3:=by kernel_rfl
def N4:au:=⟨[3,4,5,6,12,14,16,18,20,22,32,34,36,39,41,43,50,52],[1],[],54,1,[.tmp 2,.tmp 3],cR [oO 1 (.boxL (aT 0)),bW 2 (aI 0),aB 3 (aI 0)] (cR [dD 7 6 1,aD 8 1 7,bJ 9 .sl 8,ae 4 9] (.seq (cR [dD 10 0 1,aD 11 1 10] (.block 0 (cR [al 13 .eql 11 0,ae 12 13] (cv 12 (cR [bW 2 (aI 0),aB 3 (aI 0)] .ret) (cR [al 15 .eql 11 1,ae 14 15] (cv 14 (cR [bW 2 (aI 0),aB 3 (aI 0)] .ret) (cR [al 17 .eql 11 2,ae 16 17] (cv 16 (cR [bW 2 (aI 0),aB 3 (aI 0)] .ret) (cR [al 19 .eql 11 3,ae 18 19] (cv 18 (cR [bW 2 (aI (-1)),aB 3 (aI 0)] .ret) (cR [al 21 .eql 11 4,ae 20 21] (cv 20 (cR [dD 23 1 1,aD 24 1 23,aY 25 63 24,ae 22 25,nH 26 22 0,nH 27 22 1,ae 5 26,ae 6 27] (.seq (cR [af 28 5,jh 29 .eql (aT 28) (aS [])] (cv 29 (cR [bW 2 (aI (-2)),aB 3 (aI 0)] .ret) .skip)) (.seq (cR [af 30 6,al 31 .eql 30 7] (cv 31 (cR [bW 2 (aI 1),aB 3 (aI 0)] .ret) .skip)) (cR [bW 2 (aI 2),aB 3 (aI 0)] .ret)))) (cR [al 33 .eql 11 5,ae 32 33] (cv 32 (cR [bW 2 (aI 3),aB 3 (aI 0)] .ret) (cR [al 35 .eql 11 6,ae 34 35] (cv 34 (cR [bW 2 (aI 2),aB 3 (aI 1)] .ret) (cR [al 37 .eql 11 7,ae 36 37] (cv 36 (cR [af 38 4,bW 2 (aI (-1)),ae 3 38] .ret) (cR [al 40 .eql 11 8,ae 39 40] (cv 39 (cR [bW 2 (aI 1),aB 3 (aI 0)] .ret) (cR [al 42 .eql 11 9,ae 41 42] (cv 41 (cR [bW 2 (aI 1),aB 3 (aI 0)] .ret) (cR [al 44 .eql 11 10,ae 43 44] (cv 43 (.seq (cR [af 45 4,al 46 .lss 45 2] (cv 46 (cR [bW 2 (aI (-2)),aB 3 (aI 0)] .ret) .skip)) (cR [af 47 4,al 48 .sub 47 1,jh 49 .mul (aI 2) (aT 48),bW 2 (aI (-1)),ae 3 49] .ret)) (cR [al 51 .eql 11 11,ae 50 51] (cv 50 (cR [bW 2 (aI (-1)),aB 3 (aI 0)] .ret) (cR [al 53 .eql 11 12,ae 52 53] (cv 52 (cR [bW 2 (aI 3),aB 3 (aI 2)] .ret) .skip)))))))))))))))))))))))))))) (cR [bW 2 (aI (-2)),aB 3 (aI 0)] .ret)))⟩
theorem Sp:bq Tryz.f93 N4=some N4:=by kernel_rfl
def N5:au:=⟨[3],[],[],16,1,[.tmp 2],cR [bW 2 jC] (.seq (cR [aB 3 (aI 0)] (.block 0 (.loop (.seq (cR [af 4 3,af 5 0,bJ 6 .sl 5,bu 7 .lss 4 6] (cv 7 .skip (.exit 0))) (.seq (.block 1 (cR [af 10 0,af 11 3,dV 12 1 10 11,aD 13 1 12,aY 14 56 13,oO 15 (.un .not (aT 14))] (cv 15 (cR [bW 2 jC] .ret) .skip))) (.region false [af 8 3,al 9 .add 8 1,ae 3 9])))))) (cR [bW 2 DK] .ret))⟩
theorem Sq:bq Tryz.f94 N5=some N5:=by kernel_rfl
def N6:au:=⟨[2,3,5],[],[],24,1,[.tmp 2,.tmp 3,.tmp 4],cR [aB 2 (aS []),aB 3 (aS []),bW 4 jC] (.seq (cR [aB 5 (aI 0)] (.block 0 (.loop (.seq (cR [af 6 5,af 7 0,bJ 8 .str 7,bu 9 .lss 6 8] (cv 9 .skip (.exit 0))) (.seq (.block 1 (cR [af 12 0,af 13 5,oO 14 (.indexStr (aT 12) (aT 13)),jh 15 .eql (aT 14) (.a8 (.int IntKind.u8 46))] (cv 15 (cR [af 16 0,af 17 5,oO 18 (.slice .str (aT 16) none (some (aT 17)) none),af 19 0,af 20 5,al 21 .add 20 1,oO 22 (.slice .str (aT 19) (some (aT 21)) none none),ae 2 18,ae 3 22,bW 4 DK] .ret) .skip))) (.region false [af 10 5,al 11 .add 10 1,ae 5 11])))))) (cR [af 23 0,ae 2 23,aB 3 (aS []),bW 4 jC] .ret))⟩
theorem Sr:bq Tryz.f95 N6=some N6:=by kernel_rfl
def N7:au:=⟨[2,3,4,8,13,21],[1],[],28,1,[.tmp 2],cR [oO 1 (.boxL (aT 0)),aB 2 (aI 0)] (.seq (cR [dD 5 0 1,aD 6 1 5,al 7 .eql 6 5,ae 8 7,bF 9 8 (iW 0 1),bF 10 8 (bM 1 9),bF 11 8 (cn .eql (aT 10) (aI 6)),kY 12 8 11,ae 13 12,bF 14 13 (iW 0 1),bF 15 13 (bM 1 14),bF 16 13 (cn .eql (aT 15) (aI 12)),kY 17 13 16] (cv 17 (cR [aB 2 (aI 0)] .ret) .skip)) (.seq (cR [dD 18 0 1,aD 19 1 18,al 20 .eql 19 4] (cv 20 (cR [dD 22 1 1,aD 23 1 22,aY 24 63 23,ae 21 24,nH 25 21 0,nH 26 21 1,ae 3 25,ae 4 26] (cR [af 27 4,ae 2 27] .ret)) .skip)) (cR [aB 2 (aI 8)] .ret)))⟩
theorem Ss:bq Tryz.f96 N7=some N7:=by kernel_rfl
def N8:au:=⟨[4,10],[999999],[],18,2,[.tmp 4],cR [aB 4 jC] (cR [af 5 0,bJ 6 .str 5,af 7 1,bJ 8 .str 7,bu 9 .geq 6 8,ae 10 9,bI 11 10 (cA 0),bI 12 10 (cA 1),bI 13 10 (.len .str (aT 12)),bI 14 10 (.slice .str (aT 11) none (some (aT 13)) none),bI 15 10 (cA 1),bI 16 10 (cn .eql (aT 14) (aT 15)),iB 17 10 16,ae 4 17] .ret)⟩
theorem St:bq Tryz.f98 N8=some N8:=by kernel_rfl
def Cz:au:=⟨[2,5,9,12],[999999],[],17,1,[.tmp 2],cR [aB 2 jC] (cR [af 3 0,jh 4 .geq (aT 3) (.a8 (.int IntKind.u8 97)),ae 5 4,bI 6 5 (cA 0),bI 7 5 (cn .leq (aT 6) (.a8 (.int IntKind.u8 122))),iB 8 5 7,ae 9 8,bF 10 9 (cA 0),bF 11 9 (cn .geq (aT 10) (.a8 (.int IntKind.u8 65))),bF 12 9 (jS 11),bI 13 12 (cA 0),bI 14 12 (cn .leq (aT 13) (.a8 (.int IntKind.u8 90))),bF 15 9 (.pick (aT 12) (aT 14) jC),kY 16 9 15,ae 2 16] .ret)⟩
theorem Mf:bq Tryz.f100 Cz=some Cz:=by kernel_rfl
def Mg:au:=⟨[4],[999999],[],9,2,[.tmp 4],cR [aB 4 jC] (cR [af 5 0,af 6 1,di 7 71 5 6,al 8 .geq 7 0,ae 4 8] .ret)⟩
theorem Mh:bq Tryz.f101 Mg=some Mg:=by kernel_rfl
noncomputable def Mi:au:=cT [700002,700003] [2,3,999999] [] Tryz.f102
theorem Mj:bq Tryz.f102 Mi=some Mi:=by kernel_rfl
noncomputable def Mk:au:=cT [2,3,11] [999999] [] Tryz.f103
theorem Ml:bq Tryz.f103 Mk=some Mk:=by kernel_rfl
noncomputable def Mm:au:=cT [2,3,4,5,12,16,22] [999999] [] Tryz.f104
theorem Mn:bq Tryz.f104 Mm=some Mm:=by kernel_rfl
noncomputable def Mo:au:=cT [] [999999] [] Tryz.f105
theorem Mp:bq Tryz.f105 Mo=some Mo:=by kernel_rfl
noncomputable def Mq:au:=cT [5,6,9,39,48,27,69,700004,700007,700008] [4,7,8,999999] [14] Tryz.f106
theorem Mr:bq Tryz.f106 Mq=some Mq:=by kernel_rfl
noncomputable def Ms:au:=cT [] [999999] [] Tryz.f107
theorem Mt:bq Tryz.f107 Ms=some Ms:=by kernel_rfl
noncomputable def Mu:au:=cT [4,5,6,7] [999999] [] Tryz.f108
theorem Mv:bq Tryz.f108 Mu=some Mu:=by kernel_rfl
noncomputable def Mw:au:=cT [3] [999999] [] Tryz.f110
theorem Mx:bq Tryz.f110 Mw=some Mw:=by kernel_rfl
noncomputable def My:au:=cT [4] [999999] [] Tryz.f111
theorem Mz:bq Tryz.f111 My=some My:=by kernel_rfl
noncomputable def MA:au:=cT [] [999999] [] Tryz.f112
theorem MB:bq Tryz.f112 MA=some MA:=by kernel_rfl
noncomputable def MC:au:=cT [4] [999999] [] Tryz.f113
theorem MD:bq Tryz.f113 MC=some MC:=by kernel_rfl
noncomputable def ME:au:=cT [2] [999999] [] Tryz.f114
theorem MF:bq Tryz.f114 ME=some ME:=by kernel_rfl
noncomputable def MG:au:=cT [6,10,700007] [7,999999] [] Tryz.f115
theorem MH:bq Tryz.f115 MG=some MG:=by kernel_rfl
noncomputable def MI:au:=cT [4,5,6,7] [999999] [] Tryz.f116
theorem MJ:bq Tryz.f116 MI=some MI:=by kernel_rfl
noncomputable def MK:au:=cT [8,15] [999999] [] Tryz.f117
theorem ML:bq Tryz.f117 MK=some MK:=by kernel_rfl
noncomputable def MM:au:=cT [6,10,700007] [7,999999] [] Tryz.f118
theorem MN:bq Tryz.f118 MM=some MM:=by kernel_rfl
noncomputable def MO:au:=cT [4] [999999,999996] [] Tryz.f119
theorem MP:bq Tryz.f119 MO=some MO:=by kernel_rfl
def CA:au:=⟨[4,7],[],[],26,1,[.tmp 2],cR [bW 2 jC] (.seq (cR [af 5 0,jh 6 .eql (aT 5) (aS [61,61]),ae 7 6,bF 8 7 (cA 0),bF 9 7 (cn .eql (aT 8) (aS [45,62])),kY 10 7 9] (cv 10 (cR [bW 2 DK] .ret) .skip)) (.seq (cR [af 11 0,bJ 12 .str 11,al 13 .neq 12 1] (cv 13 (cR [bW 2 jC] .ret) .skip)) (cR [bW 3 (aS [40,41,123,125,91,93,44,58,46,61,43,45,42,47,37,60])] (.seq (cR [aB 4 (aI 0)] (.block 0 (.loop (.seq (cR [af 14 4,af 15 3,bJ 16 .str 15,bu 17 .lss 14 16] (cv 17 .skip (.exit 0))) (.seq (.block 1 (.seq (.region true [af 20 3,af 21 4,oO 22 (.indexStr (aT 20) (aT 21)),af 23 0,oO 24 (.indexStr (aT 23) (aI 0)),bu 25 .eql 22 24]) (cv 25 (cR [bW 2 DK] .ret) .skip))) (.region false [af 18 4,al 19 .add 18 1,ae 4 19])))))) (cR [bW 2 jC] .ret)))))⟩
theorem MQ:bq Tryz.f120 CA=some CA:=by kernel_rfl
noncomputable def MR:au:=cT [4,8,16,23,27,31,39,52,6,15,22,26,30,700002,700003] [2,999999] [] Tryz.f123
theorem MS:bq Tryz.f123 MR=some MR:=by kernel_rfl
noncomputable def MT:au:=cT [4,5,6] [999999] [] Tryz.f124
theorem MU:bq Tryz.f124 MT=some MT:=by kernel_rfl
noncomputable def MV:au:=cT [4] [999999] [] Tryz.f126
theorem MW:bq Tryz.f126 MV=some MV:=by kernel_rfl
noncomputable def MX:au:=cT [4] [999999] [] Tryz.f127
theorem MY:bq Tryz.f127 MX=some MX:=by kernel_rfl
noncomputable def MZ:au:=cT [] [999999] [] Tryz.f128
theorem M0:bq Tryz.f128 MZ=some MZ:=by kernel_rfl
noncomputable def M1:au:=cT [2,3,4,700005] [5,999999] [7] Tryz.f129
theorem M3:bq Tryz.f129 M1=some M1:=by kernel_rfl
noncomputable def M4:au:=cT [] [999999] [] Tryz.f130
theorem M5:bq Tryz.f130 M4=some M4:=by kernel_rfl
noncomputable def M6:au:=cT [] [999999,999996] [] Tryz.f131
theorem M7:bq Tryz.f131 M6=some M6:=by kernel_rfl
noncomputable def M8:au:=cT [] [999999,999996] [] Tryz.f132
theorem M9:bq Tryz.f132 M8=some M8:=by kernel_rfl
noncomputable def M':au:=cT [24,700002] [2,999999] [] Tryz.f135
theorem Na:bq Tryz.f135 M'=some M':=by kernel_rfl
noncomputable def Nb:au:=cT [18,29,39,6,700002,700003] [2,3,999999] [] Tryz.f136
theorem Nc:bq Tryz.f136 Nb=some Nb:=by kernel_rfl
noncomputable def Nd:au:=cT [13,20,27,44,8,10,700002,700003,700004] [2,999999] [] Tryz.f137
theorem Nf:bq Tryz.f137 Nd=some Nd:=by kernel_rfl
noncomputable def Ng:au:=cT [4,5,7] [999999] [] Tryz.f138
theorem Nh:bq Tryz.f138 Ng=some Ng:=by kernel_rfl
noncomputable def Nj:au:=cT [4,5,6,7,8,9,10,11,12,13,16,19,24,31,36,40,84,102,121,128] [999999] [] Tryz.f143
theorem Nk:bq Tryz.f143 Nj=some Nj:=by kernel_rfl
noncomputable def Nl:au:=cT [2,3,4,7,11,13] [999999] [] Tryz.f144
theorem Nn:bq Tryz.f144 Nl=some Nl:=by kernel_rfl
noncomputable def Np:au:=cT [4] [999999] [] Tryz.f150
theorem Nq:bq Tryz.f150 Np=some Np:=by kernel_rfl
noncomputable def Nr:au:=cT [2] [999999] [] Tryz.f157
theorem Ns:bq Tryz.f157 Nr=some Nr:=by kernel_rfl
noncomputable def Nt:au:=cT [4,5,6,7,8,9,10,11,33,68] [999999] [] Tryz.f158
theorem Nu:bq Tryz.f158 Nt=some Nt:=by kernel_rfl
noncomputable def Nw:au:=cT [2,3,4,5,6,7,8] [999999] [] Tryz.f164
theorem Nx:bq Tryz.f164 Nw=some Nw:=by kernel_rfl
def CB:au:=⟨[2,5],[999999],[],9,1,[.tmp 2],cR [aB 2 jC] (cR [af 3 0,aY 4 100 3,ae 5 4,bF 6 5 (cA 0),bF 7 5 (gG 188 [aT 6]),kY 8 5 7,ae 2 8] .ret)⟩
theorem NA:bq Tryz.f187 CB=some CB:=by kernel_rfl
def CC:au:=⟨[2,5],[999999],[],9,1,[.tmp 2],cR [aB 2 jC] (cR [af 3 0,jh 4 .geq (aT 3) (.a8 (.int IntKind.u8 48)),ae 5 4,bI 6 5 (cA 0),bI 7 5 (cn .leq (aT 6) (.a8 (.int IntKind.u8 57))),iB 8 5 7,ae 2 8] .ret)⟩
theorem NB:bq Tryz.f188 CC=some CC:=by kernel_rfl
def gQ(c:Int):Nat->List UInt8->Int
 | _,[]=>-1
 | k,b :: r=>cond (decide ((b.toNat:Int)=c)) k (gQ c (k+1) r)
def Ar(args:List AV)(_:ag):Option (AV × Option fz) :=
 match args with
 | [.str l]=>cond (Nat.ble l.length 281474976710656) (match Lib.atoiAll l with
  | .ok v=>some (.tuple [.int .i64 v,.bt],none)
  | .range=>some (.tuple [.int .i64 (Lib.atoiSat l),.iface 190 .any],none)
  | _=>some (.tuple [.int .i64 0,.iface 190 .any],none)) none
 | _=>none
def fL(args:List AV)(_:ag):Option (AV × Option fz) :=
 match args with
 | [.str l,.int .u8 c]=>cond (decide (0<=c)&&decide (c<256)) (some (.int .i64 (gQ c 0 l),none)) none
 | _=>none
def o9(e:List (List AV)):Bool:=e.all fun r=>match r with|[.int .u8 n]=>decide (0<=n)&&decide (n<256)|_=>false
def nc(args:List AV)(H:ag):Option (AV × Option fz) :=
 match args with
 | [.ref l 0]=>match H[l]? with
  | some (.box 92 [_,.slice e true])=>cond (Nat.ble e.length 4611686018427387904&&o9 e) ((bytesOf e).map fun b=>(.str b,none)) none
  | _=>none
 | _=>none
def gq(args:List AV)(H:ag):Option (AV × Option fz) :=
 match args with
 | [.ref l 0]=>match H[l]? with
  | some (.box 92 [.cx,x])=>some (.undef,some ⟨H.set l (.box 92 [.ref l 0,x]),l⟩)
  | some (.box 92 [.ref l' 0,_])=>cond (Nat.beq l l') (some (.undef,none)) none
  | _=>none
 | _=>none
def dj:Nat->Nat->List UInt8->List UInt8
 | 0,_,acc=>acc
 | f+1,n,acc=>cond (Nat.blt n 10) (UInt8.ofNat (48+n) :: acc) (dj f (n / 10) (UInt8.ofNat (48+n % 10) :: acc))
def N9(n:Int):List UInt8 :=
 match n with
 | .ofNat k=>dj (k+1) k []
 | .negSucc k=>45 :: dj (k+2) (k+1) []
def As(args:List AV)(_:ag):Option (AV × Option fz) :=
 match args with
 | [.int .i64 n]=>cond (decide (-9223372036854775808<=n)&&decide (n<=9223372036854775807)) (some (.str (N9 n),none)) none
 | _=>none
def Y1:List (List UInt8):=[[43],[45],[42],[47],[37],[60],[61,61],[97,110,100],[111,114],[110,111,116],[106,111,105,110],[108,101,110]]
def SG:List Int:=[5,5,6,6,6,3,3,2,1,7,4,7]
def fm(n:Int):List UInt8 × Int:=if n<0\/11<n then ([],0) else (Y1.getD n.toNat [],SG.getD n.toNat 0)
def At(args:List AV)(H:ag):Option (AV × Option fz) :=
 match args,H with
 | [],[]=>some (.bool true,none)
 | _,_=>none
def ov0:FuncId->Option (List AV->ag->Option (AV × Option fz))
 | 38=>some nc
 | 81=>some As
 | 68=>some gq
 | 66=>some fL
 | 97=>some fL
 | 122=>some Ar
 | _=>none
def ov:FuncId->Option (List AV->ag->Option (AV × Option fz))
 | 6=>some At
 | 38=>some nc
 | 81=>some As
 | 68=>some gq
 | 66=>some fL
 | 97=>some fL
 | 122=>some Ar
 | _=>none
noncomputable def fns:FuncId->Option au
 | 3=>some ir3
 | 4=>some ir4
 | 5=>some yC
 | 6=>some ir6
 | 7=>some ir7
 | 8=>some ir8
 | 9=>some ir9
 | 10=>some Gf
 | 11=>some W5
 | 12=>some Gg
 | 13=>some W6
 | 14=>some Ni
 | 15=>some No
 | 16=>some Nv
 | 17=>some Ny
 | 18=>some Nz
 | 19=>some NC
 | 20=>some ND
 | 21=>some NF
 | 22=>some oP
 | 23=>some cV
 | 24=>some W7
 | 25=>some W8
 | 26=>some NG
 | 27=>some W9
 | 28=>some Xa
 | 29=>some Xb
 | 30=>some NH
 | 31=>some Gi
 | 32=>some NI
 | 33=>some jf
 | 34=>some NJ
 | 35=>some NK
 | 36=>some NL
 | 37=>some NM
 | 39=>some NO
 | 40=>some Gj
 | 41=>some NP
 | 42=>some Xe
 | 43=>some Xf
 | 44=>some Xg
 | 45=>some Xh
 | 46=>some Xi
 | 47=>some Xj
 | 48=>some Xk
 | 49=>some Xl
 | 50=>some Xn
 | 51=>some Xo
 | 52=>some Xp
 | 53=>some Xq
 | 54=>some Xr
 | 55=>some Xs
 | 56=>some NQ
 | 57=>some Gk
 | 58=>some NR
 | 59=>some oQ
 | 60=>some NS
 | 61=>some NT
 | 62=>some NU
 | 63=>some NV
 | 64=>some NW
 | 65=>some NX
 | 67=>some NY
 | 69=>some Xu
 | 70=>some Xw
 | 71=>some Xx
 | 72=>some Xy
 | 73=>some Xz
 | 74=>some XA
 | 75=>some XB
 | 76=>some XC
 | 77=>some XD
 | 78=>some XE
 | 79=>some XF
 | 80=>some XH
 | 82=>some XI
 | 83=>some XJ
 | 84=>some XK
 | 85=>some XL
 | 86=>some XM
 | 87=>some XN
 | 88=>some NZ
 | 89=>some N0
 | 90=>some N1
 | 91=>some N2
 | 92=>some N3
 | 93=>some N4
 | 94=>some N5
 | 95=>some N6
 | 96=>some N7
 | 98=>some N8
 | 100=>some Cz
 | 101=>some Mg
 | 102=>some Mi
 | 103=>some Mk
 | 104=>some Mm
 | 105=>some Mo
 | 106=>some Mq
 | 107=>some Ms
 | 108=>some Mu
 | 110=>some Mw
 | 111=>some My
 | 112=>some MA
 | 113=>some MC
 | 114=>some ME
 | 115=>some MG
 | 116=>some MI
 | 117=>some MK
 | 118=>some MM
 | 119=>some MO
 | 120=>some CA
 | 123=>some MR
 | 124=>some MT
 | 126=>some MV
 | 127=>some MX
 | 128=>some MZ
 | 129=>some M1
 | 130=>some M4
 | 131=>some M6
 | 132=>some M8
 | 135=>some M'
 | 136=>some Nb
 | 137=>some Nd
 | 138=>some Ng
 | 143=>some Nj
 | 144=>some Nl
 | 150=>some Np
 | 157=>some Nr
 | 158=>some Nt
 | 164=>some Nw
 | 187=>some CB
 | 188=>some CC
 | _=>none
def y6:TypeId:=210
def dP:List (List UInt8):=[[109,111,100,117,108,101],[117,115,101],[114,101,99],[99,97,115,101],[102,117,110],[111,110],[116,101,115,116],[99,111,110,118],[116,114,117,101],[102,97,108,115,101],[110,111,116],[97,110,100],[111,114],[105,102],[116,104,101,110],[101,108,115,101],[108,101,116],[105,110],[109,97,116,99,104],[102,111,108,100],[111,118,101,114],[100,111],[108,101,110],[106,111,105,110],[76,105,115,116],[73,110,116],[66,111,111,108]]
def jj:List (List UInt8):=[[61,61],[45,62],[40],[41],[123],[125],[91],[93],[44],[58],[46],[61],[43],[45],[42],[47],[37],[60]]
def qy:List (List UInt8):=[[114,101,99],[99,97,115,101],[102,117,110],[111,110],[116,101,115,116],[99,111,110,118]]
def aeQ:List (List AV):=[[.str [37],.int .i64 4,.int .i64 6],[.str [42],.int .i64 2,.int .i64 6],[.str [43],.int .i64 0,.int .i64 5],[.str [45],.int .i64 1,.int .i64 5],[.str [47],.int .i64 3,.int .i64 6],[.str [60],.int .i64 5,.int .i64 3],[.str [61,61],.int .i64 6,.int .i64 3],[.str [97,110,100],.int .i64 7,.int .i64 2],[.str [106,111,105,110],.int .i64 10,.int .i64 4],[.str [111,114],.int .i64 8,.int .i64 1]]
def H7:Nat->List AV
 | 0=>[.func (.func 100) [] [],.func (.func 187) [] [],.func (.func 188) [] [],.func (.func 188) [] []]
 | 1=>jj.map .str
 | 2=>[.slice (qy.map fun s=>[.str s]) false]
 | 3=>dP.map .str
 | 4=>[.mc 1 false true aeQ]
 | 6=>Lib.pow10Tab.map (.int .u64)
 | 7=>[.iface y6 .any]
 | 8=>[.iface y6 .any]
 | _=>[]
noncomputable def A0:AP:={ fns,ov:=ov0,aP:=H7 }
noncomputable def A:AP:={ fns,ov,aP:=H7 }
end Go.Proofs.YtocbgffdpfiidaaGreatDoor
namespace Go.Proofs
open Go.Shelf
def YtocbgffdpfiidaaGreatDoor.CI:Go.Shelf.Ren:=⟨fun|172=>122|244=>133|245=>134|247=>145|279=>146|280=>147|281=>148|282=>149|287=>159|316=>160|171=>81|205=>161|321=>165|322=>166|243=>109|246=>125|283=>139|284=>140|285=>141|286=>142|129=>152|317=>151|318=>153|319=>154|320=>155|337=>162|338=>163|n=>n,fun|9=>9|3=>3|75=>94|76=>95|4=>4|5=>5|167=>187|37=>90|0=>0|85=>188|2=>2|168=>190|53=>181|175=>200|46=>198|210=>204|127=>131|145=>212|143=>210|21=>21|171=>180|173=>184|212=>194|51=>195|20=>20|213=>196|232=>213|233=>214|80=>56|n=>n,fun|15=>7|16=>8|17=>6|18=>9|19=>10|n=>n⟩
theorem YtocbgffdpfiidaaGreatDoor.Ai:Go.Proofs.LaysC.n172 Tryz.prog YtocbgffdpfiidaaGreatDoor.CI:={
 mixed:=by kernel_rfl
 f129:=tk Tryz.func152 (by kernel_rfl)
 f171:=tk Tryz.func81 (by kernel_rfl)
 f172:=tk Tryz.func122 (by kernel_rfl)
 f205:=tk Tryz.func161 (by kernel_rfl)
 f243:=tk Tryz.func109 (by kernel_rfl)
 f244:=tk Tryz.func133 (by kernel_rfl)
 f245:=tk Tryz.func134 (by kernel_rfl)
 f246:=tk Tryz.func125 (by kernel_rfl)
 f247:=tk Tryz.func145 (by kernel_rfl)
 f279:=tk Tryz.func146 (by kernel_rfl)
 f280:=tk Tryz.func147 (by kernel_rfl)
 f281:=tk Tryz.func148 (by kernel_rfl)
 f282:=tk Tryz.func149 (by kernel_rfl)
 f283:=tk Tryz.func139 (by kernel_rfl)
 f284:=tk Tryz.func140 (by kernel_rfl)
 f285:=tk Tryz.func141 (by kernel_rfl)
 f286:=tk Tryz.func142 (by kernel_rfl)
 f287:=tk Tryz.func159 (by kernel_rfl)
 f316:=tk Tryz.func160 (by kernel_rfl)
 f317:=tk Tryz.func151 (by kernel_rfl)
 f318:=tk Tryz.func153 (by kernel_rfl)
 f319:=tk Tryz.func154 (by kernel_rfl)
 f320:=tk Tryz.func155 (by kernel_rfl)
 f321:=tk Tryz.func165 (by kernel_rfl)
 f322:=tk Tryz.func166 (by kernel_rfl)
 f337:=tk Tryz.func162 (by kernel_rfl)
 f338:=tk Tryz.func163 (by kernel_rfl)
 t0:=Tryz.underlying0
 a0:=Tryz.isAgg0
 z0:=Tryz.sizeOf0
 v0:=Tryz.zeroValue0
 t2:=Tryz.underlying2
 a2:=Tryz.isAgg2
 z2:=Tryz.sizeOf2
 v2:=Tryz.zeroValue2
 t3:=Tryz.underlying3
 a3:=Tryz.isAgg3
 z3:=Tryz.sizeOf3
 v3:=Tryz.zeroValue3
 t4:=Tryz.underlying4
 a4:=Tryz.isAgg4
 z4:=Tryz.sizeOf4
 v4:=Tryz.zeroValue4
 t5:=Tryz.underlying5
 a5:=Tryz.isAgg5
 z5:=Tryz.sizeOf5
 v5:=Tryz.zeroValue5
 t9:=Tryz.underlying9
 a9:=Tryz.isAgg9
 z9:=Tryz.sizeOf9
 v9:=Tryz.zeroValue9
 t20:=Tryz.underlying20
 a20:=Tryz.isAgg20
 z20:=Tryz.sizeOf20
 v20:=Tryz.zeroValue20
 t21:=Tryz.underlying21
 a21:=Tryz.isAgg21
 z21:=Tryz.sizeOf21
 v21:=Tryz.zeroValue21
 t37:=Tryz.underlying90
 a37:=Tryz.isAgg90
 z37:=Tryz.sizeOf90
 v37:=Tryz.zeroValue90
 t46:=Tryz.underlying198
 a46:=Tryz.isAgg198
 z46:=Tryz.sizeOf198
 v46:=Tryz.zeroValue198
 t51:=Tryz.underlying195
 a51:=Tryz.isAgg195
 z51:=Tryz.sizeOf195
 v51:=Tryz.zeroValue195
 t53:=Tryz.underlying181
 a53:=Tryz.isAgg181
 z53:=Tryz.sizeOf181
 v53:=Tryz.zeroValue181
 t75:=Tryz.underlying94
 a75:=Tryz.isAgg94
 z75:=Tryz.sizeOf94
 v75:=Tryz.zeroValue94
 t76:=Tryz.underlying95
 a76:=Tryz.isAgg95
 z76:=Tryz.sizeOf95
 v76:=Tryz.zeroValue95
 t85:=Tryz.underlying188
 a85:=Tryz.isAgg188
 z85:=Tryz.sizeOf188
 v85:=Tryz.zeroValue188
 t127:=Tryz.underlying131
 a127:=Tryz.isAgg131
 z127:=Tryz.sizeOf131
 v127:=Tryz.zeroValue131
 t143:=Tryz.underlying210
 a143:=Tryz.isAgg210
 z143:=Tryz.sizeOf210
 v143:=Tryz.zeroValue210
 t145:=Tryz.underlying212
 a145:=Tryz.isAgg212
 z145:=Tryz.sizeOf212
 v145:=Tryz.zeroValue212
 t167:=Tryz.underlying187
 a167:=Tryz.isAgg187
 z167:=Tryz.sizeOf187
 v167:=Tryz.zeroValue187
 t168:=Tryz.underlying190
 a168:=Tryz.isAgg190
 z168:=Tryz.sizeOf190
 v168:=Tryz.zeroValue190
 t171:=Tryz.underlying180
 a171:=Tryz.isAgg180
 z171:=Tryz.sizeOf180
 v171:=Tryz.zeroValue180
 t173:=Tryz.underlying184
 a173:=Tryz.isAgg184
 z173:=Tryz.sizeOf184
 v173:=Tryz.zeroValue184
 t175:=Tryz.underlying200
 a175:=Tryz.isAgg200
 z175:=Tryz.sizeOf200
 v175:=Tryz.zeroValue200
 t210:=Tryz.underlying204
 a210:=Tryz.isAgg204
 z210:=Tryz.sizeOf204
 v210:=Tryz.zeroValue204
 t212:=Tryz.underlying194
 a212:=Tryz.isAgg194
 z212:=Tryz.sizeOf194
 v212:=Tryz.zeroValue194
 t213:=Tryz.underlying196
 a213:=Tryz.isAgg196
 z213:=Tryz.sizeOf196
 t232:=Tryz.underlying213
 a232:=Tryz.isAgg213
 z232:=Tryz.sizeOf213
 v232:=Tryz.zeroValue213
 t233:=Tryz.underlying214
 a233:=Tryz.isAgg214
 z233:=Tryz.sizeOf214
 v233:=Tryz.zeroValue214
 g15:=by kernel_rfl
 g16:=by kernel_rfl
 g17:=by kernel_rfl
 g18:=by kernel_rfl
 g19:=by kernel_rfl
 t80:=Tryz.underlying56
 a80:=Tryz.isAgg56
 z80:=Tryz.sizeOf56
 v80:=Tryz.zeroValue56
 i0:=by kernel_rfl
 i2:=by kernel_rfl
 i3:=by kernel_rfl
 i4:=by kernel_rfl
 i5:=by kernel_rfl
 i9:=by kernel_rfl
 i20:=by kernel_rfl
 i21:=by kernel_rfl
 i37:=by kernel_rfl
 i46:=by kernel_rfl
 i51:=by kernel_rfl
 i53:=by kernel_rfl
 i75:=by kernel_rfl
 i76:=by kernel_rfl
 i80:=by kernel_rfl
 i85:=by kernel_rfl
 i127:=by kernel_rfl
 i143:=by kernel_rfl
 i145:=by kernel_rfl
 i167:=by kernel_rfl
 i168:=by kernel_rfl
 i171:=by kernel_rfl
 i173:=by kernel_rfl
 i175:=by kernel_rfl
 i210:=by kernel_rfl
 i212:=by kernel_rfl
 i232:=by kernel_rfl
 i233:=by kernel_rfl
 m15:=by kernel_rfl
 m16:=by kernel_rfl
 m17:=by kernel_rfl
 m18:=by kernel_rfl
 m19:=by kernel_rfl
 c0:=by kernel_rfl
 c2:=by kernel_rfl
 c3:=by kernel_rfl
 c4:=by kernel_rfl
 c5:=by kernel_rfl
 c9:=by kernel_rfl
 c20:=by kernel_rfl
 c21:=by kernel_rfl
 c37:=by kernel_rfl
 c46:=by kernel_rfl
 c51:=by kernel_rfl
 c53:=by kernel_rfl
 c75:=by kernel_rfl
 c76:=by kernel_rfl
 c80:=by kernel_rfl
 c85:=by kernel_rfl
 c127:=by kernel_rfl
 c143:=by kernel_rfl
 c145:=by kernel_rfl
 c167:=by kernel_rfl
 c168:=by kernel_rfl
 c171:=by kernel_rfl
 c173:=by kernel_rfl
 c175:=by kernel_rfl
 c210:=by kernel_rfl
 c212:=by kernel_rfl
 c213:=by kernel_rfl
 c232:=by kernel_rfl
 c233:=by kernel_rfl }
def YtocbgffdpfiidaaGreatDoor.CJ:Go.Shelf.Ren:=⟨fun|171=>81|243=>109|246=>125|283=>139|284=>140|285=>141|286=>142|129=>152|317=>151|318=>153|319=>154|320=>155|337=>162|338=>163|n=>n,fun|3=>3|9=>9|2=>2|4=>4|171=>180|0=>0|53=>181|37=>90|5=>5|173=>184|212=>194|51=>195|20=>20|213=>196|46=>198|232=>213|233=>214|n=>n,fun|17=>6|18=>9|19=>10|n=>n⟩
theorem YtocbgffdpfiidaaGreatDoor.SC:Go.Proofs.LaysM.n171 Tryz.prog YtocbgffdpfiidaaGreatDoor.CJ:={
 mixed:=by kernel_rfl
 f129:=tk Tryz.func152 (by kernel_rfl)
 f171:=tk Tryz.func81 (by kernel_rfl)
 f243:=tk Tryz.func109 (by kernel_rfl)
 f246:=tk Tryz.func125 (by kernel_rfl)
 f283:=tk Tryz.func139 (by kernel_rfl)
 f284:=tk Tryz.func140 (by kernel_rfl)
 f285:=tk Tryz.func141 (by kernel_rfl)
 f286:=tk Tryz.func142 (by kernel_rfl)
 f317:=tk Tryz.func151 (by kernel_rfl)
 f318:=tk Tryz.func153 (by kernel_rfl)
 f319:=tk Tryz.func154 (by kernel_rfl)
 f320:=tk Tryz.func155 (by kernel_rfl)
 f337:=tk Tryz.func162 (by kernel_rfl)
 f338:=tk Tryz.func163 (by kernel_rfl)
 t0:=Tryz.underlying0
 a0:=Tryz.isAgg0
 z0:=Tryz.sizeOf0
 v0:=Tryz.zeroValue0
 t2:=Tryz.underlying2
 a2:=Tryz.isAgg2
 z2:=Tryz.sizeOf2
 v2:=Tryz.zeroValue2
 t3:=Tryz.underlying3
 a3:=Tryz.isAgg3
 z3:=Tryz.sizeOf3
 v3:=Tryz.zeroValue3
 t4:=Tryz.underlying4
 a4:=Tryz.isAgg4
 z4:=Tryz.sizeOf4
 v4:=Tryz.zeroValue4
 t5:=Tryz.underlying5
 a5:=Tryz.isAgg5
 z5:=Tryz.sizeOf5
 v5:=Tryz.zeroValue5
 t9:=Tryz.underlying9
 a9:=Tryz.isAgg9
 z9:=Tryz.sizeOf9
 v9:=Tryz.zeroValue9
 t20:=Tryz.underlying20
 a20:=Tryz.isAgg20
 z20:=Tryz.sizeOf20
 v20:=Tryz.zeroValue20
 t37:=Tryz.underlying90
 a37:=Tryz.isAgg90
 z37:=Tryz.sizeOf90
 v37:=Tryz.zeroValue90
 t46:=Tryz.underlying198
 a46:=Tryz.isAgg198
 z46:=Tryz.sizeOf198
 v46:=Tryz.zeroValue198
 t51:=Tryz.underlying195
 a51:=Tryz.isAgg195
 z51:=Tryz.sizeOf195
 v51:=Tryz.zeroValue195
 t53:=Tryz.underlying181
 a53:=Tryz.isAgg181
 z53:=Tryz.sizeOf181
 v53:=Tryz.zeroValue181
 t171:=Tryz.underlying180
 a171:=Tryz.isAgg180
 z171:=Tryz.sizeOf180
 v171:=Tryz.zeroValue180
 t173:=Tryz.underlying184
 a173:=Tryz.isAgg184
 z173:=Tryz.sizeOf184
 v173:=Tryz.zeroValue184
 t212:=Tryz.underlying194
 a212:=Tryz.isAgg194
 z212:=Tryz.sizeOf194
 v212:=Tryz.zeroValue194
 t213:=Tryz.underlying196
 a213:=Tryz.isAgg196
 z213:=Tryz.sizeOf196
 t232:=Tryz.underlying213
 a232:=Tryz.isAgg213
 z232:=Tryz.sizeOf213
 v232:=Tryz.zeroValue213
 t233:=Tryz.underlying214
 a233:=Tryz.isAgg214
 z233:=Tryz.sizeOf214
 v233:=Tryz.zeroValue214
 g17:=by kernel_rfl
 g18:=by kernel_rfl
 g19:=by kernel_rfl
 i0:=by kernel_rfl
 i2:=by kernel_rfl
 i3:=by kernel_rfl
 i4:=by kernel_rfl
 i5:=by kernel_rfl
 i9:=by kernel_rfl
 i20:=by kernel_rfl
 i37:=by kernel_rfl
 i46:=by kernel_rfl
 i51:=by kernel_rfl
 i53:=by kernel_rfl
 i171:=by kernel_rfl
 i173:=by kernel_rfl
 i212:=by kernel_rfl
 i232:=by kernel_rfl
 i233:=by kernel_rfl
 m17:=by kernel_rfl
 m18:=by kernel_rfl
 m19:=by kernel_rfl }
def YtocbgffdpfiidaaGreatDoor.Aj:Go.Shelf.Ren:=⟨fun|137=>66|217=>97|266=>121|n=>n,fun|9=>9|5=>5|3=>3|n=>n,fun|n=>n⟩
theorem YtocbgffdpfiidaaGreatDoor.Oh:Go.Proofs.Lays.n137 Tryz.prog YtocbgffdpfiidaaGreatDoor.Aj:={
 mixed:=by kernel_rfl
 f137:=tk Tryz.func66 (by kernel_rfl)
 f217:=tk Tryz.func97 (by kernel_rfl)
 f266:=tk Tryz.func121 (by kernel_rfl)
 t3:=Tryz.underlying3
 a3:=Tryz.isAgg3
 z3:=Tryz.sizeOf3
 v3:=Tryz.zeroValue3
 t5:=Tryz.underlying5
 a5:=Tryz.isAgg5
 z5:=Tryz.sizeOf5
 v5:=Tryz.zeroValue5
 t9:=Tryz.underlying9
 a9:=Tryz.isAgg9
 z9:=Tryz.sizeOf9
 v9:=Tryz.zeroValue9 }
def YtocbgffdpfiidaaGreatDoor.xB:Go.Shelf.Ren:=⟨fun|217=>97|266=>121|n=>n,fun|9=>9|5=>5|3=>3|n=>n,fun|n=>n⟩
theorem YtocbgffdpfiidaaGreatDoor.Ju:Go.Proofs.Lays.n217 Tryz.prog YtocbgffdpfiidaaGreatDoor.xB:={
 mixed:=by kernel_rfl
 f217:=tk Tryz.func97 (by kernel_rfl)
 f266:=tk Tryz.func121 (by kernel_rfl)
 t3:=Tryz.underlying3
 a3:=Tryz.isAgg3
 z3:=Tryz.sizeOf3
 v3:=Tryz.zeroValue3
 t5:=Tryz.underlying5
 a5:=Tryz.isAgg5
 z5:=Tryz.sizeOf5
 v5:=Tryz.zeroValue5
 t9:=Tryz.underlying9
 a9:=Tryz.isAgg9
 z9:=Tryz.sizeOf9
 v9:=Tryz.zeroValue9 }
end Go.Proofs
