/-
  A part of the proof of ScopeNames: AbsIrVa, AbsMono, AbsWp, AbsNon.
-/
import Derived.Test.YthbncinhhdogpaaGreatDoorProg
import Derived.KernelRfl
import Derived.Test.YthbncinhhdogpaaGreatDoorP07
set_option linter.unusedSimpArgs false
set_option linter.unusedVariables false
set_option linter.defProp false
set_option maxRecDepth 100000
namespace Go.Proofs.YthbncinhhdogpaaGreatDoor
open Go Go.Abs Go.Proofs
abbrev aT(n:Nat):an:=.tmp n
abbrev aI(n:Int):an:=.cg (.int .i64 n)
abbrev aS(s:List UInt8):an:=.cg (.str s)
abbrev Bp:an:=.cg (.bool true)
abbrev qB:an:=.cg (.bool false)
abbrev oO(d:Nat)(x:fc):aj:=⟨some d,none,x⟩
abbrev oN(x:fc):aj:=⟨none,none,x⟩
abbrev dD(d g:Nat)(x:fc):aj:=⟨some d,some (g,true),x⟩
abbrev gQ(d g:Nat)(x:fc):aj:=⟨some d,some (g,false),x⟩
abbrev yI(g:Nat)(x:fc):aj:=⟨none,some (g,true),x⟩
abbrev mJ(g:Nat)(x:fc):aj:=⟨none,some (g,false),x⟩
abbrev dI(i:Nat):fc:=.mov false false (.tmp i)
abbrev Gz(i:Nat):fc:=.mov true false (.tmp i)
abbrev jM(k i:Nat):fc:=.load false false k (.tmp i)
abbrev iK(k i:Nat):fc:=.load false true k (.tmp i)
abbrev r7(k i:Nat):fc:=.fieldAddr k (.tmp i)
abbrev iZ(b:BinOp)(x y:an):fc:=.bin b .other x y
abbrev A7(f:Nat)(l:List an):fc:=.call (.fn f) l
abbrev aka(i:Nat):fc:=.len .sl (.tmp i)
abbrev nZ(i:Nat):fc:=.jR .heap (.tmp i)
abbrev nN(k:Nat)(z:List (List AV))(l:List (Nat × an)):fc:=.mkslice false k z l
abbrev dN(d f i:Nat):aj:=⟨some d,none,.call (.fn f) [.tmp i]⟩
abbrev dv(d f i j:Nat):aj:=⟨some d,none,.call (.fn f) [.tmp i,.tmp j]⟩
abbrev fq(d f i j k:Nat):aj:=⟨some d,none,.call (.fn f) [.tmp i,.tmp j,.tmp k]⟩
abbrev nC(d f i j k l:Nat):aj:=⟨some d,none,.call (.fn f) [.tmp i,.tmp j,.tmp k,.tmp l]⟩
abbrev bC(d:Nat)(b:BinOp)(i j:Nat):aj:=⟨some d,none,.bin b .other (.tmp i) (.tmp j)⟩
abbrev aM(d:Nat)(b:BinOp)(i:Nat)(n:Int):aj:=⟨some d,none,.bin b .other (.tmp i) (.cg (.int .i64 n))⟩
abbrev da(d k i j:Nat):aj:=⟨some d,none,.ixSl k (.tmp i) (.tmp j)⟩
abbrev cU(d:Nat)(k:ly)(i:Nat):aj:=⟨some d,none,.len k (.tmp i)⟩
abbrev St(d i j:Nat):aj:=⟨some d,none,.pick (.tmp i) (.cg (.bool true)) (.tmp j)⟩
abbrev kS(d i j:Nat):aj:=⟨some d,none,.pick (.tmp i) (.tmp j) (.cg (.bool false))⟩
abbrev lT(d k t i j:Nat):aj:=⟨some d,none,.append false false k t (.tmp i) (.tmp j)⟩
abbrev af(d i:Nat):aj:=⟨some d,none,.mov false false (.tmp i)⟩
abbrev ai(d i:Nat):aj:=⟨some d,none,.mov true false (.tmp i)⟩
abbrev aQ(d:Nat)(x:an):aj:=⟨some d,none,.mov true false x⟩
abbrev dw(d:Nat)(x:an):aj:=⟨some d,none,.mov false false x⟩
abbrev aP(d k i:Nat):aj:=⟨some d,none,.load false false k (.tmp i)⟩
abbrev az(d k i:Nat):aj:=⟨some d,none,.load false true k (.tmp i)⟩
abbrev cd(d k i:Nat):aj:=⟨some d,none,.fieldAddr k (.tmp i)⟩
abbrev fb(d f:Nat)(l:List an):aj:=⟨some d,none,.call (.fn f) l⟩
abbrev sv(d:Nat)(b:BinOp)(x y:an):aj:=⟨some d,none,.bin b .other x y⟩
abbrev oIx(d k:Nat)(x y:an):aj:=⟨some d,none,.ixSl k x y⟩
abbrev anW(d:Nat)(k:ly)(x:an):aj:=⟨some d,none,.len k x⟩
abbrev alv(d:Nat)(c x y:an):aj:=⟨some d,none,.pick c x y⟩
abbrev anV(d k t:Nat)(x y:an):aj:=⟨some d,none,.append false false k t x y⟩
abbrev jo(d i:Nat):aj:=⟨some d,none,.nilCheck (.tmp i)⟩
abbrev ia(d i k:Nat):aj:=⟨some d,none,.extract (.tmp i) k⟩
abbrev fK(k i j:Nat):aj:=⟨none,none,.store k (.tmp i) (.tmp j)⟩
abbrev dF(i:Nat):aj:=⟨none,none,.jR .heap (.tmp i)⟩
abbrev kb(k i:Nat):aj:=⟨none,none,.jR (.frame k) (.tmp i)⟩
abbrev cR(l:List aj)(c:bJ):bJ:=.seq (.region false l) c
abbrev cY(i:Nat)(a b:bJ):bJ:=.cond (.tmp i) a b
noncomputable def bq(f:Func)(i:ax):Option ax:=kU Tryz.prog i.bF i.locals i.muts f
noncomputable def cD(t l m:List Nat)(f:Func):ax:=(kU Tryz.prog t l m f).getD ⟨[],[],[],0,0,[],.skip⟩
def ir3:ax:=⟨[8,10,11,12,13,14,15,16,34,52,43,700009],[9,999999],[],138,4,[.tmp 8],cR [aQ 8 qB] (cR [af 17 0,dN 18 6 17,af 19 1,af 20 2,aM 21 .rem 20 2,fq 22 5 18 19 21,oO 9 (.allocL [.ae,.ae]),fK 2 9 22] (cR [af 23 3,af 24 3,sv 25 .add (aS [99,111,114,101,46]) (aT 24),oO 26 (nN 1 [[.str []],[.str []],[.str []],[.str []],[.str []],[.str []],[.str []],[.str []]] [(0,.tmp 23),(1,.tmp 25),(2,.cg (.str [99,111,114,101,46,102])),(3,.cg (.str [109,105,108,108,46,102])),(4,.cg (.str [46,102])),(5,.cg (.str [102,46])),(6,.cg (.str [97,46,98,46,99])),(7,.cg (.str []))]),ai 10 26] (.seq (cR [aQ 11 (aI 0)] (.block 0 (.loop (.seq (cR [af 27 11,cd 28 1 9,aP 29 1 28,cU 30 .sl 29,bC 31 .lss 27 30] (cY 31 .skip (.exit 0))) (.seq (.block 1 (.region false [ai 34 10,cd 35 1 9,aP 36 1 35,af 37 11,da 38 31 36 37,cd 39 7 38,aP 40 1 39,oO 41 (nN 1 [[.str []]] [(0,.tmp 40)]),lT 42 1 16 34 41,ai 10 42])) (.region false [af 32 11,aM 33 .add 32 1,ai 11 33])))))) (cR [oO 43 (.build [.int .i64 0,.int .i64 0,.int .i64 0] [(0,1,.cg (.int .i64 7)),(1,1,.cg (.int .i64 9))]),oO 44 (nN 3 [[.int .i64 0,.int .i64 0,.int .i64 0]] [(0,.tmp 43)]),ai 12 44] (.seq (cR [aQ 13 (aI 0)] (.block 2 (.loop (.seq (cR [af 45 13,cd 46 0 9,aP 47 1 46,cU 48 .sl 47,bC 49 .lss 45 48] (cY 49 .skip (.exit 2))) (.seq (.block 3 (.region false [ai 52 12,cd 53 0 9,aP 54 1 53,af 55 13,da 56 6 54 55,cd 57 0 56,az 58 3 57,oO 59 (nN 3 [[.int .i64 0,.int .i64 0,.int .i64 0]] [(0,.tmp 58)]),lT 60 3 24 52 59,ai 12 60])) (.region false [af 50 13,aM 51 .add 50 1,ai 13 51])))))) (.seq (cR [aQ 14 (aI 0)] (.block 4 (.loop (.seq (cR [af 61 14,af 62 12,cU 63 .sl 62,bC 64 .lss 61 63] (cY 64 .skip (.exit 4))) (.seq (.block 5 (.seq (cR [aQ 15 (aI 0)] (.block 6 (.loop (.seq (cR [af 67 15,af 68 10,cU 69 .sl 68,bC 70 .lss 67 69] (cY 70 .skip (.exit 6))) (.seq (.block 7 (.seq (.region true [az 73 2 9,af 74 12,af 75 14,da 76 3 74 75,az 77 3 76,af 78 10,af 79 15,da 80 1 78 79,aP 81 1 80,fq 82 8 73 77 81,az 83 2 9,af 84 12,af 85 14,da 86 3 84 85,az 87 3 86,af 88 10,af 89 15,da 90 1 88 89,aP 91 1 90,fq 92 9 83 87 91,dv 93 7 82 92,oO 94 (.un .not (aT 93))]) (cY 94 (cR [aQ 8 qB] .ret) .skip))) (.region false [af 71 15,aM 72 .add 71 1,ai 15 72])))))) (.seq (cR [aQ 16 (aI 0)] (.block 8 (.loop (.seq (cR [af 95 16,cd 96 1 9,aP 97 1 96,cU 98 .sl 97,bC 99 .lss 95 98] (cY 99 .skip (.exit 8))) (.seq (.block 9 (.seq (.region true [az 102 2 9,af 103 12,af 104 14,da 105 3 103 104,az 106 3 105,cd 107 1 9,aP 108 1 107,af 109 16,da 110 31 108 109,cd 111 0 110,az 112 3 111,fq 113 10 102 106 112,az 114 2 9,af 115 12,af 116 14,da 117 3 115 116,az 118 3 117,cd 119 1 9,aP 120 1 119,af 121 16,da 122 31 120 121,cd 123 0 122,az 124 3 123,fq 125 11 114 118 124,bC 126 .neq 113 125]) (cY 126 (cR [aQ 8 qB] .ret) .skip))) (.region false [af 100 16,aM 101 .add 100 1,ai 16 101])))))) (.seq (.region true [az 127 2 9,af 128 12,af 129 14,da 130 3 128 129,az 131 3 130,af 132 12,oIx 133 3 (aT 132) (aI 0),az 134 3 133,fq 135 10 127 131 134,sv 136 .neq (aT 135) (aS [])]) (cY 136 (cR [aQ 8 qB] .ret) .skip))))) (.region false [af 65 14,aM 66 .add 65 1,ai 14 66])))))) (cR [fb 137 12 [],ai 8 137] .ret)))))))⟩
theorem RJ:bq Tryz.f3 ir3=some ir3:=by kernel_rfl
def ir4:ax:=⟨[6,8,9,11,12,13,14,75,94,98,109,122,125,700007,700010],[7,10,999999],[],131,3,[.tmp 6],cR [aQ 6 qB] (cR [af 15 0,dN 16 6 15,af 17 1,af 18 2,aM 19 .rem 18 2,fq 20 5 16 17 19,oO 7 (.allocL [.ae,.ae]),fK 2 7 20] (.seq (cR [aQ 8 (aI 0)] (.block 0 (.loop (.seq (cR [af 21 8,cd 22 0 7,aP 23 1 22,cU 24 .sl 23,bC 25 .lss 21 24] (cY 25 .skip (.exit 0))) (.seq (.block 1 (cR [aQ 9 (aI 0)] (.block 2 (.loop (.seq (cR [af 28 9,cd 29 1 7,aP 30 1 29,cU 31 .sl 30,bC 32 .lss 28 31] (cY 32 .skip (.exit 2))) (.seq (.block 3 (cR [cd 35 1 7,aP 36 1 35,af 37 9,da 38 31 36 37,az 39 31 38,oO 10 (.allocL [.int .i64 0,.int .i64 0,.int .i64 0,.int .i64 0,.int .i64 0,.int .i64 0,.int .i64 0,.str [],.ae,.int .i64 0,.int .i64 0,.int .i64 0,.int .i64 0,.ae,.int .i64 0,.int .i64 0,.int .i64 0,.int .i64 0,.int .i64 0,.int .i64 0,.int .i64 0,.int .i64 0,.int .i64 0,.int .i64 0,.int .i64 0,.int .i64 0,.ae,.ae,.ae,.int .i64 0,.ae]),fK 31 10 39] (cR [kb 7 7,az 40 2 7,kb 7 7,cd 41 0 7,kb 7 41,aP 42 1 41,af 43 8,dF 42,da 44 6 42 43,dF 44,cd 45 0 44,dF 45,az 46 3 45,kb 10 10,cd 47 0 10,kb 10 47,az 48 3 47,fq 49 10 40 46 48,ai 11 49] (.seq (cR [af 50 11,sv 51 .neq (aT 50) (aS [])] (cY 51 (.seq (.seq (.region true [az 52 2 7,cd 53 0 7,aP 54 1 53,af 55 8,da 56 6 54 55,cd 57 0 56,az 58 3 57,af 59 11,fq 60 8 52 58 59,cd 61 0 10,az 62 3 61,oO 63 (nN 3 [[.int .i64 0,.int .i64 0,.int .i64 0]] [(0,.tmp 62)]),dv 64 7 60 63,oO 65 (.un .not (aT 64))]) (cY 65 (cR [aQ 6 qB] .ret) .skip)) (.exit 3)) .skip)) (cR [kb 10 10,cd 66 4 10,kb 10 66,az 67 3 66,kb 7 7,cd 68 0 7,kb 7 68,aP 69 1 68,af 70 8,dF 69,da 71 6 69 70,dF 71,cd 72 0 71,dF 72,az 73 3 72,oO 74 (.bin .eql (.flat [.i,.i,.i]) (aT 67) (aT 73)),ai 75 74,mJ 75 (.jR (.frame 7) (aT 7)),gQ 76 75 (r7 0 7),mJ 75 (.jR (.frame 7) (aT 76)),gQ 77 75 (jM 1 76),gQ 78 75 (dI 8),mJ 75 (nZ 77),gQ 79 75 (.ixSl 6 (aT 77) (aT 78)),mJ 75 (nZ 79),gQ 80 75 (r7 4 79),mJ 75 (nZ 80),gQ 81 75 (jM 1 80),mJ 75 (.jR (.frame 10) (aT 10)),gQ 82 75 (r7 4 10),mJ 75 (.jR (.frame 10) (aT 82)),gQ 83 75 (iK 3 82),gQ 84 75 (A7 13 [aT 81,aT 83]),St 85 75 84,ai 12 85] (cR [aQ 13 Bp] (.seq (cR [aQ 14 (aI 0)] (.block 4 (.loop (.seq (cR [af 86 14,cd 87 1 7,aP 88 1 87,cU 89 .sl 88,bC 90 .lss 86 89] (cY 90 .skip (.exit 4))) (.seq (.block 5 (.region false [af 93 13,ai 94 93,dD 95 94 (dI 14),dD 96 94 (dI 9),dD 97 94 (iZ .eql (aT 95) (aT 96)),dD 98 94 (Gz 97),mJ 98 (.jR (.frame 7) (aT 7)),gQ 99 98 (r7 1 7),mJ 98 (.jR (.frame 7) (aT 99)),gQ 100 98 (jM 1 99),gQ 101 98 (dI 14),mJ 98 (nZ 100),gQ 102 98 (.ixSl 31 (aT 100) (aT 101)),mJ 98 (nZ 102),gQ 103 98 (r7 7 102),mJ 98 (nZ 103),gQ 104 98 (jM 1 103),mJ 98 (.jR (.frame 10) (aT 10)),gQ 105 98 (r7 7 10),mJ 98 (.jR (.frame 10) (aT 105)),gQ 106 98 (jM 1 105),gQ 107 98 (iZ .neq (aT 104) (aT 106)),dD 108 94 (.pick (aT 98) Bp (aT 107)),dD 109 94 (Gz 108),mJ 109 (.jR (.frame 7) (aT 7)),gQ 110 109 (r7 1 7),mJ 109 (.jR (.frame 7) (aT 110)),gQ 111 109 (jM 1 110),gQ 112 109 (dI 14),mJ 109 (nZ 111),gQ 113 109 (.ixSl 31 (aT 111) (aT 112)),mJ 109 (nZ 113),gQ 114 109 (r7 4 113),mJ 109 (nZ 114),gQ 115 109 (iK 3 114),mJ 109 (.jR (.frame 10) (aT 10)),gQ 116 109 (r7 4 10),mJ 109 (.jR (.frame 10) (aT 116)),gQ 117 109 (iK 3 116),gQ 118 109 (.bin .neq (.flat [.i,.i,.i]) (aT 115) (aT 117)),dD 119 94 (.pick (aT 109) Bp (aT 118)),kS 120 94 119,ai 13 120])) (.region false [af 91 14,aM 92 .add 91 1,ai 14 92])))))) (cR [af 121 12,ai 122 121,dD 123 122 (dI 13),kS 124 122 123,ai 125 124,dD 126 125 (r7 7 10),dD 127 125 (jM 1 126),dD 128 125 (iZ .neq (aT 127) (aS [])),kS 129 125 128] (cY 129 (cR [aQ 6 qB] .ret) .skip))))))))) (.region false [af 33 9,aM 34 .add 33 1,ai 9 34]))))))) (.region false [af 26 8,aM 27 .add 26 1,ai 8 27])))))) (cR [fb 130 12 [],ai 6 130] .ret)))⟩
theorem RQ:bq Tryz.f4 ir4=some ir4:=by kernel_rfl
def TB:ax:=⟨[7,9,10,11,12,47,57,91,95,106,120,700006,700008],[3,6,8,15,50,900135],[],137,3,[.cell 6 true 2],cR [oO 3 (.boxL (aT 0)),oO 6 (.allocL [.ae,.ae])] (cR [oO 12 (nN 31 [] []),cd 13 1 3,aP 14 1 13,oO 15 (.appendO 31 352 (aT 12) (aT 14)),cd 16 1 3,fK 1 16 15] (.seq (cR [aQ 7 (aI 0)] (.block 0 (.loop (.seq (cR [af 17 7,cd 18 1 3,aP 19 1 18,cU 20 .sl 19,bC 21 .lss 17 20] (cY 21 .skip (.exit 0))) (.seq (.block 1 (cR [cd 24 1 3,aP 25 1 24,af 26 7,da 27 31 25 26,az 28 31 27,oO 8 (.allocL [.int .i64 0,.int .i64 0,.int .i64 0,.int .i64 0,.int .i64 0,.int .i64 0,.int .i64 0,.str [],.ae,.int .i64 0,.int .i64 0,.int .i64 0,.int .i64 0,.ae,.int .i64 0,.int .i64 0,.int .i64 0,.int .i64 0,.int .i64 0,.int .i64 0,.int .i64 0,.int .i64 0,.int .i64 0,.int .i64 0,.int .i64 0,.int .i64 0,.ae,.ae,.ae,.int .i64 0,.ae]),fK 31 8 28] (cR [cd 29 14 8,az 30 15 29,af 31 1,af 32 2,fq 33 14 30 31 32,cd 34 14 8,fK 15 34 33] (.seq (cR [af 35 1,af 36 7,fb 37 15 [aT 35,aT 36,aI 4],aM 38 .eql 37 1] (cY 38 (.region false [oO 39 (nN 1 [[.str []],[.str []],[.str []],[.str []]] [(0,.cg (.str [102])),(1,.cg (.str [80,111,105,110,116])),(2,.cg (.str [97])),(3,.cg (.str [103]))]),af 40 1,af 41 7,aM 42 .add 41 3,fb 43 15 [aT 40,aT 42,aI 4],da 44 1 39 43,aP 45 1 44,cd 46 7 8,fK 1 46 45]) .skip)) (cR [oO 47 (nN 11 [] []),cd 48 8 8,aP 49 1 48,oO 50 (.appendO 11 112 (aT 47) (aT 49)),cd 51 8 8,fK 1 51 50] (.seq (cR [aQ 9 (aI 0)] (.block 2 (.loop (.seq (cR [af 52 9,cd 53 8 8,aP 54 1 53,cU 55 .sl 54,bC 56 .lss 52 55,ai 57 56,dD 58 57 (dI 1),dD 59 57 (dI 7),dD 60 57 (iZ .add (aT 59) (aI 5)),dD 61 57 (A7 15 [aT 58,aT 60,aI 3]),dD 62 57 (iZ .gtr (aT 61) (aI 0)),kS 63 57 62] (cY 63 .skip (.exit 2))) (.seq (.block 3 (.region false [kb 8 8,cd 66 8 8,kb 8 66,aP 67 1 66,af 68 9,oO 69 (nN 1 [[.str []],[.str []],[.str []],[.str []],[.str []],[.str []]] [(0,.cg (.str [97])),(1,.cg (.str [117])),(2,.cg (.str [97,49])),(3,.cg (.str [98])),(4,.cg (.str [101])),(5,.cg (.str [120]))]),af 70 9,af 71 1,af 72 7,aM 73 .add 72 5,fb 74 15 [aT 71,aT 73,aI 6],bC 75 .add 70 74,aM 76 .rem 75 6,dF 69,da 77 1 69 76,dF 77,aP 78 1 77,dF 67,da 79 11 67 68,dF 79,cd 80 3 79,dF 80,fK 1 80 78])) (.region false [af 64 9,aM 65 .add 64 1,ai 9 65])))))) (cR [af 81 2,aM 82 .eql 81 0,ai 10 82] (.seq (cR [aQ 11 (aI 0)] (.block 4 (.loop (.seq (cR [af 83 11,cd 84 1 3,aP 85 1 84,cU 86 .sl 85,bC 87 .lss 83 86] (cY 87 .skip (.exit 4))) (.seq (.block 5 (.region false [af 90 10,ai 91 90,dD 92 91 (dI 11),dD 93 91 (dI 7),dD 94 91 (iZ .eql (aT 92) (aT 93)),dD 95 91 (Gz 94),mJ 95 (.jR (.frame 3) (aT 3)),gQ 96 95 (r7 1 3),mJ 95 (.jR (.frame 3) (aT 96)),gQ 97 95 (jM 1 96),gQ 98 95 (dI 11),mJ 95 (nZ 97),gQ 99 95 (.ixSl 31 (aT 97) (aT 98)),mJ 95 (nZ 99),gQ 100 95 (r7 7 99),mJ 95 (nZ 100),gQ 101 95 (jM 1 100),mJ 95 (.jR (.frame 8) (aT 8)),gQ 102 95 (r7 7 8),mJ 95 (.jR (.frame 8) (aT 102)),gQ 103 95 (jM 1 102),gQ 104 95 (iZ .neq (aT 101) (aT 103)),dD 105 91 (.pick (aT 95) Bp (aT 104)),dD 106 91 (Gz 105),mJ 106 (.jR (.frame 3) (aT 3)),gQ 107 106 (r7 1 3),mJ 106 (.jR (.frame 3) (aT 107)),gQ 108 106 (jM 1 107),gQ 109 106 (dI 11),mJ 106 (nZ 108),gQ 110 106 (.ixSl 31 (aT 108) (aT 109)),mJ 106 (nZ 110),gQ 111 106 (r7 4 110),mJ 106 (nZ 111),gQ 112 106 (iK 3 111),mJ 106 (.jR (.frame 8) (aT 8)),gQ 113 106 (r7 4 8),mJ 106 (.jR (.frame 8) (aT 113)),gQ 114 106 (iK 3 113),gQ 115 106 (.bin .neq (.flat [.i,.i,.i]) (aT 112) (aT 114)),dD 116 91 (.pick (aT 106) Bp (aT 115)),kS 117 91 116,ai 10 117])) (.region false [af 88 11,aM 89 .add 88 1,ai 11 89])))))) (.seq (cR [af 118 2,aM 119 .eql 118 0,ai 120 119,dD 121 120 (dI 10),dD 122 120 (.un .not (aT 121)),kS 123 120 122] (cY 123 (.region false [cd 124 1 3,aP 125 1 124,af 126 7,da 127 31 125 126,cd 128 7 127,aP 129 1 128,cd 130 7 8,fK 1 130 129]) .skip)) (.region false [cd 131 1 3,aP 132 1 131,af 133 7,az 134 31 8,da 135 31 132 133,oN (.oB 31 (aT 135) (aT 134))])))))))))) (.region false [af 22 7,aM 23 .add 22 1,ai 7 23])))))) (cR [az 136 2 3,fK 2 6 136] .ret)))⟩
theorem abj:bq Tryz.f5 TB=some TB:=by kernel_rfl
noncomputable def ir6:ax:=cD [3,4,5,6,7,8,9,10,11,13,14,15,118,186,17,22,47,98,152,700002,700012] [2,12,49,100,23,999998,999999] [500018] Tryz.f6
theorem abo:bq Tryz.f6 ir6=some ir6:=by kernel_rfl
def ir7:ax:=⟨[5],[],[],26,2,[.tmp 4],cR [dw 4 qB] (.seq (cR [af 6 0,cU 7 .sl 6,af 8 1,cU 9 .sl 8,bC 10 .neq 7 9] (cY 10 (cR [dw 4 qB] .ret) .skip)) (.seq (cR [aQ 5 (aI 0)] (.block 0 (.loop (.seq (cR [af 11 5,af 12 0,cU 13 .sl 12,bC 14 .lss 11 13] (cY 14 .skip (.exit 0))) (.seq (.block 1 (.seq (.region true [af 17 0,af 18 5,da 19 3 17 18,az 20 3 19,af 21 1,af 22 5,da 23 3 21 22,az 24 3 23,oO 25 (.bin .neq (.flat [.i,.i,.i]) (aT 20) (aT 24))]) (cY 25 (cR [dw 4 qB] .ret) .skip))) (.region false [af 15 5,aM 16 .add 15 1,ai 5 16])))))) (cR [dw 4 Bp] .ret)))⟩
theorem abA:bq Tryz.f7 ir7=some ir7:=by kernel_rfl
def Wa:ax:=⟨[6,8,9,10,11,12,16,17,18,19,27,35,40,44,51,57,700007,700014,700015],[4,7,14,15,999999],[],84,3,[.tmp 6],cR [oO 3 (.box 26 (aT 0)),oO 4 (.boxL (aT 1)),aQ 6 (.cg (.slice [] true))] (cR [az 20 2 3,az 21 3 4,dv 22 23 20 21,ai 19 22,ia 23 19 0,ia 24 19 1,oO 7 (.allocL [.int .i64 0,.int .i64 0,.int .i64 0,.str [],.ae,.ae]),fK 6 7 23,ai 8 24] (.seq (cR [af 25 8,oO 26 (.un .not (aT 25))] (cY 26 (cR [aQ 6 (.cg (.slice [] true))] .ret) .skip)) (.seq (cR [af 28 2,fb 29 24 [aT 28,aS [46]],ai 27 29,ia 30 27 0,ia 31 27 1,ia 32 27 2,ai 9 30,ai 10 31,ai 11 32] (cR [af 33 11] (cY 33 (cR [aQ 12 (.cg (.slice [] true))] (.seq (cR [az 34 3 4,oO 35 (nN 3 [[.int .i64 0,.int .i64 0,.int .i64 0]] [(0,.tmp 34)]),cd 36 4 7,aP 37 1 36,lT 38 3 24 35 37,cU 39 .sl 38,aQ 40 (aI 0)] (.block 0 (.loop (cR [bC 41 .lss 40 39] (.seq (cY 41 .skip (.exit 0)) (.seq (.block 1 (cR [da 42 3 38 40,az 43 3 42,oO 14 (.allocL [.int .i64 0,.int .i64 0,.int .i64 0]),fK 3 14 43] (cR [az 45 2 3,az 46 3 14,dv 47 23 45 46,ai 44 47,ia 48 44 0,ia 49 44 1,oO 15 (.allocL [.int .i64 0,.int .i64 0,.int .i64 0,.str [],.ae,.ae]),fK 6 15 48,ai 16 49] (cR [af 50 16,ai 51 50,dD 52 51 (r7 3 15),dD 53 51 (jM 1 52),dD 54 51 (dI 9),dD 55 51 (iZ .eql (aT 53) (aT 54)),kS 56 51 55] (cY 56 (.region false [ai 57 12,az 58 3 14,oO 59 (nN 3 [[.int .i64 0,.int .i64 0,.int .i64 0]] [(0,.tmp 58)]),lT 60 3 24 57 59,ai 12 60]) .skip))))) (.region false [aM 61 .add 40 1,ai 40 61]))))))) (cR [az 62 2 3,af 63 12,af 64 10,fq 65 25 62 63 64,ai 6 65] .ret))) .skip))) (.seq (cR [az 66 2 3,az 67 3 4,oO 68 (nN 3 [[.int .i64 0,.int .i64 0,.int .i64 0]] [(0,.tmp 67)]),af 69 2,fq 70 25 66 68 69,ai 17 70] (cR [af 71 17,cU 72 .sl 71,aM 73 .gtr 72 0] (cY 73 (cR [af 74 17,ai 6 74] .ret) .skip))) (cR [cd 75 4 7,aP 76 1 75,dN 77 27 76,oO 78 (.mkfunc (Fn.func 28) [] [aT 3]),dv 79 26 77 78,ai 18 79] (cR [az 80 2 3,af 81 18,af 82 2,fq 83 25 80 81 82,ai 6 83] .ret))))))⟩
theorem abH:bq Tryz.f8 Wa=some Wa:=by kernel_rfl
def ir9:ax:=⟨[6,7,8,9,10,11,12,13,15,16,17,21,30,50,60,700014],[3,4,14],[],86,3,[.tmp 6],cR [oO 3 (.boxL (aT 0)),oO 4 (.boxL (aT 1)),aQ 6 (.cg (.slice [] true))] (cR [az 18 2 3,az 19 3 4,dv 20 29 18 19,ai 7 20] (cR [af 22 2,dN 23 30 22,ai 21 23,ia 24 21 0,ia 25 21 1,ia 26 21 2,ai 8 24,ai 9 25,ai 10 26] (.seq (cR [af 27 7,cU 28 .sl 27,aM 29 .gtr 28 0,ai 30 29,dD 31 30 (dI 10),dD 32 30 (.un .not (aT 31)),kS 33 30 32] (cY 33 (cR [az 34 2 3,az 35 3 4,af 36 2,fq 37 31 34 35 36,ai 11 37] (.seq (cR [af 38 11,cU 39 .sl 38,aM 40 .gtr 39 0] (cY 40 (cR [af 41 11,ai 6 41] .ret) .skip)) (.region false [af 42 7,oO 43 (.slice (.sl 3) (aT 42) (some (aI 1)) none none),ai 7 43]))) .skip)) (cR [aQ 12 (.cg (.slice [] true))] (.seq (cR [aQ 13 (aI 0)] (.block 0 (.loop (.seq (cR [af 44 13,af 45 7,cU 46 .sl 45,bC 47 .lss 44 46] (cY 47 .skip (.exit 0))) (.seq (.block 1 (cR [kb 3 3,az 51 2 3,af 52 7,af 53 13,dF 52,da 54 3 52 53,dF 54,az 55 3 54,dv 56 32 51 55,ai 50 56,ia 57 50 0,ia 58 50 1,oO 14 (.allocL [.int .i64 0,.int .i64 0,.int .i64 0,.str [],.ae,.ae]),kb 14 14,fK 6 14 57,ai 15 58] (.seq (cR [af 59 10,ai 60 59,dD 61 60 (r7 3 14),dD 62 60 (jM 1 61),dD 63 60 (dI 8),dD 64 60 (iZ .neq (aT 62) (aT 63)),kS 65 60 64] (cY 65 (.exit 1) .skip)) (cR [kb 3 3,az 66 2 3,af 67 7,af 68 13,dF 67,da 69 3 67 68,dF 69,az 70 3 69,af 71 9,fq 72 31 66 70 71,ai 16 72] (cR [aQ 17 (aI 0)] (.block 2 (.loop (.seq (cR [af 73 17,af 74 16,cU 75 .sl 74,bC 76 .lss 73 75] (cY 76 .skip (.exit 2))) (.seq (.block 3 (.region false [af 79 12,af 80 16,af 81 17,da 82 3 80 81,az 83 3 82,dv 84 33 79 83,ai 12 84])) (.region false [af 77 17,aM 78 .add 77 1,ai 17 78])))))))))) (.region false [af 48 13,aM 49 .add 48 1,ai 13 49])))))) (cR [af 85 12,ai 6 85] .ret))))))⟩
theorem abQ:bq Tryz.f9 ir9=some ir9:=by kernel_rfl
def I0:ax:=⟨[6,8,10,12,13,21,38,700007,700009],[3,4,5,7,9,999999],[],51,3,[.tmp 6],cR [oO 3 (.boxL (aT 0)),oO 4 (.boxL (aT 1)),oO 5 (.boxL (aT 2)),aQ 6 (aS [])] (cR [az 14 2 3,az 15 3 5,dv 16 34 14 15,ai 13 16,ia 17 13 0,ia 18 13 1,oO 7 (.allocL [.int .i64 0,.int .i64 0,.int .i64 0,.int .i64 0,.int .i64 0,.int .i64 0,.int .i64 0,.str [],.ae,.int .i64 0,.int .i64 0,.int .i64 0,.int .i64 0,.ae,.int .i64 0,.int .i64 0,.int .i64 0,.int .i64 0,.int .i64 0,.int .i64 0,.int .i64 0,.int .i64 0,.int .i64 0,.int .i64 0,.int .i64 0,.int .i64 0,.ae,.ae,.ae,.int .i64 0,.ae]),fK 31 7 17,ai 8 18] (.seq (cR [af 19 8,oO 20 (.un .not (aT 19))] (cY 20 (cR [aQ 6 (aS [])] .ret) .skip)) (cR [az 22 2 3,cd 23 4 7,az 24 3 23,dv 25 23 22 24,ai 21 25,ia 26 21 0,ia 27 21 1,oO 9 (.allocL [.int .i64 0,.int .i64 0,.int .i64 0,.str [],.ae,.ae]),fK 6 9 26,ai 10 27] (.seq (cR [cd 28 7 7,aP 29 1 28,cd 30 3 9,aP 31 1 30,sv 32 .add (aT 31) (aS [46]),cd 33 7 7,aP 34 1 33,bC 35 .add 32 34,oO 36 (nN 1 [[.str []],[.str []]] [(0,.tmp 29),(1,.tmp 35)]),cU 37 .sl 36,aQ 38 (aI 0)] (.block 0 (.loop (cR [bC 39 .lss 38 37] (.seq (cY 39 .skip (.exit 0)) (.seq (.block 1 (cR [da 40 1 36 38,aP 41 1 40,ai 12 41] (.seq (.region true [az 42 2 3,az 43 3 4,af 44 12,fq 45 8 42 43 44,az 46 3 5,oO 47 (nN 3 [[.int .i64 0,.int .i64 0,.int .i64 0]] [(0,.tmp 46)]),dv 48 35 45 47]) (cY 48 (cR [af 49 12,ai 6 49] .ret) .skip)))) (.region false [aM 50 .add 38 1,ai 38 50]))))))) (cR [aQ 6 (aS [])] .ret)))))⟩
theorem U2:bq Tryz.f10 I0=some I0:=by kernel_rfl
def aa1:ax:=⟨[6,8,10,11,12,13,21,700007,700009],[3,4,5,7,9],[],55,3,[.tmp 6],cR [oO 3 (.boxL (aT 0)),oO 4 (.boxL (aT 1)),oO 5 (.boxL (aT 2)),aQ 6 (aS [])] (cR [az 14 2 3,az 15 3 5,dv 16 36 14 15,ai 13 16,ia 17 13 0,ia 18 13 1,oO 7 (.allocL [.int .i64 0,.int .i64 0,.int .i64 0,.int .i64 0,.int .i64 0,.int .i64 0,.int .i64 0,.str [],.ae,.int .i64 0,.int .i64 0,.int .i64 0,.int .i64 0,.ae,.int .i64 0,.int .i64 0,.int .i64 0,.int .i64 0,.int .i64 0,.int .i64 0,.int .i64 0,.int .i64 0,.int .i64 0,.int .i64 0,.int .i64 0,.int .i64 0,.ae,.ae,.ae,.int .i64 0,.ae]),fK 31 7 17,ai 8 18] (.seq (cR [af 19 8,oO 20 (.un .not (aT 19))] (cY 20 (cR [aQ 6 (aS [])] .ret) .skip)) (cR [az 22 2 3,cd 23 4 7,az 24 3 23,dv 25 32 22 24,ai 21 25,ia 26 21 0,ia 27 21 1,oO 9 (.allocL [.int .i64 0,.int .i64 0,.int .i64 0,.str [],.ae,.ae]),fK 6 9 26,ai 10 27] (cR [cd 28 7 7,aP 29 1 28,cd 30 3 9,aP 31 1 30,sv 32 .add (aT 31) (aS [46]),cd 33 7 7,aP 34 1 33,bC 35 .add 32 34,oO 36 (nN 1 [[.str []],[.str []]] [(0,.tmp 29),(1,.tmp 35)]),ai 11 36] (.seq (cR [aQ 12 (aI 0)] (.block 0 (.loop (.seq (cR [af 37 12,aM 38 .lss 37 2] (cY 38 .skip (.exit 0))) (.seq (.block 1 (.seq (.region true [az 41 2 3,az 42 3 4,af 43 11,af 44 12,da 45 1 43 44,aP 46 1 45,fq 47 9 41 42 46,az 48 3 5,oO 49 (nN 3 [[.int .i64 0,.int .i64 0,.int .i64 0]] [(0,.tmp 48)]),dv 50 7 47 49]) (cY 50 (cR [af 51 11,af 52 12,da 53 1 51 52,aP 54 1 53,ai 6 54] .ret) .skip))) (.region false [af 39 12,aM 40 .add 39 1,ai 12 40])))))) (cR [aQ 6 (aS [])] .ret))))))⟩
theorem U3:bq Tryz.f11 aa1=some aa1:=by kernel_rfl
noncomputable def aa2:ax:=cD [0,2,3,6,7,27,35,43,56,63,90,98,105,120,132,145,148,11,13,15,73,76,78,84,87,700001,700004,700005] [1,4,5,999999,19] [] Tryz.f12
theorem U4:bq Tryz.f12 aa2=some aa2:=by kernel_rfl
def I1:ax:=⟨[5],[3],[],18,2,[.tmp 4],cR [oO 3 (.boxL (aT 1)),dw 4 qB] (.seq (cR [aQ 5 (aI 0)] (.block 0 (.loop (.seq (cR [af 6 5,af 7 0,cU 8 .sl 7,bC 9 .lss 6 8] (cY 9 .skip (.exit 0))) (.seq (.block 1 (.seq (.region true [af 12 0,af 13 5,da 14 3 12 13,az 15 3 14,az 16 3 3,oO 17 (.bin .eql (.flat [.i,.i,.i]) (aT 15) (aT 16))]) (cY 17 (cR [dw 4 Bp] .ret) .skip))) (.region false [af 10 5,aM 11 .add 10 1,ai 5 11])))))) (cR [dw 4 qB] .ret))⟩
theorem U5:bq Tryz.f13 I1=some I1:=by kernel_rfl
def Q5:ax:=⟨[7,8,9,10,11,12,39,43,56,700006],[3,6],[777777],70,3,[.cell 6 true 15],cR [oO 3 (.boxL (aT 0)),oO 6 (.allocL [.int .i64 0,.int .i64 0,.int .i64 0,.int .i64 0,.int .i64 0,.int .i64 0,.int .i64 0,.int .i64 0,.int .i64 0,.int .i64 0,.int .i64 0,.int .i64 0,.ae,.ae,.ae])] (cR [aQ 7 (.cg (.slice [] true))] (.seq (cR [aQ 8 (aI 0)] (.block 0 (.loop (.seq (cR [af 13 8,cd 14 14 3,aP 15 1 14,cU 16 .sl 15,bC 17 .lss 13 16] (cY 17 .skip (.exit 0))) (.seq (.block 1 (cR [af 20 1,cd 21 0 3,cd 22 2 21,aP 23 1 22,cd 24 0 3,cd 25 1 24,aP 26 1 25,sv 27 .mul (aI 31) (aT 26),bC 28 .add 23 27,af 29 8,bC 30 .add 28 29,fb 31 15 [aT 20,aT 30,aI 60],ai 9 31] (cR [oO 32 (nN 1 [[.str []],[.str []],[.str []],[.str []],[.str []],[.str []]] [(0,.cg (.str [97])),(1,.cg (.str [98])),(2,.cg (.str [97,49])),(3,.cg (.str [117])),(4,.cg (.str [97,86,101,114,121,76,111,110,103,78,97,109,101,49,50,51])),(5,.cg (.str [101]))]),af 33 9,aM 34 .rem 33 6,da 35 1 32 34,aP 36 1 35,ai 10 36] (.seq (cR [af 37 9,aM 38 .eql 37 59,ai 39 38,dD 40 39 (dI 2),dD 41 39 (iZ .gtr (aT 40) (aI 0)),kS 42 39 41] (cY 42 (.region false [aQ 10 (aS [111,118,101,114])]) .skip)) (.region false [ai 43 7,af 44 10,oO 45 (nN 1 [[.str []]] [(0,.tmp 44)]),lT 46 1 16 43 45,ai 7 46]))))) (.region false [af 18 8,aM 19 .add 18 1,ai 8 19])))))) (cR [af 47 7,cd 48 14 3,fK 1 48 47] (cR [aQ 11 (.cg (.slice [] true))] (.seq (cR [aQ 12 (aI 0)] (.block 2 (.loop (.seq (cR [af 49 12,cd 50 13 3,aP 51 1 50,cU 52 .sl 51,bC 53 .lss 49 52] (cY 53 .skip (.exit 2))) (.seq (.block 3 (.region false [ai 56 11,cd 57 13 3,aP 58 1 57,af 59 12,da 60 15 58 59,az 61 15 60,af 62 1,af 63 2,fq 64 14 61 62 63,oO 65 (nN 15 [[.int .i64 0,.int .i64 0,.int .i64 0,.int .i64 0,.int .i64 0,.int .i64 0,.int .i64 0,.int .i64 0,.int .i64 0,.int .i64 0,.int .i64 0,.int .i64 0,.slice [] false,.slice [] false,.slice [] false]] [(0,.tmp 64)]),lT 66 15 168 56 65,ai 11 66])) (.region false [af 54 12,aM 55 .add 54 1,ai 12 55])))))) (cR [af 67 11,cd 68 13 3,fK 1 68 67] (cR [az 69 15 3,fK 15 6 69] .ret)))))))⟩
theorem U6:bq Tryz.f14 Q5=some Q5:=by kernel_rfl
def Rm:ax:=⟨[6,9],[],[],21,3,[.tmp 6],cR [aQ 6 (aI 0)] (.seq (cR [af 7 1,aM 8 .lss 7 0,ai 9 8,gQ 10 9 (dI 1),gQ 11 9 (dI 0),gQ 12 9 (aka 11),gQ 13 9 (iZ .geq (aT 10) (aT 12)),St 14 9 13] (cY 14 (cR [aQ 6 (aI 0)] .ret) .skip)) (cR [af 15 0,af 16 1,da 17 1 15 16,aP 18 1 17,af 19 2,dv 20 41 18 19,ai 6 20] .ret))⟩
theorem U7:bq Tryz.f15 Rm=some Rm:=by kernel_rfl
def I2:ax:=⟨[23,700002],[2],[],24,1,[.cell 2 true 3],cR [oO 2 (.allocL [.int .i64 0,.int .i64 0,.int .i64 0])] (cR [af 3 0,jo 4 3,cd 5 4 4,aP 6 1 5,aM 7 .add 6 1,jo 8 3,cd 9 4 8,fK 1 9 7] (cR [af 10 0,dF 10,jo 11 10,dF 11,cd 12 4 11,dF 12,aP 13 1 12,aM 14 .sub 13 1,aM 15 .quo 14 32,sv 16 .add (aI 1) (aT 15),af 17 0,dF 17,jo 18 17,dF 18,cd 19 4 18,dF 19,aP 20 1 19,aM 21 .sub 20 1,aM 22 .rem 21 32,oO 23 (.build [.int .i64 0,.int .i64 0,.int .i64 0] [(1,1,.tmp 16),(2,1,.tmp 22)]),kb 2 2,fK 3 2 23] .ret))⟩
theorem U8:bq Tryz.f16 I2=some I2:=by kernel_rfl
def Rt:ax:=⟨[4],[],[],23,2,[.tmp 4],cR [aQ 4 (aI 0)] (cR [af 5 0,jo 6 5,cd 7 3 6,aP 8 1 7,aM 9 .add 8 1,jo 10 5,cd 11 3 10,fK 1 11 9] (cR [af 12 0,dF 12,jo 13 12,dF 13,cd 14 2 13,dF 14,aP 15 1 14,af 16 0,dF 16,jo 17 16,dF 17,cd 18 3 17,dF 18,aP 19 1 18,aM 20 .sub 19 1,af 21 1,fq 22 15 15 20 21,ai 4 22] .ret))⟩
theorem U9:bq Tryz.f17 Rt=some Rt:=by kernel_rfl
def tf:ax:=⟨[5,8,12,23,7,35,700002],[2],[777777],36,1,[.cell 2 true 5],cR [oO 2 (.allocL [.int .i64 0,.int .i64 0,.int .i64 0,.int .i64 0,.ae])] (.seq (cR [af 3 0,fb 4 17 [aT 3,aI 6]] (.block 0 (cR [aM 6 .eql 4 0,ai 5 6] (cY 5 (cR [oO 7 (.build [.int .i64 0,.int .i64 0,.int .i64 0,.int .i64 0,.ae] [(0,1,.cg (.int .i64 1))]),fK 5 2 7] .ret) (cR [aM 9 .eql 4 1,ai 8 9] (cY 8 (cR [oO 10 (.build [.int .i64 0,.int .i64 0,.int .i64 0,.int .i64 0,.slice [] true] []),dN 11 19 10,fK 5 2 11] .ret) (cR [aM 13 .eql 4 2,ai 12 13] (cY 12 (cR [af 14 0,jo 15 14,cd 16 0 15,cd 17 1 16,aP 18 1 17,oIx 19 31 (aT 18) (aI 0),cd 20 0 19,az 21 3 20,dN 22 42 21,fK 5 2 22] .ret) (cR [aM 24 .eql 4 3,ai 23 24] (cY 23 (cR [af 25 0,jo 26 25,cd 27 0 26,cd 28 1 27,aP 29 1 28,oIx 30 31 (aT 29) (aI 1),cd 31 0 30,az 32 3 31,dN 33 42 32,dN 34 19 33,fK 5 2 34] .ret) .skip)))))))))) (cR [oO 35 (.build [.int .i64 0,.int .i64 0,.int .i64 0,.int .i64 0,.ae] []),fK 5 2 35] .ret))⟩
theorem U':bq Tryz.f18 tf=some tf:=by kernel_rfl
def Ry:ax:=⟨[5,700002],[1,2],[777777],6,1,[.cell 2 true 5],cR [oO 1 (.boxL (aT 0)),oO 2 (.allocL [.int .i64 0,.int .i64 0,.int .i64 0,.int .i64 0,.ae])] (cR [az 3 5 1,oO 4 (nN 5 [[.int .i64 0,.int .i64 0,.int .i64 0,.int .i64 0,.slice [] false]] [(0,.tmp 3)]),oO 5 (.build [.int .i64 0,.int .i64 0,.int .i64 0,.int .i64 0,.ae] [(0,1,.cg (.int .i64 2)),(4,1,.tmp 4)]),fK 5 2 5] .ret)⟩
theorem Va:bq Tryz.f19 Ry=some Ry:=by kernel_rfl
def Rz:ax:=⟨[2,5,9,13],[],[],17,1,[.tmp 2],cR [aQ 2 qB] (cR [af 3 0,aM 4 .eql 3 2,ai 5 4,gQ 6 5 (dI 0),gQ 7 5 (iZ .eql (aT 6) (aI 3)),St 8 5 7,ai 9 8,gQ 10 9 (dI 0),gQ 11 9 (iZ .eql (aT 10) (aI 4)),St 12 9 11,ai 13 12,gQ 14 13 (dI 0),gQ 15 13 (iZ .eql (aT 14) (aI 5)),St 16 13 15,ai 2 16] .ret)⟩
theorem Vb:bq Tryz.f20 Rz=some Rz:=by kernel_rfl
def RA:ax:=⟨[8,9,10,13,17],[6],[777777],20,4,[.tmp 8],cR [oO 6 (.boxL (aT 2)),aQ 8 (.cg (.slice [] true))] (cR [aQ 9 (.cg (.slice [] true))] (cR [ai 10 9,af 11 0,lT 12 5 48 10 11,ai 9 12] (cR [ai 13 9,af 14 1,az 15 3 6,af 16 3,oO 17 (.build [.str [],.int .i64 0,.int .i64 0,.int .i64 0,.int .i64 0] [(0,1,.tmp 14),(1,3,.tmp 15),(4,1,.tmp 16)]),oO 18 (nN 5 [[.str [],.int .i64 0,.int .i64 0,.int .i64 0,.int .i64 0]] [(0,.tmp 17)]),lT 19 5 48 13 18,ai 8 19] .ret)))⟩
theorem Vc:bq Tryz.f21 RA=some RA:=by kernel_rfl
def gX:ax:=⟨[7,22,29,36,40,73,84,97,107,121,128,136,148,160,57,65,71,80,106,120,700006,700008,700009],[6,8,9],[777777],172,3,[.cell 6 true 15],cR [oO 6 (.allocL [.int .i64 0,.int .i64 0,.int .i64 0,.int .i64 0,.int .i64 0,.int .i64 0,.int .i64 0,.int .i64 0,.int .i64 0,.int .i64 0,.int .i64 0,.int .i64 0,.ae,.ae,.ae])] (cR [af 11 0,fb 12 17 [aT 11,aI 16],ai 7 12] (cR [af 13 0,jo 14 13,cd 15 5 14,aP 16 1 15,aM 17 .sub 16 1,jo 18 13,cd 19 5 18,fK 1 19 17] (.seq (cR [af 20 2,aM 21 .leq 20 0,ai 22 21,gQ 23 22 (dI 0),gQ 24 22 (.nilCheck (aT 23)),gQ 25 22 (r7 5 24),gQ 26 22 (jM 1 25),gQ 27 22 (iZ .leq (aT 26) (aI 0)),St 28 22 27,ai 29 28,gQ 30 29 (dI 7),gQ 31 29 (iZ .lss (aT 30) (aI 5)),St 32 29 31] (cY 32 (.seq (cR [af 33 1,cU 34 .sl 33,aM 35 .gtr 34 0,ai 36 35,dD 37 36 (dI 7),dD 38 36 (iZ .neq (aT 37) (aI 1)),kS 39 36 38,ai 40 39,dD 41 40 (dI 7),dD 42 40 (iZ .neq (aT 41) (aI 2)),kS 43 40 42] (cY 43 (cR [af 44 1,af 45 0,af 46 1,cU 47 .sl 46,dv 48 17 45 47,da 49 5 44 48,az 50 5 49,oO 8 (.allocL [.str [],.int .i64 0,.int .i64 0,.int .i64 0,.int .i64 0]),fK 5 8 50] (cR [af 51 0,dN 52 16 51,kb 8 8,cd 53 1 8,kb 8 53,az 54 3 53,kb 8 8,cd 55 4 8,kb 8 55,aP 56 1 55,oO 57 (.build [.int .i64 0,.int .i64 0,.int .i64 0,.int .i64 0,.int .i64 0,.int .i64 0,.int .i64 0,.int .i64 0,.int .i64 0,.int .i64 0,.int .i64 0,.int .i64 0,.ae,.ae,.ae] [(0,3,.tmp 52),(3,1,.cg (.int .i64 2)),(5,3,.tmp 54),(4,1,.tmp 56)]),kb 6 6,fK 15 6 57] .ret)) .skip)) (.seq (cR [af 58 7,aM 59 .rem 58 2,aM 60 .eql 59 0] (cY 60 (cR [af 61 0,dN 62 16 61,af 63 0,fb 64 17 [aT 63,aI 2],oO 65 (.build [.int .i64 0,.int .i64 0,.int .i64 0,.int .i64 0,.int .i64 0,.int .i64 0,.int .i64 0,.int .i64 0,.int .i64 0,.int .i64 0,.int .i64 0,.int .i64 0,.ae,.ae,.ae] [(0,3,.tmp 62),(3,1,.cg (.int .i64 1)),(4,1,.tmp 64)]),fK 15 6 65] .ret) .skip)) (cR [af 66 0,dN 67 16 66,af 68 0,fb 69 17 [aT 68,aI 20],aM 70 .sub 69 9,oO 71 (.build [.int .i64 0,.int .i64 0,.int .i64 0,.int .i64 0,.int .i64 0,.int .i64 0,.int .i64 0,.int .i64 0,.int .i64 0,.int .i64 0,.int .i64 0,.int .i64 0,.ae,.ae,.ae] [(0,3,.tmp 67),(3,1,.cg (.int .i64 0)),(4,1,.tmp 70)]),fK 15 6 71] .ret))) .skip)) (.seq (cR [af 72 7] (.block 0 (.seq (cR [aM 74 .eql 72 5,ai 73 74] (cY 73 .skip (.region false [aM 75 .eql 72 6,ai 73 75]))) (cY 73 (cR [af 76 0,dN 77 16 76,af 78 0,fb 79 17 [aT 78,aI 12],oO 80 (.build [.int .i64 0,.int .i64 0,.int .i64 0,.int .i64 0,.int .i64 0,.int .i64 0,.int .i64 0,.int .i64 0,.int .i64 0,.int .i64 0,.int .i64 0,.int .i64 0,.ae,.ae,.ae] [(0,3,.tmp 77),(3,1,.cg (.int .i64 4)),(4,1,.tmp 79)]),oO 9 (.allocL [.int .i64 0,.int .i64 0,.int .i64 0,.int .i64 0,.int .i64 0,.int .i64 0,.int .i64 0,.int .i64 0,.int .i64 0,.int .i64 0,.int .i64 0,.int .i64 0,.ae,.ae,.ae]),fK 15 9 80] (cR [dw 10 (aI 2)] (.seq (cR [cd 81 4 9,aP 82 1 81,aM 83 .eql 82 9,ai 84 83,gQ 85 84 (r7 4 9),gQ 86 84 (jM 1 85),gQ 87 84 (iZ .eql (aT 86) (aI 11)),St 88 84 87] (cY 88 (.region false [dw 10 (aI 1)]) .skip)) (cR [af 89 0,af 90 10,af 91 1,af 92 2,aM 93 .sub 92 1,nC 94 43 89 90 91 93,cd 95 13 9,fK 1 95 94] (cR [az 96 15 9,fK 15 6 96] .ret))))) (cR [aM 98 .eql 72 7,ai 97 98] (cY 97 (cR [af 99 0,dN 100 16 99,af 101 0,af 102 1,af 103 2,aM 104 .sub 103 1,fb 105 43 [aT 101,aI 3,aT 102,aT 104],oO 106 (.build [.int .i64 0,.int .i64 0,.int .i64 0,.int .i64 0,.int .i64 0,.int .i64 0,.int .i64 0,.int .i64 0,.int .i64 0,.int .i64 0,.int .i64 0,.int .i64 0,.ae,.ae,.ae] [(0,3,.tmp 100),(3,1,.cg (.int .i64 5)),(13,1,.tmp 105)]),fK 15 6 106] .ret) (cR [aM 108 .eql 72 8,ai 107 108] (cY 107 (cR [af 109 0,dN 110 16 109,af 111 0,dN 112 18 111,af 113 0,af 114 0,fb 115 17 [aT 114,aI 3],af 116 1,af 117 2,aM 118 .sub 117 1,nC 119 43 113 115 116 118,oO 120 (.build [.int .i64 0,.int .i64 0,.int .i64 0,.int .i64 0,.int .i64 0,.int .i64 0,.int .i64 0,.int .i64 0,.int .i64 0,.int .i64 0,.int .i64 0,.int .i64 0,.ae,.ae,.ae] [(0,3,.tmp 110),(3,1,.cg (.int .i64 11)),(8,5,.tmp 112),(13,1,.tmp 119)]),fK 15 6 120] .ret) (cR [aM 122 .eql 72 9,ai 121 122] (cY 121 (cR [af 123 0,af 124 1,af 125 2,aM 126 .sub 125 1,fb 127 44 [aT 123,aI 12,aT 124,aT 126],fK 15 6 127] .ret) (.seq (cR [aM 129 .eql 72 10,ai 128 129] (cY 128 .skip (.region false [aM 130 .eql 72 11,ai 128 130]))) (cY 128 (cR [af 131 0,af 132 1,af 133 2,aM 134 .sub 133 1,fb 135 44 [aT 131,aI 10,aT 132,aT 134],fK 15 6 135] .ret) (cR [aM 137 .eql 72 12,ai 136 137] (cY 136 (cR [af 138 0,oO 139 (nN 1 [[.int .i64 0],[.int .i64 0]] [(0,.cg (.int .i64 7)),(1,.cg (.int .i64 8))]),af 140 0,fb 141 17 [aT 140,aI 2],da 142 1 139 141,aP 143 1 142,af 144 1,af 145 2,aM 146 .sub 145 1,nC 147 45 138 143 144 146,fK 15 6 147] .ret) (cR [aM 149 .eql 72 13,ai 148 149] (cY 148 (cR [af 150 0,oO 151 (nN 1 [[.int .i64 0],[.int .i64 0]] [(0,.cg (.int .i64 9)),(1,.cg (.int .i64 3))]),af 152 0,fb 153 17 [aT 152,aI 2],da 154 1 151 153,aP 155 1 154,af 156 1,af 157 2,aM 158 .sub 157 1,nC 159 45 150 155 156 158,fK 15 6 159] .ret) (cR [aM 161 .eql 72 14,ai 160 161] (cY 160 (cR [af 162 0,af 163 1,af 164 2,aM 165 .sub 164 1,fb 166 45 [aT 162,aI 3,aT 163,aT 165],fK 15 6 166] .ret) .skip)))))))))))))))))) (cR [af 167 0,af 168 1,af 169 2,aM 170 .sub 169 1,fb 171 44 [aT 167,aI 6,aT 168,aT 170],fK 15 6 171] .ret)))))⟩
theorem Vd:bq Tryz.f22 gX=some gX:=by kernel_rfl
def RB:ax:=⟨[11,21,700004,700007],[2,3,4,7,999999],[],22,2,[.cell 4 true 6,.tmp 5],cR [oO 2 (.boxL (aT 0)),oO 3 (.boxL (aT 1)),oO 4 (.allocL [.int .i64 0,.int .i64 0,.int .i64 0,.str [],.ae,.ae]),dw 5 qB] (.seq (cR [cd 8 0 2,aP 9 1 8,cU 10 .sl 9,aQ 11 (aI 0)] (.block 0 (.loop (cR [bC 12 .lss 11 10] (.seq (cY 12 .skip (.exit 0)) (.seq (.block 1 (cR [da 13 6 9 11,az 14 6 13,oO 7 (.allocL [.int .i64 0,.int .i64 0,.int .i64 0,.str [],.ae,.ae]),fK 6 7 14] (cR [cd 15 0 7,az 16 3 15,az 17 3 3,oO 18 (.bin .eql (.flat [.i,.i,.i]) (aT 16) (aT 17))] (cY 18 (cR [az 19 6 7,fK 6 4 19,dw 5 Bp] .ret) .skip)))) (.region false [aM 20 .add 11 1,ai 11 20]))))))) (cR [oO 21 (.build [.int .i64 0,.int .i64 0,.int .i64 0,.str [],.ae,.ae] []),fK 6 4 21,dw 5 qB] .ret))⟩
theorem Ve:bq Tryz.f23 RB=some RB:=by kernel_rfl
def RC:ax:=⟨[4,5,6],[999999],[],13,2,[.tmp 4,.tmp 5,.tmp 6],cR [aQ 4 (aS []),aQ 5 (aS []),aQ 6 qB] (cR [af 7 0,af 8 1,dv 9 46 7 8,ia 10 9 0,ia 11 9 1,ia 12 9 2,ai 4 10,ai 5 11,ai 6 12] .ret)⟩
theorem Vf:bq Tryz.f24 RC=some RC:=by kernel_rfl
def RD:ax:=⟨[6,7,8,15,24,30,36,700010],[3,10,999999,40],[],48,3,[.tmp 6],cR [oO 3 (.boxL (aT 0)),aQ 6 (.cg (.slice [] true))] (cR [aQ 7 (.cg (.slice [] true))] (cR [oO 11 (.uA 3 true false),ai 8 11] (.seq (cR [cd 12 1 3,aP 13 1 12,cU 14 .sl 13,aQ 15 (aI 0)] (.block 0 (.loop (cR [bC 16 .lss 15 14] (.seq (cY 16 .skip (.exit 0)) (.seq (.block 1 (cR [da 17 31 13 15,az 18 31 17,oO 10 (.allocL [.int .i64 0,.int .i64 0,.int .i64 0,.int .i64 0,.int .i64 0,.int .i64 0,.int .i64 0,.str [],.ae,.int .i64 0,.int .i64 0,.int .i64 0,.int .i64 0,.ae,.int .i64 0,.int .i64 0,.int .i64 0,.int .i64 0,.int .i64 0,.int .i64 0,.int .i64 0,.int .i64 0,.int .i64 0,.int .i64 0,.int .i64 0,.int .i64 0,.ae,.ae,.ae,.int .i64 0,.ae]),fK 31 10 18] (.seq (cR [af 19 8,cd 20 0 10,az 21 3 20,oO 22 (.look false 3 true false [.i,.i,.i] [.bool false] (aT 19) (aT 21)),oO 23 (.un .not (aT 22)),ai 24 23,dD 25 24 (r7 7 10),dD 26 24 (jM 1 25),dD 27 24 (dI 2),dD 28 24 (iZ .eql (aT 26) (aT 27)),kS 29 24 28,ai 30 29,dD 31 30 (dI 1),dD 32 30 (r7 4 10),dD 33 30 (iK 3 32),dD 34 30 (A7 47 [aT 31,aT 33]),kS 35 30 34] (cY 35 (.region false [ai 36 7,cd 37 0 10,az 38 3 37,oO 39 (nN 3 [[.int .i64 0,.int .i64 0,.int .i64 0]] [(0,.tmp 38)]),oO 40 (.appendO 3 24 (aT 36) (aT 39)),ai 7 40]) .skip)) (.region false [af 41 8,cd 42 0 10,az 43 3 42,oN (.wJ 3 true false 1 [.i,.i,.i] (aT 41) (aT 43) Bp)])))) (.region false [aM 44 .add 15 1,ai 15 44]))))))) (cR [af 45 7,fb 46 48 [aT 45,.fn 49]] (cR [af 47 7,ai 6 47] .ret)))))⟩
theorem Vg:bq Tryz.f25 RD=some RD:=by kernel_rfl
def RE:ax:=⟨[4,5,6,700007],[7,999999],[],42,2,[.tmp 4],cR [aQ 4 (.cg (.slice [] true))] (cR [af 8 0,af 9 1,dv 10 50 8 9,ai 5 10] (.seq (cR [af 11 5,aM 12 .eql 11 (-1)] (cY 12 (cR [af 13 0,ai 4 13] .ret) .skip)) (.seq (cR [af 14 5,aM 15 .add 14 1,ai 6 15] (.block 0 (.loop (.seq (cR [af 16 6,af 17 0,cU 18 .sl 17,bC 19 .lss 16 18] (cY 19 .skip (.exit 0))) (.seq (.block 1 (cR [af 22 0,af 23 6,da 24 3 22 23,az 25 3 24,oO 7 (.allocL [.int .i64 0,.int .i64 0,.int .i64 0]),fK 3 7 25] (cR [af 26 1,az 27 3 7,oO 28 (.call (aT 26) [aT 27]),oO 29 (.un .not (aT 28))] (cY 29 (cR [af 30 0,af 31 5,az 32 3 7,da 33 3 30 31,fK 3 33 32] (.region false [af 34 5,aM 35 .add 34 1,ai 5 35])) .skip)))) (.region false [af 20 6,aM 21 .add 20 1,ai 6 21])))))) (cR [af 36 0,af 37 5,oO 38 (.slice (.sl 3) (aT 36) (some (aT 37)) none none),oN (.un .neg (.cg (.tuple [])))] (cR [af 39 0,af 40 5,oO 41 (.slice (.sl 3) (aT 39) none (some (aT 40)) none),ai 4 41] .ret)))))⟩
theorem Vh:bq Tryz.f26 RE=some RE:=by kernel_rfl
def RF:ax:=⟨[2,5],[999999],[],8,1,[.tmp 2],cR [aQ 2 (.cg (.slice [] true))] (.seq (cR [af 3 0,oO 4 (.nilS false (aT 3))] (cY 4 (cR [aQ 2 (.cg (.slice [] true))] .ret) .skip)) (cR [oO 5 (nN 3 [] []),af 6 0,lT 7 3 24 5 6,ai 2 7] .ret))⟩
theorem Vi:bq Tryz.f27 RF=some RF:=by kernel_rfl
def RG:ax:=⟨[3,5,6,700004],[2,4,999999],[],14,2,[.tmp 3],cR [oO 2 (.boxL (aT 0)),aQ 3 qB] (cR [az 7 2 1,az 8 3 2,dv 9 23 7 8,ai 6 9,ia 10 6 0,ia 11 6 1,oO 4 (.allocL [.int .i64 0,.int .i64 0,.int .i64 0,.str [],.ae,.ae]),fK 6 4 10,ai 5 11] (cR [af 12 5,oO 13 (.un .not (aT 12)),ai 3 13] .ret))⟩
theorem Vj:bq Tryz.f28 RG=some RG:=by kernel_rfl
def aa3:ax:=⟨[4,6,7,8,10,11,28,39,49,700005,700009],[2,3,5,9],[],58,2,[.tmp 4],cR [oO 2 (.boxL (aT 0)),oO 3 (.boxL (aT 1)),aQ 4 (.cg (.slice [] true))] (cR [az 12 2 2,az 13 3 3,dv 14 32 12 13,ai 11 14,ia 15 11 0,ia 16 11 1,oO 5 (.allocL [.int .i64 0,.int .i64 0,.int .i64 0,.str [],.ae,.ae]),fK 6 5 15,ai 6 16] (.seq (cR [af 17 6,oO 18 (.un .not (aT 17))] (cY 18 (cR [aQ 4 (.cg (.slice [] true))] .ret) .skip)) (cR [az 19 3 3,oO 20 (nN 3 [[.int .i64 0,.int .i64 0,.int .i64 0]] [(0,.tmp 19)]),ai 7 20] (.seq (cR [aQ 8 (aI 0)] (.block 0 (.loop (.seq (cR [af 21 8,cd 22 4 5,aP 23 1 22,cU 24 .sl 23,bC 25 .lss 21 24] (cY 25 .skip (.exit 0))) (.seq (.block 1 (cR [kb 2 2,az 29 2 2,kb 5 5,cd 30 4 5,kb 5 30,aP 31 1 30,af 32 8,dF 31,da 33 3 31 32,dF 33,az 34 3 33,dv 35 32 29 34,ai 28 35,ia 36 28 0,ia 37 28 1,oO 9 (.allocL [.int .i64 0,.int .i64 0,.int .i64 0,.str [],.ae,.ae]),kb 9 9,fK 6 9 36,ai 10 37] (cR [af 38 10,ai 39 38,dD 40 39 (dI 7),dD 41 39 (r7 4 5),dD 42 39 (jM 1 41),dD 43 39 (dI 8),dD 44 39 (.ixSl 3 (aT 42) (aT 43)),dD 45 39 (iK 3 44),dD 46 39 (A7 13 [aT 40,aT 45]),dD 47 39 (.un .not (aT 46)),kS 48 39 47] (cY 48 (.region false [ai 49 7,cd 50 4 5,aP 51 1 50,af 52 8,da 53 3 51 52,az 54 3 53,oO 55 (nN 3 [[.int .i64 0,.int .i64 0,.int .i64 0]] [(0,.tmp 54)]),lT 56 3 24 49 55,ai 7 56]) .skip)))) (.region false [af 26 8,aM 27 .add 26 1,ai 8 27])))))) (cR [af 57 7,ai 4 57] .ret)))))⟩
theorem Vk:bq Tryz.f29 aa3=some aa3:=by kernel_rfl
def aa4:ax:=⟨[2,3,5],[],[],24,1,[.tmp 2,.tmp 3,.tmp 4],cR [aQ 2 (aS []),aQ 3 (aS []),dw 4 qB] (.seq (cR [aQ 5 (aI 0)] (.block 0 (.loop (.seq (cR [af 6 5,af 7 0,cU 8 .str 7,bC 9 .lss 6 8] (cY 9 .skip (.exit 0))) (.seq (.block 1 (cR [af 12 0,af 13 5,oO 14 (.indexStr (aT 12) (aT 13)),sv 15 .eql (aT 14) (.cg (.int IntKind.u8 46))] (cY 15 (cR [af 16 0,af 17 5,oO 18 (.slice .str (aT 16) none (some (aT 17)) none),af 19 0,af 20 5,aM 21 .add 20 1,oO 22 (.slice .str (aT 19) (some (aT 21)) none none),ai 2 18,ai 3 22,dw 4 Bp] .ret) .skip))) (.region false [af 10 5,aM 11 .add 10 1,ai 5 11])))))) (cR [af 23 0,aQ 2 (aS []),ai 3 23,dw 4 qB] .ret))⟩
theorem Vl:bq Tryz.f30 aa4=some aa4:=by kernel_rfl
def aa5:ax:=⟨[6,7,8,10,18,33,700009],[3,4,9],[],44,3,[.tmp 6],cR [oO 3 (.boxL (aT 0)),oO 4 (.boxL (aT 1)),aQ 6 (.cg (.slice [] true))] (cR [aQ 7 (.cg (.slice [] true))] (.seq (cR [aQ 8 (aI 0)] (.block 0 (.loop (.seq (cR [af 11 8,cd 12 1 3,aP 13 1 12,cU 14 .sl 13,bC 15 .lss 11 14] (cY 15 .skip (.exit 0))) (.seq (.block 1 (cR [kb 3 3,az 19 2 3,kb 3 3,cd 20 1 3,kb 3 20,aP 21 1 20,af 22 8,dF 21,da 23 31 21 22,dF 23,cd 24 0 23,dF 24,az 25 3 24,dv 26 36 19 25,ai 18 26,ia 27 18 0,ia 28 18 1,oO 9 (.allocL [.int .i64 0,.int .i64 0,.int .i64 0,.int .i64 0,.int .i64 0,.int .i64 0,.int .i64 0,.str [],.ae,.int .i64 0,.int .i64 0,.int .i64 0,.int .i64 0,.ae,.int .i64 0,.int .i64 0,.int .i64 0,.int .i64 0,.int .i64 0,.int .i64 0,.int .i64 0,.int .i64 0,.int .i64 0,.int .i64 0,.int .i64 0,.int .i64 0,.ae,.ae,.ae,.int .i64 0,.ae]),kb 9 9,fK 31 9 27,ai 10 28] (cR [cd 29 4 9,az 30 3 29,az 31 3 4,oO 32 (.bin .eql (.flat [.i,.i,.i]) (aT 30) (aT 31)),ai 33 32,dD 34 33 (r7 7 9),dD 35 33 (jM 1 34),dD 36 33 (dI 2),dD 37 33 (iZ .eql (aT 35) (aT 36)),kS 38 33 37] (cY 38 (.region false [af 39 7,cd 40 0 9,az 41 3 40,dv 42 33 39 41,ai 7 42]) .skip)))) (.region false [af 16 8,aM 17 .add 16 1,ai 8 17])))))) (cR [af 43 7,ai 6 43] .ret)))⟩
theorem Vm:bq Tryz.f31 aa5=some aa5:=by kernel_rfl
def aa6:ax:=⟨[6,27,700004],[2,3,4],[],28,2,[.cell 4 true 6,.tmp 5],cR [oO 2 (.boxL (aT 0)),oO 3 (.boxL (aT 1)),oO 4 (.allocL [.int .i64 0,.int .i64 0,.int .i64 0,.str [],.ae,.ae]),dw 5 qB] (.seq (cR [aQ 6 (aI 0)] (.block 0 (.loop (.seq (cR [af 7 6,cd 8 0 2,aP 9 1 8,cU 10 .sl 9,bC 11 .lss 7 10] (cY 11 .skip (.exit 0))) (.seq (.block 1 (.seq (.region true [cd 14 0 2,aP 15 1 14,af 16 6,da 17 6 15 16,cd 18 0 17,az 19 3 18,az 20 3 3,oO 21 (.bin .eql (.flat [.i,.i,.i]) (aT 19) (aT 20))]) (cY 21 (cR [cd 22 0 2,aP 23 1 22,af 24 6,da 25 6 23 24,az 26 6 25,fK 6 4 26,dw 5 Bp] .ret) .skip))) (.region false [af 12 6,aM 13 .add 12 1,ai 6 13])))))) (cR [oO 27 (.build [.int .i64 0,.int .i64 0,.int .i64 0,.str [],.ae,.ae] []),fK 6 4 27,dw 5 qB] .ret))⟩
theorem Vn:bq Tryz.f32 aa6=some aa6:=by kernel_rfl
def aa7:ax:=⟨[4,5,6,11,25,34,39,43],[3],[],48,2,[.tmp 4],cR [oO 3 (.boxL (aT 1)),aQ 4 (.cg (.slice [] true))] (cR [aQ 5 (aI 0)] (.seq (.block 0 (.loop (.seq (cR [af 7 5,af 8 0,dF 8,cU 9 .sl 8,bC 10 .lss 7 9,ai 11 10,dD 12 11 (dI 0),dD 13 11 (dI 5),yI 11 (nZ 12),dD 14 11 (.ixSl 3 (aT 12) (aT 13)),yI 11 (nZ 14),dD 15 11 (iK 3 14),yI 11 (.jR (.frame 3) (aT 3)),dD 16 11 (iK 3 3),dD 17 11 (A7 51 [aT 15,aT 16]),kS 18 11 17] (cY 18 .skip (.exit 0))) (.block 1 (.region false [af 19 5,aM 20 .add 19 1,ai 5 20]))))) (.seq (cR [af 21 5,af 22 0,dF 22,cU 23 .sl 22,bC 24 .lss 21 23,ai 25 24,dD 26 25 (dI 0),dD 27 25 (dI 5),yI 25 (nZ 26),dD 28 25 (.ixSl 3 (aT 26) (aT 27)),yI 25 (nZ 28),dD 29 25 (iK 3 28),yI 25 (.jR (.frame 3) (aT 3)),dD 30 25 (iK 3 3),dD 31 25 (.bin .eql (.flat [.i,.i,.i]) (aT 29) (aT 30)),kS 32 25 31] (cY 32 (cR [af 33 0,ai 4 33] .ret) .skip)) (cR [oO 34 (nN 3 [] []),af 35 0,af 36 5,oO 37 (.slice (.sl 3) (aT 35) none (some (aT 36)) none),lT 38 3 24 34 37,ai 6 38] (cR [ai 39 6,az 40 3 3,oO 41 (nN 3 [[.int .i64 0,.int .i64 0,.int .i64 0]] [(0,.tmp 40)]),lT 42 3 24 39 41,ai 6 42] (cR [ai 43 6,af 44 0,af 45 5,oO 46 (.slice (.sl 3) (aT 44) (some (aT 45)) none none),lT 47 3 24 43 46,ai 4 47] .ret))))))⟩
theorem Vo:bq Tryz.f33 aa7=some aa7:=by kernel_rfl
def RH:ax:=⟨[11,21,700004,700007],[2,3,4,7,999999],[],22,2,[.cell 4 true 31,.tmp 5],cR [oO 2 (.boxL (aT 0)),oO 3 (.boxL (aT 1)),oO 4 (.allocL [.int .i64 0,.int .i64 0,.int .i64 0,.int .i64 0,.int .i64 0,.int .i64 0,.int .i64 0,.str [],.ae,.int .i64 0,.int .i64 0,.int .i64 0,.int .i64 0,.ae,.int .i64 0,.int .i64 0,.int .i64 0,.int .i64 0,.int .i64 0,.int .i64 0,.int .i64 0,.int .i64 0,.int .i64 0,.int .i64 0,.int .i64 0,.int .i64 0,.ae,.ae,.ae,.int .i64 0,.ae]),dw 5 qB] (.seq (cR [cd 8 1 2,aP 9 1 8,cU 10 .sl 9,aQ 11 (aI 0)] (.block 0 (.loop (cR [bC 12 .lss 11 10] (.seq (cY 12 .skip (.exit 0)) (.seq (.block 1 (cR [da 13 31 9 11,az 14 31 13,oO 7 (.allocL [.int .i64 0,.int .i64 0,.int .i64 0,.int .i64 0,.int .i64 0,.int .i64 0,.int .i64 0,.str [],.ae,.int .i64 0,.int .i64 0,.int .i64 0,.int .i64 0,.ae,.int .i64 0,.int .i64 0,.int .i64 0,.int .i64 0,.int .i64 0,.int .i64 0,.int .i64 0,.int .i64 0,.int .i64 0,.int .i64 0,.int .i64 0,.int .i64 0,.ae,.ae,.ae,.int .i64 0,.ae]),fK 31 7 14] (cR [cd 15 0 7,az 16 3 15,az 17 3 3,oO 18 (.bin .eql (.flat [.i,.i,.i]) (aT 16) (aT 17))] (cY 18 (cR [az 19 31 7,fK 31 4 19,dw 5 Bp] .ret) .skip)))) (.region false [aM 20 .add 11 1,ai 11 20]))))))) (cR [oO 21 (.build [.int .i64 0,.int .i64 0,.int .i64 0,.int .i64 0,.int .i64 0,.int .i64 0,.int .i64 0,.str [],.ae,.int .i64 0,.int .i64 0,.int .i64 0,.int .i64 0,.ae,.int .i64 0,.int .i64 0,.int .i64 0,.int .i64 0,.int .i64 0,.int .i64 0,.int .i64 0,.int .i64 0,.int .i64 0,.int .i64 0,.int .i64 0,.int .i64 0,.ae,.ae,.ae,.int .i64 0,.ae] []),fK 31 4 21,dw 5 qB] .ret))⟩
theorem Vp:bq Tryz.f34 RH=some RH:=by kernel_rfl
def RI:ax:=⟨[5,13],[999999],[],26,2,[.tmp 4],cR [dw 4 qB] (.seq (cR [af 6 0,cU 7 .sl 6,af 8 1,cU 9 .sl 8,bC 10 .neq 7 9] (cY 10 (cR [dw 4 qB] .ret) .skip)) (.seq (cR [af 11 0,cU 12 .sl 11,aQ 13 (aI 0)] (.block 0 (.loop (cR [bC 14 .lss 13 12] (.seq (cY 14 .skip (.exit 0)) (.seq (.block 1 (cR [af 15 13,ai 5 15] (.seq (.region true [af 16 0,af 17 5,da 18 3 16 17,az 19 3 18,af 20 1,af 21 5,da 22 3 20 21,az 23 3 22,oO 24 (.bin .neq (.flat [.i,.i,.i]) (aT 19) (aT 23))]) (cY 24 (cR [dw 4 qB] .ret) .skip)))) (.region false [aM 25 .add 13 1,ai 13 25]))))))) (cR [dw 4 Bp] .ret)))⟩
theorem Vq:bq Tryz.f35 RI=some RI:=by kernel_rfl
def aa8:ax:=⟨[6,27,700004],[2,3,4],[],28,2,[.cell 4 true 31,.tmp 5],cR [oO 2 (.boxL (aT 0)),oO 3 (.boxL (aT 1)),oO 4 (.allocL [.int .i64 0,.int .i64 0,.int .i64 0,.int .i64 0,.int .i64 0,.int .i64 0,.int .i64 0,.str [],.ae,.int .i64 0,.int .i64 0,.int .i64 0,.int .i64 0,.ae,.int .i64 0,.int .i64 0,.int .i64 0,.int .i64 0,.int .i64 0,.int .i64 0,.int .i64 0,.int .i64 0,.int .i64 0,.int .i64 0,.int .i64 0,.int .i64 0,.ae,.ae,.ae,.int .i64 0,.ae]),dw 5 qB] (.seq (cR [aQ 6 (aI 0)] (.block 0 (.loop (.seq (cR [af 7 6,cd 8 1 2,aP 9 1 8,cU 10 .sl 9,bC 11 .lss 7 10] (cY 11 .skip (.exit 0))) (.seq (.block 1 (.seq (.region true [cd 14 1 2,aP 15 1 14,af 16 6,da 17 31 15 16,cd 18 0 17,az 19 3 18,az 20 3 3,oO 21 (.bin .eql (.flat [.i,.i,.i]) (aT 19) (aT 20))]) (cY 21 (cR [cd 22 1 2,aP 23 1 22,af 24 6,da 25 31 23 24,az 26 31 25,fK 31 4 26,dw 5 Bp] .ret) .skip))) (.region false [af 12 6,aM 13 .add 12 1,ai 6 13])))))) (cR [oO 27 (.build [.int .i64 0,.int .i64 0,.int .i64 0,.int .i64 0,.int .i64 0,.int .i64 0,.int .i64 0,.str [],.ae,.int .i64 0,.int .i64 0,.int .i64 0,.int .i64 0,.ae,.int .i64 0,.int .i64 0,.int .i64 0,.int .i64 0,.int .i64 0,.int .i64 0,.int .i64 0,.int .i64 0,.int .i64 0,.int .i64 0,.int .i64 0,.int .i64 0,.ae,.ae,.ae,.int .i64 0,.ae] []),fK 31 4 27,dw 5 qB] .ret))⟩
theorem Vs:bq Tryz.f36 aa8=some aa8:=by kernel_rfl
noncomputable def aa9:ax:=cD [4,700002] [2,999999] [] Tryz.f37
theorem Vt:bq Tryz.f37 aa9=some aa9:=by kernel_rfl
noncomputable def aa':ax:=cD [15,23,24,700006] [6,999999] [] Tryz.f38
theorem Vu:bq Tryz.f38 aa'=some aa':=by kernel_rfl
noncomputable def aba:ax:=cD [5,7,8,10,14,15,38,56,89,23,27,33,48,64,102,700004,700006,700009,700012,700013] [2,3,4,6,9,12,13,999999] [] Tryz.f39
theorem Vv:bq Tryz.f39 aba=some aba:=by kernel_rfl
noncomputable def abb:ax:=cD [5] [] [] Tryz.f40
theorem Vw:bq Tryz.f40 abb=some abb:=by kernel_rfl
def RL:ax:=⟨[0,4],[],[],13,2,[.tmp 4],cR [aQ 4 (aI 0)] (.seq (cR [af 5 0,aM 6 .lss 5 0] (cY 6 (.region false [af 7 0,aM 8 .add 7 1,oO 9 (.un .neg (aT 8)),ai 0 9]) .skip)) (cR [af 10 0,af 11 1,bC 12 .rem 10 11,ai 4 12] .ret))⟩
theorem Vx:bq Tryz.f41 RL=some RL:=by kernel_rfl
def RM:ax:=⟨[4,700002],[1,2],[777777],5,1,[.cell 2 true 5],cR [oO 1 (.boxL (aT 0)),oO 2 (.allocL [.int .i64 0,.int .i64 0,.int .i64 0,.int .i64 0,.ae])] (cR [az 3 3 1,oO 4 (.build [.int .i64 0,.int .i64 0,.int .i64 0,.int .i64 0,.ae] [(0,1,.cg (.int .i64 3)),(1,3,.tmp 3)]),fK 5 2 4] .ret)⟩
theorem Vy:bq Tryz.f42 RM=some RM:=by kernel_rfl
def I3:ax:=⟨[8,9,10,16],[],[777777],24,4,[.tmp 8],cR [aQ 8 (.cg (.slice [] true))] (cR [aQ 9 (.cg (.slice [] true))] (.seq (cR [aQ 10 (aI 0)] (.block 0 (.loop (.seq (cR [af 11 10,af 12 1,bC 13 .lss 11 12] (cY 13 .skip (.exit 0))) (.seq (.block 1 (.region false [ai 16 9,af 17 0,af 18 2,af 19 3,fq 20 22 17 18 19,oO 21 (nN 15 [[.int .i64 0,.int .i64 0,.int .i64 0,.int .i64 0,.int .i64 0,.int .i64 0,.int .i64 0,.int .i64 0,.int .i64 0,.int .i64 0,.int .i64 0,.int .i64 0,.slice [] false,.slice [] false,.slice [] false]] [(0,.tmp 20)]),lT 22 15 168 16 21,ai 9 22])) (.region false [af 14 10,aM 15 .add 14 1,ai 10 15])))))) (cR [af 23 9,ai 8 23] .ret)))⟩
theorem Vz:bq Tryz.f43 I3=some I3:=by kernel_rfl
def yg:ax:=⟨[11,12,60,87,16,69,700008,700009,700010],[8,9,10,77,102],[777777],105,4,[.cell 8 true 15],cR [oO 8 (.allocL [.int .i64 0,.int .i64 0,.int .i64 0,.int .i64 0,.int .i64 0,.int .i64 0,.int .i64 0,.int .i64 0,.int .i64 0,.int .i64 0,.int .i64 0,.int .i64 0,.ae,.ae,.ae])] (cR [af 13 0,dN 14 16 13,af 15 1,oO 16 (.build [.int .i64 0,.int .i64 0,.int .i64 0,.int .i64 0,.int .i64 0,.int .i64 0,.int .i64 0,.int .i64 0,.int .i64 0,.int .i64 0,.int .i64 0,.int .i64 0,.ae,.ae,.ae] [(0,3,.tmp 14),(3,1,.tmp 15)]),oO 9 (.allocL [.int .i64 0,.int .i64 0,.int .i64 0,.int .i64 0,.int .i64 0,.int .i64 0,.int .i64 0,.int .i64 0,.int .i64 0,.int .i64 0,.int .i64 0,.int .i64 0,.ae,.ae,.ae]),fK 15 9 16] (.seq (cR [af 17 1,aM 18 .eql 17 6] (cY 18 (cR [oO 19 (nN 1 [[.str []]] [(0,.cg (.str [117]))]),cd 20 14 9,fK 1 20 19] (cR [af 21 0,af 22 2,af 23 3,fq 24 22 21 22 23,af 25 0,af 26 2,kb 9 9,cd 27 0 9,kb 9 27,az 28 3 27,fb 29 21 [aT 26,aS [117],aT 28,aI 0],af 30 3,fq 31 22 25 29 30,oO 32 (nN 15 [[.int .i64 0,.int .i64 0,.int .i64 0,.int .i64 0,.int .i64 0,.int .i64 0,.int .i64 0,.int .i64 0,.int .i64 0,.int .i64 0,.int .i64 0,.int .i64 0,.slice [] false,.slice [] false,.slice [] false],[.int .i64 0,.int .i64 0,.int .i64 0,.int .i64 0,.int .i64 0,.int .i64 0,.int .i64 0,.int .i64 0,.int .i64 0,.int .i64 0,.int .i64 0,.int .i64 0,.slice [] false,.slice [] false,.slice [] false]] [(0,.tmp 24),(1,.tmp 31)]),kb 9 9,cd 33 13 9,kb 9 33,fK 1 33 32] (cR [az 34 15 9,fK 15 8 34] .ret))) .skip)) (.seq (cR [af 35 1,aM 36 .eql 35 12] (cY 36 (cR [oO 37 (nN 1 [[.str []],[.str []]] [(0,.cg (.str [120])),(1,.cg (.str [97,99,99]))]),cd 38 14 9,fK 1 38 37] (cR [af 39 0,af 40 2,af 41 3,fq 42 22 39 40 41,af 43 0,af 44 2,af 45 3,fq 46 22 43 44 45,af 47 0,af 48 2,kb 9 9,cd 49 0 9,kb 9 49,az 50 3 49,fb 51 21 [aT 48,aS [120],aT 50,aI 0],kb 9 9,cd 52 0 9,kb 9 52,az 53 3 52,fb 54 21 [aT 51,aS [97,99,99],aT 53,aI 1],af 55 3,fq 56 22 47 54 55,oO 57 (nN 15 [[.int .i64 0,.int .i64 0,.int .i64 0,.int .i64 0,.int .i64 0,.int .i64 0,.int .i64 0,.int .i64 0,.int .i64 0,.int .i64 0,.int .i64 0,.int .i64 0,.slice [] false,.slice [] false,.slice [] false],[.int .i64 0,.int .i64 0,.int .i64 0,.int .i64 0,.int .i64 0,.int .i64 0,.int .i64 0,.int .i64 0,.int .i64 0,.int .i64 0,.int .i64 0,.int .i64 0,.slice [] false,.slice [] false,.slice [] false],[.int .i64 0,.int .i64 0,.int .i64 0,.int .i64 0,.int .i64 0,.int .i64 0,.int .i64 0,.int .i64 0,.int .i64 0,.int .i64 0,.int .i64 0,.int .i64 0,.slice [] false,.slice [] false,.slice [] false]] [(0,.tmp 42),(1,.tmp 46),(2,.tmp 56)]),kb 9 9,cd 58 13 9,kb 9 58,fK 1 58 57] (cR [az 59 15 9,fK 15 8 59] .ret))) .skip)) (cR [af 61 0,fb 62 58 [aT 61,aI 1,aI 1],ai 60 62,ia 63 60 0,ia 64 60 1,oO 10 (.allocL [.int .i64 0,.int .i64 0,.int .i64 0,.int .i64 0,.int .i64 0,.int .i64 0,.int .i64 0,.str [],.ae,.int .i64 0,.int .i64 0,.int .i64 0,.int .i64 0,.ae,.int .i64 0,.int .i64 0,.int .i64 0,.int .i64 0,.int .i64 0,.int .i64 0,.int .i64 0,.int .i64 0,.int .i64 0,.int .i64 0,.int .i64 0,.int .i64 0,.ae,.ae,.ae,.int .i64 0,.ae]),fK 31 10 63,ai 11 64] (.seq (cR [af 65 11,oO 66 (.un .not (aT 65))] (cY 66 (cR [cd 67 0 9,az 68 3 67,oO 69 (.build [.int .i64 0,.int .i64 0,.int .i64 0,.int .i64 0,.int .i64 0,.int .i64 0,.int .i64 0,.int .i64 0,.int .i64 0,.int .i64 0,.int .i64 0,.int .i64 0,.ae,.ae,.ae] [(0,3,.tmp 68),(3,1,.cg (.int .i64 0)),(4,1,.cg (.int .i64 7))]),fK 15 8 69] .ret) .skip)) (cR [cd 70 0 10,az 71 3 70,cd 72 5 9,fK 3 72 71] (cR [af 73 0,af 74 2,af 75 3,fq 76 22 73 74 75,oO 77 (.lS 15 [[.int .i64 0,.int .i64 0,.int .i64 0,.int .i64 0,.int .i64 0,.int .i64 0,.int .i64 0,.int .i64 0,.int .i64 0,.int .i64 0,.int .i64 0,.int .i64 0,.slice [] false,.slice [] false,.slice [] false]] [(0,.tmp 76)]),cd 78 13 9,fK 1 78 77] (.seq (cR [aQ 12 (aI 0)] (.block 0 (.loop (.seq (cR [af 79 12,cd 80 8 10,aP 81 1 80,cU 82 .sl 81,bC 83 .lss 79 82] (cY 83 .skip (.exit 0))) (.seq (.block 1 (cR [cd 86 14 9,oO 87 (.load true false 1 (aT 86)),oO 88 (nN 1 [[.str []]] [(0,.cg (.str [118]))]),lT 89 1 16 87 88,cd 90 14 9,fK 1 90 89] (.region false [kb 9 9,cd 91 13 9,kb 9 91,aP 92 1 91,af 93 0,af 94 2,kb 9 9,cd 95 0 9,kb 9 95,az 96 3 95,af 97 12,fb 98 21 [aT 94,aS [118],aT 96,aT 97],af 99 3,fq 100 22 93 98 99,oO 101 (nN 15 [[.int .i64 0,.int .i64 0,.int .i64 0,.int .i64 0,.int .i64 0,.int .i64 0,.int .i64 0,.int .i64 0,.int .i64 0,.int .i64 0,.int .i64 0,.int .i64 0,.slice [] false,.slice [] false,.slice [] false]] [(0,.tmp 100)]),oO 102 (.appendO 15 168 (aT 92) (aT 101)),kb 9 9,cd 103 13 9,kb 9 103,fK 1 103 102]))) (.region false [af 84 12,aM 85 .add 84 1,ai 12 85])))))) (cR [az 104 15 9,fK 15 8 104] .ret)))))))))⟩
theorem VA:bq Tryz.f44 yg=some yg:=by kernel_rfl
def Cv:ax:=⟨[10,11,13,26,43,17,37,700008,700009,700012],[8,9,12],[777777],68,4,[.cell 8 true 15],cR [oO 8 (.allocL [.int .i64 0,.int .i64 0,.int .i64 0,.int .i64 0,.int .i64 0,.int .i64 0,.int .i64 0,.int .i64 0,.int .i64 0,.int .i64 0,.int .i64 0,.int .i64 0,.ae,.ae,.ae])] (cR [af 14 0,dN 15 16 14,af 16 1,oO 17 (.build [.int .i64 0,.int .i64 0,.int .i64 0,.int .i64 0,.int .i64 0,.int .i64 0,.int .i64 0,.int .i64 0,.int .i64 0,.int .i64 0,.int .i64 0,.int .i64 0,.ae,.ae,.ae] [(0,3,.tmp 15),(3,1,.tmp 16)]),oO 9 (.allocL [.int .i64 0,.int .i64 0,.int .i64 0,.int .i64 0,.int .i64 0,.int .i64 0,.int .i64 0,.int .i64 0,.int .i64 0,.int .i64 0,.int .i64 0,.int .i64 0,.ae,.ae,.ae]),fK 15 9 17] (cR [oO 18 (nN 1 [[.int .i64 0],[.int .i64 0],[.int .i64 0],[.int .i64 0]] [(0,.cg (.int .i64 2)),(1,.cg (.int .i64 0)),(2,.cg (.int .i64 0)),(3,.cg (.int .i64 1))]),af 19 1,dN 20 59 19,da 21 1 18 20,aP 22 1 21,ai 10 22] (cR [af 23 10,ai 11 23] (.seq (cR [af 24 10,aM 25 .eql 24 2] (cY 25 (.region false [aQ 11 (aI 5)]) .skip)) (cR [af 27 0,af 28 10,af 29 11,fq 30 58 27 28 29,ai 26 30,ia 31 26 0,ia 32 26 1,oO 12 (.allocL [.int .i64 0,.int .i64 0,.int .i64 0,.int .i64 0,.int .i64 0,.int .i64 0,.int .i64 0,.str [],.ae,.int .i64 0,.int .i64 0,.int .i64 0,.int .i64 0,.ae,.int .i64 0,.int .i64 0,.int .i64 0,.int .i64 0,.int .i64 0,.int .i64 0,.int .i64 0,.int .i64 0,.int .i64 0,.int .i64 0,.int .i64 0,.int .i64 0,.ae,.ae,.ae,.int .i64 0,.ae]),fK 31 12 31,ai 13 32] (.seq (cR [af 33 13,oO 34 (.un .not (aT 33))] (cY 34 (cR [cd 35 0 9,az 36 3 35,oO 37 (.build [.int .i64 0,.int .i64 0,.int .i64 0,.int .i64 0,.int .i64 0,.int .i64 0,.int .i64 0,.int .i64 0,.int .i64 0,.int .i64 0,.int .i64 0,.int .i64 0,.ae,.ae,.ae] [(0,3,.tmp 36),(3,1,.cg (.int .i64 1)),(4,1,.cg (.int .i64 1))]),fK 15 8 37] .ret) .skip)) (cR [cd 38 0 12,az 39 3 38,cd 40 5 9,fK 3 40 39] (.seq (cR [af 41 1,aM 42 .eql 41 8,ai 43 42,gQ 44 43 (dI 1),gQ 45 43 (iZ .eql (aT 44) (aI 9)),St 46 43 45] (cY 46 (cR [af 47 0,cd 48 8 12,aP 49 1 48,cU 50 .sl 49,dv 51 17 47 50,cd 52 4 9,fK 1 52 51] (cR [af 53 0,af 54 2,af 55 3,fb 56 43 [aT 53,aI 1,aT 54,aT 55],cd 57 13 9,fK 1 57 56] (cR [az 58 15 9,fK 15 8 58] .ret))) .skip)) (cR [af 59 0,cd 60 8 12,aP 61 1 60,cU 62 .sl 61,af 63 2,af 64 3,nC 65 43 59 62 63 64,cd 66 13 9,fK 1 66 65] (cR [az 67 15 9,fK 15 8 67] .ret))))))))))⟩
theorem VB:bq Tryz.f45 Cv=some Cv:=by kernel_rfl
def RN:ax:=⟨[4,5,7],[999999],[],23,2,[.tmp 4,.tmp 5,.tmp 6],cR [aQ 4 (aS []),aQ 5 (aS []),dw 6 qB] (.seq (cR [af 8 0,af 9 1,dv 10 60 8 9,ai 7 10] (cR [af 11 7,aM 12 .geq 11 0] (cY 12 (cR [af 13 0,af 14 7,oO 15 (.slice .str (aT 13) none (some (aT 14)) none),af 16 0,af 17 7,af 18 1,dF 18,cU 19 .str 18,bC 20 .add 17 19,oO 21 (.slice .str (aT 16) (some (aT 20)) none none),ai 4 15,ai 5 21,dw 6 Bp] .ret) .skip))) (cR [af 22 0,ai 4 22,aQ 5 (aS []),dw 6 qB] .ret))⟩
theorem VC:bq Tryz.f46 RN=some RN:=by kernel_rfl
def RO:ax:=⟨[4],[999999],[],9,2,[.tmp 4],cR [oO 3 (.box 31 (aT 1)),aQ 4 qB] (cR [af 5 0,az 6 3 3,dv 7 61 5 6,aM 8 .geq 7 0,ai 4 8] .ret)⟩
theorem VD:bq Tryz.f47 RO=some RO:=by kernel_rfl
def I4:ax:=⟨[4],[999999],[],14,2,[],cR [af 5 0,cU 6 .sl 5,ai 4 6] (.region false [af 7 0,af 8 4,af 9 4,oO 10 (.conv (.toInt IntKind.u64) (aT 9)),dN 11 63 10,af 12 1,fb 13 62 [aT 7,aI 0,aT 8,aT 11,aT 12]])⟩
theorem VE:bq Tryz.f48 I4=some I4:=by kernel_rfl
def RP:ax:=⟨[4],[2,3,999999],[],22,2,[.tmp 4],cR [oO 2 (.boxL (aT 0)),oO 3 (.boxL (aT 1)),aQ 4 (aI 0)] (cR [kb 2 2,cd 5 0 2,kb 2 5,aP 6 1 5,kb 3 3,cd 7 0 3,kb 3 7,aP 8 1 7,dv 9 65 6 8,kb 2 2,cd 10 1 2,kb 2 10,aP 11 1 10,kb 3 3,cd 12 1 3,kb 3 12,aP 13 1 12,dv 14 65 11 13,kb 2 2,cd 15 2 2,kb 2 15,aP 16 1 15,kb 3 3,cd 17 2 3,kb 3 17,aP 18 1 17,dv 19 65 16 18,oO 20 (nN 1 [[.int .i64 0],[.int .i64 0],[.int .i64 0]] [(0,.tmp 9),(1,.tmp 14),(2,.tmp 19)]),dN 21 64 20,ai 4 21] .ret)⟩
theorem VF:bq Tryz.f49 RP=some RP:=by kernel_rfl
def RR:ax:=⟨[4,5,8],[999999],[],19,2,[.tmp 4],cR [aQ 4 (aI 0)] (.seq (cR [af 6 0,cU 7 .sl 6,aQ 8 (aI 0)] (.block 0 (.loop (cR [bC 9 .lss 8 7] (.seq (cY 9 .skip (.exit 0)) (.seq (.block 1 (cR [af 10 8,ai 5 10] (cR [af 11 1,af 12 0,af 13 5,da 14 3 12 13,az 15 3 14,oO 16 (.call (aT 11) [aT 15])] (cY 16 (cR [af 17 5,ai 4 17] .ret) .skip)))) (.region false [aM 18 .add 8 1,ai 8 18]))))))) (cR [aQ 4 (aI (-1))] .ret))⟩
theorem VG:bq Tryz.f50 RR=some RR:=by kernel_rfl
def abc:ax:=⟨[4],[2,3],[],30,2,[.tmp 4],cR [oO 2 (.boxL (aT 0)),oO 3 (.boxL (aT 1)),aQ 4 qB] (.seq (cR [cd 5 0 2,aP 6 1 5,cd 7 0 3,aP 8 1 7,bC 9 .neq 6 8] (cY 9 (cR [cd 10 0 2,aP 11 1 10,cd 12 0 3,aP 13 1 12,bC 14 .lss 11 13,ai 4 14] .ret) .skip)) (.seq (cR [cd 15 1 2,aP 16 1 15,cd 17 1 3,aP 18 1 17,bC 19 .neq 16 18] (cY 19 (cR [cd 20 1 2,aP 21 1 20,cd 22 1 3,aP 23 1 22,bC 24 .lss 21 23,ai 4 24] .ret) .skip)) (cR [cd 25 2 2,aP 26 1 25,cd 27 2 3,aP 28 1 27,bC 29 .lss 26 28,ai 4 29] .ret)))⟩
theorem VH:bq Tryz.f51 abc=some abc:=by kernel_rfl
noncomputable def abd:ax:=cD [6,7,12,17,21,35,48,52,56,11,16,34,64,69,700004,700005] [3,4,5,999999] [] Tryz.f52
theorem VI:bq Tryz.f52 abd=some abd:=by kernel_rfl
noncomputable def abe:ax:=cD [2,5,9,13] [999999] [] Tryz.f53
theorem VJ:bq Tryz.f53 abe=some abe:=by kernel_rfl
noncomputable def abf:ax:=cD [8,10,11,14,16,17,18,19,21,23,24,25,33,49,56,58,74,81,94,105,110,115,125,159,188,199,206,43,46,64,174,180,700006,700007,700009,700013,700015,700020] [4,6,7,9,13,15,20,999999] [143] Tryz.f54
theorem VK:bq Tryz.f54 abf=some abf:=by kernel_rfl
noncomputable def abg:ax:=cD [2,3,4,9,34,59,83,93,100,106,111,136,14,700005] [5,999999] [] Tryz.f55
theorem VL:bq Tryz.f55 abg=some abg:=by kernel_rfl
noncomputable def abh:ax:=cD [4,5,6,7,8,9,10,11,20,25,40,50,55,60,68,31] [999999] [] Tryz.f56
theorem VM:bq Tryz.f56 abh=some abh:=by kernel_rfl
end Go.Proofs.YthbncinhhdogpaaGreatDoor
namespace Go.Abs
section
def cu.Le(f g:cu):Prop:=∀ a b c r,f a b c=some r->g a b c=some r
section
variable {G:Nat->List AV}{f g:cu}
theorem rM{α:Type}{b:Bool}{x y:Option α}{r:α}(h:cond b x none=some r)(Ku:x=some r->y=some r):cond b y none=some r:=by
 cases b
 ·cases h
 ·exact Ku h
theorem LQ(h:cu.Le f g){s:AS}{o:fc}{r:AV × Option AS}(he:aq G f s o=some r):aq G g s o=some r:=by
 cases o with
 | call fn args =>
  simp only[aq] at he ⊢
  split at he
  ·refine rM he fun he=>?_
   simp only[aoO] at he ⊢
   obtain⟨r0,h0,rfl⟩:=he
   exact⟨r0,h _ _ _ _ h0,rfl⟩
  ·cases he
 | tK fn pre x post =>
  simp only[aq] at he ⊢
  refine rM he fun he=>?_
  simp only[aoP,aoO] at he ⊢
  obtain⟨p,hp,r0,h0,he⟩:=he
  exact⟨p,hp,r0,h _ _ _ _ h0,he⟩
 | tJ fn args =>
  simp only[aq] at he ⊢
  split at he
  ·refine rM he fun he=>?_
   simp only[aoP] at he ⊢
   obtain⟨r0,h0,he⟩:=he
   exact⟨r0,h _ _ _ _ h0,he⟩
  ·cases he
 | _=>exact he
theorem vP(h:cu.Le f g){d:Bool}{s:AS}{o:aj}{r:AS}(he:bt G f d s o=some r):bt G g d s o=some r:=by
 have key:∀ r,((aq G f s o.op).bind fun r=>match r.2 with
   | none=>cond (d&&(aO r.1).isSome) none (some (s.bM o.dst r.1))
   | some s'=>cond d none (some (s'.bM o.dst r.1)))=some r->((aq G g s o.op).bind fun r=>match r.2 with
   | none=>cond (d&&(aO r.1).isSome) none (some (s.bM o.dst r.1))
   | some s'=>cond d none (some (s'.bM o.dst r.1)))=some r:=by
  intro r hr
  simp only[aoP] at hr ⊢
  obtain⟨x,h1,h2⟩:=hr
  exact⟨x,LQ h h1,h2⟩
 unfold bt at he ⊢
 simp only at he ⊢
 split at he
 ·exact key _ he
 ·split at he
  ·rename_i b hb
   cases hbw:(b==_) with
   | true=>rw[hbw] at he;exact key _ he
   | false=>rw[hbw] at he;exact he
  ·exact he
  ·cases he
theorem sZ(h:cu.Le f g){d:Bool} : ∀ {os:List aj} {s r:AS},bK G f d os s=some r->bK G g d os s=some r
 | [],_,_,he=>he
 | o :: os,s,r,he=>by
  simp only[bK,aoP] at he ⊢
  obtain⟨x,h1,h2⟩:=he
  exact⟨x,vP h h1,sZ h h2⟩
theorem rT{F F' : AS->Option (bp × AS)}(h:∀ s r,F s=some r->F' s=some r):∀ {n m:Nat} {s:AS} {r:bp × AS},n<=m->iter F n s=some r->iter F' m s=some r
 | 0,_,_,_,_,he=>by cases he
 | n+1,0,_,_,hn,_=>by omega
 | n+1,m+1,s,r,hn,he=>by
  simp only[iter,aoP] at he ⊢
  obtain⟨x,h1,h2⟩:=he
  refine⟨x,h _ _ h1,?_⟩
  split at h2
  ·exact rT h (by omega) h2
  ·exact h2
theorem jk(h:cu.Le f g){n m:Nat}(hn:n<=m):∀ {c:bJ} {s:AS} {r:bp × AS},im G f n c s=some r->im G g m c s=some r
 | .skip,_,_,he=>he
 | .exit _,_,_,he=>he
 | .ret,_,_,he=>he
 | .tG _ _ _,_,_,he=>by simp[im] at he
 | .region d os,s,r,he=>by
  simp only[im,aoO] at he ⊢
  obtain⟨x,h1,h2⟩:=he
  exact⟨x,sZ h h1,h2⟩
 | .seq a b,s,r,he=>by
  simp only[im,aoP] at he ⊢
  obtain⟨x,h1,h2⟩:=he
  refine⟨x,jk h hn h1,?_⟩
  split at h2
  ·exact jk h hn h2
  ·exact h2
 | .cond c a b,s,r,he=>by
  simp only[im] at he ⊢
  split at he
  ·rename_i t ht
   cases t
   ·exact jk h hn (c:=b) he
   ·exact jk h hn (c:=a) he
  ·cases he
 | .block id a,s,r,he=>by
  simp only[im,aoO] at he ⊢
  obtain⟨x,h1,h2⟩:=he
  exact⟨x,jk h hn h1,h2⟩
 | .loop a,s,r,he=>by
  simp only[im] at he ⊢
  exact rT (fun s r h'=>jk h hn h') hn he
theorem Bg(h:cu.Le f g){n m:Nat}(hn:n<=m){fn:ax}{args:List AV}{H:ah}{r:AV × Option fQ}(he:tv G f n fn args H=some r):tv G g m fn args H=some r:=by
 unfold tv at he ⊢
 refine rM he fun he=>?_
 simp only[aoP] at he ⊢
 obtain⟨x,h1,h2⟩:=he
 exact⟨x,jk h hn h1,h2⟩
end
theorem Fj{A:AP} : ∀ n,cu.Le (zd A n) (zd A (n+1))
 | 0=>fun a b c r h=>by cases h
 | n+1=>fun a b c r h=>by
  simp only[zd] at h ⊢
  cases ho:A.ov a with
  | some g=>rw[ho] at h;exact h
  | none =>
   rw[ho] at h
   cases hf:A.fns a with
   | none=>rw[hf] at h;cases h
   | some fn=>rw[hf] at h;exact Bg (Fj n) (by omega) h
theorem lL{A:AP}{n m:Nat}(h:n<=m):cu.Le (zd A n) (zd A m):=by
 induction h with
 | refl=>exact fun _ _ _ _ h=>h
 | step _ ih=>exact fun a b c r hr=>Fj _ a b c r (ih a b c r hr)
noncomputable def aE(A:AP):cu:=fun f args H=>open Classical in if h:∃ n r,zd A n f args H=some r then some (Classical.choose (aqB h)) else none
theorem lJ{A:AP}{f:FuncId}{args:List AV}{H:ah}{r:AV × Option fQ} : aE A f args H=some r↔∃ n,zd A n f args H=some r:=by
 unfold aE
 constructor
 ·intro h
  split at h
  ·rename_i hx
   have:=aqB (aqB hx)
   injection h with h
   rw[h] at this
   exact⟨_,this⟩
  ·cases h
 ·rintro ⟨n,hn⟩
  have hx:∃ n r,zd A n f args H=some r:=⟨n,r,hn⟩
  rw[dif_pos hx]
  have h1:=aqB (aqB hx)
  have h2:=lL (aqL n (Classical.choose hx)) _ _ _ _ hn
  have h3:=lL (aqA n (Classical.choose hx)) _ _ _ _ h1
  rw[h2] at h3
  injection h3 with h3
  rw[h3]
section
variable {A:AP}
theorem OQ{s:AS}{o:fc}{r:AV × Option AS}(he:aq A.aN (aE A) s o=some r):∃ n,aq A.aN (zd A n) s o=some r:=by
 cases o with
 | call fn args =>
  simp only[aq] at he ⊢
  split at he
  ·rename_i n fs cs hf
   cases hb:((args.map fun a=>a.addr A.aN s.T).all al) with
   | false=>rw[hb] at he;cases he
   | true =>
    rw[hb] at he
    simp only[cond_true,aoO] at he
    obtain⟨r0,h0,rfl⟩:=he
    obtain⟨k,hk⟩:=lJ.1 h0
    exact⟨k,by simp only[hk,cond_true,Option.map_some]⟩
  ·cases he
 | tK fn pre x post =>
  simp only[aq] at he ⊢
  cases hb:((pre.map fun a=>a.addr A.aN s.T).all al&&(post.map fun a=>a.addr A.aN s.T).all al) with
  | false=>rw[hb] at he;cases he
  | true =>
   rw[hb] at he
   simp only[cond_true,aoP,aoO] at he
   obtain⟨p,hp,r0,h0,he⟩:=he
   obtain⟨k,hk⟩:=lJ.1 h0
   exact⟨k,by simp only[hp,hk,cond_true,aoW,Option.map_some,he]⟩
 | tJ fn args =>
  simp only[aq] at he ⊢
  split at he
  ·rename_i n fs cs hf
   cases hb:((args.map fun a=>a.addr A.aN s.T).all al) with
   | false=>rw[hb] at he;cases he
   | true =>
    rw[hb] at he
    simp only[cond_true,aoP] at he
    obtain⟨r0,h0,he⟩:=he
    obtain⟨k,hk⟩:=lJ.1 h0
    exact⟨k,by simp only[hk,cond_true,aoW];exact he⟩
  ·cases he
 | _=>exact⟨0,he⟩
theorem Ib{d:Bool}{s:AS}{o:aj}{r:AS}(he:bt A.aN (aE A) d s o=some r):∃ n,bt A.aN (zd A n) d s o=some r:=by
 have key:∀ r,((aq A.aN (aE A) s o.op).bind fun r=>match r.2 with
   | none=>cond (d&&(aO r.1).isSome) none (some (s.bM o.dst r.1))
   | some s'=>cond d none (some (s'.bM o.dst r.1)))=some r->∃ n,((aq A.aN (zd A n) s o.op).bind fun r=>match r.2 with
   | none=>cond (d&&(aO r.1).isSome) none (some (s.bM o.dst r.1))
   | some s'=>cond d none (some (s'.bM o.dst r.1)))=some r:=by
  intro r hr
  simp only[aoP] at hr ⊢
  obtain⟨x,h1,h2⟩:=hr
  obtain⟨n,hn⟩:=OQ h1
  exact⟨n,x,hn,h2⟩
 unfold bt at he ⊢
 simp only at he ⊢
 split at he
 ·exact key _ he
 ·split at he
  ·rename_i b hb
   cases hbw:(b==_) with
   | true=>rw[hbw] at he;exact key _ he
   | false=>rw[hbw] at he;exact⟨0,he⟩
  ·exact⟨0,he⟩
  ·cases he
theorem Ar{d:Bool} : ∀ {os:List aj} {s r:AS},bK A.aN (aE A) d os s=some r->∃ n,bK A.aN (zd A n) d os s=some r
 | [],_,_,he=>⟨0,he⟩
 | o :: os,s,r,he=>by
  simp only[bK,aoP] at he ⊢
  obtain⟨x,h1,h2⟩:=he
  obtain⟨n,hn⟩:=Ib h1
  obtain⟨m,hm⟩:=Ar h2
  exact⟨max n m,x,vP (lL (aqL n m)) hn,sZ (lL (aqA n m)) hm⟩
theorem F4{F:AS->Option (bp × AS)}{F' : Nat->AS->Option (bp × AS)}(hm:∀ n m s r,n<=m->F' n s=some r->F' m s=some r)(h:∀ s r,F s=some r->∃ n,F' n s=some r) :
  ∀ {n:Nat} {s:AS} {r:bp × AS},iter F n s=some r->∃ m,iter (F' m) n s=some r
 | 0,_,_,he=>by cases he
 | n+1,s,r,he=>by
  simp only[iter,aoP] at he ⊢
  obtain⟨x,h1,h2⟩:=he
  obtain⟨m1,hm1⟩:=h _ _ h1
  split at h2
  ·obtain⟨m2,UK⟩:=F4 hm h h2
   refine⟨max m1 m2,x,hm _ _ _ _ (aqL _ _) hm1,?_⟩
   rename_i hx
   simp only[hx]
   exact rT (fun s r=>hm _ _ _ _ (aqA _ _)) (aoU _) UK
  ·rename_i hx
   refine⟨m1,x,hm1,?_⟩
   split
   ·rename_i nM;exact absurd nM hx
   ·exact h2
theorem pE{n:Nat} : ∀ {c:bJ} {s:AS} {r:bp × AS},im A.aN (aE A) n c s=some r->∃ m,im A.aN (zd A m) n c s=some r
 | .skip,_,_,he=>⟨0,he⟩
 | .exit _,_,_,he=>⟨0,he⟩
 | .ret,_,_,he=>⟨0,he⟩
 | .tG _ _ _,_,_,he=>by simp[im] at he
 | .region d os,s,r,he=>by
  simp only[im,aoO] at he ⊢
  obtain⟨x,h1,h2⟩:=he
  obtain⟨m,hm⟩:=Ar h1
  exact⟨m,x,hm,h2⟩
 | .seq a b,s,r,he=>by
  simp only[im,aoP] at he ⊢
  obtain⟨x,h1,h2⟩:=he
  obtain⟨m1,hm1⟩:=pE h1
  split at h2
  ·rename_i hx
   obtain⟨m2,UK⟩:=pE h2
   refine⟨max m1 m2,x,jk (lL (aqL _ _)) (aoU _) hm1,?_⟩
   simp only[hx]
   exact jk (lL (aqA _ _)) (aoU _) UK
  ·rename_i hx
   refine⟨m1,x,hm1,?_⟩
   split
   ·rename_i nM;exact absurd nM hx
   ·exact h2
 | .cond c a b,s,r,he=>by
  simp only[im] at he ⊢
  split at he
  ·rename_i t ht
   cases t
   ·exact pE (c:=b) he
   ·exact pE (c:=a) he
  ·cases he
 | .block id a,s,r,he=>by
  simp only[im,aoO] at he ⊢
  obtain⟨x,h1,h2⟩:=he
  obtain⟨m,hm⟩:=pE h1
  exact⟨m,x,hm,h2⟩
 | .loop a,s,r,he=>by
  simp only[im] at he ⊢
  exact F4 (F':=fun m=>im A.aN (zd A m) n a) (fun n' m s r hn h=>jk (lL hn) (aoU _) h) (fun s r h=>pE h) he
theorem SQ{n:Nat}{fn:ax}{args:List AV}{H:ah}{r:AV × Option fQ}(he:tv A.aN (aE A) n fn args H=some r):∃ m,tv A.aN (zd A m) n fn args H=some r:=by
 unfold tv at he ⊢
 cases hb:Nat.beq args.length fn.np with
 | false=>rw[hb] at he;cases he
 | true =>
  rw[hb] at he
  simp only[cond_true,aoP] at he ⊢
  obtain⟨x,h1,h2⟩:=he
  obtain⟨m,hm⟩:=pE h1
  exact⟨m,x,hm,h2⟩
theorem u1{f:FuncId}{fn:ax}(ho:A.ov f=none)(hf:A.fns f=some fn){n:Nat}{args:List AV}{H:ah}{r:AV × Option fQ}(h:tv A.aN (aE A) n fn args H=some r):aE A f args H=some r:=by
 obtain⟨m,hm⟩:=SQ h
 refine lJ.2 ⟨max m n+1,?_⟩
 simp only[zd,ho,hf]
 exact Bg (lL (aqL _ _)) (aqA _ _) hm
theorem xi{f:FuncId}{g:List AV->ah->Option (AV × Option fQ)}(ho:A.ov f=some g){args:List AV}{H:ah}{r:AV × Option fQ}(h:g args H=some r)(hn:args.all pV=true:=by rfl):aE A f args H=some r :=
 lJ.2 ⟨1,by simp only[zd,ho,hn,cond_true];exact h⟩
end
end
section
def W(A:AP)(c:bJ)(s:AS)(Q:bp->AS->Prop):Prop:=∃ n e s',im A.aN (aE A) n c s=some (e,s')/\Q e s'
def WO(A:AP)(d:Bool)(os:List aj)(s:AS)(Q:AS->Prop):Prop:=∃ s',bK A.aN (aE A) d os s=some s'/\Q s'
def bf{α:Type}(x:Option α)(K:α->Prop):Prop:=∃ s,x=some s/\K s
def DX(v:AV)(p q:AS->Prop)(s:AS):Prop:=∃ b,v=.bool b/\(b=true->p s)/\(b=false->q s)
def andThen(P:AS->Prop)(Q:bp->AS->Prop):bp->AS->Prop
 | .normal,s=>P s
 | e,s=>Q e s
def leave(id:Nat)(Q:bp->AS->Prop):bp->AS->Prop
 | .exit i,s=>Q (cond (Nat.beq i id) .normal (.exit i)) s
 | e,s=>Q e s
section
variable {A:AP}
theorem aB{α:Type}{s:α}{K:α->Prop} : bf (some s) K=K s:=by
 refine propext ⟨?_,fun h=>⟨s,rfl,h⟩⟩
 rintro ⟨s',h,hk⟩
 injection h with h
 rw[h];exact hk
theorem HS{p q:AS->Prop}{s:AS} : DX (.bool true) p q s=p s:=by
 refine propext ⟨?_,fun h=>⟨true,rfl,fun _=>h,fun hb=>Bool.noConfusion hb⟩⟩
 rintro ⟨b,h,h1,h2⟩
 injection h with h
 exact h1 h.symm
theorem DY{p q:AS->Prop}{s:AS} : DX (.bool false) p q s=q s:=by
 refine propext ⟨?_,fun hq=>⟨false,rfl,(fun hb=>Bool.noConfusion hb),fun _=>hq⟩⟩
 rintro ⟨b,h,h1,h2⟩
 injection h with h
 exact h2 h.symm
theorem Lt{P:Prop}{_:Decidable P}{p q:AS->Prop}{s:AS}(h1:P->p s)(h2:¬ P->q s):DX (.bool (decide P)) p q s :=
 ⟨_,rfl,fun h=>h1 (of_decide_eq_true h),fun h=>h2 (of_decide_eq_false h)⟩
theorem up{n m:Nat}(h:n<=m){c:bJ}{s:AS}{r:bp × AS}(he:im A.aN (aE A) n c s=some r):im A.aN (aE A) m c s=some r:=jk (fun _ _ _ _ h=>h) h he
theorem N1{s:AS}{Q:bp->AS->Prop} : W A .skip s Q=Q .normal s:=by
 refine propext ⟨?_,fun h=>⟨0,_,_,rfl,h⟩⟩
 rintro ⟨n,e,s',h,hq⟩
 simp only[im,aoQ,aoS] at h
 rw[h.1,h.2];exact hq
theorem Yt{s:AS}{Q:bp->AS->Prop} : W A .ret s Q=Q .ret s:=by
 refine propext ⟨?_,fun h=>⟨0,_,_,rfl,h⟩⟩
 rintro ⟨n,e,s',h,hq⟩
 simp only[im,aoQ,aoS] at h
 rw[h.1,h.2];exact hq
theorem NZ{i:Nat}{s:AS}{Q:bp->AS->Prop} : W A (.exit i) s Q=Q (.exit i) s:=by
 refine propext ⟨?_,fun h=>⟨0,_,_,rfl,h⟩⟩
 rintro ⟨n,e,s',h,hq⟩
 simp only[im,aoQ,aoS] at h
 rw[h.1,h.2];exact hq
theorem JY{a b:bJ}{s:AS}{Q:bp->AS->Prop} : W A (.seq a b) s Q=W A a s (andThen (fun s'=>W A b s' Q) Q):=by
 refine propext ⟨?_,?_⟩
 ·rintro ⟨n,e,s',h,hq⟩
  simp only[im,aoP] at h
  obtain⟨⟨e1,s1⟩,h1,h2⟩:=h
  refine⟨n,e1,s1,h1,?_⟩
  cases e1 with
  | normal=>exact⟨n,e,s',h2,hq⟩
  | _ =>
   simp only[aoQ,aoS] at h2
   obtain⟨rfl,rfl⟩:=h2
   exact hq
 ·rintro ⟨n,e,s',h,hq⟩
  cases e with
  | normal =>
   obtain⟨m,e2,s2,h2,hq⟩:=hq
   refine⟨max n m,e2,s2,?_,hq⟩
   simp only[im,up (aqL n m) h,aoW,up (aqA n m) h2]
  | exit i =>
   refine⟨n,_,s',?_,hq⟩
   simp only[im,h,aoW]
  | ret =>
   refine⟨n,_,s',?_,hq⟩
   simp only[im,h,aoW]
theorem JV{i:Nat}{a:bJ}{s:AS}{Q:bp->AS->Prop} : W A (.block i a) s Q=W A a s (leave i Q):=by
 refine propext ⟨?_,?_⟩
 ·rintro ⟨n,e,s',h,hq⟩
  simp only[im,aoO] at h
  obtain⟨⟨e1,s1⟩,h1,h2⟩:=h
  refine⟨n,e1,s1,h1,?_⟩
  cases e1<;>simp only[aoS] at h2<;>obtain⟨rfl,rfl⟩:=h2<;>exact hq
 ·rintro ⟨n,e,s',h,hq⟩
  cases e<;>exact⟨n,_,s',by simp only[im,h,Option.map_some],hq⟩
theorem NY{c:an}{a b:bJ}{s:AS}{Q:bp->AS->Prop} : W A (.cond c a b) s Q=DX (c.eval A.aN s.T) (fun s=>W A a s Q) (fun s=>W A b s Q) s:=by
 refine propext ⟨?_,?_⟩
 ·rintro ⟨n,e,s',h,hq⟩
  simp only[im] at h
  split at h
  ·rename_i t ht
   refine⟨t,ht,fun hb=>?_,fun hb=>?_⟩
   ·subst hb;exact⟨n,e,s',h,hq⟩
   ·subst hb;exact⟨n,e,s',h,hq⟩
  ·cases h
 ·rintro ⟨t,ht,h1,h2⟩
  cases t with
  | true =>
   obtain⟨n,e,s',h,hq⟩:=h1 rfl
   exact⟨n,e,s',by simp only[im,ht];exact h,hq⟩
  | false =>
   obtain⟨n,e,s',h,hq⟩:=h2 rfl
   exact⟨n,e,s',by simp only[im,ht];exact h,hq⟩
theorem w8{d:Bool}{os:List aj}{s:AS}{Q:bp->AS->Prop} : W A (.region d os) s Q=WO A d os s (Q .normal):=by
 refine propext ⟨?_,?_⟩
 ·rintro ⟨n,e,s',h,hq⟩
  simp only[im,aoO,aoS] at h
  obtain⟨s1,h1,rfl,rfl⟩:=h
  exact⟨s1,h1,hq⟩
 ·rintro ⟨s1,h1,hq⟩
  exact⟨0,.normal,s1,by simp only[im,h1,Option.map_some],hq⟩
theorem Zp{d:Bool}{s:AS}{Q:AS->Prop} : WO A d [] s Q=Q s:=by
 refine propext ⟨?_,fun h=>⟨s,rfl,h⟩⟩
 rintro ⟨s',h,hq⟩
 simp only[bK,aoQ] at h
 rw[h];exact hq
theorem ft{d:Bool}{o:aj}{os:List aj}{s:AS}{Q:AS->Prop} : WO A d (o :: os) s Q=bf (bt A.aN (aE A) d s o) fun s'=>WO A d os s' Q:=by
 refine propext ⟨?_,?_⟩
 ·rintro ⟨s',h,hq⟩
  simp only[bK,aoP] at h
  obtain⟨s1,h1,h2⟩:=h
  exact⟨s1,h1,s',h2,hq⟩
 ·rintro ⟨s1,h1,s',h2,hq⟩
  exact⟨s',by simp only[bK,h1,aoW,h2],hq⟩
theorem JW{a b:bJ}{s:AS}{Q:bp->AS->Prop}(R:AS->Prop)(h1:W A a s (andThen R Q))(h2:∀ s',R s'->W A b s' Q):W A (.seq a b) s Q:=by
 rw[JY]
 obtain⟨n,e,s',h,hq⟩:=h1
 exact⟨n,e,s',h,by cases e with|normal=>exact h2 s' hq|_=>exact hq⟩
theorem Hp{c:bJ}{s:AS}{Q Q' : bp->AS->Prop}(h:W A c s Q)(hq:∀ e s',Q e s'->Q' e s'):W A c s Q':=by
 obtain⟨n,e,s',h1,h2⟩:=h
 exact⟨n,e,s',h1,hq e s' h2⟩
theorem N0{a:bJ}{Q:bp->AS->Prop}(I:Nat->AS->Prop)(hI:∀ k s,I k s->W A a s (andThen (fun s'=>∃ k',k' < k/\I k' s') Q)):∀ k s,I k s->W A (.loop a) s Q:=by
 intro k
 induction k using Nat.strongRecOn with
 | _ k ih =>
  intro s hs
  obtain⟨n,e,s1,h1,hq⟩:=hI k s hs
  cases e with
  | normal =>
   obtain⟨k',hk,AL⟩:=hq
   obtain⟨m,e2,s2,h2,hq⟩:=ih k' hk s1 AL
   refine⟨max n m+1,e2,s2,?_,hq⟩
   simp only[im,iter] at h2 ⊢
   have h1':=up (A:=A) (show n<=max n m+1 by omega) h1
   rw[h1',aoW]
   have h2' : iter (im A.aN (aE A) (max n m+1) a) (max n m) s1=some (e2,s2) :=
    rT (fun s r h=>up (show m<=max n m+1 by omega) h) (aqA n m) h2
   exact h2'
  | exit i =>
   refine⟨n+1,_,s1,?_,hq⟩
   simp only[im,iter]
   rw[up (A:=A) (show n<=n+1 by omega) h1,aoW]
  | ret =>
   refine⟨n+1,_,s1,?_,hq⟩
   simp only[im,iter]
   rw[up (A:=A) (show n<=n+1 by omega) h1,aoW]
theorem wO{a:bJ}{Q:bp->AS->Prop}(n:Nat)(I:Nat->AS->Prop)(hI:∀ k s,k<=n->I k s->W A a s (andThen (fun s'=>k<n/\I (k+1) s') Q))(k:Nat)(s:AS)(hk:k<=n)(hs:I k s):W A (.loop a) s Q:=by
 refine N0 (fun j s=>∃ k,k<=n/\j=n-k/\I k s) (fun j s h=>?_) (n-k) s ⟨k,hk,rfl,hs⟩
 obtain⟨k,hk,rfl,hs⟩:=h
 refine Hp (hI k s hk hs) fun e s' hq=>?_
 cases e with
 | normal =>
  obtain⟨h1,h2⟩:=hq
  exact⟨n-(k+1),by omega,k+1,by omega,rfl,h2⟩
 | _=>exact hq
def Ex(i:Nat)(P V:AS->Prop):bp->AS->Prop
 | .exit j,s=>j=i/\P s
 | .ret,s=>V s
 | .normal,_=>False
theorem JX{a:bJ}{s:AS}{Q:bp->AS->Prop}(id:Nat)(P V:AS->Prop)(h:W A (.loop a) s (Ex id P V))(hp:∀ s',P s'->Q (.exit id) s')(hv:∀ s',V s'->Q .ret s'):W A (.loop a) s Q:=by
 refine Hp h fun e s' hq=>?_
 cases e with
 | normal=>exact hq.elim
 | exit j=>obtain⟨rfl,hq⟩:=hq;exact hp s' hq
 | ret=>exact hv s' hq
theorem bQ{a:bJ}{Q:bp->AS->Prop}(n id:Nat)(I:Nat->AS->Prop)(P V:AS->Prop)(hI:∀ k s,k<=n->I k s->W A a s (andThen (fun s'=>k<n/\I (k+1) s') (Ex id P V)))
  (hp:∀ s',P s'->Q (.exit id) s') (hv:∀ s',V s'->Q .ret s') (k:Nat) (s:AS) (hk:k<=n) (hs:I k s):W A (.loop a) s Q :=
 JX id P V (wO n I hI k s hk hs) hp hv
theorem TE{a:bJ}{Q:bp->AS->Prop}(id:Nat)(I:Nat->AS->Prop)(P V:AS->Prop)(hI:∀ k s,I k s->W A a s (andThen (fun s'=>∃ k',k' < k/\I k' s') (Ex id P V)))
  (hp:∀ s',P s'->Q (.exit id) s') (hv:∀ s',V s'->Q .ret s') (k:Nat) (s:AS) (hs:I k s):W A (.loop a) s Q :=
 JX id P V (N0 I hI k s hs) hp hv
def Hd(P:aw->Prop)(H:ah)(lo gen:Nat)(s:AS):Prop:=P s.T/\s.H=H/\s.lo=lo/\s.gen=gen
theorem Hd.out{P:aw->Prop}{H:ah}{lo gen:Nat}{s:AS}(h:Hd P H lo gen s):∃ T,s=⟨T,H,lo,gen⟩/\P T:=by
 obtain⟨T,H',l',g'⟩:=s
 obtain⟨h1,h2,h3,h4⟩:=h
 simp only at h1 h2 h3 h4
 subst h2 h3 h4
 exact⟨T,rfl,h1⟩
def w6(P:aw->Prop)(H:ah)(lo:Nat)(s:AS):Prop:=P s.T/\s.H=H/\s.lo=lo
theorem w6.out{P:aw->Prop}{H:ah}{lo:Nat}{s:AS}(h:w6 P H lo s):∃ T g,s=⟨T,H,lo,g⟩/\P T:=by
 obtain⟨T,H',l',g'⟩:=s
 obtain⟨h1,h2,h3⟩:=h
 simp only at h1 h2 h3
 subst h2 h3
 exact⟨T,g',rfl,h1⟩
def fin(base:Nat)(rs:List fZ)(s:AS):Option (AV × Option fQ) :=
 cond (nD base s) ((kO s rs).bind fun r=>cond (r.leaves base) (some (r,cond (Nat.beq s.lo base) none (some ⟨s.H.take base,s.lo⟩))) none) none
def done(base:Nat)(rs:List fZ)(r:AV × Option fQ):bp->AS->Prop
 | .exit _,_=>False
 | _,s=>fin base rs s=some r
def Ak(base:Nat)(rs:List fZ)(P:AV × Option fQ->Prop):bp->AS->Prop
 | .exit _,_=>False
 | _,s=>bf (fin base rs s) P
theorem Nf{s:AS}{r:fZ}{b:Nat}(h:mr s r=some b):iR s r=none:=by
 cases r with
 | tmp t =>
  simp only[mr] at h
  simp only[iR]
  split at h
  ·rename_i hT;rw[hT];rfl
  ·rename_i hT;rw[hT];rfl
  ·cases h
 | cell=>cases h
theorem Fx{s:AS}{m:Nat}{rs:List fZ}{q:AV × Option fQ}(he:s5 m rs s=some q):∃ i l off n z,rs=[i]/\iR s i=some (.sref l off n z)/\m<=l:=by
 unfold s5 at he
 split at he
 ·rename_i i
  simp only[aoP] at he
  obtain⟨v,hv,he⟩:=he
  split at he
  ·rename_i l off n z
   split at he
   ·rename_i ty cs hH
    cases hb:(Nat.ble m l&&cs.all AV.plain) with
    | false=>rw[hb] at he;cases he
    | true =>
     simp only[Bool.and_eq_true,Nat.ble_eq] at hb
     exact⟨i,l,off,n,z,rfl,hv,hb.1⟩
   ·cases he
  ·cases he
 ·cases he
theorem N9{base:Nat}{fn:ax}{s:AS}{r:AV × Option fQ}(h:gN base fn.results s=some r):nW base fn s=none:=by
 cases hf:nW base fn s with
 | none=>rfl
 | some q =>
  exfalso
  unfold nW at hf
  cases hb:fn.muts.elem 888888 with
  | false=>rw[hb] at hf;cases hf
  | true =>
   rw[hb,cond_true] at hf
   obtain⟨i,l,off,n,z,x6,qX,Kp⟩:=Fx hf
   unfold gN kO at h
   rw[x6] at h
   simp only at h
   cases hr:mr s i with
   | some b=>rw[Nf hr] at qX;cases qX
   | none =>
    rw[hr] at h
    simp only[qX,aoW] at h
    have:(AV.sref l off n z).leaves base=false:=by
     simp only[AV.leaves,AV.bn,AV.aG]
     cases hb:Nat.blt l base with
     | false=>rfl
     | true=>rw[api] at hb;omega
    rw[this] at h
    cases h
theorem s6{base:Nat}{fn:ax}{s:AS}{r:AV × Option fQ}(h:fin base fn.results s=some r):finish base fn s=some (sI fn r):=by
 unfold fin at h
 cases ho:nD base s with
 | false=>rw[ho] at h;cases h
 | true =>
  rw[ho,cond_true] at h
  have h:gN base fn.results s=some r:=h
  unfold finish kI rP
  rw[ho,cond_true,N9 h,h];rfl
def TS(base:Nat)(fn:ax)(P:AV × Option fQ->Prop):bp->AS->Prop
 | .exit _,_=>False
 | _,s=>∃ r,finish base fn s=some r/\P r
theorem rJ{f:FuncId}{fn:ax}(ho:A.ov f=none)(hf:A.fns f=some fn){args:List AV}{H:ah}{P:AV × Option fQ->Prop}(hn:Nat.beq args.length fn.np=true)
  (h:W A fn.body { T:=gn args,H,lo:=H.length,gen:=0 } (TS H.length fn P)):∃ r,aE A f args H=some r/\P r:=by
 obtain⟨n,e,s',h1,h2⟩:=h
 have key:∀ r,finish H.length fn s'=some r->aE A f args H=some r:=by
  intro r hr
  refine u1 ho hf (n:=n) ?_
  unfold tv
  rw[hn,cond_true,h1,aoW]
  cases e with
  | exit i=>exact h2.elim
  | _=>exact hr
 cases e with
 | exit i=>exact h2.elim
 | _=>obtain⟨r,hr,hP⟩:=h2;exact⟨r,key r hr,hP⟩
theorem nB{fn:ax}(hm:fn.muts.elem 777777=false)(r:AV × Option fQ):sI fn r=r:=by unfold sI;rw[hm];rfl
theorem Gr{fn:ax}(hm:fn.muts.elem 777777=true)(r:AV × Option fQ):sI fn r=(oV r.1,r.2):=by unfold sI;rw[hm];rfl
theorem zZ{f:FuncId}{fn:ax}(ho:A.ov f=none)(hf:A.fns f=some fn){args:List AV}{H:ah}{P:AV × Option fQ->Prop}(hn:Nat.beq args.length fn.np=true)
  (h:W A fn.body { T:=gn args,H,lo:=H.length,gen:=0 } (Ak H.length fn.results P)):∃ r,aE A f args H=some (sI fn r)/\P r:=by
 obtain⟨n,e,s',h1,h2⟩:=h
 have key:∀ r,fin H.length fn.results s'=some r->aE A f args H=some (sI fn r):=by
  intro r hr
  refine u1 ho hf (n:=n) ?_
  unfold tv
  rw[hn,cond_true,h1,aoW]
  cases e with
  | exit i=>exact h2.elim
  | _=>exact s6 hr
 cases e with
 | exit i=>exact h2.elim
 | _=>obtain⟨r,hr,hP⟩:=h2;exact⟨r,key r hr,hP⟩
theorem tI{f:FuncId}{fn:ax}(ho:A.ov f=none)(hf:A.fns f=some fn){args:List AV}{H:ah}{P:AV × Option fQ->Prop}(hn:Nat.beq args.length fn.np=true)
  (h:W A fn.body { T:=gn args,H,lo:=H.length,gen:=0 } (Ak H.length fn.results P)) (hm:fn.muts.elem 777777=false:=by rfl):∃ r,aE A f args H=some r/\P r:=by
 obtain⟨r,h1,h2⟩:=zZ ho hf hn h
 rw[nB hm] at h1
 exact⟨r,h1,h2⟩
theorem rK{f:FuncId}{fn:ax}(ho:A.ov f=none)(hf:A.fns f=some fn){args:List AV}{H:ah}{P:AV × Option fQ->Prop}(hn:Nat.beq args.length fn.np=true)
  (hm:fn.muts.elem 777777=true) (h:W A fn.body { T:=gn args,H,lo:=H.length,gen:=0 } (Ak H.length fn.results fun r=>P (oV r.1,r.2))):∃ r,aE A f args H=some r/\P r:=by
 obtain⟨r,h1,h2⟩:=zZ ho hf hn h
 rw[Gr hm] at h1
 exact⟨_,h1,h2⟩
theorem Oi{f:FuncId}{fn:ax}(ho:A.ov f=none)(hf:A.fns f=some fn){args:List AV}{H:ah}{r:AV × Option fQ}(hn:Nat.beq args.length fn.np=true)
  (h:W A fn.body { T:=gn args,H,lo:=H.length,gen:=0 } (done H.length fn.results r)):aE A f args H=some (sI fn r):=by
 obtain⟨n,e,s',h1,h2⟩:=h
 refine u1 ho hf (n:=n) ?_
 unfold tv
 rw[hn,cond_true,h1,aoW]
 cases e with
 | exit i=>exact h2.elim
 | _=>exact s6 h2
theorem cc{f:FuncId}{fn:ax}(ho:A.ov f=none)(hf:A.fns f=some fn){args:List AV}{H:ah}{r:AV × Option fQ}(hn:Nat.beq args.length fn.np=true)
  (h:W A fn.body { T:=gn args,H,lo:=H.length,gen:=0 } (done H.length fn.results r)) (hm:fn.muts.elem 777777=false:=by rfl):aE A f args H=some r:=by
 have:=Oi ho hf hn h
 rwa [nB hm] at this
end
section
variable {A:AP}{T:aw}{H:ah}{lo gen:Nat}{Q:bp->AS->Prop}{K:AS->Prop}{d:Bool}
theorem Zh{a b:bJ} : W A (.seq a b) ⟨T,H,lo,gen⟩ Q=W A a ⟨T,H,lo,gen⟩ (andThen (fun s'=>W A b s' Q) Q):=JY
theorem Yp{i:Nat}{a:bJ} : W A (.block i a) ⟨T,H,lo,gen⟩ Q=W A a ⟨T,H,lo,gen⟩ (leave i Q):=JV
theorem adF{c:an}{a b:bJ} : W A (.cond c a b) ⟨T,H,lo,gen⟩ Q=DX (c.eval A.aN T) (fun s=>W A a s Q) (fun s=>W A b s Q) ⟨T,H,lo,gen⟩:=NY
theorem Tn{os:List aj} : W A (.region d os) ⟨T,H,lo,gen⟩ Q=WO A d os ⟨T,H,lo,gen⟩ (Q .normal):=w8
theorem adL:W A .skip ⟨T,H,lo,gen⟩ Q=Q .normal ⟨T,H,lo,gen⟩:=N1
theorem ahn:W A .ret ⟨T,H,lo,gen⟩ Q=Q .ret ⟨T,H,lo,gen⟩:=Yt
theorem adH{i:Nat} : W A (.exit i) ⟨T,H,lo,gen⟩ Q=Q (.exit i) ⟨T,H,lo,gen⟩:=NZ
theorem ahm:WO A d [] ⟨T,H,lo,gen⟩ K=K ⟨T,H,lo,gen⟩:=Zp
theorem adK{t:Nat}{v:AV} : AS.br ⟨T,H,lo,gen⟩ t v=⟨T.put t v,H,lo,gen⟩:=rfl
theorem ahk{h:ah}{l:Nat} : AS.fp ⟨T,H,lo,gen⟩ ⟨h,l⟩=⟨T,h,cond (Nat.blt l lo) l lo,gen⟩:=rfl
theorem Tm{P:AS->Prop} : andThen P Q .normal ⟨T,H,lo,gen⟩=P ⟨T,H,lo,gen⟩:=rfl
theorem adE{P:AS->Prop} : andThen P Q .ret ⟨T,H,lo,gen⟩=Q .ret ⟨T,H,lo,gen⟩:=rfl
theorem Yo{P:AS->Prop}{i:Nat} : andThen P Q (.exit i) ⟨T,H,lo,gen⟩=Q (.exit i) ⟨T,H,lo,gen⟩:=rfl
theorem adI{P:aw->Prop}{H' : ah}{lo' : Nat} : w6 P H' lo' ⟨T,H,lo,gen⟩=(P T/\H=H'/\lo=lo'):=rfl
theorem Tk{i:Nat}{P V:AS->Prop} : Ex i P V (.exit i) ⟨T,H,lo,gen⟩=P ⟨T,H,lo,gen⟩:=propext ⟨fun h=>h.2,fun h=>⟨rfl,h⟩⟩
theorem Yr{i:Nat}{P V:AS->Prop} : Ex i P V .ret ⟨T,H,lo,gen⟩=V ⟨T,H,lo,gen⟩:=rfl
theorem ahl{P:aw->Prop}{H' : ah}{lo' gen' : Nat} : Hd P H' lo' gen' ⟨T,H,lo,gen⟩=(P T/\H=H'/\lo=lo'/\gen=gen'):=rfl
theorem adG{base:Nat}{rs:List fZ}{r:AV × Option fQ} : done base rs r .ret ⟨T,H,lo,gen⟩=(fin base rs ⟨T,H,lo,gen⟩=some r):=rfl
theorem Nw{base:Nat}{rs:List fZ}{r:AV × Option fQ} : done base rs r .normal ⟨T,H,lo,gen⟩=(fin base rs ⟨T,H,lo,gen⟩=some r):=rfl
theorem Yq{base:Nat}{rs:List fZ}{P:AV × Option fQ->Prop} : Ak base rs P .ret ⟨T,H,lo,gen⟩=bf (fin base rs ⟨T,H,lo,gen⟩) P:=rfl
theorem JR{base:Nat}{rs:List fZ}{P:AV × Option fQ->Prop} : Ak base rs P .normal ⟨T,H,lo,gen⟩=bf (fin base rs ⟨T,H,lo,gen⟩) P:=rfl
theorem Nx{i:Nat} : leave i Q .normal ⟨T,H,lo,gen⟩=Q .normal ⟨T,H,lo,gen⟩:=rfl
theorem adJ{i:Nat} : leave i Q .ret ⟨T,H,lo,gen⟩=Q .ret ⟨T,H,lo,gen⟩:=rfl
theorem Ys{i:Nat} : leave i Q (.exit i) ⟨T,H,lo,gen⟩=Q .normal ⟨T,H,lo,gen⟩:=by simp[leave]
theorem Tl{i j:Nat} : leave i Q (.exit j) ⟨T,H,lo,gen⟩=if j=i then Q .normal ⟨T,H,lo,gen⟩ else Q (.exit j) ⟨T,H,lo,gen⟩:=by
 by_cases bB:j=i
 ·subst bB;rw[if_pos rfl];exact Ys
 rw[if_neg bB]
 have hb:Nat.beq j i=false:=by
  cases hb:Nat.beq j i with
  | false=>rfl
  | true=>exact absurd (apQ hb) bB
 simp[leave,hb]
end
theorem Od{n:Nat} : Nat.beq n n=true:=Nat.beq_refl n
theorem put_eq{T:aw}{d:Nat}{v:AV} : (T.put d v) d=v:=by simp[aw.put]
theorem acx{T:aw}{d i:Nat}{v:AV}(h:(i==d)=false):(T.put d v) i=T i:=by
 have bB:i≠d:=by simpa using h
 have hb:Nat.beq i d=false:=by
  cases hb:Nat.beq i d with
  | false=>rfl
  | true=>exact absurd (apQ hb) bB
 simp only[aw.put,hb];rfl
theorem Xb{T:aw}{d i:Nat}{v:AV} : (T.put d v) i=if i=d then v else T i:=by
 by_cases h:i=d
 ·rw[if_pos h,h,put_eq]
 ·rw[if_neg h,acx (by simpa using h)]
theorem IZ{a:AV}{l:List AV} : gn (a :: l) 0=a:=rfl
theorem IY{a:AV}{l:List AV}{n:Nat} : gn (a :: l) (n+1)=gn l n:=by simp[gn]
end
section
def iX(o:aj):Option Nat :=
 match o.op,o.guard with
 | .next (.tmp t),none=>some t
 | _,_=>none
section
variable (G:Nat->List AV)(cf:cu)
def kZ:List aj->AS->(AS->Prop)->Prop
 | [],s,Q=>Q s
 | o :: r,s,Q=>match iX o with
  | some t=>∃ g kz ka va cur todo,s.T t=.iter g kz ka va cur todo/\(todo=[]->kZ r (s.bM o.dst (.tuple [.bool false])) Q) /\
    ∀ q rest,todo.Perm (q :: rest)->kZ r ((s.br t (.iter g kz ka va q rest)).bM o.dst (.tuple [.bool true,om ka (q.take kz),om va (q.drop kz)])) Q
  | none=>∃ s',bt G cf false s o=some s'/\kZ r s' Q
inductive BT where
 | leaf (v:AV)
 | node (l r:BT)
def BT.of(f:aw):Nat->Nat->BT
 | 0,o=>.leaf (f o)
 | k+1,o=>.node (BT.of f k o) (BT.of f k (o+2 ^ k))
def BT.get:BT->Nat->Nat->AV
 | .leaf v,_,_=>v
 | .node _ _,0,_=>.undef
 | .node l r,k+1,i=>cond (Nat.blt i (2 ^ k)) (BT.get l k i) (BT.get r k (i-2 ^ k))
def D0(nt:Nat):Nat:=Nat.log2 nt+1
def G7(nt:Nat)(t:BT):aw:=fun i=>cond (Nat.blt i nt) (BT.get t (D0 nt) i) .undef
def j5(nt:Nat)(s:AS):AS:={ s with T:=G7 nt (BT.of s.T (D0 nt) 0) }
def nE(pre:List (List Nat))(L:Array Bool):List Nat:=(List.range pre.length).filter fun i=>!L.getD i true&&(pre.getD i []).all fun j=>L.getD j false
def DA(nt:Nat)(ops:List aj)(pre:List (List Nat)):Nat->Array Bool->AS->(AS->Prop)->Prop
 | 0,L,s,Q=>nE pre L=[]/\Q s
 | n+1,L,s,Q=>(nE pre L=[]->Q s)/\∀ i∈nE pre L,∃ o s',ops[i]?=some o/\bt G cf false s o=some s'/\DA nt ops pre n (L.setIfInBounds i true) (j5 nt s') Q
def wc(F:AS->(bp->AS->Prop)->Prop):Nat->AS->(bp->AS->Prop)->Prop
 | 0,_,_=>False
 | n+1,s,Q=>F s (andThen (fun s'=>wc F n s' Q) Q)
def WN:bJ->AS->(bp->AS->Prop)->Prop
 | .skip,s,Q=>Q .normal s
 | .region false ops,s,Q=>kZ G cf ops s (Q .normal)
 | .region true ops,s,Q=>∃ s',bK G cf true ops s=some s'/\Q .normal s'
 | .seq a b,s,Q=>WN a s (andThen (fun s'=>WN b s' Q) Q)
 | .cond c a b,s,Q=>∃ t,c.eval G s.T=.bool t/\(t=true->WN a s Q)/\(t=false->WN b s Q)
 | .block id a,s,Q=>WN a s (leave id Q)
 | .loop a,s,Q=>∃ n,wc (WN a) n s Q
 | .exit id,s,Q=>Q (.exit id) s
 | .ret,s,Q=>Q .ret s
 | .tG nt ops pre,s,Q=>DA G cf nt ops pre ops.length (Array.replicate ops.length false) (j5 nt s) (Q .normal)
end
section
variable {P:Program}{G:Nat->List AV}{base nt:Nat}{gh:Gh}{w w' : World}{a:Act}{s:AS}{H:ah}{L:List Nat}
theorem yE{o:aj}{t:Nat}(h:iX o=some t):o.op=.next (.tmp t)/\o.guard=none:=by
 unfold iX at h
 split at h
 ·rename_i h1 h2
  injection h with h
  subst h
  exact⟨h1,h2⟩
 ·cases h
def NN(x:Option fc):Prop:=∀ it,x≠some (.next it)
theorem NN.none:NN none:=fun _ h=>by cases h
theorem NN.bind{α:Type}{x:Option α}{f:α->Option fc}(h:∀ a,NN (f a)):NN (x.bind f):=by
 cases x with
 | none=>exact NN.none
 | some a=>exact h a
theorem NN.map{α:Type}{x:Option α}{f:α->fc}(h:∀ a,NN (some (f a))):NN (x.map f):=by
 cases x with
 | none=>exact NN.none
 | some a=>exact h a
theorem NN.cond{b:Bool}{x y:Option fc}(h1:NN x)(h2:NN y):NN (bif b then x else y):=by cases b<;>assumption
theorem NN.Yw{b:Bool}{x y:fc}(h1:NN (some x))(h2:NN (some y)):NN (some (bif b then x else y)):=by cases b<;>assumption
theorem NN.ma{bF:List Nat}{d:Option Nat}{g:an}{ys:List an} : NN (some (qH bF d g ys)):=by
 rcases tR bF d g ys with h|⟨n,pre,x,post,_,_,h⟩<;>(rw[h];exact fun _ h=>by cases h)
theorem zo{bF locals muts:List Nat}{d:Option Nat}{c:Call} : NN (tQ P bF locals muts nt d c):=by
 unfold tQ
 repeat' first
  | exact NN.ma
  | exact NN.none
  | exact fun _ h=>by cases h
  | refine NN.bind fun _=>?_
  | refine NN.map fun _=>?_
  | refine NN.cond ?_ ?_
  | refine NN.Yw ?_ ?_
  | split
theorem DW{bF locals muts:List Nat}{d:Option Nat}{o:Op}{x:an}(h:cG P bF locals muts nt d o=some (.next x)):∃ y,o=.next y false/\ak nt y=some x:=by
 have key:(∀ y b,o≠.next y b)->NN (cG P bF locals muts nt d o):=by
  intro hn
  cases o
  case makeMap t r =>
   cases r with
   | none=>simp only[cG];exact NN.map fun _ _ h=>by cases h
   | some r=>simp only[cG];exact NN.none
  all_goals simp only[cG]
  all_goals first
   | exact absurd rfl (hn _ _)
   | exact zo
   | (repeat' first
     | exact NN.none
     | exact fun _ h=>by cases h
     | refine NN.bind fun _=>?_
     | refine NN.map fun _=>?_
     | refine NN.cond ?_ ?_
     | refine NN.Yw ?_ ?_
     | split)
 by_cases hn:∀ y b,o≠.next y b
 ·exact absurd h (key hn x)
 ·have:∃ y b,o=.next y b:=by
   refine Classical.byContradiction fun hc=>hn fun y b e=>hc ⟨y,b,e⟩
  obtain⟨y,b,rfl⟩:=this
  cases b with
  | true=>simp[cG] at h
  | false =>
   simp only[cG,aoO,fc.next.injEq] at h
   obtain⟨z,hz,rfl⟩:=h
   exact⟨y,rfl,hz⟩
theorem mN{cf:cu}(iu:cP P G cf){H0:ah}{gq:Gh}{w0:World}{bF locals muts:List Nat}{ops:Array Oper}(uQ:∀ x,x∈locals->x∈L)(uR:∀ x,x∈muts->x∈L)(Q:Exit->Act->World->Prop)(R:AS->Prop)
  (hR:∀ s' a' aH w',R s'->Inv G base nt L H0 gq w0 s' aH w' a'->Q .normal a' w') :
  ∀ (l:List Oper) (is:List aj) (s:AS) (gh:Gh) (w:World) (a:Act),Inv G base nt L H0 gq w0 s gh w a->fA P bF locals muts nt ops l=some is->kZ G cf is s R->wpList P ops Q l a w
 | [],is,s,gh,w,a,hI,hc,he=>by
  simp only[fA,aoQ] at hc
  subst hc
  exact hR s a gh w he hI
 | o :: l,is,s,gh,w,a,hI,hc,he=>by
  simp only[fA,aoP,aoO] at hc
  obtain⟨io,kX,is',Dq,rfl⟩:=hc
  unfold kZ at he
  unfold wpList
  have hinv:=gL kX
  cases hn:iX io with
  | none =>
   rw[hn] at he
   obtain⟨s1,h1,h2⟩:=he
   rw[nk,aoO] at h1
   obtain⟨⟨z,s2⟩,hz,rfl⟩:=h1
   refine ky iu hI kX uQ uR hz _ Q (fun a' aH w' iG=>?_)
   rw[hinv.2.2.1] at h2
   exact mN iu uQ uR Q R hR l is' _ aH w' a' iG Dq h2
  | some t =>
   rw[hn] at he
   obtain⟨g,kz,ka,va,cur,todo,hT,h0,h1⟩:=he
   obtain⟨cy,ju⟩:=yE hn
   rw[cy] at hinv
   obtain⟨y,hoy,vU⟩:=DW hinv.1
   have hog:o.guard=none:=by
    have hg:=hinv.2.1
    rw[ju] at hg
    cases hgo:o.guard with
    | none=>rfl
    | some jw =>
     obtain⟨j,want⟩:=jw
     rw[hgo] at hg
     simp only[oH,aoP] at hg
     obtain⟨_,_,hg⟩:=hg
     obtain⟨_,hg⟩:=ab hg
     cases hg
   have hw:Region.wanted o (yielded ops a.tmps)=true:=by simp[Region.wanted,hog]
   rw[if_pos hw]
   have htL:t∈L:=hI.F.obj t (by rw[hT];rfl)
   refine .inl (Ue hI.W hI.F hoy vU hT htL hinv.2.2.2 _ Q (fun Mp v' aH w' hO=>?_) (fun q rest hp v' aH w' hO=>?_))
   ·have:=h0 Mp
    rw[hinv.2.2.1] at this
    exact mN iu uQ uR Q R hR l is' _ aH w' _ (hI.out hO hI.lo) Dq this
   ·have:=h1 q rest hp
    rw[hinv.2.2.1] at this
    exact mN iu uQ uR Q R hR l is' _ aH w' _ (hI.out hO (hI.lo.dS rfl rfl)) Dq this
theorem lY{cf:cu} : ∀ (l:List aj) (s:AS) (Q:AS->Prop),(∀ o,o∈l->iX o=none)->kZ G cf l s Q->∃ s',bK G cf false l s=some s'/\Q s'
 | [],s,Q,_,h=>⟨s,rfl,h⟩
 | o :: l,s,Q,hn,h=>by
  have ho:=hn o ao9
  unfold kZ at h
  rw[ho] at h
  obtain⟨s1,h1,h⟩:=h
  obtain⟨s2,h2,h3⟩:=lY l s1 Q (fun o ho=>hn o (apd _ ho)) h
  exact⟨s2,by simp only[bK,h1,aoW,h2],h3⟩
theorem Ji(M:List Nat):∀ o,o∈lE M->iX o=none:=by
 intro o ho
 simp only[lE,apT,ao8,apY,aqM] at ho
 obtain⟨d,_,rfl|rfl⟩:=ho<;>rfl
theorem Gu(is:List aj):∀ o,o∈rl is->iX o=none:=by
 intro o ho
 obtain⟨d,hd⟩:=apI.1 (apK.1 ho).2
 rw[pe hd];rfl
theorem Gw(M:List Nat)(is:List aj):∀ o,o∈wj M is->iX o=none:=by
 intro o ho
 obtain⟨⟨d,y⟩,hd⟩:=apI.1 (apK.1 ho).2
 obtain⟨_,sz,h⟩:=gu hd
 rw[h];rfl
theorem ra{mode pc:Bool}{is:List aj}{L:List Nat} : ∀ {l:List aj} {es:List qj},oh mode pc is L l=some es->∀ o,o∈inter mode pc is L l->iX o=none
 | [],_,_,o,ho=>by cases ho
 | p :: l,es,h,o,ho=>by
  simp only[oh,aoP,aoO] at h
  obtain⟨e,he,tX,h',rfl⟩:=h
  have hp:iX (iB pc p)=none:=by
   obtain⟨d,g,op⟩:=p
   cases op<;>try rfl
   ·simp only[iB];cases pc<;>rfl
   ·simp[vO,xE] at he
  simp only[inter] at ho
  split at ho
  ·rcases ao8.1 ho with rfl|ho
   ·rfl
   ·rcases ao8.1 ho with rfl|ho
    ·exact hp
    ·exact ra h' o ho
  ·rcases ao8.1 ho with rfl|ho
   ·exact hp
   ·exact ra h' o ho
theorem BT.IC(f:aw):∀ (k o i:Nat),i<2 ^ k->BT.get (BT.of f k o) k i=f (o+i)
 | 0,o,i,h=>by
  have:i=0:=by simp at h;exact h
  subst this;rfl
 | k+1,o,i,h=>by
  have h2:2 ^ (k+1)=2 ^ k+2 ^ k:=by rw[Nat.pow_succ];omega
  simp only[BT.of,BT.get]
  cases hb:Nat.blt i (2 ^ k) with
  | true =>
   rw[api] at hb
   rw[cond_true];exact BT.IC f k o i hb
  | false =>
   have hn:¬ i<2 ^ k:=fun h=>by rw[<- api] at h;rw[h] at hb;cases hb
   rw[aoZ,BT.IC f k (o+2 ^ k) (i-2 ^ k) (by omega)]
   congr 1;omega
theorem w4{nt:Nat}{T:aw}{i:Nat}(h:i<nt):G7 nt (BT.of T (D0 nt) 0) i=T i:=by
 have h1:Nat.blt i nt=true:=by rw[api];exact h
 unfold G7
 rw[h1,cond_true,BT.IC _ _ _ _ (Nat.lt_trans h (by unfold D0;exact Nat.lt_log2_self)),Nat.zero_add]
theorem wZ{nt:Nat}{T:aw}{i:Nat}(h:nt<=i):G7 nt (BT.of T (D0 nt) 0) i=.undef:=by
 have h1:Nat.blt i nt=false:=by
  cases hb:Nat.blt i nt with
  | false=>rfl
  | true=>rw[api] at hb;omega
 unfold G7
 rw[h1];rfl
theorem SR.ZE{n:Nat}{T T' : aw}{gen:Nat}{tm:Nat->Value}{i:Nat}{v:Value}{x:AV}(hT:∀ j,j<nt->T' j=T j)(h:SR gh n nt w T gen tm i v x):SR gh n nt w T' gen tm i v x:=by
 cases x
 case lref b g off=>obtain⟨h1,h2,h3⟩:=h;exact⟨h1,h2,fun e=>h3 (by rw[<- hT b h1];exact e)⟩
 case lsr b g=>obtain⟨h1,h2,h3⟩:=h;exact⟨h1,h2,fun e=>h3 (by rw[<- hT b h1];exact e)⟩
 case eref b g r z off=>obtain⟨h1,h2,h3⟩:=h;exact⟨h1,h2,fun e=>h3 (by rw[<- hT b h1];exact e)⟩
 all_goals exact h
theorem Inv.canon{H0:ah}{gq:Gh}{w0:World}(h:Inv G base nt L H0 gq w0 s gh w a):Inv G base nt L H0 gq w0 (j5 nt s) gh w a:=by
 refine⟨h.W,⟨⟨h.F.defers,h.F.size,fun i hi=>?_⟩,fun i hi=>?_⟩,h.E,h.lo.dS rfl rfl⟩
 ·have h1:=h.F.slot i hi
  show SR gh s.H.length nt w (G7 nt (BT.of s.T (D0 nt) 0)) s.gen _ i _ (G7 nt (BT.of s.T (D0 nt) 0) i)
  rw[w4 hi]
  exact h1.ZE fun j hj=>w4 hj
 ·by_cases aU:i<nt
  ·have:(j5 nt s).T i=s.T i:=w4 aU
   rw[this] at hi
   exact h.F.obj i hi
  ·have:(j5 nt s).T i=.undef:=wZ (by omega)
   rw[this] at hi
   cases hi
theorem yR{ops:Array Oper}{L:Array Bool} : nE (ops.toList.map nh) L=Region.ready .any ops L:=by
 unfold nE Region.ready
 rw[show (ops.toList.map nh).length=ops.size by simp]
 refine List.filter_congr fun i hi=>?_
 have aU:i<ops.size:=by simpa using hi
 have e1:(ops.toList.map nh).getD i []=nh ops[i]:=by simp[apg,aU]
 rw[e1,ao2 aU]
 simp only[Option.map_some,Option.getD_some,nh]
 congr 1
 rw[<- Array.all_toList,List.all_map,List.all_filter]
 rfl
theorem xd{cf:cu}(iu:cP P G cf){H0:ah}{gq:Gh}{w0:World}{bF locals muts:List Nat}{ops:Array Oper}(uQ:∀ x,x∈locals->x∈L)(uR:∀ x,x∈muts->x∈L)(Q:Exit->Act->World->Prop)(R:AS->Prop)
  (hR:∀ s' a' aH w',R s'->Inv G base nt L H0 gq w0 s' aH w' a'->Q .normal a' w') {is:List aj} (hc:fA P bF locals muts nt ops ops.toList=some is) :
  ∀ (n:Nat) (B:Array Bool) (s:AS) (gh:Gh) (w:World) (a:Act),Inv G base nt L H0 gq w0 s gh w a->DA G cf nt is (ops.toList.map nh) n B s R->wpAny P .any ops Q n B a w
 | 0,B,s,gh,w,a,hI,h=>⟨by rw[<- yR];exact h.1,hR s a gh w h.2 hI⟩
 | n+1,B,s,gh,w,a,hI,h=>by
  refine⟨fun e=>hR s a gh w (h.1 (by rw[yR];exact e)) hI,fun i hi=>?_⟩
  obtain⟨io,s1,kX,h1,h2⟩:=h.2 i (by rw[yR];exact hi)
  obtain⟨hlen,nX⟩:=gm hc
  unfold wpOp
  split
  ·rename_i hn
   exfalso
   have h3:=(aoR.1 kX).1
   have h4:ops.toList[i]?=none:=by simpa using hn
   have h5:=List.getElem?_eq_none_iff.1 h4
   omega
  ·rename_i o ho
   obtain⟨io',aja,bk⟩:=nX i o (by simpa using ho)
   obtain rfl:io'=io:=apA (aja.symm.trans kX)
   have hinv:=gL bk
   rw[nk,aoO] at h1
   obtain⟨⟨z,s2⟩,hz,rfl⟩:=h1
   refine ky iu hI bk uQ uR hz _ Q (fun a' aH w' iG=>?_)
   rw[hinv.2.2.1] at h2
   exact xd iu uQ uR Q R hR hc n _ _ aH w' a' iG.canon h2
theorem jY{cf:cu}(iu:cP P G cf)(hm:P.follows .mixedOrders=true){H0:ah}{gq:Gh}{w0:World}{bF locals muts:List Nat} :
  ∀ (c:Code) (ic:bJ),fC P bF locals muts nt c=some ic->∀ (s:AS) (gh:Gh) (w:World) (a:Act) (Q:Exit->Act->World->Prop) (R:bp->AS->Prop),Inv G base nt (locals++muts) H0 gq w0 s gh w a->WN G cf ic s R ->
   (∀ e s' a' aH w',R e s'->Inv G base nt (locals++muts) H0 gq w0 s' aH w' a'->Q e.Ka a' w')->c.wp P Q a w
 | .skip,ic,hc,s,gh,w,a,Q,R,hI,he,hQ=>by
  simp only[fC,aoQ] at hc
  subst hc
  exact wp_skip (hQ .normal s a gh w he hI)
 | .region id ops draw,ic,hc,s,gh,w,a,Q,R,hI,he,hQ=>by
  have hc0:=hc
  simp only[fC,aoP] at hc
  obtain⟨is,Dq,hc⟩:=hc
  cases hd3:cond draw (xx locals ops.toList is) none with
  | some c3 =>
   rw[hd3] at hc
   injection hc with hc
   subst hc
   obtain⟨rfl,mode,pc,es,h1,h2,rfl⟩:=xy hd3
   obtain⟨s2,h3,h4⟩:=lY _ _ _ (ra h1) he
   exact gx iu hm 0 (.region id ops true) _ hc0 s s2 .normal gh w a Q hI (by simp only[im,h3,Option.map_some]) (fun a' aH w' iG=>hQ .normal s2 a' aH w' h4 iG)
  | none =>
  rw[hd3] at hc
  simp only at hc
  cases hb:(!draw || (!(locals.elem 999998)&&uC (locals++muts) (ops.toList.zip is))) with
  | false =>
   rw[hb,aoZ] at hc
   cases h0:(!(locals.elem 999998)&&rn (locals++muts) (ops.toList.zip is)) with
   | false =>
    rw[h0,aoZ] at hc
    obtain⟨hdr,hc⟩:=ab hc
    injection hc with hc
    subst hc
    subst hdr
    have hl:ops.size=is.length:=by simpa using (gm Dq).1
    simp only[WN,<- hl] at he
    exact wp_region_any hm (xd iu (fun x hx=>aoX.2 (.inl hx)) (fun x hx=>aoX.2 (.inr hx)) Q (R .normal) (fun s' a' aH w' hr iG=>hQ .normal s' a' aH w' hr iG) Dq _ _ _ gh _ a hI.drew.canon he)
   | true =>
   rw[h0,cond_true] at hc
   injection hc with hc
   subst hc
   unfold drawn at he hc0
   simp only[WN,andThen] at he
   obtain⟨s1,h1,he⟩:=lY _ _ _ (Ji _) he
   obtain⟨s2,h2,he⟩:=he
   obtain⟨s3,h3,he⟩:=lY _ _ _ (Gu _) he
   obtain⟨s4,h4,he⟩:=lY _ _ _ (Gw _ _) he
   exact gx iu hm 0 (.region id ops draw) _ hc0 s s4 .normal gh w a Q hI (by simp only[im,h1,h2,h3,h4,Option.map_some,aoW]) (fun a' aH w' iG=>hQ .normal s4 a' aH w' he iG)
  | true =>
  have h0:=hb
  rw[hb,cond_true] at hc
  injection hc with hc
  subst hc
  cases draw with
  | false=>exact wp_region_list (mN iu (fun x hx=>aoX.2 (.inl hx)) (fun x hx=>aoX.2 (.inr hx)) Q (R .normal) (fun s' a' aH w' hr iG=>hQ .normal s' a' aH w' hr iG) ops.toList is s gh w a hI Dq he)
  | true =>
   obtain⟨s',h1,h2⟩:=he
   exact gx iu hm 0 (.region id ops true) _ hc0 s s' .normal gh w a Q hI (by simp only[im,h1,Option.map_some]) (fun a' aH w' iG=>hQ .normal s' a' aH w' h2 iG)
 | .seq x y,ic,hc,s,gh,w,a,Q,R,hI,he,hQ=>by
  simp only[fC,aoP,aoO] at hc
  obtain⟨ix,hx,iy,hy,rfl⟩:=hc
  refine wp_seq (jY iu hm x ix hx s gh w a _ _ hI he (fun e s' a' aH w' hr iG=>?_))
  cases e with
  | normal=>exact jY iu hm y iy hy s' aH w' a' Q R iG hr hQ
  | exit id=>exact hQ (.exit id) s' a' aH w' hr iG
  | ret=>exact hQ .ret s' a' aH w' hr iG
 | .cond c x y,ic,hc,s,gh,w,a,Q,R,hI,he,hQ=>by
  simp only[fC,aoP,aoO] at hc
  obtain⟨iq,hq,ix,hx,iy,hy,rfl⟩:=hc
  obtain⟨t,ht,h1,h2⟩:=he
  have hv:=(bY hI.W hI.F hq ht rfl).jm
  cases t with
  | true=>exact wp_cond_true hv (jY iu hm x ix hx s gh w a Q R hI (h1 rfl) hQ)
  | false=>exact wp_cond_false hv (jY iu hm y iy hy s gh w a Q R hI (h2 rfl) hQ)
 | .block id c,ic,hc,s,gh,w,a,Q,R,hI,he,hQ=>by
  simp only[fC,aoO] at hc
  obtain⟨ix,hx,rfl⟩:=hc
  refine wp_block (jY iu hm c ix hx s gh w a _ _ hI he (fun e s' a' aH w' hr iG=>?_))
  cases e with
  | normal=>exact hQ .normal s' a' aH w' hr iG
  | exit i =>
   show if i=id then Q .normal a' w' else Q (.exit i) a' w'
   simp only[leave,dR] at hr
   by_cases hi:i=id
   ·rw[if_pos hi];exact hQ .normal s' a' aH w' (by simpa [hi] using hr) iG
   ·rw[if_neg hi];exact hQ (.exit i) s' a' aH w' (by simpa [hi] using hr) iG
  | ret=>exact hQ .ret s' a' aH w' hr iG
 | .loop c,ic,hc,s,gh,w,a,Q,R,hI,he,hQ=>by
  simp only[fC,aoO] at hc
  obtain⟨ix,hx,rfl⟩:=hc
  obtain⟨n,he⟩:=he
  have rounds:∀ (m:Nat) (s:AS) (gh:Gh) (w:World) (a:Act),Inv G base nt (locals++muts) H0 gq w0 s gh w a->wc (WN G cf ix) m s R->Code.rounds P c Q m a w:=by
   intro m
   induction m with
   | zero=>intro s gh w a _ h;exact h.elim
   | succ m ih =>
    intro s gh w a hI h
    rw[rounds_succ]
    refine jY iu hm c ix hx s gh w a _ _ hI h (fun e s' a' aH w' hr iG=>?_)
    cases e with
    | normal=>exact ih s' aH w' a' iG hr
    | exit id=>exact hQ (.exit id) s' a' aH w' hr iG
    | ret=>exact hQ .ret s' a' aH w' hr iG
  exact wp_loop_rounds n (rounds n s gh w a hI he)
 | .exit id,ic,hc,s,gh,w,a,Q,R,hI,he,hQ=>by
  simp only[fC,aoQ] at hc
  subst hc
  exact wp_exit (hQ (.exit id) s a gh w he hI)
 | .ret,ic,hc,s,gh,w,a,Q,R,hI,he,hQ=>by
  simp only[fC,aoQ] at hc
  subst hc
  exact wp_ret (hQ .ret s a gh w he hI)
 | .label l,ic,hc,s,gh,w,a,Q,R,hI,he,hQ=>by
  simp only[fC,aoQ] at hc
  subst hc
  exact wp_label (hQ .normal s a gh w he hI)
 | .scope c,ic,hc,s,gh,w,a,Q,R,hI,he,hQ=>by
  simp only[fC] at hc
  refine wp_scope_straight (jY iu hm c ic hc s gh w a _ R hI he (fun e s' a' aH w' hr iG=>?_))
  have:=hQ e s' a' aH w' hr iG
  cases e<;>exact this
 | .rangeFunc _ _ _ _,_,hc,_,_,_,_,_,_,_,_,_=>by simp[fC] at hc
 | .goto _,_,hc,_,_,_,_,_,_,_,_,_=>by simp[fC] at hc
 | .refuse _,_,hc,_,_,_,_,_,_,_,_,_=>by simp[fC] at hc
theorem ZC{A:AP}(hA:mZ P A):cP P A.aN (aE A):=by
 intro f args H r c h
 obtain⟨n,hn⟩:=lJ.1 h
 exact vb hA n f args H r c hn
theorem ahi{A:AP}(hA:mZ P A){f:FuncId}{fn:Func}(sq:P.funcs[f]?=some fn){bF locals muts:List Nat}{kK:ax}(hc:kU P bF locals muts fn=some kK){g:List AV->ah->Option (AV × Option fQ)}
  (Pn:∀ args H r c,g args H=some (r,c)->jI H c)
  (hg:∀ args H x,g args H=some x->args.length=kK.np/\WN A.aN (aE A) kK.body { T:=gn args,H,lo:=H.length,gen:=0 } (fun e s=>match e with|.exit _=>False|_=>finish H.length kK s=some x)):jb P A.aN f g:=by
 intro args H r c he
 obtain⟨Md,hwn⟩:=hg args H (r,c) he
 simp only[kU,aoP] at hc
 obtain⟨code,lN,b,hb,rs,x6,hc⟩:=hc
 obtain⟨h0,hc⟩:=ab hc
 injection hc with hc
 subst hc
 simp only[Bool.and_eq_true,Nat.ble_eq,bne_iff_ne,ne_eq] at h0
 refine⟨⟨fn,sq,by rw[lN];rfl,h0.2⟩,Pn args H r c he,fun base gh w vs hW ig po cr=>?_⟩
 refine calls_of_wp sq lN ?_
 have amh:args.length=fn.params.size+fn.nfree:=Md
 have hI:=um (locals:=locals) (muts:=muts) (fn:=fn) hW po (by omega) (fun j v x hv hx=>.inl (cr j v x hv hx))
 refine jY (ZC hA) hA.mixed code b hb _ gh.taken w _ _ _ hI hwn (fun e s' a' aH w' hr iG=>?_)
 cases e with
 | exit i=>exact hr.elim
 | normal =>
  obtain⟨_,v,Cl,hv,hR⟩:=lu (P:=P) hW ig iG x6 hr
  exact⟨iG.F.defers,v,hv,v,Cl,rfl,hR⟩
 | ret =>
  obtain⟨_,v,Cl,hv,hR⟩:=lu (P:=P) hW ig iG x6 hr
  exact⟨iG.F.defers,v,hv,v,Cl,rfl,hR⟩
end
end
end Go.Abs
