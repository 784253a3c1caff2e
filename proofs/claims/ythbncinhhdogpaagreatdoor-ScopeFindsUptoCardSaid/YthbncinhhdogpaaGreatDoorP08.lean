/-
  A part of the proof of ScopeFinds: AbsIrVa, AbsMono, AbsWp, AbsNon.
-/
import Derived.Test.YthbncinhhdogpaaGreatDoorProg
import Derived.KernelRfl
import Derived.Test.YthbncinhhdogpaaGreatDoorP07
set_option linter.unusedSimpArgs false
set_option linter.unusedVariables false
set_option linter.defProp false
set_option maxRecDepth 100000
namespace Go.Proofs.YthbncinhhdogpaaGreatDoor
open Go Go.Abs Go.Proofs
abbrev aT(n:Nat):ar:=.tmp n
abbrev aI(n:Int):ar:=.cr (.int .i64 n)
abbrev aS(s:List UInt8):ar:=.cr (.str s)
abbrev BV:ar:=.cr (.bool true)
abbrev qZ:ar:=.cr (.bool false)
abbrev oO(d:Nat)(x:fq):aj:=⟨some d,none,x⟩
abbrev oN(x:fq):aj:=⟨none,none,x⟩
abbrev dK(d g:Nat)(x:fq):aj:=⟨some d,some (g,true),x⟩
abbrev ia(d g:Nat)(x:fq):aj:=⟨some d,some (g,false),x⟩
abbrev zg(g:Nat)(x:fq):aj:=⟨none,some (g,true),x⟩
abbrev nf(g:Nat)(x:fq):aj:=⟨none,some (g,false),x⟩
abbrev dO(i:Nat):fq:=.mov false false (.tmp i)
abbrev Hg(i:Nat):fq:=.mov true false (.tmp i)
abbrev jZ(k i:Nat):fq:=.load false false k (.tmp i)
abbrev iW(k i:Nat):fq:=.load false true k (.tmp i)
abbrev sE(k i:Nat):fq:=.fieldAddr k (.tmp i)
abbrev ji(b:BinOp)(x y:ar):fq:=.bin b .other x y
abbrev BB(f:Nat)(l:List ar):fq:=.call (.fn f) l
abbrev akZ(i:Nat):fq:=.len .sl (.tmp i)
abbrev oz(i:Nat):fq:=.j6 .heap (.tmp i)
abbrev n9(k:Nat)(z:List (List AV))(l:List (Nat × ar)):fq:=.mkslice false k z l
abbrev dS(d f i:Nat):aj:=⟨some d,none,.call (.fn f) [.tmp i]⟩
abbrev dC(d f i j:Nat):aj:=⟨some d,none,.call (.fn f) [.tmp i,.tmp j]⟩
abbrev fD(d f i j k:Nat):aj:=⟨some d,none,.call (.fn f) [.tmp i,.tmp j,.tmp k]⟩
abbrev nU(d f i j k l:Nat):aj:=⟨some d,none,.call (.fn f) [.tmp i,.tmp j,.tmp k,.tmp l]⟩
abbrev bG(d:Nat)(b:BinOp)(i j:Nat):aj:=⟨some d,none,.bin b .other (.tmp i) (.tmp j)⟩
abbrev aN(d:Nat)(b:BinOp)(i:Nat)(n:Int):aj:=⟨some d,none,.bin b .other (.tmp i) (.cr (.int .i64 n))⟩
abbrev de(d k i j:Nat):aj:=⟨some d,none,.ixSl k (.tmp i) (.tmp j)⟩
abbrev cX(d:Nat)(k:lO)(i:Nat):aj:=⟨some d,none,.len k (.tmp i)⟩
abbrev To(d i j:Nat):aj:=⟨some d,none,.pick (.tmp i) (.cr (.bool true)) (.tmp j)⟩
abbrev lp(d i j:Nat):aj:=⟨some d,none,.pick (.tmp i) (.tmp j) (.cr (.bool false))⟩
abbrev mg(d k t i j:Nat):aj:=⟨some d,none,.append false false k t (.tmp i) (.tmp j)⟩
abbrev af(d i:Nat):aj:=⟨some d,none,.mov false false (.tmp i)⟩
abbrev ai(d i:Nat):aj:=⟨some d,none,.mov true false (.tmp i)⟩
abbrev aR(d:Nat)(x:ar):aj:=⟨some d,none,.mov true false x⟩
abbrev dD(d:Nat)(x:ar):aj:=⟨some d,none,.mov false false x⟩
abbrev aQ(d k i:Nat):aj:=⟨some d,none,.load false false k (.tmp i)⟩
abbrev aC(d k i:Nat):aj:=⟨some d,none,.load false true k (.tmp i)⟩
abbrev cn(d k i:Nat):aj:=⟨some d,none,.fieldAddr k (.tmp i)⟩
abbrev fp(d f:Nat)(l:List ar):aj:=⟨some d,none,.call (.fn f) l⟩
abbrev sR(d:Nat)(b:BinOp)(x y:ar):aj:=⟨some d,none,.bin b .other x y⟩
abbrev oIx(d k:Nat)(x y:ar):aj:=⟨some d,none,.ixSl k x y⟩
abbrev aoB(d:Nat)(k:lO)(x:ar):aj:=⟨some d,none,.len k x⟩
abbrev amg(d:Nat)(c x y:ar):aj:=⟨some d,none,.pick c x y⟩
abbrev aoA(d k t:Nat)(x y:ar):aj:=⟨some d,none,.append false false k t x y⟩
abbrev jB(d i:Nat):aj:=⟨some d,none,.nilCheck (.tmp i)⟩
abbrev iB(d i k:Nat):aj:=⟨some d,none,.extract (.tmp i) k⟩
abbrev fW(k i j:Nat):aj:=⟨none,none,.store k (.tmp i) (.tmp j)⟩
abbrev dM(i:Nat):aj:=⟨none,none,.j6 .heap (.tmp i)⟩
abbrev ky(k i:Nat):aj:=⟨none,none,.j6 (.frame k) (.tmp i)⟩
abbrev cR(l:List aj)(c:bO):bO:=.seq (.region false l) c
abbrev db(i:Nat)(a b:bO):bO:=.cond (.tmp i) a b
noncomputable def bs(f:Func)(i:ay):Option ay:=lq Tryz.prog i.bJ i.locals i.muts f
noncomputable def cI(t l m:List Nat)(f:Func):ay:=(lq Tryz.prog t l m f).getD ⟨[],[],[],0,0,[],.skip⟩
def ir3:ay:=⟨[8,10,11,12,13,14,15,16,34,52,43,700009],[9,999999],[],138,4,[.tmp 8],cR [aR 8 qZ] (cR [af 17 0,dS 18 6 17,af 19 1,af 20 2,aN 21 .rem 20 2,fD 22 5 18 19 21,oO 9 (.allocL [.ae,.ae]),fW 2 9 22] (cR [af 23 3,af 24 3,sR 25 .add (aS [99,111,114,101,46]) (aT 24),oO 26 (n9 1 [[.str []],[.str []],[.str []],[.str []],[.str []],[.str []],[.str []],[.str []]] [(0,.tmp 23),(1,.tmp 25),(2,.cr (.str [99,111,114,101,46,102])),(3,.cr (.str [109,105,108,108,46,102])),(4,.cr (.str [46,102])),(5,.cr (.str [102,46])),(6,.cr (.str [97,46,98,46,99])),(7,.cr (.str []))]),ai 10 26] (.seq (cR [aR 11 (aI 0)] (.block 0 (.loop (.seq (cR [af 27 11,cn 28 1 9,aQ 29 1 28,cX 30 .sl 29,bG 31 .lss 27 30] (db 31 .skip (.exit 0))) (.seq (.block 1 (.region false [ai 34 10,cn 35 1 9,aQ 36 1 35,af 37 11,de 38 31 36 37,cn 39 7 38,aQ 40 1 39,oO 41 (n9 1 [[.str []]] [(0,.tmp 40)]),mg 42 1 16 34 41,ai 10 42])) (.region false [af 32 11,aN 33 .add 32 1,ai 11 33])))))) (cR [oO 43 (.build [.int .i64 0,.int .i64 0,.int .i64 0] [(0,1,.cr (.int .i64 7)),(1,1,.cr (.int .i64 9))]),oO 44 (n9 3 [[.int .i64 0,.int .i64 0,.int .i64 0]] [(0,.tmp 43)]),ai 12 44] (.seq (cR [aR 13 (aI 0)] (.block 2 (.loop (.seq (cR [af 45 13,cn 46 0 9,aQ 47 1 46,cX 48 .sl 47,bG 49 .lss 45 48] (db 49 .skip (.exit 2))) (.seq (.block 3 (.region false [ai 52 12,cn 53 0 9,aQ 54 1 53,af 55 13,de 56 6 54 55,cn 57 0 56,aC 58 3 57,oO 59 (n9 3 [[.int .i64 0,.int .i64 0,.int .i64 0]] [(0,.tmp 58)]),mg 60 3 24 52 59,ai 12 60])) (.region false [af 50 13,aN 51 .add 50 1,ai 13 51])))))) (.seq (cR [aR 14 (aI 0)] (.block 4 (.loop (.seq (cR [af 61 14,af 62 12,cX 63 .sl 62,bG 64 .lss 61 63] (db 64 .skip (.exit 4))) (.seq (.block 5 (.seq (cR [aR 15 (aI 0)] (.block 6 (.loop (.seq (cR [af 67 15,af 68 10,cX 69 .sl 68,bG 70 .lss 67 69] (db 70 .skip (.exit 6))) (.seq (.block 7 (.seq (.region true [aC 73 2 9,af 74 12,af 75 14,de 76 3 74 75,aC 77 3 76,af 78 10,af 79 15,de 80 1 78 79,aQ 81 1 80,fD 82 8 73 77 81,aC 83 2 9,af 84 12,af 85 14,de 86 3 84 85,aC 87 3 86,af 88 10,af 89 15,de 90 1 88 89,aQ 91 1 90,fD 92 9 83 87 91,dC 93 7 82 92,oO 94 (.un .not (aT 93))]) (db 94 (cR [aR 8 qZ] .ret) .skip))) (.region false [af 71 15,aN 72 .add 71 1,ai 15 72])))))) (.seq (cR [aR 16 (aI 0)] (.block 8 (.loop (.seq (cR [af 95 16,cn 96 1 9,aQ 97 1 96,cX 98 .sl 97,bG 99 .lss 95 98] (db 99 .skip (.exit 8))) (.seq (.block 9 (.seq (.region true [aC 102 2 9,af 103 12,af 104 14,de 105 3 103 104,aC 106 3 105,cn 107 1 9,aQ 108 1 107,af 109 16,de 110 31 108 109,cn 111 0 110,aC 112 3 111,fD 113 10 102 106 112,aC 114 2 9,af 115 12,af 116 14,de 117 3 115 116,aC 118 3 117,cn 119 1 9,aQ 120 1 119,af 121 16,de 122 31 120 121,cn 123 0 122,aC 124 3 123,fD 125 11 114 118 124,bG 126 .neq 113 125]) (db 126 (cR [aR 8 qZ] .ret) .skip))) (.region false [af 100 16,aN 101 .add 100 1,ai 16 101])))))) (.seq (.region true [aC 127 2 9,af 128 12,af 129 14,de 130 3 128 129,aC 131 3 130,af 132 12,oIx 133 3 (aT 132) (aI 0),aC 134 3 133,fD 135 10 127 131 134,sR 136 .neq (aT 135) (aS [])]) (db 136 (cR [aR 8 qZ] .ret) .skip))))) (.region false [af 65 14,aN 66 .add 65 1,ai 14 66])))))) (cR [fp 137 12 [],ai 8 137] .ret)))))))⟩
theorem Sx:bs Tryz.f3 ir3=some ir3:=by kernel_rfl
def ir4:ay:=⟨[6,8,9,11,12,13,14,75,94,98,109,122,125,700007,700010],[7,10,999999],[],131,3,[.tmp 6],cR [aR 6 qZ] (cR [af 15 0,dS 16 6 15,af 17 1,af 18 2,aN 19 .rem 18 2,fD 20 5 16 17 19,oO 7 (.allocL [.ae,.ae]),fW 2 7 20] (.seq (cR [aR 8 (aI 0)] (.block 0 (.loop (.seq (cR [af 21 8,cn 22 0 7,aQ 23 1 22,cX 24 .sl 23,bG 25 .lss 21 24] (db 25 .skip (.exit 0))) (.seq (.block 1 (cR [aR 9 (aI 0)] (.block 2 (.loop (.seq (cR [af 28 9,cn 29 1 7,aQ 30 1 29,cX 31 .sl 30,bG 32 .lss 28 31] (db 32 .skip (.exit 2))) (.seq (.block 3 (cR [cn 35 1 7,aQ 36 1 35,af 37 9,de 38 31 36 37,aC 39 31 38,oO 10 (.allocL [.int .i64 0,.int .i64 0,.int .i64 0,.int .i64 0,.int .i64 0,.int .i64 0,.int .i64 0,.str [],.ae,.int .i64 0,.int .i64 0,.int .i64 0,.int .i64 0,.ae,.int .i64 0,.int .i64 0,.int .i64 0,.int .i64 0,.int .i64 0,.int .i64 0,.int .i64 0,.int .i64 0,.int .i64 0,.int .i64 0,.int .i64 0,.int .i64 0,.ae,.ae,.ae,.int .i64 0,.ae]),fW 31 10 39] (cR [ky 7 7,aC 40 2 7,ky 7 7,cn 41 0 7,ky 7 41,aQ 42 1 41,af 43 8,dM 42,de 44 6 42 43,dM 44,cn 45 0 44,dM 45,aC 46 3 45,ky 10 10,cn 47 0 10,ky 10 47,aC 48 3 47,fD 49 10 40 46 48,ai 11 49] (.seq (cR [af 50 11,sR 51 .neq (aT 50) (aS [])] (db 51 (.seq (.seq (.region true [aC 52 2 7,cn 53 0 7,aQ 54 1 53,af 55 8,de 56 6 54 55,cn 57 0 56,aC 58 3 57,af 59 11,fD 60 8 52 58 59,cn 61 0 10,aC 62 3 61,oO 63 (n9 3 [[.int .i64 0,.int .i64 0,.int .i64 0]] [(0,.tmp 62)]),dC 64 7 60 63,oO 65 (.un .not (aT 64))]) (db 65 (cR [aR 6 qZ] .ret) .skip)) (.exit 3)) .skip)) (cR [ky 10 10,cn 66 4 10,ky 10 66,aC 67 3 66,ky 7 7,cn 68 0 7,ky 7 68,aQ 69 1 68,af 70 8,dM 69,de 71 6 69 70,dM 71,cn 72 0 71,dM 72,aC 73 3 72,oO 74 (.bin .eql (.flat [.i,.i,.i]) (aT 67) (aT 73)),ai 75 74,nf 75 (.j6 (.frame 7) (aT 7)),ia 76 75 (sE 0 7),nf 75 (.j6 (.frame 7) (aT 76)),ia 77 75 (jZ 1 76),ia 78 75 (dO 8),nf 75 (oz 77),ia 79 75 (.ixSl 6 (aT 77) (aT 78)),nf 75 (oz 79),ia 80 75 (sE 4 79),nf 75 (oz 80),ia 81 75 (jZ 1 80),nf 75 (.j6 (.frame 10) (aT 10)),ia 82 75 (sE 4 10),nf 75 (.j6 (.frame 10) (aT 82)),ia 83 75 (iW 3 82),ia 84 75 (BB 13 [aT 81,aT 83]),To 85 75 84,ai 12 85] (cR [aR 13 BV] (.seq (cR [aR 14 (aI 0)] (.block 4 (.loop (.seq (cR [af 86 14,cn 87 1 7,aQ 88 1 87,cX 89 .sl 88,bG 90 .lss 86 89] (db 90 .skip (.exit 4))) (.seq (.block 5 (.region false [af 93 13,ai 94 93,dK 95 94 (dO 14),dK 96 94 (dO 9),dK 97 94 (ji .eql (aT 95) (aT 96)),dK 98 94 (Hg 97),nf 98 (.j6 (.frame 7) (aT 7)),ia 99 98 (sE 1 7),nf 98 (.j6 (.frame 7) (aT 99)),ia 100 98 (jZ 1 99),ia 101 98 (dO 14),nf 98 (oz 100),ia 102 98 (.ixSl 31 (aT 100) (aT 101)),nf 98 (oz 102),ia 103 98 (sE 7 102),nf 98 (oz 103),ia 104 98 (jZ 1 103),nf 98 (.j6 (.frame 10) (aT 10)),ia 105 98 (sE 7 10),nf 98 (.j6 (.frame 10) (aT 105)),ia 106 98 (jZ 1 105),ia 107 98 (ji .neq (aT 104) (aT 106)),dK 108 94 (.pick (aT 98) BV (aT 107)),dK 109 94 (Hg 108),nf 109 (.j6 (.frame 7) (aT 7)),ia 110 109 (sE 1 7),nf 109 (.j6 (.frame 7) (aT 110)),ia 111 109 (jZ 1 110),ia 112 109 (dO 14),nf 109 (oz 111),ia 113 109 (.ixSl 31 (aT 111) (aT 112)),nf 109 (oz 113),ia 114 109 (sE 4 113),nf 109 (oz 114),ia 115 109 (iW 3 114),nf 109 (.j6 (.frame 10) (aT 10)),ia 116 109 (sE 4 10),nf 109 (.j6 (.frame 10) (aT 116)),ia 117 109 (iW 3 116),ia 118 109 (.bin .neq (.flat [.i,.i,.i]) (aT 115) (aT 117)),dK 119 94 (.pick (aT 109) BV (aT 118)),lp 120 94 119,ai 13 120])) (.region false [af 91 14,aN 92 .add 91 1,ai 14 92])))))) (cR [af 121 12,ai 122 121,dK 123 122 (dO 13),lp 124 122 123,ai 125 124,dK 126 125 (sE 7 10),dK 127 125 (jZ 1 126),dK 128 125 (ji .neq (aT 127) (aS [])),lp 129 125 128] (db 129 (cR [aR 6 qZ] .ret) .skip))))))))) (.region false [af 33 9,aN 34 .add 33 1,ai 9 34]))))))) (.region false [af 26 8,aN 27 .add 26 1,ai 8 27])))))) (cR [fp 130 12 [],ai 6 130] .ret)))⟩
theorem SD:bs Tryz.f4 ir4=some ir4:=by kernel_rfl
def Ux:ay:=⟨[7,9,10,11,12,47,57,91,95,106,120,700006,700008],[3,6,8,15,50,900135],[],137,3,[.cell 6 true 2],cR [oO 3 (.boxL (aT 0)),oO 6 (.allocL [.ae,.ae])] (cR [oO 12 (n9 31 [] []),cn 13 1 3,aQ 14 1 13,oO 15 (.appendO 31 352 (aT 12) (aT 14)),cn 16 1 3,fW 1 16 15] (.seq (cR [aR 7 (aI 0)] (.block 0 (.loop (.seq (cR [af 17 7,cn 18 1 3,aQ 19 1 18,cX 20 .sl 19,bG 21 .lss 17 20] (db 21 .skip (.exit 0))) (.seq (.block 1 (cR [cn 24 1 3,aQ 25 1 24,af 26 7,de 27 31 25 26,aC 28 31 27,oO 8 (.allocL [.int .i64 0,.int .i64 0,.int .i64 0,.int .i64 0,.int .i64 0,.int .i64 0,.int .i64 0,.str [],.ae,.int .i64 0,.int .i64 0,.int .i64 0,.int .i64 0,.ae,.int .i64 0,.int .i64 0,.int .i64 0,.int .i64 0,.int .i64 0,.int .i64 0,.int .i64 0,.int .i64 0,.int .i64 0,.int .i64 0,.int .i64 0,.int .i64 0,.ae,.ae,.ae,.int .i64 0,.ae]),fW 31 8 28] (cR [cn 29 14 8,aC 30 15 29,af 31 1,af 32 2,fD 33 14 30 31 32,cn 34 14 8,fW 15 34 33] (.seq (cR [af 35 1,af 36 7,fp 37 15 [aT 35,aT 36,aI 4],aN 38 .eql 37 1] (db 38 (.region false [oO 39 (n9 1 [[.str []],[.str []],[.str []],[.str []]] [(0,.cr (.str [102])),(1,.cr (.str [80,111,105,110,116])),(2,.cr (.str [97])),(3,.cr (.str [103]))]),af 40 1,af 41 7,aN 42 .add 41 3,fp 43 15 [aT 40,aT 42,aI 4],de 44 1 39 43,aQ 45 1 44,cn 46 7 8,fW 1 46 45]) .skip)) (cR [oO 47 (n9 11 [] []),cn 48 8 8,aQ 49 1 48,oO 50 (.appendO 11 112 (aT 47) (aT 49)),cn 51 8 8,fW 1 51 50] (.seq (cR [aR 9 (aI 0)] (.block 2 (.loop (.seq (cR [af 52 9,cn 53 8 8,aQ 54 1 53,cX 55 .sl 54,bG 56 .lss 52 55,ai 57 56,dK 58 57 (dO 1),dK 59 57 (dO 7),dK 60 57 (ji .add (aT 59) (aI 5)),dK 61 57 (BB 15 [aT 58,aT 60,aI 3]),dK 62 57 (ji .gtr (aT 61) (aI 0)),lp 63 57 62] (db 63 .skip (.exit 2))) (.seq (.block 3 (.region false [ky 8 8,cn 66 8 8,ky 8 66,aQ 67 1 66,af 68 9,oO 69 (n9 1 [[.str []],[.str []],[.str []],[.str []],[.str []],[.str []]] [(0,.cr (.str [97])),(1,.cr (.str [117])),(2,.cr (.str [97,49])),(3,.cr (.str [98])),(4,.cr (.str [101])),(5,.cr (.str [120]))]),af 70 9,af 71 1,af 72 7,aN 73 .add 72 5,fp 74 15 [aT 71,aT 73,aI 6],bG 75 .add 70 74,aN 76 .rem 75 6,dM 69,de 77 1 69 76,dM 77,aQ 78 1 77,dM 67,de 79 11 67 68,dM 79,cn 80 3 79,dM 80,fW 1 80 78])) (.region false [af 64 9,aN 65 .add 64 1,ai 9 65])))))) (cR [af 81 2,aN 82 .eql 81 0,ai 10 82] (.seq (cR [aR 11 (aI 0)] (.block 4 (.loop (.seq (cR [af 83 11,cn 84 1 3,aQ 85 1 84,cX 86 .sl 85,bG 87 .lss 83 86] (db 87 .skip (.exit 4))) (.seq (.block 5 (.region false [af 90 10,ai 91 90,dK 92 91 (dO 11),dK 93 91 (dO 7),dK 94 91 (ji .eql (aT 92) (aT 93)),dK 95 91 (Hg 94),nf 95 (.j6 (.frame 3) (aT 3)),ia 96 95 (sE 1 3),nf 95 (.j6 (.frame 3) (aT 96)),ia 97 95 (jZ 1 96),ia 98 95 (dO 11),nf 95 (oz 97),ia 99 95 (.ixSl 31 (aT 97) (aT 98)),nf 95 (oz 99),ia 100 95 (sE 7 99),nf 95 (oz 100),ia 101 95 (jZ 1 100),nf 95 (.j6 (.frame 8) (aT 8)),ia 102 95 (sE 7 8),nf 95 (.j6 (.frame 8) (aT 102)),ia 103 95 (jZ 1 102),ia 104 95 (ji .neq (aT 101) (aT 103)),dK 105 91 (.pick (aT 95) BV (aT 104)),dK 106 91 (Hg 105),nf 106 (.j6 (.frame 3) (aT 3)),ia 107 106 (sE 1 3),nf 106 (.j6 (.frame 3) (aT 107)),ia 108 106 (jZ 1 107),ia 109 106 (dO 11),nf 106 (oz 108),ia 110 106 (.ixSl 31 (aT 108) (aT 109)),nf 106 (oz 110),ia 111 106 (sE 4 110),nf 106 (oz 111),ia 112 106 (iW 3 111),nf 106 (.j6 (.frame 8) (aT 8)),ia 113 106 (sE 4 8),nf 106 (.j6 (.frame 8) (aT 113)),ia 114 106 (iW 3 113),ia 115 106 (.bin .neq (.flat [.i,.i,.i]) (aT 112) (aT 114)),dK 116 91 (.pick (aT 106) BV (aT 115)),lp 117 91 116,ai 10 117])) (.region false [af 88 11,aN 89 .add 88 1,ai 11 89])))))) (.seq (cR [af 118 2,aN 119 .eql 118 0,ai 120 119,dK 121 120 (dO 10),dK 122 120 (.un .not (aT 121)),lp 123 120 122] (db 123 (.region false [cn 124 1 3,aQ 125 1 124,af 126 7,de 127 31 125 126,cn 128 7 127,aQ 129 1 128,cn 130 7 8,fW 1 130 129]) .skip)) (.region false [cn 131 1 3,aQ 132 1 131,af 133 7,aC 134 31 8,de 135 31 132 133,oN (.oY 31 (aT 135) (aT 134))])))))))))) (.region false [af 22 7,aN 23 .add 22 1,ai 7 23])))))) (cR [aC 136 2 3,fW 2 6 136] .ret)))⟩
theorem ab8:bs Tryz.f5 Ux=some Ux:=by kernel_rfl
noncomputable def ir6:ay:=cI [3,4,5,6,7,8,9,10,11,13,14,15,118,186,17,22,47,98,152,700002,700012] [2,12,49,100,23,999998,999999] [500018] Tryz.f6
theorem acd:bs Tryz.f6 ir6=some ir6:=by kernel_rfl
def ir7:ay:=⟨[5],[],[],26,2,[.tmp 4],cR [dD 4 qZ] (.seq (cR [af 6 0,cX 7 .sl 6,af 8 1,cX 9 .sl 8,bG 10 .neq 7 9] (db 10 (cR [dD 4 qZ] .ret) .skip)) (.seq (cR [aR 5 (aI 0)] (.block 0 (.loop (.seq (cR [af 11 5,af 12 0,cX 13 .sl 12,bG 14 .lss 11 13] (db 14 .skip (.exit 0))) (.seq (.block 1 (.seq (.region true [af 17 0,af 18 5,de 19 3 17 18,aC 20 3 19,af 21 1,af 22 5,de 23 3 21 22,aC 24 3 23,oO 25 (.bin .neq (.flat [.i,.i,.i]) (aT 20) (aT 24))]) (db 25 (cR [dD 4 qZ] .ret) .skip))) (.region false [af 15 5,aN 16 .add 15 1,ai 5 16])))))) (cR [dD 4 BV] .ret)))⟩
theorem acp:bs Tryz.f7 ir7=some ir7:=by kernel_rfl
def W4:ay:=⟨[6,8,9,10,11,12,16,17,18,19,27,35,40,44,51,57,700007,700014,700015],[4,7,14,15,999999],[],84,3,[.tmp 6],cR [oO 3 (.box 26 (aT 0)),oO 4 (.boxL (aT 1)),aR 6 (.cr (.slice [] true))] (cR [aC 20 2 3,aC 21 3 4,dC 22 23 20 21,ai 19 22,iB 23 19 0,iB 24 19 1,oO 7 (.allocL [.int .i64 0,.int .i64 0,.int .i64 0,.str [],.ae,.ae]),fW 6 7 23,ai 8 24] (.seq (cR [af 25 8,oO 26 (.un .not (aT 25))] (db 26 (cR [aR 6 (.cr (.slice [] true))] .ret) .skip)) (.seq (cR [af 28 2,fp 29 24 [aT 28,aS [46]],ai 27 29,iB 30 27 0,iB 31 27 1,iB 32 27 2,ai 9 30,ai 10 31,ai 11 32] (cR [af 33 11] (db 33 (cR [aR 12 (.cr (.slice [] true))] (.seq (cR [aC 34 3 4,oO 35 (n9 3 [[.int .i64 0,.int .i64 0,.int .i64 0]] [(0,.tmp 34)]),cn 36 4 7,aQ 37 1 36,mg 38 3 24 35 37,cX 39 .sl 38,aR 40 (aI 0)] (.block 0 (.loop (cR [bG 41 .lss 40 39] (.seq (db 41 .skip (.exit 0)) (.seq (.block 1 (cR [de 42 3 38 40,aC 43 3 42,oO 14 (.allocL [.int .i64 0,.int .i64 0,.int .i64 0]),fW 3 14 43] (cR [aC 45 2 3,aC 46 3 14,dC 47 23 45 46,ai 44 47,iB 48 44 0,iB 49 44 1,oO 15 (.allocL [.int .i64 0,.int .i64 0,.int .i64 0,.str [],.ae,.ae]),fW 6 15 48,ai 16 49] (cR [af 50 16,ai 51 50,dK 52 51 (sE 3 15),dK 53 51 (jZ 1 52),dK 54 51 (dO 9),dK 55 51 (ji .eql (aT 53) (aT 54)),lp 56 51 55] (db 56 (.region false [ai 57 12,aC 58 3 14,oO 59 (n9 3 [[.int .i64 0,.int .i64 0,.int .i64 0]] [(0,.tmp 58)]),mg 60 3 24 57 59,ai 12 60]) .skip))))) (.region false [aN 61 .add 40 1,ai 40 61]))))))) (cR [aC 62 2 3,af 63 12,af 64 10,fD 65 25 62 63 64,ai 6 65] .ret))) .skip))) (.seq (cR [aC 66 2 3,aC 67 3 4,oO 68 (n9 3 [[.int .i64 0,.int .i64 0,.int .i64 0]] [(0,.tmp 67)]),af 69 2,fD 70 25 66 68 69,ai 17 70] (cR [af 71 17,cX 72 .sl 71,aN 73 .gtr 72 0] (db 73 (cR [af 74 17,ai 6 74] .ret) .skip))) (cR [cn 75 4 7,aQ 76 1 75,dS 77 27 76,oO 78 (.mkfunc (Fn.func 28) [] [aT 3]),dC 79 26 77 78,ai 18 79] (cR [aC 80 2 3,af 81 18,af 82 2,fD 83 25 80 81 82,ai 6 83] .ret))))))⟩
theorem acx:bs Tryz.f8 W4=some W4:=by kernel_rfl
def SM:ay:=⟨[6,7,8,9,10,11,12,13,15,16,17,21,30,50,60,700014],[3,4,14],[],86,3,[.tmp 6],cR [oO 3 (.boxL (aT 0)),oO 4 (.boxL (aT 1)),aR 6 (.cr (.slice [] true))] (cR [aC 18 2 3,aC 19 3 4,dC 20 29 18 19,ai 7 20] (cR [af 22 2,dS 23 30 22,ai 21 23,iB 24 21 0,iB 25 21 1,iB 26 21 2,ai 8 24,ai 9 25,ai 10 26] (.seq (cR [af 27 7,cX 28 .sl 27,aN 29 .gtr 28 0,ai 30 29,dK 31 30 (dO 10),dK 32 30 (.un .not (aT 31)),lp 33 30 32] (db 33 (cR [aC 34 2 3,aC 35 3 4,af 36 2,fD 37 31 34 35 36,ai 11 37] (.seq (cR [af 38 11,cX 39 .sl 38,aN 40 .gtr 39 0] (db 40 (cR [af 41 11,ai 6 41] .ret) .skip)) (.region false [af 42 7,oO 43 (.slice (.sl 3) (aT 42) (some (aI 1)) none none),ai 7 43]))) .skip)) (cR [aR 12 (.cr (.slice [] true))] (.seq (cR [aR 13 (aI 0)] (.block 0 (.loop (.seq (cR [af 44 13,af 45 7,cX 46 .sl 45,bG 47 .lss 44 46] (db 47 .skip (.exit 0))) (.seq (.block 1 (cR [ky 3 3,aC 51 2 3,af 52 7,af 53 13,dM 52,de 54 3 52 53,dM 54,aC 55 3 54,dC 56 32 51 55,ai 50 56,iB 57 50 0,iB 58 50 1,oO 14 (.allocL [.int .i64 0,.int .i64 0,.int .i64 0,.str [],.ae,.ae]),ky 14 14,fW 6 14 57,ai 15 58] (.seq (cR [af 59 10,ai 60 59,dK 61 60 (sE 3 14),dK 62 60 (jZ 1 61),dK 63 60 (dO 8),dK 64 60 (ji .neq (aT 62) (aT 63)),lp 65 60 64] (db 65 (.exit 1) .skip)) (cR [ky 3 3,aC 66 2 3,af 67 7,af 68 13,dM 67,de 69 3 67 68,dM 69,aC 70 3 69,af 71 9,fD 72 31 66 70 71,ai 16 72] (cR [aR 17 (aI 0)] (.block 2 (.loop (.seq (cR [af 73 17,af 74 16,cX 75 .sl 74,bG 76 .lss 73 75] (db 76 .skip (.exit 2))) (.seq (.block 3 (.region false [af 79 12,af 80 16,af 81 17,de 82 3 80 81,aC 83 3 82,dC 84 33 79 83,ai 12 84])) (.region false [af 77 17,aN 78 .add 77 1,ai 17 78])))))))))) (.region false [af 48 13,aN 49 .add 48 1,ai 13 49])))))) (cR [af 85 12,ai 6 85] .ret))))))⟩
theorem acG:bs Tryz.f9 SM=some SM:=by kernel_rfl
def JD:ay:=⟨[6,8,10,12,13,21,38,700007,700009],[3,4,5,7,9,999999],[],51,3,[.tmp 6],cR [oO 3 (.boxL (aT 0)),oO 4 (.boxL (aT 1)),oO 5 (.boxL (aT 2)),aR 6 (aS [])] (cR [aC 14 2 3,aC 15 3 5,dC 16 34 14 15,ai 13 16,iB 17 13 0,iB 18 13 1,oO 7 (.allocL [.int .i64 0,.int .i64 0,.int .i64 0,.int .i64 0,.int .i64 0,.int .i64 0,.int .i64 0,.str [],.ae,.int .i64 0,.int .i64 0,.int .i64 0,.int .i64 0,.ae,.int .i64 0,.int .i64 0,.int .i64 0,.int .i64 0,.int .i64 0,.int .i64 0,.int .i64 0,.int .i64 0,.int .i64 0,.int .i64 0,.int .i64 0,.int .i64 0,.ae,.ae,.ae,.int .i64 0,.ae]),fW 31 7 17,ai 8 18] (.seq (cR [af 19 8,oO 20 (.un .not (aT 19))] (db 20 (cR [aR 6 (aS [])] .ret) .skip)) (cR [aC 22 2 3,cn 23 4 7,aC 24 3 23,dC 25 23 22 24,ai 21 25,iB 26 21 0,iB 27 21 1,oO 9 (.allocL [.int .i64 0,.int .i64 0,.int .i64 0,.str [],.ae,.ae]),fW 6 9 26,ai 10 27] (.seq (cR [cn 28 7 7,aQ 29 1 28,cn 30 3 9,aQ 31 1 30,sR 32 .add (aT 31) (aS [46]),cn 33 7 7,aQ 34 1 33,bG 35 .add 32 34,oO 36 (n9 1 [[.str []],[.str []]] [(0,.tmp 29),(1,.tmp 35)]),cX 37 .sl 36,aR 38 (aI 0)] (.block 0 (.loop (cR [bG 39 .lss 38 37] (.seq (db 39 .skip (.exit 0)) (.seq (.block 1 (cR [de 40 1 36 38,aQ 41 1 40,ai 12 41] (.seq (.region true [aC 42 2 3,aC 43 3 4,af 44 12,fD 45 8 42 43 44,aC 46 3 5,oO 47 (n9 3 [[.int .i64 0,.int .i64 0,.int .i64 0]] [(0,.tmp 46)]),dC 48 35 45 47]) (db 48 (cR [af 49 12,ai 6 49] .ret) .skip)))) (.region false [aN 50 .add 38 1,ai 38 50]))))))) (cR [aR 6 (aS [])] .ret)))))⟩
theorem VT:bs Tryz.f10 JD=some JD:=by kernel_rfl
def JE:ay:=⟨[6,8,10,11,12,13,21,700007,700009],[3,4,5,7,9],[],55,3,[.tmp 6],cR [oO 3 (.boxL (aT 0)),oO 4 (.boxL (aT 1)),oO 5 (.boxL (aT 2)),aR 6 (aS [])] (cR [aC 14 2 3,aC 15 3 5,dC 16 36 14 15,ai 13 16,iB 17 13 0,iB 18 13 1,oO 7 (.allocL [.int .i64 0,.int .i64 0,.int .i64 0,.int .i64 0,.int .i64 0,.int .i64 0,.int .i64 0,.str [],.ae,.int .i64 0,.int .i64 0,.int .i64 0,.int .i64 0,.ae,.int .i64 0,.int .i64 0,.int .i64 0,.int .i64 0,.int .i64 0,.int .i64 0,.int .i64 0,.int .i64 0,.int .i64 0,.int .i64 0,.int .i64 0,.int .i64 0,.ae,.ae,.ae,.int .i64 0,.ae]),fW 31 7 17,ai 8 18] (.seq (cR [af 19 8,oO 20 (.un .not (aT 19))] (db 20 (cR [aR 6 (aS [])] .ret) .skip)) (cR [aC 22 2 3,cn 23 4 7,aC 24 3 23,dC 25 32 22 24,ai 21 25,iB 26 21 0,iB 27 21 1,oO 9 (.allocL [.int .i64 0,.int .i64 0,.int .i64 0,.str [],.ae,.ae]),fW 6 9 26,ai 10 27] (cR [cn 28 7 7,aQ 29 1 28,cn 30 3 9,aQ 31 1 30,sR 32 .add (aT 31) (aS [46]),cn 33 7 7,aQ 34 1 33,bG 35 .add 32 34,oO 36 (n9 1 [[.str []],[.str []]] [(0,.tmp 29),(1,.tmp 35)]),ai 11 36] (.seq (cR [aR 12 (aI 0)] (.block 0 (.loop (.seq (cR [af 37 12,aN 38 .lss 37 2] (db 38 .skip (.exit 0))) (.seq (.block 1 (.seq (.region true [aC 41 2 3,aC 42 3 4,af 43 11,af 44 12,de 45 1 43 44,aQ 46 1 45,fD 47 9 41 42 46,aC 48 3 5,oO 49 (n9 3 [[.int .i64 0,.int .i64 0,.int .i64 0]] [(0,.tmp 48)]),dC 50 7 47 49]) (db 50 (cR [af 51 11,af 52 12,de 53 1 51 52,aQ 54 1 53,ai 6 54] .ret) .skip))) (.region false [af 39 12,aN 40 .add 39 1,ai 12 40])))))) (cR [aR 6 (aS [])] .ret))))))⟩
theorem VU:bs Tryz.f11 JE=some JE:=by kernel_rfl
noncomputable def abX:ay:=cI [0,2,3,6,7,27,35,43,56,63,90,98,105,120,132,145,148,11,13,15,73,76,78,84,87,700001,700004,700005] [1,4,5,999999,19] [] Tryz.f12
theorem VV:bs Tryz.f12 abX=some abX:=by kernel_rfl
def Rw:ay:=⟨[5],[3],[],18,2,[.tmp 4],cR [oO 3 (.boxL (aT 1)),dD 4 qZ] (.seq (cR [aR 5 (aI 0)] (.block 0 (.loop (.seq (cR [af 6 5,af 7 0,cX 8 .sl 7,bG 9 .lss 6 8] (db 9 .skip (.exit 0))) (.seq (.block 1 (.seq (.region true [af 12 0,af 13 5,de 14 3 12 13,aC 15 3 14,aC 16 3 3,oO 17 (.bin .eql (.flat [.i,.i,.i]) (aT 15) (aT 16))]) (db 17 (cR [dD 4 BV] .ret) .skip))) (.region false [af 10 5,aN 11 .add 10 1,ai 5 11])))))) (cR [dD 4 qZ] .ret))⟩
theorem VW:bs Tryz.f13 Rw=some Rw:=by kernel_rfl
def RO:ay:=⟨[7,8,9,10,11,12,39,43,56,700006],[3,6],[777777],70,3,[.cell 6 true 15],cR [oO 3 (.boxL (aT 0)),oO 6 (.allocL [.int .i64 0,.int .i64 0,.int .i64 0,.int .i64 0,.int .i64 0,.int .i64 0,.int .i64 0,.int .i64 0,.int .i64 0,.int .i64 0,.int .i64 0,.int .i64 0,.ae,.ae,.ae])] (cR [aR 7 (.cr (.slice [] true))] (.seq (cR [aR 8 (aI 0)] (.block 0 (.loop (.seq (cR [af 13 8,cn 14 14 3,aQ 15 1 14,cX 16 .sl 15,bG 17 .lss 13 16] (db 17 .skip (.exit 0))) (.seq (.block 1 (cR [af 20 1,cn 21 0 3,cn 22 2 21,aQ 23 1 22,cn 24 0 3,cn 25 1 24,aQ 26 1 25,sR 27 .mul (aI 31) (aT 26),bG 28 .add 23 27,af 29 8,bG 30 .add 28 29,fp 31 15 [aT 20,aT 30,aI 60],ai 9 31] (cR [oO 32 (n9 1 [[.str []],[.str []],[.str []],[.str []],[.str []],[.str []]] [(0,.cr (.str [97])),(1,.cr (.str [98])),(2,.cr (.str [97,49])),(3,.cr (.str [117])),(4,.cr (.str [97,86,101,114,121,76,111,110,103,78,97,109,101,49,50,51])),(5,.cr (.str [101]))]),af 33 9,aN 34 .rem 33 6,de 35 1 32 34,aQ 36 1 35,ai 10 36] (.seq (cR [af 37 9,aN 38 .eql 37 59,ai 39 38,dK 40 39 (dO 2),dK 41 39 (ji .gtr (aT 40) (aI 0)),lp 42 39 41] (db 42 (.region false [aR 10 (aS [111,118,101,114])]) .skip)) (.region false [ai 43 7,af 44 10,oO 45 (n9 1 [[.str []]] [(0,.tmp 44)]),mg 46 1 16 43 45,ai 7 46]))))) (.region false [af 18 8,aN 19 .add 18 1,ai 8 19])))))) (cR [af 47 7,cn 48 14 3,fW 1 48 47] (cR [aR 11 (.cr (.slice [] true))] (.seq (cR [aR 12 (aI 0)] (.block 2 (.loop (.seq (cR [af 49 12,cn 50 13 3,aQ 51 1 50,cX 52 .sl 51,bG 53 .lss 49 52] (db 53 .skip (.exit 2))) (.seq (.block 3 (.region false [ai 56 11,cn 57 13 3,aQ 58 1 57,af 59 12,de 60 15 58 59,aC 61 15 60,af 62 1,af 63 2,fD 64 14 61 62 63,oO 65 (n9 15 [[.int .i64 0,.int .i64 0,.int .i64 0,.int .i64 0,.int .i64 0,.int .i64 0,.int .i64 0,.int .i64 0,.int .i64 0,.int .i64 0,.int .i64 0,.int .i64 0,.slice [] false,.slice [] false,.slice [] false]] [(0,.tmp 64)]),mg 66 15 168 56 65,ai 11 66])) (.region false [af 54 12,aN 55 .add 54 1,ai 12 55])))))) (cR [af 67 11,cn 68 13 3,fW 1 68 67] (cR [aC 69 15 3,fW 15 6 69] .ret)))))))⟩
theorem VX:bs Tryz.f14 RO=some RO:=by kernel_rfl
def R5:ay:=⟨[6,9],[],[],21,3,[.tmp 6],cR [aR 6 (aI 0)] (.seq (cR [af 7 1,aN 8 .lss 7 0,ai 9 8,ia 10 9 (dO 1),ia 11 9 (dO 0),ia 12 9 (akZ 11),ia 13 9 (ji .geq (aT 10) (aT 12)),To 14 9 13] (db 14 (cR [aR 6 (aI 0)] .ret) .skip)) (cR [af 15 0,af 16 1,de 17 1 15 16,aQ 18 1 17,af 19 2,dC 20 41 18 19,ai 6 20] .ret))⟩
theorem VY:bs Tryz.f15 R5=some R5:=by kernel_rfl
def JF:ay:=⟨[23,700002],[2],[],24,1,[.cell 2 true 3],cR [oO 2 (.allocL [.int .i64 0,.int .i64 0,.int .i64 0])] (cR [af 3 0,jB 4 3,cn 5 4 4,aQ 6 1 5,aN 7 .add 6 1,jB 8 3,cn 9 4 8,fW 1 9 7] (cR [af 10 0,dM 10,jB 11 10,dM 11,cn 12 4 11,dM 12,aQ 13 1 12,aN 14 .sub 13 1,aN 15 .quo 14 32,sR 16 .add (aI 1) (aT 15),af 17 0,dM 17,jB 18 17,dM 18,cn 19 4 18,dM 19,aQ 20 1 19,aN 21 .sub 20 1,aN 22 .rem 21 32,oO 23 (.build [.int .i64 0,.int .i64 0,.int .i64 0] [(1,1,.tmp 16),(2,1,.tmp 22)]),ky 2 2,fW 3 2 23] .ret))⟩
theorem VZ:bs Tryz.f16 JF=some JF:=by kernel_rfl
def Sb:ay:=⟨[4],[],[],23,2,[.tmp 4],cR [aR 4 (aI 0)] (cR [af 5 0,jB 6 5,cn 7 3 6,aQ 8 1 7,aN 9 .add 8 1,jB 10 5,cn 11 3 10,fW 1 11 9] (cR [af 12 0,dM 12,jB 13 12,dM 13,cn 14 2 13,dM 14,aQ 15 1 14,af 16 0,dM 16,jB 17 16,dM 17,cn 18 3 17,dM 18,aQ 19 1 18,aN 20 .sub 19 1,af 21 1,fD 22 15 15 20 21,ai 4 22] .ret))⟩
theorem V0:bs Tryz.f17 Sb=some Sb:=by kernel_rfl
def tL:ay:=⟨[5,8,12,23,7,35,700002],[2],[777777],36,1,[.cell 2 true 5],cR [oO 2 (.allocL [.int .i64 0,.int .i64 0,.int .i64 0,.int .i64 0,.ae])] (.seq (cR [af 3 0,fp 4 17 [aT 3,aI 6]] (.block 0 (cR [aN 6 .eql 4 0,ai 5 6] (db 5 (cR [oO 7 (.build [.int .i64 0,.int .i64 0,.int .i64 0,.int .i64 0,.ae] [(0,1,.cr (.int .i64 1))]),fW 5 2 7] .ret) (cR [aN 9 .eql 4 1,ai 8 9] (db 8 (cR [oO 10 (.build [.int .i64 0,.int .i64 0,.int .i64 0,.int .i64 0,.slice [] true] []),dS 11 19 10,fW 5 2 11] .ret) (cR [aN 13 .eql 4 2,ai 12 13] (db 12 (cR [af 14 0,jB 15 14,cn 16 0 15,cn 17 1 16,aQ 18 1 17,oIx 19 31 (aT 18) (aI 0),cn 20 0 19,aC 21 3 20,dS 22 42 21,fW 5 2 22] .ret) (cR [aN 24 .eql 4 3,ai 23 24] (db 23 (cR [af 25 0,jB 26 25,cn 27 0 26,cn 28 1 27,aQ 29 1 28,oIx 30 31 (aT 29) (aI 1),cn 31 0 30,aC 32 3 31,dS 33 42 32,dS 34 19 33,fW 5 2 34] .ret) .skip)))))))))) (cR [oO 35 (.build [.int .i64 0,.int .i64 0,.int .i64 0,.int .i64 0,.ae] []),fW 5 2 35] .ret))⟩
theorem V1:bs Tryz.f18 tL=some tL:=by kernel_rfl
def Sg:ay:=⟨[5,700002],[1,2],[777777],6,1,[.cell 2 true 5],cR [oO 1 (.boxL (aT 0)),oO 2 (.allocL [.int .i64 0,.int .i64 0,.int .i64 0,.int .i64 0,.ae])] (cR [aC 3 5 1,oO 4 (n9 5 [[.int .i64 0,.int .i64 0,.int .i64 0,.int .i64 0,.slice [] false]] [(0,.tmp 3)]),oO 5 (.build [.int .i64 0,.int .i64 0,.int .i64 0,.int .i64 0,.ae] [(0,1,.cr (.int .i64 2)),(4,1,.tmp 4)]),fW 5 2 5] .ret)⟩
theorem V2:bs Tryz.f19 Sg=some Sg:=by kernel_rfl
def Sh:ay:=⟨[2,5,9,13],[],[],17,1,[.tmp 2],cR [aR 2 qZ] (cR [af 3 0,aN 4 .eql 3 2,ai 5 4,ia 6 5 (dO 0),ia 7 5 (ji .eql (aT 6) (aI 3)),To 8 5 7,ai 9 8,ia 10 9 (dO 0),ia 11 9 (ji .eql (aT 10) (aI 4)),To 12 9 11,ai 13 12,ia 14 13 (dO 0),ia 15 13 (ji .eql (aT 14) (aI 5)),To 16 13 15,ai 2 16] .ret)⟩
theorem V3:bs Tryz.f20 Sh=some Sh:=by kernel_rfl
def Si:ay:=⟨[8,9,10,13,17],[6],[777777],20,4,[.tmp 8],cR [oO 6 (.boxL (aT 2)),aR 8 (.cr (.slice [] true))] (cR [aR 9 (.cr (.slice [] true))] (cR [ai 10 9,af 11 0,mg 12 5 48 10 11,ai 9 12] (cR [ai 13 9,af 14 1,aC 15 3 6,af 16 3,oO 17 (.build [.str [],.int .i64 0,.int .i64 0,.int .i64 0,.int .i64 0] [(0,1,.tmp 14),(1,3,.tmp 15),(4,1,.tmp 16)]),oO 18 (n9 5 [[.str [],.int .i64 0,.int .i64 0,.int .i64 0,.int .i64 0]] [(0,.tmp 17)]),mg 19 5 48 13 18,ai 8 19] .ret)))⟩
theorem V4:bs Tryz.f21 Si=some Si:=by kernel_rfl
def im:ay:=⟨[7,22,29,36,40,73,84,97,107,121,128,136,148,160,57,65,71,80,106,120,700006,700008,700009],[6,8,9],[777777],172,3,[.cell 6 true 15],cR [oO 6 (.allocL [.int .i64 0,.int .i64 0,.int .i64 0,.int .i64 0,.int .i64 0,.int .i64 0,.int .i64 0,.int .i64 0,.int .i64 0,.int .i64 0,.int .i64 0,.int .i64 0,.ae,.ae,.ae])] (cR [af 11 0,fp 12 17 [aT 11,aI 16],ai 7 12] (cR [af 13 0,jB 14 13,cn 15 5 14,aQ 16 1 15,aN 17 .sub 16 1,jB 18 13,cn 19 5 18,fW 1 19 17] (.seq (cR [af 20 2,aN 21 .leq 20 0,ai 22 21,ia 23 22 (dO 0),ia 24 22 (.nilCheck (aT 23)),ia 25 22 (sE 5 24),ia 26 22 (jZ 1 25),ia 27 22 (ji .leq (aT 26) (aI 0)),To 28 22 27,ai 29 28,ia 30 29 (dO 7),ia 31 29 (ji .lss (aT 30) (aI 5)),To 32 29 31] (db 32 (.seq (cR [af 33 1,cX 34 .sl 33,aN 35 .gtr 34 0,ai 36 35,dK 37 36 (dO 7),dK 38 36 (ji .neq (aT 37) (aI 1)),lp 39 36 38,ai 40 39,dK 41 40 (dO 7),dK 42 40 (ji .neq (aT 41) (aI 2)),lp 43 40 42] (db 43 (cR [af 44 1,af 45 0,af 46 1,cX 47 .sl 46,dC 48 17 45 47,de 49 5 44 48,aC 50 5 49,oO 8 (.allocL [.str [],.int .i64 0,.int .i64 0,.int .i64 0,.int .i64 0]),fW 5 8 50] (cR [af 51 0,dS 52 16 51,ky 8 8,cn 53 1 8,ky 8 53,aC 54 3 53,ky 8 8,cn 55 4 8,ky 8 55,aQ 56 1 55,oO 57 (.build [.int .i64 0,.int .i64 0,.int .i64 0,.int .i64 0,.int .i64 0,.int .i64 0,.int .i64 0,.int .i64 0,.int .i64 0,.int .i64 0,.int .i64 0,.int .i64 0,.ae,.ae,.ae] [(0,3,.tmp 52),(3,1,.cr (.int .i64 2)),(5,3,.tmp 54),(4,1,.tmp 56)]),ky 6 6,fW 15 6 57] .ret)) .skip)) (.seq (cR [af 58 7,aN 59 .rem 58 2,aN 60 .eql 59 0] (db 60 (cR [af 61 0,dS 62 16 61,af 63 0,fp 64 17 [aT 63,aI 2],oO 65 (.build [.int .i64 0,.int .i64 0,.int .i64 0,.int .i64 0,.int .i64 0,.int .i64 0,.int .i64 0,.int .i64 0,.int .i64 0,.int .i64 0,.int .i64 0,.int .i64 0,.ae,.ae,.ae] [(0,3,.tmp 62),(3,1,.cr (.int .i64 1)),(4,1,.tmp 64)]),fW 15 6 65] .ret) .skip)) (cR [af 66 0,dS 67 16 66,af 68 0,fp 69 17 [aT 68,aI 20],aN 70 .sub 69 9,oO 71 (.build [.int .i64 0,.int .i64 0,.int .i64 0,.int .i64 0,.int .i64 0,.int .i64 0,.int .i64 0,.int .i64 0,.int .i64 0,.int .i64 0,.int .i64 0,.int .i64 0,.ae,.ae,.ae] [(0,3,.tmp 67),(3,1,.cr (.int .i64 0)),(4,1,.tmp 70)]),fW 15 6 71] .ret))) .skip)) (.seq (cR [af 72 7] (.block 0 (.seq (cR [aN 74 .eql 72 5,ai 73 74] (db 73 .skip (.region false [aN 75 .eql 72 6,ai 73 75]))) (db 73 (cR [af 76 0,dS 77 16 76,af 78 0,fp 79 17 [aT 78,aI 12],oO 80 (.build [.int .i64 0,.int .i64 0,.int .i64 0,.int .i64 0,.int .i64 0,.int .i64 0,.int .i64 0,.int .i64 0,.int .i64 0,.int .i64 0,.int .i64 0,.int .i64 0,.ae,.ae,.ae] [(0,3,.tmp 77),(3,1,.cr (.int .i64 4)),(4,1,.tmp 79)]),oO 9 (.allocL [.int .i64 0,.int .i64 0,.int .i64 0,.int .i64 0,.int .i64 0,.int .i64 0,.int .i64 0,.int .i64 0,.int .i64 0,.int .i64 0,.int .i64 0,.int .i64 0,.ae,.ae,.ae]),fW 15 9 80] (cR [dD 10 (aI 2)] (.seq (cR [cn 81 4 9,aQ 82 1 81,aN 83 .eql 82 9,ai 84 83,ia 85 84 (sE 4 9),ia 86 84 (jZ 1 85),ia 87 84 (ji .eql (aT 86) (aI 11)),To 88 84 87] (db 88 (.region false [dD 10 (aI 1)]) .skip)) (cR [af 89 0,af 90 10,af 91 1,af 92 2,aN 93 .sub 92 1,nU 94 43 89 90 91 93,cn 95 13 9,fW 1 95 94] (cR [aC 96 15 9,fW 15 6 96] .ret))))) (cR [aN 98 .eql 72 7,ai 97 98] (db 97 (cR [af 99 0,dS 100 16 99,af 101 0,af 102 1,af 103 2,aN 104 .sub 103 1,fp 105 43 [aT 101,aI 3,aT 102,aT 104],oO 106 (.build [.int .i64 0,.int .i64 0,.int .i64 0,.int .i64 0,.int .i64 0,.int .i64 0,.int .i64 0,.int .i64 0,.int .i64 0,.int .i64 0,.int .i64 0,.int .i64 0,.ae,.ae,.ae] [(0,3,.tmp 100),(3,1,.cr (.int .i64 5)),(13,1,.tmp 105)]),fW 15 6 106] .ret) (cR [aN 108 .eql 72 8,ai 107 108] (db 107 (cR [af 109 0,dS 110 16 109,af 111 0,dS 112 18 111,af 113 0,af 114 0,fp 115 17 [aT 114,aI 3],af 116 1,af 117 2,aN 118 .sub 117 1,nU 119 43 113 115 116 118,oO 120 (.build [.int .i64 0,.int .i64 0,.int .i64 0,.int .i64 0,.int .i64 0,.int .i64 0,.int .i64 0,.int .i64 0,.int .i64 0,.int .i64 0,.int .i64 0,.int .i64 0,.ae,.ae,.ae] [(0,3,.tmp 110),(3,1,.cr (.int .i64 11)),(8,5,.tmp 112),(13,1,.tmp 119)]),fW 15 6 120] .ret) (cR [aN 122 .eql 72 9,ai 121 122] (db 121 (cR [af 123 0,af 124 1,af 125 2,aN 126 .sub 125 1,fp 127 44 [aT 123,aI 12,aT 124,aT 126],fW 15 6 127] .ret) (.seq (cR [aN 129 .eql 72 10,ai 128 129] (db 128 .skip (.region false [aN 130 .eql 72 11,ai 128 130]))) (db 128 (cR [af 131 0,af 132 1,af 133 2,aN 134 .sub 133 1,fp 135 44 [aT 131,aI 10,aT 132,aT 134],fW 15 6 135] .ret) (cR [aN 137 .eql 72 12,ai 136 137] (db 136 (cR [af 138 0,oO 139 (n9 1 [[.int .i64 0],[.int .i64 0]] [(0,.cr (.int .i64 7)),(1,.cr (.int .i64 8))]),af 140 0,fp 141 17 [aT 140,aI 2],de 142 1 139 141,aQ 143 1 142,af 144 1,af 145 2,aN 146 .sub 145 1,nU 147 45 138 143 144 146,fW 15 6 147] .ret) (cR [aN 149 .eql 72 13,ai 148 149] (db 148 (cR [af 150 0,oO 151 (n9 1 [[.int .i64 0],[.int .i64 0]] [(0,.cr (.int .i64 9)),(1,.cr (.int .i64 3))]),af 152 0,fp 153 17 [aT 152,aI 2],de 154 1 151 153,aQ 155 1 154,af 156 1,af 157 2,aN 158 .sub 157 1,nU 159 45 150 155 156 158,fW 15 6 159] .ret) (cR [aN 161 .eql 72 14,ai 160 161] (db 160 (cR [af 162 0,af 163 1,af 164 2,aN 165 .sub 164 1,fp 166 45 [aT 162,aI 3,aT 163,aT 165],fW 15 6 166] .ret) .skip)))))))))))))))))) (cR [af 167 0,af 168 1,af 169 2,aN 170 .sub 169 1,fp 171 44 [aT 167,aI 6,aT 168,aT 170],fW 15 6 171] .ret)))))⟩
theorem V5:bs Tryz.f22 im=some im:=by kernel_rfl
def Sj:ay:=⟨[11,21,700004,700007],[2,3,4,7,999999],[],22,2,[.cell 4 true 6,.tmp 5],cR [oO 2 (.boxL (aT 0)),oO 3 (.boxL (aT 1)),oO 4 (.allocL [.int .i64 0,.int .i64 0,.int .i64 0,.str [],.ae,.ae]),dD 5 qZ] (.seq (cR [cn 8 0 2,aQ 9 1 8,cX 10 .sl 9,aR 11 (aI 0)] (.block 0 (.loop (cR [bG 12 .lss 11 10] (.seq (db 12 .skip (.exit 0)) (.seq (.block 1 (cR [de 13 6 9 11,aC 14 6 13,oO 7 (.allocL [.int .i64 0,.int .i64 0,.int .i64 0,.str [],.ae,.ae]),fW 6 7 14] (cR [cn 15 0 7,aC 16 3 15,aC 17 3 3,oO 18 (.bin .eql (.flat [.i,.i,.i]) (aT 16) (aT 17))] (db 18 (cR [aC 19 6 7,fW 6 4 19,dD 5 BV] .ret) .skip)))) (.region false [aN 20 .add 11 1,ai 11 20]))))))) (cR [oO 21 (.build [.int .i64 0,.int .i64 0,.int .i64 0,.str [],.ae,.ae] []),fW 6 4 21,dD 5 qZ] .ret))⟩
theorem V6:bs Tryz.f23 Sj=some Sj:=by kernel_rfl
def Sk:ay:=⟨[4,5,6],[999999],[],13,2,[.tmp 4,.tmp 5,.tmp 6],cR [aR 4 (aS []),aR 5 (aS []),aR 6 qZ] (cR [af 7 0,af 8 1,dC 9 46 7 8,iB 10 9 0,iB 11 9 1,iB 12 9 2,ai 4 10,ai 5 11,ai 6 12] .ret)⟩
theorem V7:bs Tryz.f24 Sk=some Sk:=by kernel_rfl
def Sl:ay:=⟨[6,7,8,15,24,30,36,700010],[3,10,999999,40],[],48,3,[.tmp 6],cR [oO 3 (.boxL (aT 0)),aR 6 (.cr (.slice [] true))] (cR [aR 7 (.cr (.slice [] true))] (cR [oO 11 (.uX 3 true false),ai 8 11] (.seq (cR [cn 12 1 3,aQ 13 1 12,cX 14 .sl 13,aR 15 (aI 0)] (.block 0 (.loop (cR [bG 16 .lss 15 14] (.seq (db 16 .skip (.exit 0)) (.seq (.block 1 (cR [de 17 31 13 15,aC 18 31 17,oO 10 (.allocL [.int .i64 0,.int .i64 0,.int .i64 0,.int .i64 0,.int .i64 0,.int .i64 0,.int .i64 0,.str [],.ae,.int .i64 0,.int .i64 0,.int .i64 0,.int .i64 0,.ae,.int .i64 0,.int .i64 0,.int .i64 0,.int .i64 0,.int .i64 0,.int .i64 0,.int .i64 0,.int .i64 0,.int .i64 0,.int .i64 0,.int .i64 0,.int .i64 0,.ae,.ae,.ae,.int .i64 0,.ae]),fW 31 10 18] (.seq (cR [af 19 8,cn 20 0 10,aC 21 3 20,oO 22 (.look false 3 true false [.i,.i,.i] [.bool false] (aT 19) (aT 21)),oO 23 (.un .not (aT 22)),ai 24 23,dK 25 24 (sE 7 10),dK 26 24 (jZ 1 25),dK 27 24 (dO 2),dK 28 24 (ji .eql (aT 26) (aT 27)),lp 29 24 28,ai 30 29,dK 31 30 (dO 1),dK 32 30 (sE 4 10),dK 33 30 (iW 3 32),dK 34 30 (BB 47 [aT 31,aT 33]),lp 35 30 34] (db 35 (.region false [ai 36 7,cn 37 0 10,aC 38 3 37,oO 39 (n9 3 [[.int .i64 0,.int .i64 0,.int .i64 0]] [(0,.tmp 38)]),oO 40 (.appendO 3 24 (aT 36) (aT 39)),ai 7 40]) .skip)) (.region false [af 41 8,cn 42 0 10,aC 43 3 42,oN (.xe 3 true false 1 [.i,.i,.i] (aT 41) (aT 43) BV)])))) (.region false [aN 44 .add 15 1,ai 15 44]))))))) (cR [af 45 7,fp 46 48 [aT 45,.fn 49]] (cR [af 47 7,ai 6 47] .ret)))))⟩
theorem V8:bs Tryz.f25 Sl=some Sl:=by kernel_rfl
def Sm:ay:=⟨[4,5,6,700007],[7,999999],[],42,2,[.tmp 4],cR [aR 4 (.cr (.slice [] true))] (cR [af 8 0,af 9 1,dC 10 50 8 9,ai 5 10] (.seq (cR [af 11 5,aN 12 .eql 11 (-1)] (db 12 (cR [af 13 0,ai 4 13] .ret) .skip)) (.seq (cR [af 14 5,aN 15 .add 14 1,ai 6 15] (.block 0 (.loop (.seq (cR [af 16 6,af 17 0,cX 18 .sl 17,bG 19 .lss 16 18] (db 19 .skip (.exit 0))) (.seq (.block 1 (cR [af 22 0,af 23 6,de 24 3 22 23,aC 25 3 24,oO 7 (.allocL [.int .i64 0,.int .i64 0,.int .i64 0]),fW 3 7 25] (cR [af 26 1,aC 27 3 7,oO 28 (.call (aT 26) [aT 27]),oO 29 (.un .not (aT 28))] (db 29 (cR [af 30 0,af 31 5,aC 32 3 7,de 33 3 30 31,fW 3 33 32] (.region false [af 34 5,aN 35 .add 34 1,ai 5 35])) .skip)))) (.region false [af 20 6,aN 21 .add 20 1,ai 6 21])))))) (cR [af 36 0,af 37 5,oO 38 (.slice (.sl 3) (aT 36) (some (aT 37)) none none),oN (.un .neg (.cr (.tuple [])))] (cR [af 39 0,af 40 5,oO 41 (.slice (.sl 3) (aT 39) none (some (aT 40)) none),ai 4 41] .ret)))))⟩
theorem V9:bs Tryz.f26 Sm=some Sm:=by kernel_rfl
def Sn:ay:=⟨[2,5],[999999],[],8,1,[.tmp 2],cR [aR 2 (.cr (.slice [] true))] (.seq (cR [af 3 0,oO 4 (.nilS false (aT 3))] (db 4 (cR [aR 2 (.cr (.slice [] true))] .ret) .skip)) (cR [oO 5 (n9 3 [] []),af 6 0,mg 7 3 24 5 6,ai 2 7] .ret))⟩
theorem V':bs Tryz.f27 Sn=some Sn:=by kernel_rfl
def So:ay:=⟨[3,5,6,700004],[2,4,999999],[],14,2,[.tmp 3],cR [oO 2 (.boxL (aT 0)),aR 3 qZ] (cR [aC 7 2 1,aC 8 3 2,dC 9 23 7 8,ai 6 9,iB 10 6 0,iB 11 6 1,oO 4 (.allocL [.int .i64 0,.int .i64 0,.int .i64 0,.str [],.ae,.ae]),fW 6 4 10,ai 5 11] (cR [af 12 5,oO 13 (.un .not (aT 12)),ai 3 13] .ret))⟩
theorem Wa:bs Tryz.f28 So=some So:=by kernel_rfl
def Sp:ay:=⟨[4,6,7,8,10,11,28,39,49,700005,700009],[2,3,5,9],[],58,2,[.tmp 4],cR [oO 2 (.boxL (aT 0)),oO 3 (.boxL (aT 1)),aR 4 (.cr (.slice [] true))] (cR [aC 12 2 2,aC 13 3 3,dC 14 32 12 13,ai 11 14,iB 15 11 0,iB 16 11 1,oO 5 (.allocL [.int .i64 0,.int .i64 0,.int .i64 0,.str [],.ae,.ae]),fW 6 5 15,ai 6 16] (.seq (cR [af 17 6,oO 18 (.un .not (aT 17))] (db 18 (cR [aR 4 (.cr (.slice [] true))] .ret) .skip)) (cR [aC 19 3 3,oO 20 (n9 3 [[.int .i64 0,.int .i64 0,.int .i64 0]] [(0,.tmp 19)]),ai 7 20] (.seq (cR [aR 8 (aI 0)] (.block 0 (.loop (.seq (cR [af 21 8,cn 22 4 5,aQ 23 1 22,cX 24 .sl 23,bG 25 .lss 21 24] (db 25 .skip (.exit 0))) (.seq (.block 1 (cR [ky 2 2,aC 29 2 2,ky 5 5,cn 30 4 5,ky 5 30,aQ 31 1 30,af 32 8,dM 31,de 33 3 31 32,dM 33,aC 34 3 33,dC 35 32 29 34,ai 28 35,iB 36 28 0,iB 37 28 1,oO 9 (.allocL [.int .i64 0,.int .i64 0,.int .i64 0,.str [],.ae,.ae]),ky 9 9,fW 6 9 36,ai 10 37] (cR [af 38 10,ai 39 38,dK 40 39 (dO 7),dK 41 39 (sE 4 5),dK 42 39 (jZ 1 41),dK 43 39 (dO 8),dK 44 39 (.ixSl 3 (aT 42) (aT 43)),dK 45 39 (iW 3 44),dK 46 39 (BB 13 [aT 40,aT 45]),dK 47 39 (.un .not (aT 46)),lp 48 39 47] (db 48 (.region false [ai 49 7,cn 50 4 5,aQ 51 1 50,af 52 8,de 53 3 51 52,aC 54 3 53,oO 55 (n9 3 [[.int .i64 0,.int .i64 0,.int .i64 0]] [(0,.tmp 54)]),mg 56 3 24 49 55,ai 7 56]) .skip)))) (.region false [af 26 8,aN 27 .add 26 1,ai 8 27])))))) (cR [af 57 7,ai 4 57] .ret)))))⟩
theorem Wb:bs Tryz.f29 Sp=some Sp:=by kernel_rfl
def Sq:ay:=⟨[2,3,5],[],[],24,1,[.tmp 2,.tmp 3,.tmp 4],cR [aR 2 (aS []),aR 3 (aS []),dD 4 qZ] (.seq (cR [aR 5 (aI 0)] (.block 0 (.loop (.seq (cR [af 6 5,af 7 0,cX 8 .str 7,bG 9 .lss 6 8] (db 9 .skip (.exit 0))) (.seq (.block 1 (cR [af 12 0,af 13 5,oO 14 (.indexStr (aT 12) (aT 13)),sR 15 .eql (aT 14) (.cr (.int IntKind.u8 46))] (db 15 (cR [af 16 0,af 17 5,oO 18 (.slice .str (aT 16) none (some (aT 17)) none),af 19 0,af 20 5,aN 21 .add 20 1,oO 22 (.slice .str (aT 19) (some (aT 21)) none none),ai 2 18,ai 3 22,dD 4 BV] .ret) .skip))) (.region false [af 10 5,aN 11 .add 10 1,ai 5 11])))))) (cR [af 23 0,aR 2 (aS []),ai 3 23,dD 4 qZ] .ret))⟩
theorem Wc:bs Tryz.f30 Sq=some Sq:=by kernel_rfl
def Sr:ay:=⟨[6,7,8,10,18,33,700009],[3,4,9],[],44,3,[.tmp 6],cR [oO 3 (.boxL (aT 0)),oO 4 (.boxL (aT 1)),aR 6 (.cr (.slice [] true))] (cR [aR 7 (.cr (.slice [] true))] (.seq (cR [aR 8 (aI 0)] (.block 0 (.loop (.seq (cR [af 11 8,cn 12 1 3,aQ 13 1 12,cX 14 .sl 13,bG 15 .lss 11 14] (db 15 .skip (.exit 0))) (.seq (.block 1 (cR [ky 3 3,aC 19 2 3,ky 3 3,cn 20 1 3,ky 3 20,aQ 21 1 20,af 22 8,dM 21,de 23 31 21 22,dM 23,cn 24 0 23,dM 24,aC 25 3 24,dC 26 36 19 25,ai 18 26,iB 27 18 0,iB 28 18 1,oO 9 (.allocL [.int .i64 0,.int .i64 0,.int .i64 0,.int .i64 0,.int .i64 0,.int .i64 0,.int .i64 0,.str [],.ae,.int .i64 0,.int .i64 0,.int .i64 0,.int .i64 0,.ae,.int .i64 0,.int .i64 0,.int .i64 0,.int .i64 0,.int .i64 0,.int .i64 0,.int .i64 0,.int .i64 0,.int .i64 0,.int .i64 0,.int .i64 0,.int .i64 0,.ae,.ae,.ae,.int .i64 0,.ae]),ky 9 9,fW 31 9 27,ai 10 28] (cR [cn 29 4 9,aC 30 3 29,aC 31 3 4,oO 32 (.bin .eql (.flat [.i,.i,.i]) (aT 30) (aT 31)),ai 33 32,dK 34 33 (sE 7 9),dK 35 33 (jZ 1 34),dK 36 33 (dO 2),dK 37 33 (ji .eql (aT 35) (aT 36)),lp 38 33 37] (db 38 (.region false [af 39 7,cn 40 0 9,aC 41 3 40,dC 42 33 39 41,ai 7 42]) .skip)))) (.region false [af 16 8,aN 17 .add 16 1,ai 8 17])))))) (cR [af 43 7,ai 6 43] .ret)))⟩
theorem Wd:bs Tryz.f31 Sr=some Sr:=by kernel_rfl
def Ss:ay:=⟨[6,27,700004],[2,3,4],[],28,2,[.cell 4 true 6,.tmp 5],cR [oO 2 (.boxL (aT 0)),oO 3 (.boxL (aT 1)),oO 4 (.allocL [.int .i64 0,.int .i64 0,.int .i64 0,.str [],.ae,.ae]),dD 5 qZ] (.seq (cR [aR 6 (aI 0)] (.block 0 (.loop (.seq (cR [af 7 6,cn 8 0 2,aQ 9 1 8,cX 10 .sl 9,bG 11 .lss 7 10] (db 11 .skip (.exit 0))) (.seq (.block 1 (.seq (.region true [cn 14 0 2,aQ 15 1 14,af 16 6,de 17 6 15 16,cn 18 0 17,aC 19 3 18,aC 20 3 3,oO 21 (.bin .eql (.flat [.i,.i,.i]) (aT 19) (aT 20))]) (db 21 (cR [cn 22 0 2,aQ 23 1 22,af 24 6,de 25 6 23 24,aC 26 6 25,fW 6 4 26,dD 5 BV] .ret) .skip))) (.region false [af 12 6,aN 13 .add 12 1,ai 6 13])))))) (cR [oO 27 (.build [.int .i64 0,.int .i64 0,.int .i64 0,.str [],.ae,.ae] []),fW 6 4 27,dD 5 qZ] .ret))⟩
theorem We:bs Tryz.f32 Ss=some Ss:=by kernel_rfl
def St:ay:=⟨[4,5,6,11,25,34,39,43],[3],[],48,2,[.tmp 4],cR [oO 3 (.boxL (aT 1)),aR 4 (.cr (.slice [] true))] (cR [aR 5 (aI 0)] (.seq (.block 0 (.loop (.seq (cR [af 7 5,af 8 0,dM 8,cX 9 .sl 8,bG 10 .lss 7 9,ai 11 10,dK 12 11 (dO 0),dK 13 11 (dO 5),zg 11 (oz 12),dK 14 11 (.ixSl 3 (aT 12) (aT 13)),zg 11 (oz 14),dK 15 11 (iW 3 14),zg 11 (.j6 (.frame 3) (aT 3)),dK 16 11 (iW 3 3),dK 17 11 (BB 51 [aT 15,aT 16]),lp 18 11 17] (db 18 .skip (.exit 0))) (.block 1 (.region false [af 19 5,aN 20 .add 19 1,ai 5 20]))))) (.seq (cR [af 21 5,af 22 0,dM 22,cX 23 .sl 22,bG 24 .lss 21 23,ai 25 24,dK 26 25 (dO 0),dK 27 25 (dO 5),zg 25 (oz 26),dK 28 25 (.ixSl 3 (aT 26) (aT 27)),zg 25 (oz 28),dK 29 25 (iW 3 28),zg 25 (.j6 (.frame 3) (aT 3)),dK 30 25 (iW 3 3),dK 31 25 (.bin .eql (.flat [.i,.i,.i]) (aT 29) (aT 30)),lp 32 25 31] (db 32 (cR [af 33 0,ai 4 33] .ret) .skip)) (cR [oO 34 (n9 3 [] []),af 35 0,af 36 5,oO 37 (.slice (.sl 3) (aT 35) none (some (aT 36)) none),mg 38 3 24 34 37,ai 6 38] (cR [ai 39 6,aC 40 3 3,oO 41 (n9 3 [[.int .i64 0,.int .i64 0,.int .i64 0]] [(0,.tmp 40)]),mg 42 3 24 39 41,ai 6 42] (cR [ai 43 6,af 44 0,af 45 5,oO 46 (.slice (.sl 3) (aT 44) (some (aT 45)) none none),mg 47 3 24 43 46,ai 4 47] .ret))))))⟩
theorem Wf:bs Tryz.f33 St=some St:=by kernel_rfl
def Su:ay:=⟨[11,21,700004,700007],[2,3,4,7,999999],[],22,2,[.cell 4 true 31,.tmp 5],cR [oO 2 (.boxL (aT 0)),oO 3 (.boxL (aT 1)),oO 4 (.allocL [.int .i64 0,.int .i64 0,.int .i64 0,.int .i64 0,.int .i64 0,.int .i64 0,.int .i64 0,.str [],.ae,.int .i64 0,.int .i64 0,.int .i64 0,.int .i64 0,.ae,.int .i64 0,.int .i64 0,.int .i64 0,.int .i64 0,.int .i64 0,.int .i64 0,.int .i64 0,.int .i64 0,.int .i64 0,.int .i64 0,.int .i64 0,.int .i64 0,.ae,.ae,.ae,.int .i64 0,.ae]),dD 5 qZ] (.seq (cR [cn 8 1 2,aQ 9 1 8,cX 10 .sl 9,aR 11 (aI 0)] (.block 0 (.loop (cR [bG 12 .lss 11 10] (.seq (db 12 .skip (.exit 0)) (.seq (.block 1 (cR [de 13 31 9 11,aC 14 31 13,oO 7 (.allocL [.int .i64 0,.int .i64 0,.int .i64 0,.int .i64 0,.int .i64 0,.int .i64 0,.int .i64 0,.str [],.ae,.int .i64 0,.int .i64 0,.int .i64 0,.int .i64 0,.ae,.int .i64 0,.int .i64 0,.int .i64 0,.int .i64 0,.int .i64 0,.int .i64 0,.int .i64 0,.int .i64 0,.int .i64 0,.int .i64 0,.int .i64 0,.int .i64 0,.ae,.ae,.ae,.int .i64 0,.ae]),fW 31 7 14] (cR [cn 15 0 7,aC 16 3 15,aC 17 3 3,oO 18 (.bin .eql (.flat [.i,.i,.i]) (aT 16) (aT 17))] (db 18 (cR [aC 19 31 7,fW 31 4 19,dD 5 BV] .ret) .skip)))) (.region false [aN 20 .add 11 1,ai 11 20]))))))) (cR [oO 21 (.build [.int .i64 0,.int .i64 0,.int .i64 0,.int .i64 0,.int .i64 0,.int .i64 0,.int .i64 0,.str [],.ae,.int .i64 0,.int .i64 0,.int .i64 0,.int .i64 0,.ae,.int .i64 0,.int .i64 0,.int .i64 0,.int .i64 0,.int .i64 0,.int .i64 0,.int .i64 0,.int .i64 0,.int .i64 0,.int .i64 0,.int .i64 0,.int .i64 0,.ae,.ae,.ae,.int .i64 0,.ae] []),fW 31 4 21,dD 5 qZ] .ret))⟩
theorem Wg:bs Tryz.f34 Su=some Su:=by kernel_rfl
def Sv:ay:=⟨[5,13],[999999],[],26,2,[.tmp 4],cR [dD 4 qZ] (.seq (cR [af 6 0,cX 7 .sl 6,af 8 1,cX 9 .sl 8,bG 10 .neq 7 9] (db 10 (cR [dD 4 qZ] .ret) .skip)) (.seq (cR [af 11 0,cX 12 .sl 11,aR 13 (aI 0)] (.block 0 (.loop (cR [bG 14 .lss 13 12] (.seq (db 14 .skip (.exit 0)) (.seq (.block 1 (cR [af 15 13,ai 5 15] (.seq (.region true [af 16 0,af 17 5,de 18 3 16 17,aC 19 3 18,af 20 1,af 21 5,de 22 3 20 21,aC 23 3 22,oO 24 (.bin .neq (.flat [.i,.i,.i]) (aT 19) (aT 23))]) (db 24 (cR [dD 4 qZ] .ret) .skip)))) (.region false [aN 25 .add 13 1,ai 13 25]))))))) (cR [dD 4 BV] .ret)))⟩
theorem Wh:bs Tryz.f35 Sv=some Sv:=by kernel_rfl
def Sw:ay:=⟨[6,27,700004],[2,3,4],[],28,2,[.cell 4 true 31,.tmp 5],cR [oO 2 (.boxL (aT 0)),oO 3 (.boxL (aT 1)),oO 4 (.allocL [.int .i64 0,.int .i64 0,.int .i64 0,.int .i64 0,.int .i64 0,.int .i64 0,.int .i64 0,.str [],.ae,.int .i64 0,.int .i64 0,.int .i64 0,.int .i64 0,.ae,.int .i64 0,.int .i64 0,.int .i64 0,.int .i64 0,.int .i64 0,.int .i64 0,.int .i64 0,.int .i64 0,.int .i64 0,.int .i64 0,.int .i64 0,.int .i64 0,.ae,.ae,.ae,.int .i64 0,.ae]),dD 5 qZ] (.seq (cR [aR 6 (aI 0)] (.block 0 (.loop (.seq (cR [af 7 6,cn 8 1 2,aQ 9 1 8,cX 10 .sl 9,bG 11 .lss 7 10] (db 11 .skip (.exit 0))) (.seq (.block 1 (.seq (.region true [cn 14 1 2,aQ 15 1 14,af 16 6,de 17 31 15 16,cn 18 0 17,aC 19 3 18,aC 20 3 3,oO 21 (.bin .eql (.flat [.i,.i,.i]) (aT 19) (aT 20))]) (db 21 (cR [cn 22 1 2,aQ 23 1 22,af 24 6,de 25 31 23 24,aC 26 31 25,fW 31 4 26,dD 5 BV] .ret) .skip))) (.region false [af 12 6,aN 13 .add 12 1,ai 6 13])))))) (cR [oO 27 (.build [.int .i64 0,.int .i64 0,.int .i64 0,.int .i64 0,.int .i64 0,.int .i64 0,.int .i64 0,.str [],.ae,.int .i64 0,.int .i64 0,.int .i64 0,.int .i64 0,.ae,.int .i64 0,.int .i64 0,.int .i64 0,.int .i64 0,.int .i64 0,.int .i64 0,.int .i64 0,.int .i64 0,.int .i64 0,.int .i64 0,.int .i64 0,.int .i64 0,.ae,.ae,.ae,.int .i64 0,.ae] []),fW 31 4 27,dD 5 qZ] .ret))⟩
theorem Wi:bs Tryz.f36 Sw=some Sw:=by kernel_rfl
noncomputable def abY:ay:=cI [4,700002] [2,999999] [] Tryz.f37
theorem Wj:bs Tryz.f37 abY=some abY:=by kernel_rfl
noncomputable def abZ:ay:=cI [15,23,24,700006] [6,999999] [] Tryz.f38
theorem Wk:bs Tryz.f38 abZ=some abZ:=by kernel_rfl
noncomputable def ab0:ay:=cI [5,7,8,10,14,15,38,56,89,23,27,33,48,64,102,700004,700006,700009,700012,700013] [2,3,4,6,9,12,13,999999] [] Tryz.f39
theorem Wl:bs Tryz.f39 ab0=some ab0:=by kernel_rfl
noncomputable def ab1:ay:=cI [5] [] [] Tryz.f40
theorem Wm:bs Tryz.f40 ab1=some ab1:=by kernel_rfl
def Sy:ay:=⟨[0,4],[],[],13,2,[.tmp 4],cR [aR 4 (aI 0)] (.seq (cR [af 5 0,aN 6 .lss 5 0] (db 6 (.region false [af 7 0,aN 8 .add 7 1,oO 9 (.un .neg (aT 8)),ai 0 9]) .skip)) (cR [af 10 0,af 11 1,bG 12 .rem 10 11,ai 4 12] .ret))⟩
theorem Wn:bs Tryz.f41 Sy=some Sy:=by kernel_rfl
def Sz:ay:=⟨[4,700002],[1,2],[777777],5,1,[.cell 2 true 5],cR [oO 1 (.boxL (aT 0)),oO 2 (.allocL [.int .i64 0,.int .i64 0,.int .i64 0,.int .i64 0,.ae])] (cR [aC 3 3 1,oO 4 (.build [.int .i64 0,.int .i64 0,.int .i64 0,.int .i64 0,.ae] [(0,1,.cr (.int .i64 3)),(1,3,.tmp 3)]),fW 5 2 4] .ret)⟩
theorem Wo:bs Tryz.f42 Sz=some Sz:=by kernel_rfl
def JG:ay:=⟨[8,9,10,16],[],[777777],24,4,[.tmp 8],cR [aR 8 (.cr (.slice [] true))] (cR [aR 9 (.cr (.slice [] true))] (.seq (cR [aR 10 (aI 0)] (.block 0 (.loop (.seq (cR [af 11 10,af 12 1,bG 13 .lss 11 12] (db 13 .skip (.exit 0))) (.seq (.block 1 (.region false [ai 16 9,af 17 0,af 18 2,af 19 3,fD 20 22 17 18 19,oO 21 (n9 15 [[.int .i64 0,.int .i64 0,.int .i64 0,.int .i64 0,.int .i64 0,.int .i64 0,.int .i64 0,.int .i64 0,.int .i64 0,.int .i64 0,.int .i64 0,.int .i64 0,.slice [] false,.slice [] false,.slice [] false]] [(0,.tmp 20)]),mg 22 15 168 16 21,ai 9 22])) (.region false [af 14 10,aN 15 .add 14 1,ai 10 15])))))) (cR [af 23 9,ai 8 23] .ret)))⟩
theorem Wp:bs Tryz.f43 JG=some JG:=by kernel_rfl
def yR:ay:=⟨[11,12,60,87,16,69,700008,700009,700010],[8,9,10,77,102],[777777],105,4,[.cell 8 true 15],cR [oO 8 (.allocL [.int .i64 0,.int .i64 0,.int .i64 0,.int .i64 0,.int .i64 0,.int .i64 0,.int .i64 0,.int .i64 0,.int .i64 0,.int .i64 0,.int .i64 0,.int .i64 0,.ae,.ae,.ae])] (cR [af 13 0,dS 14 16 13,af 15 1,oO 16 (.build [.int .i64 0,.int .i64 0,.int .i64 0,.int .i64 0,.int .i64 0,.int .i64 0,.int .i64 0,.int .i64 0,.int .i64 0,.int .i64 0,.int .i64 0,.int .i64 0,.ae,.ae,.ae] [(0,3,.tmp 14),(3,1,.tmp 15)]),oO 9 (.allocL [.int .i64 0,.int .i64 0,.int .i64 0,.int .i64 0,.int .i64 0,.int .i64 0,.int .i64 0,.int .i64 0,.int .i64 0,.int .i64 0,.int .i64 0,.int .i64 0,.ae,.ae,.ae]),fW 15 9 16] (.seq (cR [af 17 1,aN 18 .eql 17 6] (db 18 (cR [oO 19 (n9 1 [[.str []]] [(0,.cr (.str [117]))]),cn 20 14 9,fW 1 20 19] (cR [af 21 0,af 22 2,af 23 3,fD 24 22 21 22 23,af 25 0,af 26 2,ky 9 9,cn 27 0 9,ky 9 27,aC 28 3 27,fp 29 21 [aT 26,aS [117],aT 28,aI 0],af 30 3,fD 31 22 25 29 30,oO 32 (n9 15 [[.int .i64 0,.int .i64 0,.int .i64 0,.int .i64 0,.int .i64 0,.int .i64 0,.int .i64 0,.int .i64 0,.int .i64 0,.int .i64 0,.int .i64 0,.int .i64 0,.slice [] false,.slice [] false,.slice [] false],[.int .i64 0,.int .i64 0,.int .i64 0,.int .i64 0,.int .i64 0,.int .i64 0,.int .i64 0,.int .i64 0,.int .i64 0,.int .i64 0,.int .i64 0,.int .i64 0,.slice [] false,.slice [] false,.slice [] false]] [(0,.tmp 24),(1,.tmp 31)]),ky 9 9,cn 33 13 9,ky 9 33,fW 1 33 32] (cR [aC 34 15 9,fW 15 8 34] .ret))) .skip)) (.seq (cR [af 35 1,aN 36 .eql 35 12] (db 36 (cR [oO 37 (n9 1 [[.str []],[.str []]] [(0,.cr (.str [120])),(1,.cr (.str [97,99,99]))]),cn 38 14 9,fW 1 38 37] (cR [af 39 0,af 40 2,af 41 3,fD 42 22 39 40 41,af 43 0,af 44 2,af 45 3,fD 46 22 43 44 45,af 47 0,af 48 2,ky 9 9,cn 49 0 9,ky 9 49,aC 50 3 49,fp 51 21 [aT 48,aS [120],aT 50,aI 0],ky 9 9,cn 52 0 9,ky 9 52,aC 53 3 52,fp 54 21 [aT 51,aS [97,99,99],aT 53,aI 1],af 55 3,fD 56 22 47 54 55,oO 57 (n9 15 [[.int .i64 0,.int .i64 0,.int .i64 0,.int .i64 0,.int .i64 0,.int .i64 0,.int .i64 0,.int .i64 0,.int .i64 0,.int .i64 0,.int .i64 0,.int .i64 0,.slice [] false,.slice [] false,.slice [] false],[.int .i64 0,.int .i64 0,.int .i64 0,.int .i64 0,.int .i64 0,.int .i64 0,.int .i64 0,.int .i64 0,.int .i64 0,.int .i64 0,.int .i64 0,.int .i64 0,.slice [] false,.slice [] false,.slice [] false],[.int .i64 0,.int .i64 0,.int .i64 0,.int .i64 0,.int .i64 0,.int .i64 0,.int .i64 0,.int .i64 0,.int .i64 0,.int .i64 0,.int .i64 0,.int .i64 0,.slice [] false,.slice [] false,.slice [] false]] [(0,.tmp 42),(1,.tmp 46),(2,.tmp 56)]),ky 9 9,cn 58 13 9,ky 9 58,fW 1 58 57] (cR [aC 59 15 9,fW 15 8 59] .ret))) .skip)) (cR [af 61 0,fp 62 58 [aT 61,aI 1,aI 1],ai 60 62,iB 63 60 0,iB 64 60 1,oO 10 (.allocL [.int .i64 0,.int .i64 0,.int .i64 0,.int .i64 0,.int .i64 0,.int .i64 0,.int .i64 0,.str [],.ae,.int .i64 0,.int .i64 0,.int .i64 0,.int .i64 0,.ae,.int .i64 0,.int .i64 0,.int .i64 0,.int .i64 0,.int .i64 0,.int .i64 0,.int .i64 0,.int .i64 0,.int .i64 0,.int .i64 0,.int .i64 0,.int .i64 0,.ae,.ae,.ae,.int .i64 0,.ae]),fW 31 10 63,ai 11 64] (.seq (cR [af 65 11,oO 66 (.un .not (aT 65))] (db 66 (cR [cn 67 0 9,aC 68 3 67,oO 69 (.build [.int .i64 0,.int .i64 0,.int .i64 0,.int .i64 0,.int .i64 0,.int .i64 0,.int .i64 0,.int .i64 0,.int .i64 0,.int .i64 0,.int .i64 0,.int .i64 0,.ae,.ae,.ae] [(0,3,.tmp 68),(3,1,.cr (.int .i64 0)),(4,1,.cr (.int .i64 7))]),fW 15 8 69] .ret) .skip)) (cR [cn 70 0 10,aC 71 3 70,cn 72 5 9,fW 3 72 71] (cR [af 73 0,af 74 2,af 75 3,fD 76 22 73 74 75,oO 77 (.mf 15 [[.int .i64 0,.int .i64 0,.int .i64 0,.int .i64 0,.int .i64 0,.int .i64 0,.int .i64 0,.int .i64 0,.int .i64 0,.int .i64 0,.int .i64 0,.int .i64 0,.slice [] false,.slice [] false,.slice [] false]] [(0,.tmp 76)]),cn 78 13 9,fW 1 78 77] (.seq (cR [aR 12 (aI 0)] (.block 0 (.loop (.seq (cR [af 79 12,cn 80 8 10,aQ 81 1 80,cX 82 .sl 81,bG 83 .lss 79 82] (db 83 .skip (.exit 0))) (.seq (.block 1 (cR [cn 86 14 9,oO 87 (.load true false 1 (aT 86)),oO 88 (n9 1 [[.str []]] [(0,.cr (.str [118]))]),mg 89 1 16 87 88,cn 90 14 9,fW 1 90 89] (.region false [ky 9 9,cn 91 13 9,ky 9 91,aQ 92 1 91,af 93 0,af 94 2,ky 9 9,cn 95 0 9,ky 9 95,aC 96 3 95,af 97 12,fp 98 21 [aT 94,aS [118],aT 96,aT 97],af 99 3,fD 100 22 93 98 99,oO 101 (n9 15 [[.int .i64 0,.int .i64 0,.int .i64 0,.int .i64 0,.int .i64 0,.int .i64 0,.int .i64 0,.int .i64 0,.int .i64 0,.int .i64 0,.int .i64 0,.int .i64 0,.slice [] false,.slice [] false,.slice [] false]] [(0,.tmp 100)]),oO 102 (.appendO 15 168 (aT 92) (aT 101)),ky 9 9,cn 103 13 9,ky 9 103,fW 1 103 102]))) (.region false [af 84 12,aN 85 .add 84 1,ai 12 85])))))) (cR [aC 104 15 9,fW 15 8 104] .ret)))))))))⟩
theorem Wq:bs Tryz.f44 yR=some yR:=by kernel_rfl
def Da:ay:=⟨[10,11,13,26,43,17,37,700008,700009,700012],[8,9,12],[777777],68,4,[.cell 8 true 15],cR [oO 8 (.allocL [.int .i64 0,.int .i64 0,.int .i64 0,.int .i64 0,.int .i64 0,.int .i64 0,.int .i64 0,.int .i64 0,.int .i64 0,.int .i64 0,.int .i64 0,.int .i64 0,.ae,.ae,.ae])] (cR [af 14 0,dS 15 16 14,af 16 1,oO 17 (.build [.int .i64 0,.int .i64 0,.int .i64 0,.int .i64 0,.int .i64 0,.int .i64 0,.int .i64 0,.int .i64 0,.int .i64 0,.int .i64 0,.int .i64 0,.int .i64 0,.ae,.ae,.ae] [(0,3,.tmp 15),(3,1,.tmp 16)]),oO 9 (.allocL [.int .i64 0,.int .i64 0,.int .i64 0,.int .i64 0,.int .i64 0,.int .i64 0,.int .i64 0,.int .i64 0,.int .i64 0,.int .i64 0,.int .i64 0,.int .i64 0,.ae,.ae,.ae]),fW 15 9 17] (cR [oO 18 (n9 1 [[.int .i64 0],[.int .i64 0],[.int .i64 0],[.int .i64 0]] [(0,.cr (.int .i64 2)),(1,.cr (.int .i64 0)),(2,.cr (.int .i64 0)),(3,.cr (.int .i64 1))]),af 19 1,dS 20 59 19,de 21 1 18 20,aQ 22 1 21,ai 10 22] (cR [af 23 10,ai 11 23] (.seq (cR [af 24 10,aN 25 .eql 24 2] (db 25 (.region false [aR 11 (aI 5)]) .skip)) (cR [af 27 0,af 28 10,af 29 11,fD 30 58 27 28 29,ai 26 30,iB 31 26 0,iB 32 26 1,oO 12 (.allocL [.int .i64 0,.int .i64 0,.int .i64 0,.int .i64 0,.int .i64 0,.int .i64 0,.int .i64 0,.str [],.ae,.int .i64 0,.int .i64 0,.int .i64 0,.int .i64 0,.ae,.int .i64 0,.int .i64 0,.int .i64 0,.int .i64 0,.int .i64 0,.int .i64 0,.int .i64 0,.int .i64 0,.int .i64 0,.int .i64 0,.int .i64 0,.int .i64 0,.ae,.ae,.ae,.int .i64 0,.ae]),fW 31 12 31,ai 13 32] (.seq (cR [af 33 13,oO 34 (.un .not (aT 33))] (db 34 (cR [cn 35 0 9,aC 36 3 35,oO 37 (.build [.int .i64 0,.int .i64 0,.int .i64 0,.int .i64 0,.int .i64 0,.int .i64 0,.int .i64 0,.int .i64 0,.int .i64 0,.int .i64 0,.int .i64 0,.int .i64 0,.ae,.ae,.ae] [(0,3,.tmp 36),(3,1,.cr (.int .i64 1)),(4,1,.cr (.int .i64 1))]),fW 15 8 37] .ret) .skip)) (cR [cn 38 0 12,aC 39 3 38,cn 40 5 9,fW 3 40 39] (.seq (cR [af 41 1,aN 42 .eql 41 8,ai 43 42,ia 44 43 (dO 1),ia 45 43 (ji .eql (aT 44) (aI 9)),To 46 43 45] (db 46 (cR [af 47 0,cn 48 8 12,aQ 49 1 48,cX 50 .sl 49,dC 51 17 47 50,cn 52 4 9,fW 1 52 51] (cR [af 53 0,af 54 2,af 55 3,fp 56 43 [aT 53,aI 1,aT 54,aT 55],cn 57 13 9,fW 1 57 56] (cR [aC 58 15 9,fW 15 8 58] .ret))) .skip)) (cR [af 59 0,cn 60 8 12,aQ 61 1 60,cX 62 .sl 61,af 63 2,af 64 3,nU 65 43 59 62 63 64,cn 66 13 9,fW 1 66 65] (cR [aC 67 15 9,fW 15 8 67] .ret))))))))))⟩
theorem Wr:bs Tryz.f45 Da=some Da:=by kernel_rfl
def SA:ay:=⟨[4,5,7],[999999],[],23,2,[.tmp 4,.tmp 5,.tmp 6],cR [aR 4 (aS []),aR 5 (aS []),dD 6 qZ] (.seq (cR [af 8 0,af 9 1,dC 10 60 8 9,ai 7 10] (cR [af 11 7,aN 12 .geq 11 0] (db 12 (cR [af 13 0,af 14 7,oO 15 (.slice .str (aT 13) none (some (aT 14)) none),af 16 0,af 17 7,af 18 1,dM 18,cX 19 .str 18,bG 20 .add 17 19,oO 21 (.slice .str (aT 16) (some (aT 20)) none none),ai 4 15,ai 5 21,dD 6 BV] .ret) .skip))) (cR [af 22 0,ai 4 22,aR 5 (aS []),dD 6 qZ] .ret))⟩
theorem Ws:bs Tryz.f46 SA=some SA:=by kernel_rfl
def SB:ay:=⟨[4],[999999],[],9,2,[.tmp 4],cR [oO 3 (.box 31 (aT 1)),aR 4 qZ] (cR [af 5 0,aC 6 3 3,dC 7 61 5 6,aN 8 .geq 7 0,ai 4 8] .ret)⟩
theorem Wt:bs Tryz.f47 SB=some SB:=by kernel_rfl
def JH:ay:=⟨[4],[999999],[],14,2,[],cR [af 5 0,cX 6 .sl 5,ai 4 6] (.region false [af 7 0,af 8 4,af 9 4,oO 10 (.conv (.toInt IntKind.u64) (aT 9)),dS 11 63 10,af 12 1,fp 13 62 [aT 7,aI 0,aT 8,aT 11,aT 12]])⟩
theorem Wu:bs Tryz.f48 JH=some JH:=by kernel_rfl
def SC:ay:=⟨[4],[2,3,999999],[],22,2,[.tmp 4],cR [oO 2 (.boxL (aT 0)),oO 3 (.boxL (aT 1)),aR 4 (aI 0)] (cR [ky 2 2,cn 5 0 2,ky 2 5,aQ 6 1 5,ky 3 3,cn 7 0 3,ky 3 7,aQ 8 1 7,dC 9 65 6 8,ky 2 2,cn 10 1 2,ky 2 10,aQ 11 1 10,ky 3 3,cn 12 1 3,ky 3 12,aQ 13 1 12,dC 14 65 11 13,ky 2 2,cn 15 2 2,ky 2 15,aQ 16 1 15,ky 3 3,cn 17 2 3,ky 3 17,aQ 18 1 17,dC 19 65 16 18,oO 20 (n9 1 [[.int .i64 0],[.int .i64 0],[.int .i64 0]] [(0,.tmp 9),(1,.tmp 14),(2,.tmp 19)]),dS 21 64 20,ai 4 21] .ret)⟩
theorem Wv:bs Tryz.f49 SC=some SC:=by kernel_rfl
def SE:ay:=⟨[4,5,8],[999999],[],19,2,[.tmp 4],cR [aR 4 (aI 0)] (.seq (cR [af 6 0,cX 7 .sl 6,aR 8 (aI 0)] (.block 0 (.loop (cR [bG 9 .lss 8 7] (.seq (db 9 .skip (.exit 0)) (.seq (.block 1 (cR [af 10 8,ai 5 10] (cR [af 11 1,af 12 0,af 13 5,de 14 3 12 13,aC 15 3 14,oO 16 (.call (aT 11) [aT 15])] (db 16 (cR [af 17 5,ai 4 17] .ret) .skip)))) (.region false [aN 18 .add 8 1,ai 8 18]))))))) (cR [aR 4 (aI (-1))] .ret))⟩
theorem Ww:bs Tryz.f50 SE=some SE:=by kernel_rfl
def SF:ay:=⟨[4],[2,3],[],30,2,[.tmp 4],cR [oO 2 (.boxL (aT 0)),oO 3 (.boxL (aT 1)),aR 4 qZ] (.seq (cR [cn 5 0 2,aQ 6 1 5,cn 7 0 3,aQ 8 1 7,bG 9 .neq 6 8] (db 9 (cR [cn 10 0 2,aQ 11 1 10,cn 12 0 3,aQ 13 1 12,bG 14 .lss 11 13,ai 4 14] .ret) .skip)) (.seq (cR [cn 15 1 2,aQ 16 1 15,cn 17 1 3,aQ 18 1 17,bG 19 .neq 16 18] (db 19 (cR [cn 20 1 2,aQ 21 1 20,cn 22 1 3,aQ 23 1 22,bG 24 .lss 21 23,ai 4 24] .ret) .skip)) (cR [cn 25 2 2,aQ 26 1 25,cn 27 2 3,aQ 28 1 27,bG 29 .lss 26 28,ai 4 29] .ret)))⟩
theorem Wx:bs Tryz.f51 SF=some SF:=by kernel_rfl
noncomputable def ab2:ay:=cI [6,7,12,17,21,35,48,52,56,11,16,34,64,69,700004,700005] [3,4,5,999999] [] Tryz.f52
theorem Wy:bs Tryz.f52 ab2=some ab2:=by kernel_rfl
noncomputable def ab3:ay:=cI [2,5,9,13] [999999] [] Tryz.f53
theorem Wz:bs Tryz.f53 ab3=some ab3:=by kernel_rfl
noncomputable def ab4:ay:=cI [8,10,11,14,16,17,18,19,21,23,24,25,33,49,56,58,74,81,94,105,110,115,125,159,188,199,206,43,46,64,174,180,700006,700007,700009,700013,700015,700020] [4,6,7,9,13,15,20,999999] [143] Tryz.f54
theorem WA:bs Tryz.f54 ab4=some ab4:=by kernel_rfl
noncomputable def ab5:ay:=cI [2,3,4,9,34,59,83,93,100,106,111,136,14,700005] [5,999999] [] Tryz.f55
theorem WB:bs Tryz.f55 ab5=some ab5:=by kernel_rfl
noncomputable def ab6:ay:=cI [4,5,6,7,8,9,10,11,20,25,40,50,55,60,68,31] [999999] [] Tryz.f56
theorem WC:bs Tryz.f56 ab6=some ab6:=by kernel_rfl
end Go.Proofs.YthbncinhhdogpaaGreatDoor
namespace Go.Abs
section
def cA.Le(f g:cA):Prop:=∀ a b c r,f a b c=some r->g a b c=some r
section
variable {G:Nat->List AV}{f g:cA}
theorem sj{α:Type}{b:Bool}{x y:Option α}{r:α}(h:cond b x none=some r)(K9:x=some r->y=some r):cond b y none=some r:=by
 cases b
 ·cases h
 ·exact K9 h
theorem MA(h:cA.Le f g){s:AS}{o:fq}{r:AV × Option AS}(he:au G f s o=some r):au G g s o=some r:=by
 cases o with
 | call fn args =>
  simp only[au] at he ⊢
  split at he
  ·refine sj he fun he=>?_
   simp only[apt] at he ⊢
   obtain⟨r0,h0,rfl⟩:=he
   exact⟨r0,h _ _ _ _ h0,rfl⟩
  ·cases he
 | ug fn pre x post =>
  simp only[au] at he ⊢
  refine sj he fun he=>?_
  simp only[apu,apt] at he ⊢
  obtain⟨p,hp,r0,h0,he⟩:=he
  exact⟨p,hp,r0,h _ _ _ _ h0,he⟩
 | uf fn args =>
  simp only[au] at he ⊢
  split at he
  ·refine sj he fun he=>?_
   simp only[apu] at he ⊢
   obtain⟨r0,h0,he⟩:=he
   exact⟨r0,h _ _ _ _ h0,he⟩
  ·cases he
 | _=>exact he
theorem wv(h:cA.Le f g){d:Bool}{s:AS}{o:aj}{r:AS}(he:bA G f d s o=some r):bA G g d s o=some r:=by
 have key:∀ r,((au G f s o.op).bind fun r=>match r.2 with
   | none=>cond (d&&(aP r.1).isSome) none (some (s.bR o.dst r.1))
   | some s'=>cond d none (some (s'.bR o.dst r.1)))=some r->((au G g s o.op).bind fun r=>match r.2 with
   | none=>cond (d&&(aP r.1).isSome) none (some (s.bR o.dst r.1))
   | some s'=>cond d none (some (s'.bR o.dst r.1)))=some r:=by
  intro r hr
  simp only[apu] at hr ⊢
  obtain⟨x,h1,h2⟩:=hr
  exact⟨x,MA h h1,h2⟩
 unfold bA at he ⊢
 simp only at he ⊢
 split at he
 ·exact key _ he
 ·split at he
  ·rename_i b hb
   cases hbw:(b==_) with
   | true=>rw[hbw] at he;exact key _ he
   | false=>rw[hbw] at he;exact he
  ·exact he
  ·cases he
theorem tB(h:cA.Le f g){d:Bool} : ∀ {os:List aj} {s r:AS},bP G f d os s=some r->bP G g d os s=some r
 | [],_,_,he=>he
 | o :: os,s,r,he=>by
  simp only[bP,apu] at he ⊢
  obtain⟨x,h1,h2⟩:=he
  exact⟨x,wv h h1,tB h h2⟩
theorem sx{F F' : AS->Option (bq × AS)}(h:∀ s r,F s=some r->F' s=some r):∀ {n m:Nat} {s:AS} {r:bq × AS},n<=m->iter F n s=some r->iter F' m s=some r
 | 0,_,_,_,_,he=>by cases he
 | n+1,0,_,_,hn,_=>by omega
 | n+1,m+1,s,r,hn,he=>by
  simp only[iter,apu] at he ⊢
  obtain⟨x,h1,h2⟩:=he
  refine⟨x,h _ _ h1,?_⟩
  split at h2
  ·exact sx h (by omega) h2
  ·exact h2
theorem jx(h:cA.Le f g){n m:Nat}(hn:n<=m):∀ {c:bO} {s:AS} {r:bq × AS},iG G f n c s=some r->iG G g m c s=some r
 | .skip,_,_,he=>he
 | .exit _,_,_,he=>he
 | .ret,_,_,he=>he
 | .ub _ _ _,_,_,he=>by simp[iG] at he
 | .region d os,s,r,he=>by
  simp only[iG,apt] at he ⊢
  obtain⟨x,h1,h2⟩:=he
  exact⟨x,tB h h1,h2⟩
 | .seq a b,s,r,he=>by
  simp only[iG,apu] at he ⊢
  obtain⟨x,h1,h2⟩:=he
  refine⟨x,jx h hn h1,?_⟩
  split at h2
  ·exact jx h hn h2
  ·exact h2
 | .cond c a b,s,r,he=>by
  simp only[iG] at he ⊢
  split at he
  ·rename_i t ht
   cases t
   ·exact jx h hn (c:=b) he
   ·exact jx h hn (c:=a) he
  ·cases he
 | .block id a,s,r,he=>by
  simp only[iG,apt] at he ⊢
  obtain⟨x,h1,h2⟩:=he
  exact⟨x,jx h hn h1,h2⟩
 | .loop a,s,r,he=>by
  simp only[iG] at he ⊢
  exact sx (fun s r h'=>jx h hn h') hn he
theorem BL(h:cA.Le f g){n m:Nat}(hn:n<=m){fn:ay}{args:List AV}{H:ag}{r:AV × Option gk}(he:tS G f n fn args H=some r):tS G g m fn args H=some r:=by
 unfold tS at he ⊢
 refine sj he fun he=>?_
 simp only[apu] at he ⊢
 obtain⟨x,h1,h2⟩:=he
 exact⟨x,jx h hn h1,h2⟩
end
theorem FQ{A:AP} : ∀ n,cA.Le (zN A n) (zN A (n+1))
 | 0=>fun a b c r h=>by cases h
 | n+1=>fun a b c r h=>by
  simp only[zN] at h ⊢
  cases ho:A.ov a with
  | some g=>rw[ho] at h;exact h
  | none =>
   rw[ho] at h
   cases hf:A.fns a with
   | none=>rw[hf] at h;cases h
   | some fn=>rw[hf] at h;exact BL (FQ n) (by omega) h
theorem l6{A:AP}{n m:Nat}(h:n<=m):cA.Le (zN A n) (zN A m):=by
 induction h with
 | refl=>exact fun _ _ _ _ h=>h
 | step _ ih=>exact fun a b c r hr=>FQ _ a b c r (ih a b c r hr)
noncomputable def az(A:AP):cA:=fun f args H=>open Classical in if h:∃ n r,zN A n f args H=some r then some (Classical.choose (arh h)) else none
theorem lZ{A:AP}{f:FuncId}{args:List AV}{H:ag}{r:AV × Option gk} : az A f args H=some r↔∃ n,zN A n f args H=some r:=by
 unfold az
 constructor
 ·intro h
  split at h
  ·rename_i hx
   have:=arh (arh hx)
   injection h with h
   rw[h] at this
   exact⟨_,this⟩
  ·cases h
 ·rintro ⟨n,hn⟩
  have hx:∃ n r,zN A n f args H=some r:=⟨n,r,hn⟩
  rw[dif_pos hx]
  have h1:=arh (arh hx)
  have h2:=l6 (arx n (Classical.choose hx)) _ _ _ _ hn
  have h3:=l6 (arf n (Classical.choose hx)) _ _ _ _ h1
  rw[h2] at h3
  injection h3 with h3
  rw[h3]
section
variable {A:AP}
theorem Pr{s:AS}{o:fq}{r:AV × Option AS}(he:au A.aO (az A) s o=some r):∃ n,au A.aO (zN A n) s o=some r:=by
 cases o with
 | call fn args =>
  simp only[au] at he ⊢
  split at he
  ·rename_i n fs cs hf
   cases hb:((args.map fun a=>a.addr A.aO s.T).all aq) with
   | false=>rw[hb] at he;cases he
   | true =>
    rw[hb] at he
    simp only[cond_true,apt] at he
    obtain⟨r0,h0,rfl⟩:=he
    obtain⟨k,hk⟩:=lZ.1 h0
    exact⟨k,by simp only[hk,cond_true,Option.map_some]⟩
  ·cases he
 | ug fn pre x post =>
  simp only[au] at he ⊢
  cases hb:((pre.map fun a=>a.addr A.aO s.T).all aq&&(post.map fun a=>a.addr A.aO s.T).all aq) with
  | false=>rw[hb] at he;cases he
  | true =>
   rw[hb] at he
   simp only[cond_true,apu,apt] at he
   obtain⟨p,hp,r0,h0,he⟩:=he
   obtain⟨k,hk⟩:=lZ.1 h0
   exact⟨k,by simp only[hp,hk,cond_true,apB,Option.map_some,he]⟩
 | uf fn args =>
  simp only[au] at he ⊢
  split at he
  ·rename_i n fs cs hf
   cases hb:((args.map fun a=>a.addr A.aO s.T).all aq) with
   | false=>rw[hb] at he;cases he
   | true =>
    rw[hb] at he
    simp only[cond_true,apu] at he
    obtain⟨r0,h0,he⟩:=he
    obtain⟨k,hk⟩:=lZ.1 h0
    exact⟨k,by simp only[hk,cond_true,apB];exact he⟩
  ·cases he
 | _=>exact⟨0,he⟩
theorem IX{d:Bool}{s:AS}{o:aj}{r:AS}(he:bA A.aO (az A) d s o=some r):∃ n,bA A.aO (zN A n) d s o=some r:=by
 have key:∀ r,((au A.aO (az A) s o.op).bind fun r=>match r.2 with
   | none=>cond (d&&(aP r.1).isSome) none (some (s.bR o.dst r.1))
   | some s'=>cond d none (some (s'.bR o.dst r.1)))=some r->∃ n,((au A.aO (zN A n) s o.op).bind fun r=>match r.2 with
   | none=>cond (d&&(aP r.1).isSome) none (some (s.bR o.dst r.1))
   | some s'=>cond d none (some (s'.bR o.dst r.1)))=some r:=by
  intro r hr
  simp only[apu] at hr ⊢
  obtain⟨x,h1,h2⟩:=hr
  obtain⟨n,hn⟩:=Pr h1
  exact⟨n,x,hn,h2⟩
 unfold bA at he ⊢
 simp only at he ⊢
 split at he
 ·exact key _ he
 ·split at he
  ·rename_i b hb
   cases hbw:(b==_) with
   | true=>rw[hbw] at he;exact key _ he
   | false=>rw[hbw] at he;exact⟨0,he⟩
  ·exact⟨0,he⟩
  ·cases he
theorem AX{d:Bool} : ∀ {os:List aj} {s r:AS},bP A.aO (az A) d os s=some r->∃ n,bP A.aO (zN A n) d os s=some r
 | [],_,_,he=>⟨0,he⟩
 | o :: os,s,r,he=>by
  simp only[bP,apu] at he ⊢
  obtain⟨x,h1,h2⟩:=he
  obtain⟨n,hn⟩:=IX h1
  obtain⟨m,hm⟩:=AX h2
  exact⟨max n m,x,wv (l6 (arx n m)) hn,tB (l6 (arf n m)) hm⟩
theorem GK{F:AS->Option (bq × AS)}{F' : Nat->AS->Option (bq × AS)}(hm:∀ n m s r,n<=m->F' n s=some r->F' m s=some r)(h:∀ s r,F s=some r->∃ n,F' n s=some r) :
  ∀ {n:Nat} {s:AS} {r:bq × AS},iter F n s=some r->∃ m,iter (F' m) n s=some r
 | 0,_,_,he=>by cases he
 | n+1,s,r,he=>by
  simp only[iter,apu] at he ⊢
  obtain⟨x,h1,h2⟩:=he
  obtain⟨m1,hm1⟩:=h _ _ h1
  split at h2
  ·obtain⟨m2,VC⟩:=GK hm h h2
   refine⟨max m1 m2,x,hm _ _ _ _ (arx _ _) hm1,?_⟩
   rename_i hx
   simp only[hx]
   exact sx (fun s r=>hm _ _ _ _ (arf _ _)) (apz _) VC
  ·rename_i hx
   refine⟨m1,x,hm1,?_⟩
   split
   ·rename_i n8;exact absurd n8 hx
   ·exact h2
theorem qd{n:Nat} : ∀ {c:bO} {s:AS} {r:bq × AS},iG A.aO (az A) n c s=some r->∃ m,iG A.aO (zN A m) n c s=some r
 | .skip,_,_,he=>⟨0,he⟩
 | .exit _,_,_,he=>⟨0,he⟩
 | .ret,_,_,he=>⟨0,he⟩
 | .ub _ _ _,_,_,he=>by simp[iG] at he
 | .region d os,s,r,he=>by
  simp only[iG,apt] at he ⊢
  obtain⟨x,h1,h2⟩:=he
  obtain⟨m,hm⟩:=AX h1
  exact⟨m,x,hm,h2⟩
 | .seq a b,s,r,he=>by
  simp only[iG,apu] at he ⊢
  obtain⟨x,h1,h2⟩:=he
  obtain⟨m1,hm1⟩:=qd h1
  split at h2
  ·rename_i hx
   obtain⟨m2,VC⟩:=qd h2
   refine⟨max m1 m2,x,jx (l6 (arx _ _)) (apz _) hm1,?_⟩
   simp only[hx]
   exact jx (l6 (arf _ _)) (apz _) VC
  ·rename_i hx
   refine⟨m1,x,hm1,?_⟩
   split
   ·rename_i n8;exact absurd n8 hx
   ·exact h2
 | .cond c a b,s,r,he=>by
  simp only[iG] at he ⊢
  split at he
  ·rename_i t ht
   cases t
   ·exact qd (c:=b) he
   ·exact qd (c:=a) he
  ·cases he
 | .block id a,s,r,he=>by
  simp only[iG,apt] at he ⊢
  obtain⟨x,h1,h2⟩:=he
  obtain⟨m,hm⟩:=qd h1
  exact⟨m,x,hm,h2⟩
 | .loop a,s,r,he=>by
  simp only[iG] at he ⊢
  exact GK (F':=fun m=>iG A.aO (zN A m) n a) (fun n' m s r hn h=>jx (l6 hn) (apz _) h) (fun s r h=>qd h) he
theorem TL{n:Nat}{fn:ay}{args:List AV}{H:ag}{r:AV × Option gk}(he:tS A.aO (az A) n fn args H=some r):∃ m,tS A.aO (zN A m) n fn args H=some r:=by
 unfold tS at he ⊢
 cases hb:Nat.beq args.length fn.np with
 | false=>rw[hb] at he;cases he
 | true =>
  rw[hb] at he
  simp only[cond_true,apu] at he ⊢
  obtain⟨x,h1,h2⟩:=he
  obtain⟨m,hm⟩:=qd h1
  exact⟨m,x,hm,h2⟩
theorem vp{f:FuncId}{fn:ay}(ho:A.ov f=none)(hf:A.fns f=some fn){n:Nat}{args:List AV}{H:ag}{r:AV × Option gk}(h:tS A.aO (az A) n fn args H=some r):az A f args H=some r:=by
 obtain⟨m,hm⟩:=TL h
 refine lZ.2 ⟨max m n+1,?_⟩
 simp only[zN,ho,hf]
 exact BL (l6 (arx _ _)) (arf _ _) hm
theorem xL{f:FuncId}{g:List AV->ag->Option (AV × Option gk)}(ho:A.ov f=some g){args:List AV}{H:ag}{r:AV × Option gk}(h:g args H=some r)(hn:args.all qw=true:=by rfl):az A f args H=some r :=
 lZ.2 ⟨1,by simp only[zN,ho,hn,cond_true];exact h⟩
end
end
section
def W(A:AP)(c:bO)(s:AS)(Q:bq->AS->Prop):Prop:=∃ n e s',iG A.aO (az A) n c s=some (e,s')/\Q e s'
def WO(A:AP)(d:Bool)(os:List aj)(s:AS)(Q:AS->Prop):Prop:=∃ s',bP A.aO (az A) d os s=some s'/\Q s'
def bj{α:Type}(x:Option α)(K:α->Prop):Prop:=∃ s,x=some s/\K s
def Fy(v:AV)(p q:AS->Prop)(s:AS):Prop:=∃ b,v=.bool b/\(b=true->p s)/\(b=false->q s)
def andThen(P:AS->Prop)(Q:bq->AS->Prop):bq->AS->Prop
 | .normal,s=>P s
 | e,s=>Q e s
def leave(id:Nat)(Q:bq->AS->Prop):bq->AS->Prop
 | .exit i,s=>Q (cond (Nat.beq i id) .normal (.exit i)) s
 | e,s=>Q e s
section
variable {A:AP}
theorem aD{α:Type}{s:α}{K:α->Prop} : bj (some s) K=K s:=by
 refine propext ⟨?_,fun h=>⟨s,rfl,h⟩⟩
 rintro ⟨s',h,hk⟩
 injection h with h
 rw[h];exact hk
theorem IE{p q:AS->Prop}{s:AS} : Fy (.bool true) p q s=p s:=by
 refine propext ⟨?_,fun h=>⟨true,rfl,fun _=>h,fun hb=>Bool.noConfusion hb⟩⟩
 rintro ⟨b,h,h1,h2⟩
 injection h with h
 exact h1 h.symm
theorem Fz{p q:AS->Prop}{s:AS} : Fy (.bool false) p q s=q s:=by
 refine propext ⟨?_,fun hq=>⟨false,rfl,(fun hb=>Bool.noConfusion hb),fun _=>hq⟩⟩
 rintro ⟨b,h,h1,h2⟩
 injection h with h
 exact h2 h.symm
theorem Mb{P:Prop}{_:Decidable P}{p q:AS->Prop}{s:AS}(h1:P->p s)(h2:¬ P->q s):Fy (.bool (decide P)) p q s :=
 ⟨_,rfl,fun h=>h1 (of_decide_eq_true h),fun h=>h2 (of_decide_eq_false h)⟩
theorem up{n m:Nat}(h:n<=m){c:bO}{s:AS}{r:bq × AS}(he:iG A.aO (az A) n c s=some r):iG A.aO (az A) m c s=some r:=jx (fun _ _ _ _ h=>h) h he
theorem OF{s:AS}{Q:bq->AS->Prop} : W A .skip s Q=Q .normal s:=by
 refine propext ⟨?_,fun h=>⟨0,_,_,rfl,h⟩⟩
 rintro ⟨n,e,s',h,hq⟩
 simp only[iG,apv,apx] at h
 rw[h.1,h.2];exact hq
theorem Zl{s:AS}{Q:bq->AS->Prop} : W A .ret s Q=Q .ret s:=by
 refine propext ⟨?_,fun h=>⟨0,_,_,rfl,h⟩⟩
 rintro ⟨n,e,s',h,hq⟩
 simp only[iG,apv,apx] at h
 rw[h.1,h.2];exact hq
theorem OD{i:Nat}{s:AS}{Q:bq->AS->Prop} : W A (.exit i) s Q=Q (.exit i) s:=by
 refine propext ⟨?_,fun h=>⟨0,_,_,rfl,h⟩⟩
 rintro ⟨n,e,s',h,hq⟩
 simp only[iG,apv,apx] at h
 rw[h.1,h.2];exact hq
theorem KC{a b:bO}{s:AS}{Q:bq->AS->Prop} : W A (.seq a b) s Q=W A a s (andThen (fun s'=>W A b s' Q) Q):=by
 refine propext ⟨?_,?_⟩
 ·rintro ⟨n,e,s',h,hq⟩
  simp only[iG,apu] at h
  obtain⟨⟨e1,s1⟩,h1,h2⟩:=h
  refine⟨n,e1,s1,h1,?_⟩
  cases e1 with
  | normal=>exact⟨n,e,s',h2,hq⟩
  | _ =>
   simp only[apv,apx] at h2
   obtain⟨rfl,rfl⟩:=h2
   exact hq
 ·rintro ⟨n,e,s',h,hq⟩
  cases e with
  | normal =>
   obtain⟨m,e2,s2,h2,hq⟩:=hq
   refine⟨max n m,e2,s2,?_,hq⟩
   simp only[iG,up (arx n m) h,apB,up (arf n m) h2]
  | exit i =>
   refine⟨n,_,s',?_,hq⟩
   simp only[iG,h,apB]
  | ret =>
   refine⟨n,_,s',?_,hq⟩
   simp only[iG,h,apB]
theorem Kz{i:Nat}{a:bO}{s:AS}{Q:bq->AS->Prop} : W A (.block i a) s Q=W A a s (leave i Q):=by
 refine propext ⟨?_,?_⟩
 ·rintro ⟨n,e,s',h,hq⟩
  simp only[iG,apt] at h
  obtain⟨⟨e1,s1⟩,h1,h2⟩:=h
  refine⟨n,e1,s1,h1,?_⟩
  cases e1<;>simp only[apx] at h2<;>obtain⟨rfl,rfl⟩:=h2<;>exact hq
 ·rintro ⟨n,e,s',h,hq⟩
  cases e<;>exact⟨n,_,s',by simp only[iG,h,Option.map_some],hq⟩
theorem OC{c:ar}{a b:bO}{s:AS}{Q:bq->AS->Prop} : W A (.cond c a b) s Q=Fy (c.eval A.aO s.T) (fun s=>W A a s Q) (fun s=>W A b s Q) s:=by
 refine propext ⟨?_,?_⟩
 ·rintro ⟨n,e,s',h,hq⟩
  simp only[iG] at h
  split at h
  ·rename_i t ht
   refine⟨t,ht,fun hb=>?_,fun hb=>?_⟩
   ·subst hb;exact⟨n,e,s',h,hq⟩
   ·subst hb;exact⟨n,e,s',h,hq⟩
  ·cases h
 ·rintro ⟨t,ht,h1,h2⟩
  cases t with
  | true =>
   obtain⟨n,e,s',h,hq⟩:=h1 rfl
   exact⟨n,e,s',by simp only[iG,ht];exact h,hq⟩
  | false =>
   obtain⟨n,e,s',h,hq⟩:=h2 rfl
   exact⟨n,e,s',by simp only[iG,ht];exact h,hq⟩
theorem xC{d:Bool}{os:List aj}{s:AS}{Q:bq->AS->Prop} : W A (.region d os) s Q=WO A d os s (Q .normal):=by
 refine propext ⟨?_,?_⟩
 ·rintro ⟨n,e,s',h,hq⟩
  simp only[iG,apt,apx] at h
  obtain⟨s1,h1,rfl,rfl⟩:=h
  exact⟨s1,h1,hq⟩
 ·rintro ⟨s1,h1,hq⟩
  exact⟨0,.normal,s1,by simp only[iG,h1,Option.map_some],hq⟩
theorem aah{d:Bool}{s:AS}{Q:AS->Prop} : WO A d [] s Q=Q s:=by
 refine propext ⟨?_,fun h=>⟨s,rfl,h⟩⟩
 rintro ⟨s',h,hq⟩
 simp only[bP,apv] at h
 rw[h];exact hq
theorem fE{d:Bool}{o:aj}{os:List aj}{s:AS}{Q:AS->Prop} : WO A d (o :: os) s Q=bj (bA A.aO (az A) d s o) fun s'=>WO A d os s' Q:=by
 refine propext ⟨?_,?_⟩
 ·rintro ⟨s',h,hq⟩
  simp only[bP,apu] at h
  obtain⟨s1,h1,h2⟩:=h
  exact⟨s1,h1,s',h2,hq⟩
 ·rintro ⟨s1,h1,s',h2,hq⟩
  exact⟨s',by simp only[bP,h1,apB,h2],hq⟩
theorem KA{a b:bO}{s:AS}{Q:bq->AS->Prop}(R:AS->Prop)(h1:W A a s (andThen R Q))(h2:∀ s',R s'->W A b s' Q):W A (.seq a b) s Q:=by
 rw[KC]
 obtain⟨n,e,s',h,hq⟩:=h1
 exact⟨n,e,s',h,by cases e with|normal=>exact h2 s' hq|_=>exact hq⟩
theorem H7{c:bO}{s:AS}{Q Q' : bq->AS->Prop}(h:W A c s Q)(hq:∀ e s',Q e s'->Q' e s'):W A c s Q':=by
 obtain⟨n,e,s',h1,h2⟩:=h
 exact⟨n,e,s',h1,hq e s' h2⟩
theorem OE{a:bO}{Q:bq->AS->Prop}(I:Nat->AS->Prop)(hI:∀ k s,I k s->W A a s (andThen (fun s'=>∃ k',k' < k/\I k' s') Q)):∀ k s,I k s->W A (.loop a) s Q:=by
 intro k
 induction k using Nat.strongRecOn with
 | _ k ih =>
  intro s hs
  obtain⟨n,e,s1,h1,hq⟩:=hI k s hs
  cases e with
  | normal =>
   obtain⟨k',hk,Bk⟩:=hq
   obtain⟨m,e2,s2,h2,hq⟩:=ih k' hk s1 Bk
   refine⟨max n m+1,e2,s2,?_,hq⟩
   simp only[iG,iter] at h2 ⊢
   have h1':=up (A:=A) (show n<=max n m+1 by omega) h1
   rw[h1',apB]
   have h2' : iter (iG A.aO (az A) (max n m+1) a) (max n m) s1=some (e2,s2) :=
    sx (fun s r h=>up (show m<=max n m+1 by omega) h) (arf n m) h2
   exact h2'
  | exit i =>
   refine⟨n+1,_,s1,?_,hq⟩
   simp only[iG,iter]
   rw[up (A:=A) (show n<=n+1 by omega) h1,apB]
  | ret =>
   refine⟨n+1,_,s1,?_,hq⟩
   simp only[iG,iter]
   rw[up (A:=A) (show n<=n+1 by omega) h1,apB]
theorem xj{a:bO}{Q:bq->AS->Prop}(n:Nat)(I:Nat->AS->Prop)(hI:∀ k s,k<=n->I k s->W A a s (andThen (fun s'=>k<n/\I (k+1) s') Q))(k:Nat)(s:AS)(hk:k<=n)(hs:I k s):W A (.loop a) s Q:=by
 refine OE (fun j s=>∃ k,k<=n/\j=n-k/\I k s) (fun j s h=>?_) (n-k) s ⟨k,hk,rfl,hs⟩
 obtain⟨k,hk,rfl,hs⟩:=h
 refine H7 (hI k s hk hs) fun e s' hq=>?_
 cases e with
 | normal =>
  obtain⟨h1,h2⟩:=hq
  exact⟨n-(k+1),by omega,k+1,by omega,rfl,h2⟩
 | _=>exact hq
def Ex(i:Nat)(P V:AS->Prop):bq->AS->Prop
 | .exit j,s=>j=i/\P s
 | .ret,s=>V s
 | .normal,_=>False
theorem KB{a:bO}{s:AS}{Q:bq->AS->Prop}(id:Nat)(P V:AS->Prop)(h:W A (.loop a) s (Ex id P V))(hp:∀ s',P s'->Q (.exit id) s')(hv:∀ s',V s'->Q .ret s'):W A (.loop a) s Q:=by
 refine H7 h fun e s' hq=>?_
 cases e with
 | normal=>exact hq.elim
 | exit j=>obtain⟨rfl,hq⟩:=hq;exact hp s' hq
 | ret=>exact hv s' hq
theorem bd{a:bO}{Q:bq->AS->Prop}(n id:Nat)(I:Nat->AS->Prop)(P V:AS->Prop)(hI:∀ k s,k<=n->I k s->W A a s (andThen (fun s'=>k<n/\I (k+1) s') (Ex id P V)))
  (hp:∀ s',P s'->Q (.exit id) s') (hv:∀ s',V s'->Q .ret s') (k:Nat) (s:AS) (hk:k<=n) (hs:I k s):W A (.loop a) s Q :=
 KB id P V (xj n I hI k s hk hs) hp hv
theorem UA{a:bO}{Q:bq->AS->Prop}(id:Nat)(I:Nat->AS->Prop)(P V:AS->Prop)(hI:∀ k s,I k s->W A a s (andThen (fun s'=>∃ k',k' < k/\I k' s') (Ex id P V)))
  (hp:∀ s',P s'->Q (.exit id) s') (hv:∀ s',V s'->Q .ret s') (k:Nat) (s:AS) (hs:I k s):W A (.loop a) s Q :=
 KB id P V (OE I hI k s hs) hp hv
def Hd(P:ax->Prop)(H:ag)(lo gen:Nat)(s:AS):Prop:=P s.T/\s.H=H/\s.lo=lo/\s.gen=gen
theorem Hd.out{P:ax->Prop}{H:ag}{lo gen:Nat}{s:AS}(h:Hd P H lo gen s):∃ T,s=⟨T,H,lo,gen⟩/\P T:=by
 obtain⟨T,H',l',g'⟩:=s
 obtain⟨h1,h2,h3,h4⟩:=h
 simp only at h1 h2 h3 h4
 subst h2 h3 h4
 exact⟨T,rfl,h1⟩
def mz(P:ax->Prop)(H:ag)(lo:Nat)(s:AS):Prop:=P s.T/\s.H=H/\s.lo=lo
theorem mz.out{P:ax->Prop}{H:ag}{lo:Nat}{s:AS}(h:mz P H lo s):∃ T g,s=⟨T,H,lo,g⟩/\P T:=by
 obtain⟨T,H',l',g'⟩:=s
 obtain⟨h1,h2,h3⟩:=h
 simp only at h1 h2 h3
 subst h2 h3
 exact⟨T,g',rfl,h1⟩
def fin(base:Nat)(rs:List gu)(s:AS):Option (AV × Option gk) :=
 cond (nV base s) ((lg s rs).bind fun r=>cond (r.leaves base) (some (r,cond (Nat.beq s.lo base) none (some ⟨s.H.take base,s.lo⟩))) none) none
def done(base:Nat)(rs:List gu)(r:AV × Option gk):bq->AS->Prop
 | .exit _,_=>False
 | _,s=>fin base rs s=some r
def AO(base:Nat)(rs:List gu)(P:AV × Option gk->Prop):bq->AS->Prop
 | .exit _,_=>False
 | _,s=>bj (fin base rs s) P
theorem NZ{s:AS}{r:gu}{b:Nat}(h:mN s r=some b):iZ s r=none:=by
 cases r with
 | tmp t =>
  simp only[mN] at h
  simp only[iZ]
  split at h
  ·rename_i hT;rw[hT];rfl
  ·rename_i hT;rw[hT];rfl
  ·cases h
 | cell=>cases h
theorem F4{s:AS}{m:Nat}{rs:List gu}{q:AV × Option gk}(he:tC m rs s=some q):∃ i l off n z,rs=[i]/\iZ s i=some (.sref l off n z)/\m<=l:=by
 unfold tC at he
 split at he
 ·rename_i i
  simp only[apu] at he
  obtain⟨v,hv,he⟩:=he
  split at he
  ·rename_i l off n z
   split at he
   ·rename_i ty cs hH
    cases hb:(Nat.ble m l&&cs.all AV.plain) with
    | false=>rw[hb] at he;cases he
    | true =>
     simp only[Bool.and_eq_true,Nat.ble_eq] at hb
     exact⟨i,l,off,n,z,rfl,hv,hb.1⟩
   ·cases he
  ·cases he
 ·cases he
theorem ON{base:Nat}{fn:ay}{s:AS}{r:AV × Option gk}(h:gZ base fn.results s=some r):ou base fn s=none:=by
 cases hf:ou base fn s with
 | none=>rfl
 | some q =>
  exfalso
  unfold ou at hf
  cases hb:fn.muts.elem 888888 with
  | false=>rw[hb] at hf;cases hf
  | true =>
   rw[hb,cond_true] at hf
   obtain⟨i,l,off,n,z,yK,rG,HZ⟩:=F4 hf
   unfold gZ lg at h
   rw[yK] at h
   simp only at h
   cases hr:mN s i with
   | some b=>rw[NZ hr] at rG;cases rG
   | none =>
    rw[hr] at h
    simp only[rG,apB] at h
    have:(AV.sref l off n z).leaves base=false:=by
     simp only[AV.leaves,AV.bp,AV.aJ]
     cases hb:Nat.blt l base with
     | false=>rfl
     | true=>rw[ap0] at hb;omega
    rw[this] at h
    cases h
theorem tD{base:Nat}{fn:ay}{s:AS}{r:AV × Option gk}(h:fin base fn.results s=some r):finish base fn s=some (ta fn r):=by
 unfold fin at h
 cases ho:nV base s with
 | false=>rw[ho] at h;cases h
 | true =>
  rw[ho,cond_true] at h
  have h:gZ base fn.results s=some r:=h
  unfold finish kX sn
  rw[ho,cond_true,ON h,h];rfl
def UO(base:Nat)(fn:ay)(P:AV × Option gk->Prop):bq->AS->Prop
 | .exit _,_=>False
 | _,s=>∃ r,finish base fn s=some r/\P r
theorem sf{f:FuncId}{fn:ay}(ho:A.ov f=none)(hf:A.fns f=some fn){args:List AV}{H:ag}{P:AV × Option gk->Prop}(hn:Nat.beq args.length fn.np=true)
  (h:W A fn.body { T:=gD args,H,lo:=H.length,gen:=0 } (UO H.length fn P)):∃ r,az A f args H=some r/\P r:=by
 obtain⟨n,e,s',h1,h2⟩:=h
 have key:∀ r,finish H.length fn s'=some r->az A f args H=some r:=by
  intro r hr
  refine vp ho hf (n:=n) ?_
  unfold tS
  rw[hn,cond_true,h1,apB]
  cases e with
  | exit i=>exact h2.elim
  | _=>exact hr
 cases e with
 | exit i=>exact h2.elim
 | _=>obtain⟨r,hr,hP⟩:=h2;exact⟨r,key r hr,hP⟩
theorem nT{fn:ay}(hm:fn.muts.elem 777777=false)(r:AV × Option gk):ta fn r=r:=by unfold ta;rw[hm];rfl
theorem G7{fn:ay}(hm:fn.muts.elem 777777=true)(r:AV × Option gk):ta fn r=(pB r.1,r.2):=by unfold ta;rw[hm];rfl
theorem AA{f:FuncId}{fn:ay}(ho:A.ov f=none)(hf:A.fns f=some fn){args:List AV}{H:ag}{P:AV × Option gk->Prop}(hn:Nat.beq args.length fn.np=true)
  (h:W A fn.body { T:=gD args,H,lo:=H.length,gen:=0 } (AO H.length fn.results P)):∃ r,az A f args H=some (ta fn r)/\P r:=by
 obtain⟨n,e,s',h1,h2⟩:=h
 have key:∀ r,fin H.length fn.results s'=some r->az A f args H=some (ta fn r):=by
  intro r hr
  refine vp ho hf (n:=n) ?_
  unfold tS
  rw[hn,cond_true,h1,apB]
  cases e with
  | exit i=>exact h2.elim
  | _=>exact tD hr
 cases e with
 | exit i=>exact h2.elim
 | _=>obtain⟨r,hr,hP⟩:=h2;exact⟨r,key r hr,hP⟩
theorem js{f:FuncId}{fn:ay}(ho:A.ov f=none)(hf:A.fns f=some fn){args:List AV}{H:ag}{P:AV × Option gk->Prop}(hn:Nat.beq args.length fn.np=true)
  (h:W A fn.body { T:=gD args,H,lo:=H.length,gen:=0 } (AO H.length fn.results P)) (hm:fn.muts.elem 777777=false:=by rfl):∃ r,az A f args H=some r/\P r:=by
 obtain⟨r,h1,h2⟩:=AA ho hf hn h
 rw[nT hm] at h1
 exact⟨r,h1,h2⟩
theorem sg{f:FuncId}{fn:ay}(ho:A.ov f=none)(hf:A.fns f=some fn){args:List AV}{H:ag}{P:AV × Option gk->Prop}(hn:Nat.beq args.length fn.np=true)
  (hm:fn.muts.elem 777777=true) (h:W A fn.body { T:=gD args,H,lo:=H.length,gen:=0 } (AO H.length fn.results fun r=>P (pB r.1,r.2))):∃ r,az A f args H=some r/\P r:=by
 obtain⟨r,h1,h2⟩:=AA ho hf hn h
 rw[G7 hm] at h1
 exact⟨_,h1,h2⟩
theorem OW{f:FuncId}{fn:ay}(ho:A.ov f=none)(hf:A.fns f=some fn){args:List AV}{H:ag}{r:AV × Option gk}(hn:Nat.beq args.length fn.np=true)
  (h:W A fn.body { T:=gD args,H,lo:=H.length,gen:=0 } (done H.length fn.results r)):az A f args H=some (ta fn r):=by
 obtain⟨n,e,s',h1,h2⟩:=h
 refine vp ho hf (n:=n) ?_
 unfold tS
 rw[hn,cond_true,h1,apB]
 cases e with
 | exit i=>exact h2.elim
 | _=>exact tD h2
theorem bT{f:FuncId}{fn:ay}(ho:A.ov f=none)(hf:A.fns f=some fn){args:List AV}{H:ag}{r:AV × Option gk}(hn:Nat.beq args.length fn.np=true)
  (h:W A fn.body { T:=gD args,H,lo:=H.length,gen:=0 } (done H.length fn.results r)) (hm:fn.muts.elem 777777=false:=by rfl):az A f args H=some r:=by
 have:=OW ho hf hn h
 rwa [nT hm] at this
end
section
variable {A:AP}{T:ax}{H:ag}{lo gen:Nat}{Q:bq->AS->Prop}{K:AS->Prop}{d:Bool}
theorem Z9{a b:bO} : W A (.seq a b) ⟨T,H,lo,gen⟩ Q=W A a ⟨T,H,lo,gen⟩ (andThen (fun s'=>W A b s' Q) Q):=KC
theorem Zg{i:Nat}{a:bO} : W A (.block i a) ⟨T,H,lo,gen⟩ Q=W A a ⟨T,H,lo,gen⟩ (leave i Q):=Kz
theorem aev{c:ar}{a b:bO} : W A (.cond c a b) ⟨T,H,lo,gen⟩ Q=Fy (c.eval A.aO T) (fun s=>W A a s Q) (fun s=>W A b s Q) ⟨T,H,lo,gen⟩:=OC
theorem Uk{os:List aj} : W A (.region d os) ⟨T,H,lo,gen⟩ Q=WO A d os ⟨T,H,lo,gen⟩ (Q .normal):=xC
theorem aeB:W A .skip ⟨T,H,lo,gen⟩ Q=Q .normal ⟨T,H,lo,gen⟩:=OF
theorem aic:W A .ret ⟨T,H,lo,gen⟩ Q=Q .ret ⟨T,H,lo,gen⟩:=Zl
theorem aex{i:Nat} : W A (.exit i) ⟨T,H,lo,gen⟩ Q=Q (.exit i) ⟨T,H,lo,gen⟩:=OD
theorem aib:WO A d [] ⟨T,H,lo,gen⟩ K=K ⟨T,H,lo,gen⟩:=aah
theorem aeA{t:Nat}{v:AV} : AS.bu ⟨T,H,lo,gen⟩ t v=⟨T.put t v,H,lo,gen⟩:=rfl
theorem ah'{h:ag}{l:Nat} : AS.fC ⟨T,H,lo,gen⟩ ⟨h,l⟩=⟨T,h,cond (Nat.blt l lo) l lo,gen⟩:=rfl
theorem Uj{P:AS->Prop} : andThen P Q .normal ⟨T,H,lo,gen⟩=P ⟨T,H,lo,gen⟩:=rfl
theorem aeu{P:AS->Prop} : andThen P Q .ret ⟨T,H,lo,gen⟩=Q .ret ⟨T,H,lo,gen⟩:=rfl
theorem Zf{P:AS->Prop}{i:Nat} : andThen P Q (.exit i) ⟨T,H,lo,gen⟩=Q (.exit i) ⟨T,H,lo,gen⟩:=rfl
theorem aey{P:ax->Prop}{H' : ag}{lo' : Nat} : mz P H' lo' ⟨T,H,lo,gen⟩=(P T/\H=H'/\lo=lo'):=rfl
theorem Uh{i:Nat}{P V:AS->Prop} : Ex i P V (.exit i) ⟨T,H,lo,gen⟩=P ⟨T,H,lo,gen⟩:=propext ⟨fun h=>h.2,fun h=>⟨rfl,h⟩⟩
theorem Zi{i:Nat}{P V:AS->Prop} : Ex i P V .ret ⟨T,H,lo,gen⟩=V ⟨T,H,lo,gen⟩:=rfl
theorem aia{P:ax->Prop}{H' : ag}{lo' gen' : Nat} : Hd P H' lo' gen' ⟨T,H,lo,gen⟩=(P T/\H=H'/\lo=lo'/\gen=gen'):=rfl
theorem aew{base:Nat}{rs:List gu}{r:AV × Option gk} : done base rs r .ret ⟨T,H,lo,gen⟩=(fin base rs ⟨T,H,lo,gen⟩=some r):=rfl
theorem Oc{base:Nat}{rs:List gu}{r:AV × Option gk} : done base rs r .normal ⟨T,H,lo,gen⟩=(fin base rs ⟨T,H,lo,gen⟩=some r):=rfl
theorem Zh{base:Nat}{rs:List gu}{P:AV × Option gk->Prop} : AO base rs P .ret ⟨T,H,lo,gen⟩=bj (fin base rs ⟨T,H,lo,gen⟩) P:=rfl
theorem Kv{base:Nat}{rs:List gu}{P:AV × Option gk->Prop} : AO base rs P .normal ⟨T,H,lo,gen⟩=bj (fin base rs ⟨T,H,lo,gen⟩) P:=rfl
theorem Od{i:Nat} : leave i Q .normal ⟨T,H,lo,gen⟩=Q .normal ⟨T,H,lo,gen⟩:=rfl
theorem aez{i:Nat} : leave i Q .ret ⟨T,H,lo,gen⟩=Q .ret ⟨T,H,lo,gen⟩:=rfl
theorem Zj{i:Nat} : leave i Q (.exit i) ⟨T,H,lo,gen⟩=Q .normal ⟨T,H,lo,gen⟩:=by simp[leave]
theorem Ui{i j:Nat} : leave i Q (.exit j) ⟨T,H,lo,gen⟩=if j=i then Q .normal ⟨T,H,lo,gen⟩ else Q (.exit j) ⟨T,H,lo,gen⟩:=by
 by_cases bC:j=i
 ·subst bC;rw[if_pos rfl];exact Zj
 rw[if_neg bC]
 have hb:Nat.beq j i=false:=by
  cases hb:Nat.beq j i with
  | false=>rfl
  | true=>exact absurd (aqw hb) bC
 simp[leave,hb]
end
theorem OR{n:Nat} : Nat.beq n n=true:=Nat.beq_refl n
theorem put_eq{T:ax}{d:Nat}{v:AV} : (T.put d v) d=v:=by simp[ax.put]
theorem ado{T:ax}{d i:Nat}{v:AV}(h:(i==d)=false):(T.put d v) i=T i:=by
 have bC:i≠d:=by simpa using h
 have hb:Nat.beq i d=false:=by
  cases hb:Nat.beq i d with
  | false=>rfl
  | true=>exact absurd (aqw hb) bC
 simp only[ax.put,hb];rfl
theorem X3{T:ax}{d i:Nat}{v:AV} : (T.put d v) i=if i=d then v else T i:=by
 by_cases h:i=d
 ·rw[if_pos h,h,put_eq]
 ·rw[if_neg h,ado (by simpa using h)]
theorem JC{a:AV}{l:List AV} : gD (a :: l) 0=a:=rfl
theorem JB{a:AV}{l:List AV}{n:Nat} : gD (a :: l) (n+1)=gD l n:=by simp[gD]
end
section
def jg(o:aj):Option Nat :=
 match o.op,o.guard with
 | .next (.tmp t),none=>some t
 | _,_=>none
section
variable (G:Nat->List AV)(cf:cA)
def lz:List aj->AS->(AS->Prop)->Prop
 | [],s,Q=>Q s
 | o :: r,s,Q=>match jg o with
  | some t=>∃ g kz ka va cur todo,s.T t=.iter g kz ka va cur todo/\(todo=[]->lz r (s.bR o.dst (.tuple [.bool false])) Q) /\
    ∀ q rest,todo.Perm (q :: rest)->lz r ((s.bu t (.iter g kz ka va q rest)).bR o.dst (.tuple [.bool true,oM ka (q.take kz),oM va (q.drop kz)])) Q
  | none=>∃ s',bA G cf false s o=some s'/\lz r s' Q
inductive BT where
 | leaf (v:AV)
 | node (l r:BT)
def BT.of(f:ax):Nat->Nat->BT
 | 0,o=>.leaf (f o)
 | k+1,o=>.node (BT.of f k o) (BT.of f k (o+2 ^ k))
def BT.get:BT->Nat->Nat->AV
 | .leaf v,_,_=>v
 | .node _ _,0,_=>.undef
 | .node l r,k+1,i=>cond (Nat.blt i (2 ^ k)) (BT.get l k i) (BT.get r k (i-2 ^ k))
def FA(nt:Nat):Nat:=Nat.log2 nt+1
def HL(nt:Nat)(t:BT):ax:=fun i=>cond (Nat.blt i nt) (BT.get t (FA nt) i) .undef
def kn(nt:Nat)(s:AS):AS:={ s with T:=HL nt (BT.of s.T (FA nt) 0) }
def nW(pre:List (List Nat))(L:Array Bool):List Nat:=(List.range pre.length).filter fun i=>!L.getD i true&&(pre.getD i []).all fun j=>L.getD j false
def Fa(nt:Nat)(ops:List aj)(pre:List (List Nat)):Nat->Array Bool->AS->(AS->Prop)->Prop
 | 0,L,s,Q=>nW pre L=[]/\Q s
 | n+1,L,s,Q=>(nW pre L=[]->Q s)/\∀ i∈nW pre L,∃ o s',ops[i]?=some o/\bA G cf false s o=some s'/\Fa nt ops pre n (L.setIfInBounds i true) (kn nt s') Q
def wN(F:AS->(bq->AS->Prop)->Prop):Nat->AS->(bq->AS->Prop)->Prop
 | 0,_,_=>False
 | n+1,s,Q=>F s (andThen (fun s'=>wN F n s' Q) Q)
def WN:bO->AS->(bq->AS->Prop)->Prop
 | .skip,s,Q=>Q .normal s
 | .region false ops,s,Q=>lz G cf ops s (Q .normal)
 | .region true ops,s,Q=>∃ s',bP G cf true ops s=some s'/\Q .normal s'
 | .seq a b,s,Q=>WN a s (andThen (fun s'=>WN b s' Q) Q)
 | .cond c a b,s,Q=>∃ t,c.eval G s.T=.bool t/\(t=true->WN a s Q)/\(t=false->WN b s Q)
 | .block id a,s,Q=>WN a s (leave id Q)
 | .loop a,s,Q=>∃ n,wN (WN a) n s Q
 | .exit id,s,Q=>Q (.exit id) s
 | .ret,s,Q=>Q .ret s
 | .ub nt ops pre,s,Q=>Fa G cf nt ops pre ops.length (Array.replicate ops.length false) (kn nt s) (Q .normal)
end
section
variable {P:Program}{G:Nat->List AV}{base nt:Nat}{gh:Gh}{w w' : World}{a:Act}{s:AS}{H:ag}{L:List Nat}
theorem zc{o:aj}{t:Nat}(h:jg o=some t):o.op=.next (.tmp t)/\o.guard=none:=by
 unfold jg at h
 split at h
 ·rename_i h1 h2
  injection h with h
  subst h
  exact⟨h1,h2⟩
 ·cases h
def NN(x:Option fq):Prop:=∀ it,x≠some (.next it)
theorem NN.none:NN none:=fun _ h=>by cases h
theorem NN.bind{α:Type}{x:Option α}{f:α->Option fq}(h:∀ a,NN (f a)):NN (x.bind f):=by
 cases x with
 | none=>exact NN.none
 | some a=>exact h a
theorem NN.map{α:Type}{x:Option α}{f:α->fq}(h:∀ a,NN (some (f a))):NN (x.map f):=by
 cases x with
 | none=>exact NN.none
 | some a=>exact h a
theorem NN.cond{b:Bool}{x y:Option fq}(h1:NN x)(h2:NN y):NN (bif b then x else y):=by cases b<;>assumption
theorem NN.Zo{b:Bool}{x y:fq}(h1:NN (some x))(h2:NN (some y)):NN (some (bif b then x else y)):=by cases b<;>assumption
theorem NN.mG{bJ:List Nat}{d:Option Nat}{g:ar}{ys:List ar} : NN (some (rj bJ d g ys)):=by
 rcases uq bJ d g ys with h|⟨n,pre,x,post,_,_,h⟩<;>(rw[h];exact fun _ h=>by cases h)
theorem zY{bJ locals muts:List Nat}{d:Option Nat}{c:Call} : NN (uo P bJ locals muts nt d c):=by
 unfold uo
 repeat' first
  | exact NN.mG
  | exact NN.none
  | exact fun _ h=>by cases h
  | refine NN.bind fun _=>?_
  | refine NN.map fun _=>?_
  | refine NN.cond ?_ ?_
  | refine NN.Zo ?_ ?_
  | split
theorem Fx{bJ locals muts:List Nat}{d:Option Nat}{o:Op}{x:ar}(h:cL P bJ locals muts nt d o=some (.next x)):∃ y,o=.next y false/\ak nt y=some x:=by
 have key:(∀ y b,o≠.next y b)->NN (cL P bJ locals muts nt d o):=by
  intro hn
  cases o
  case makeMap t r =>
   cases r with
   | none=>simp only[cL];exact NN.map fun _ _ h=>by cases h
   | some r=>simp only[cL];exact NN.none
  all_goals simp only[cL]
  all_goals first
   | exact absurd rfl (hn _ _)
   | exact zY
   | (repeat' first
     | exact NN.none
     | exact fun _ h=>by cases h
     | refine NN.bind fun _=>?_
     | refine NN.map fun _=>?_
     | refine NN.cond ?_ ?_
     | refine NN.Zo ?_ ?_
     | split)
 by_cases hn:∀ y b,o≠.next y b
 ·exact absurd h (key hn x)
 ·have:∃ y b,o=.next y b:=by
   refine Classical.byContradiction fun hc=>hn fun y b e=>hc ⟨y,b,e⟩
  obtain⟨y,b,rfl⟩:=this
  cases b with
  | true=>simp[cL] at h
  | false =>
   simp only[cL,apt,fq.next.injEq] at h
   obtain⟨z,hz,rfl⟩:=h
   exact⟨y,rfl,hz⟩
theorem nj{cf:cA}(iI:cU P G cf){H0:ag}{gC:Gh}{w0:World}{bJ locals muts:List Nat}{ops:Array Oper}(vg:∀ x,x∈locals->x∈L)(vh:∀ x,x∈muts->x∈L)(Q:Exit->Act->World->Prop)(R:AS->Prop)
  (hR:∀ s' a' aK w',R s'->Inv G base nt L H0 gC w0 s' aK w' a'->Q .normal a' w') :
  ∀ (l:List Oper) (is:List aj) (s:AS) (gh:Gh) (w:World) (a:Act),Inv G base nt L H0 gC w0 s gh w a->fL P bJ locals muts nt ops l=some is->lz G cf is s R->wpList P ops Q l a w
 | [],is,s,gh,w,a,hI,hc,he=>by
  simp only[fL,apv] at hc
  subst hc
  exact hR s a gh w he hI
 | o :: l,is,s,gh,w,a,hI,hc,he=>by
  simp only[fL,apu,apt] at hc
  obtain⟨io,ly,is',DY,rfl⟩:=hc
  unfold lz at he
  unfold wpList
  have hinv:=gX ly
  cases hn:jg io with
  | none =>
   rw[hn] at he
   obtain⟨s1,h1,h2⟩:=he
   rw[nL,apt] at h1
   obtain⟨⟨z,s2⟩,hz,rfl⟩:=h1
   refine kK iI hI ly vg vh hz _ Q (fun a' aK w' iT=>?_)
   rw[hinv.2.2.1] at h2
   exact nj iI vg vh Q R hR l is' _ aK w' a' iT DY h2
  | some t =>
   rw[hn] at he
   obtain⟨g,kz,ka,va,cur,todo,hT,h0,h1⟩:=he
   obtain⟨cD,jH⟩:=zc hn
   rw[cD] at hinv
   obtain⟨y,hoy,wC⟩:=Fx hinv.1
   have hog:o.guard=none:=by
    have hg:=hinv.2.1
    rw[jH] at hg
    cases hgo:o.guard with
    | none=>rfl
    | some jw =>
     obtain⟨j,want⟩:=jw
     rw[hgo] at hg
     simp only[pk,apu] at hg
     obtain⟨_,_,hg⟩:=hg
     obtain⟨_,hg⟩:=ab hg
     cases hg
   have hw:Region.wanted o (yielded ops a.tmps)=true:=by simp[Region.wanted,hog]
   rw[if_pos hw]
   have htL:t∈L:=hI.F.obj t (by rw[hT];rfl)
   refine .inl (U5 hI.W hI.F hoy wC hT htL hinv.2.2.2 _ Q (fun M9 v' aK w' hO=>?_) (fun q rest hp v' aK w' hO=>?_))
   ·have:=h0 M9
    rw[hinv.2.2.1] at this
    exact nj iI vg vh Q R hR l is' _ aK w' _ (hI.out hO hI.lo) DY this
   ·have:=h1 q rest hp
    rw[hinv.2.2.1] at this
    exact nj iI vg vh Q R hR l is' _ aK w' _ (hI.out hO (hI.lo.dY rfl rfl)) DY this
theorem my{cf:cA} : ∀ (l:List aj) (s:AS) (Q:AS->Prop),(∀ o,o∈l->jg o=none)->lz G cf l s Q->∃ s',bP G cf false l s=some s'/\Q s'
 | [],s,Q,_,h=>⟨s,rfl,h⟩
 | o :: l,s,Q,hn,h=>by
  have ho:=hn o apP
  unfold lz at h
  rw[ho] at h
  obtain⟨s1,h1,h⟩:=h
  obtain⟨s2,h2,h3⟩:=my l s1 Q (fun o ho=>hn o (apU _ ho)) h
  exact⟨s2,by simp only[bP,h1,apB,h2],h3⟩
theorem JW(M:List Nat):∀ o,o∈lU M->jg o=none:=by
 intro o ho
 simp only[lU,aqz,apO,aqA,art] at ho
 obtain⟨d,_,rfl|rfl⟩:=ho<;>rfl
theorem Ha(is:List aj):∀ o,o∈rQ is->jg o=none:=by
 intro o ho
 obtain⟨d,hd⟩:=aqp.1 (aqx.1 ho).2
 rw[pK hd];rfl
theorem Hc(M:List Nat)(is:List aj):∀ o,o∈wQ M is->jg o=none:=by
 intro o ho
 obtain⟨⟨d,y⟩,hd⟩:=aqp.1 (aqx.1 ho).2
 obtain⟨_,sz,h⟩:=gH hd
 rw[h];rfl
theorem rJ{mode pc:Bool}{is:List aj}{L:List Nat} : ∀ {l:List aj} {es:List qK},oL mode pc is L l=some es->∀ o,o∈inter mode pc is L l->jg o=none
 | [],_,_,o,ho=>by cases ho
 | p :: l,es,h,o,ho=>by
  simp only[oL,apu,apt] at h
  obtain⟨e,he,uz,h',rfl⟩:=h
  have hp:jg (iN pc p)=none:=by
   obtain⟨d,g,op⟩:=p
   cases op<;>try rfl
   ·simp only[iN];cases pc<;>rfl
   ·simp[wu,x7] at he
  simp only[inter] at ho
  split at ho
  ·rcases apO.1 ho with rfl|ho
   ·rfl
   ·rcases apO.1 ho with rfl|ho
    ·exact hp
    ·exact rJ h' o ho
  ·rcases apO.1 ho with rfl|ho
   ·exact hp
   ·exact rJ h' o ho
theorem BT.Jk(f:ax):∀ (k o i:Nat),i<2 ^ k->BT.get (BT.of f k o) k i=f (o+i)
 | 0,o,i,h=>by
  have:i=0:=by simp at h;exact h
  subst this;rfl
 | k+1,o,i,h=>by
  have h2:2 ^ (k+1)=2 ^ k+2 ^ k:=by rw[Nat.pow_succ];omega
  simp only[BT.of,BT.get]
  cases hb:Nat.blt i (2 ^ k) with
  | true =>
   rw[ap0] at hb
   rw[cond_true];exact BT.Jk f k o i hb
  | false =>
   have hn:¬ i<2 ^ k:=fun h=>by rw[<- ap0] at h;rw[h] at hb;cases hb
   rw[apE,BT.Jk f k (o+2 ^ k) (i-2 ^ k) (by omega)]
   congr 1;omega
theorem xz{nt:Nat}{T:ax}{i:Nat}(h:i<nt):HL nt (BT.of T (FA nt) 0) i=T i:=by
 have h1:Nat.blt i nt=true:=by rw[ap0];exact h
 unfold HL
 rw[h1,cond_true,BT.Jk _ _ _ _ (Nat.lt_trans h (by unfold FA;exact Nat.lt_log2_self)),Nat.zero_add]
theorem xy{nt:Nat}{T:ax}{i:Nat}(h:nt<=i):HL nt (BT.of T (FA nt) 0) i=.undef:=by
 have h1:Nat.blt i nt=false:=by
  cases hb:Nat.blt i nt with
  | false=>rfl
  | true=>rw[ap0] at hb;omega
 unfold HL
 rw[h1];rfl
theorem SR.aaw{n:Nat}{T T' : ax}{gen:Nat}{tm:Nat->Value}{i:Nat}{v:Value}{x:AV}(hT:∀ j,j<nt->T' j=T j)(h:SR gh n nt w T gen tm i v x):SR gh n nt w T' gen tm i v x:=by
 cases x
 case lref b g off=>obtain⟨h1,h2,h3⟩:=h;exact⟨h1,h2,fun e=>h3 (by rw[<- hT b h1];exact e)⟩
 case lsr b g=>obtain⟨h1,h2,h3⟩:=h;exact⟨h1,h2,fun e=>h3 (by rw[<- hT b h1];exact e)⟩
 case eref b g r z off=>obtain⟨h1,h2,h3⟩:=h;exact⟨h1,h2,fun e=>h3 (by rw[<- hT b h1];exact e)⟩
 all_goals exact h
theorem Inv.canon{H0:ag}{gC:Gh}{w0:World}(h:Inv G base nt L H0 gC w0 s gh w a):Inv G base nt L H0 gC w0 (kn nt s) gh w a:=by
 refine⟨h.W,⟨⟨h.F.defers,h.F.size,fun i hi=>?_⟩,fun i hi=>?_⟩,h.E,h.lo.dY rfl rfl⟩
 ·have h1:=h.F.slot i hi
  show SR gh s.H.length nt w (HL nt (BT.of s.T (FA nt) 0)) s.gen _ i _ (HL nt (BT.of s.T (FA nt) 0) i)
  rw[xz hi]
  exact h1.aaw fun j hj=>xz hj
 ·by_cases aU:i<nt
  ·have:(kn nt s).T i=s.T i:=xz aU
   rw[this] at hi
   exact h.F.obj i hi
  ·have:(kn nt s).T i=.undef:=xy (by omega)
   rw[this] at hi
   cases hi
theorem zp{ops:Array Oper}{L:Array Bool} : nW (ops.toList.map nH) L=Region.ready .any ops L:=by
 unfold nW Region.ready
 rw[show (ops.toList.map nH).length=ops.size by simp]
 refine List.filter_congr fun i hi=>?_
 have aU:i<ops.size:=by simpa using hi
 have e1:(ops.toList.map nH).getD i []=nH ops[i]:=by simp[apX,aU]
 rw[e1,apJ aU]
 simp only[Option.map_some,Option.getD_some,nH]
 congr 1
 rw[<- Array.all_toList,List.all_map,List.all_filter]
 rfl
theorem xG{cf:cA}(iI:cU P G cf){H0:ag}{gC:Gh}{w0:World}{bJ locals muts:List Nat}{ops:Array Oper}(vg:∀ x,x∈locals->x∈L)(vh:∀ x,x∈muts->x∈L)(Q:Exit->Act->World->Prop)(R:AS->Prop)
  (hR:∀ s' a' aK w',R s'->Inv G base nt L H0 gC w0 s' aK w' a'->Q .normal a' w') {is:List aj} (hc:fL P bJ locals muts nt ops ops.toList=some is) :
  ∀ (n:Nat) (B:Array Bool) (s:AS) (gh:Gh) (w:World) (a:Act),Inv G base nt L H0 gC w0 s gh w a->Fa G cf nt is (ops.toList.map nH) n B s R->wpAny P .any ops Q n B a w
 | 0,B,s,gh,w,a,hI,h=>⟨by rw[<- zp];exact h.1,hR s a gh w h.2 hI⟩
 | n+1,B,s,gh,w,a,hI,h=>by
  refine⟨fun e=>hR s a gh w (h.1 (by rw[zp];exact e)) hI,fun i hi=>?_⟩
  obtain⟨io,s1,ly,h1,h2⟩:=h.2 i (by rw[zp];exact hi)
  obtain⟨hlen,ox⟩:=gB hc
  unfold wpOp
  split
  ·rename_i hn
   exfalso
   have h3:=(apw.1 ly).1
   have h4:ops.toList[i]?=none:=by simpa using hn
   have h5:=List.getElem?_eq_none_iff.1 h4
   omega
  ·rename_i o ho
   obtain⟨io',aj2,bn⟩:=ox i o (by simpa using ho)
   obtain rfl:io'=io:=aqi (aj2.symm.trans ly)
   have hinv:=gX bn
   rw[nL,apt] at h1
   obtain⟨⟨z,s2⟩,hz,rfl⟩:=h1
   refine kK iI hI bn vg vh hz _ Q (fun a' aK w' iT=>?_)
   rw[hinv.2.2.1] at h2
   exact xG iI vg vh Q R hR hc n _ _ aK w' a' iT.canon h2
theorem ke{cf:cA}(iI:cU P G cf)(hm:P.follows .mixedOrders=true){H0:ag}{gC:Gh}{w0:World}{bJ locals muts:List Nat} :
  ∀ (c:Code) (ic:bO),fO P bJ locals muts nt c=some ic->∀ (s:AS) (gh:Gh) (w:World) (a:Act) (Q:Exit->Act->World->Prop) (R:bq->AS->Prop),Inv G base nt (locals++muts) H0 gC w0 s gh w a->WN G cf ic s R ->
   (∀ e s' a' aK w',R e s'->Inv G base nt (locals++muts) H0 gC w0 s' aK w' a'->Q e.KP a' w')->c.wp P Q a w
 | .skip,ic,hc,s,gh,w,a,Q,R,hI,he,hQ=>by
  simp only[fO,apv] at hc
  subst hc
  exact wp_skip (hQ .normal s a gh w he hI)
 | .region id ops draw,ic,hc,s,gh,w,a,Q,R,hI,he,hQ=>by
  have hc0:=hc
  simp only[fO,apu] at hc
  obtain⟨is,DY,hc⟩:=hc
  cases hd3:cond draw (xW locals ops.toList is) none with
  | some c3 =>
   rw[hd3] at hc
   injection hc with hc
   subst hc
   obtain⟨rfl,mode,pc,es,h1,h2,rfl⟩:=xX hd3
   obtain⟨s2,h3,h4⟩:=my _ _ _ (rJ h1) he
   exact gJ iI hm 0 (.region id ops true) _ hc0 s s2 .normal gh w a Q hI (by simp only[iG,h3,Option.map_some]) (fun a' aK w' iT=>hQ .normal s2 a' aK w' h4 iT)
  | none =>
  rw[hd3] at hc
  simp only at hc
  cases hb:(!draw || (!(locals.elem 999998)&&uZ (locals++muts) (ops.toList.zip is))) with
  | false =>
   rw[hb,apE] at hc
   cases h0:(!(locals.elem 999998)&&rR (locals++muts) (ops.toList.zip is)) with
   | false =>
    rw[h0,apE] at hc
    obtain⟨hdr,hc⟩:=ab hc
    injection hc with hc
    subst hc
    subst hdr
    have hl:ops.size=is.length:=by simpa using (gB DY).1
    simp only[WN,<- hl] at he
    exact wp_region_any hm (xG iI (fun x hx=>apC.2 (.inl hx)) (fun x hx=>apC.2 (.inr hx)) Q (R .normal) (fun s' a' aK w' hr iT=>hQ .normal s' a' aK w' hr iT) DY _ _ _ gh _ a hI.drew.canon he)
   | true =>
   rw[h0,cond_true] at hc
   injection hc with hc
   subst hc
   unfold drawn at he hc0
   simp only[WN,andThen] at he
   obtain⟨s1,h1,he⟩:=my _ _ _ (JW _) he
   obtain⟨s2,h2,he⟩:=he
   obtain⟨s3,h3,he⟩:=my _ _ _ (Ha _) he
   obtain⟨s4,h4,he⟩:=my _ _ _ (Hc _ _) he
   exact gJ iI hm 0 (.region id ops draw) _ hc0 s s4 .normal gh w a Q hI (by simp only[iG,h1,h2,h3,h4,Option.map_some,apB]) (fun a' aK w' iT=>hQ .normal s4 a' aK w' he iT)
  | true =>
  have h0:=hb
  rw[hb,cond_true] at hc
  injection hc with hc
  subst hc
  cases draw with
  | false=>exact wp_region_list (nj iI (fun x hx=>apC.2 (.inl hx)) (fun x hx=>apC.2 (.inr hx)) Q (R .normal) (fun s' a' aK w' hr iT=>hQ .normal s' a' aK w' hr iT) ops.toList is s gh w a hI DY he)
  | true =>
   obtain⟨s',h1,h2⟩:=he
   exact gJ iI hm 0 (.region id ops true) _ hc0 s s' .normal gh w a Q hI (by simp only[iG,h1,Option.map_some]) (fun a' aK w' iT=>hQ .normal s' a' aK w' h2 iT)
 | .seq x y,ic,hc,s,gh,w,a,Q,R,hI,he,hQ=>by
  simp only[fO,apu,apt] at hc
  obtain⟨ix,hx,iy,hy,rfl⟩:=hc
  refine wp_seq (ke iI hm x ix hx s gh w a _ _ hI he (fun e s' a' aK w' hr iT=>?_))
  cases e with
  | normal=>exact ke iI hm y iy hy s' aK w' a' Q R iT hr hQ
  | exit id=>exact hQ (.exit id) s' a' aK w' hr iT
  | ret=>exact hQ .ret s' a' aK w' hr iT
 | .cond c x y,ic,hc,s,gh,w,a,Q,R,hI,he,hQ=>by
  simp only[fO,apu,apt] at hc
  obtain⟨iq,hq,ix,hx,iy,hy,rfl⟩:=hc
  obtain⟨t,ht,h1,h2⟩:=he
  have hv:=(cc hI.W hI.F hq ht rfl).jz
  cases t with
  | true=>exact wp_cond_true hv (ke iI hm x ix hx s gh w a Q R hI (h1 rfl) hQ)
  | false=>exact wp_cond_false hv (ke iI hm y iy hy s gh w a Q R hI (h2 rfl) hQ)
 | .block id c,ic,hc,s,gh,w,a,Q,R,hI,he,hQ=>by
  simp only[fO,apt] at hc
  obtain⟨ix,hx,rfl⟩:=hc
  refine wp_block (ke iI hm c ix hx s gh w a _ _ hI he (fun e s' a' aK w' hr iT=>?_))
  cases e with
  | normal=>exact hQ .normal s' a' aK w' hr iT
  | exit i =>
   show if i=id then Q .normal a' w' else Q (.exit i) a' w'
   simp only[leave,dX] at hr
   by_cases hi:i=id
   ·rw[if_pos hi];exact hQ .normal s' a' aK w' (by simpa [hi] using hr) iT
   ·rw[if_neg hi];exact hQ (.exit i) s' a' aK w' (by simpa [hi] using hr) iT
  | ret=>exact hQ .ret s' a' aK w' hr iT
 | .loop c,ic,hc,s,gh,w,a,Q,R,hI,he,hQ=>by
  simp only[fO,apt] at hc
  obtain⟨ix,hx,rfl⟩:=hc
  obtain⟨n,he⟩:=he
  have rounds:∀ (m:Nat) (s:AS) (gh:Gh) (w:World) (a:Act),Inv G base nt (locals++muts) H0 gC w0 s gh w a->wN (WN G cf ix) m s R->Code.rounds P c Q m a w:=by
   intro m
   induction m with
   | zero=>intro s gh w a _ h;exact h.elim
   | succ m ih =>
    intro s gh w a hI h
    rw[rounds_succ]
    refine ke iI hm c ix hx s gh w a _ _ hI h (fun e s' a' aK w' hr iT=>?_)
    cases e with
    | normal=>exact ih s' aK w' a' iT hr
    | exit id=>exact hQ (.exit id) s' a' aK w' hr iT
    | ret=>exact hQ .ret s' a' aK w' hr iT
  exact wp_loop_rounds n (rounds n s gh w a hI he)
 | .exit id,ic,hc,s,gh,w,a,Q,R,hI,he,hQ=>by
  simp only[fO,apv] at hc
  subst hc
  exact wp_exit (hQ (.exit id) s a gh w he hI)
 | .ret,ic,hc,s,gh,w,a,Q,R,hI,he,hQ=>by
  simp only[fO,apv] at hc
  subst hc
  exact wp_ret (hQ .ret s a gh w he hI)
 | .label l,ic,hc,s,gh,w,a,Q,R,hI,he,hQ=>by
  simp only[fO,apv] at hc
  subst hc
  exact wp_label (hQ .normal s a gh w he hI)
 | .scope c,ic,hc,s,gh,w,a,Q,R,hI,he,hQ=>by
  simp only[fO] at hc
  refine wp_scope_straight (ke iI hm c ic hc s gh w a _ R hI he (fun e s' a' aK w' hr iT=>?_))
  have:=hQ e s' a' aK w' hr iT
  cases e<;>exact this
 | .rangeFunc _ _ _ _,_,hc,_,_,_,_,_,_,_,_,_=>by simp[fO] at hc
 | .goto _,_,hc,_,_,_,_,_,_,_,_,_=>by simp[fO] at hc
 | .refuse _,_,hc,_,_,_,_,_,_,_,_,_=>by simp[fO] at hc
theorem aau{A:AP}(hA:nD P A):cU P A.aO (az A):=by
 intro f args H r c h
 obtain⟨n,hn⟩:=lZ.1 h
 exact vB hA n f args H r c hn
theorem ah8{A:AP}(hA:nD P A){f:FuncId}{fn:Func}(sQ:P.funcs[f]?=some fn){bJ locals muts:List Nat}{la:ay}(hc:lq P bJ locals muts fn=some la){g:List AV->ag->Option (AV × Option gk)}
  (P3:∀ args H r c,g args H=some (r,c)->jW H c)
  (hg:∀ args H x,g args H=some x->args.length=la.np/\WN A.aO (az A) la.body { T:=gD args,H,lo:=H.length,gen:=0 } (fun e s=>match e with|.exit _=>False|_=>finish H.length la s=some x)):jk P A.aO f g:=by
 intro args H r c he
 obtain⟨Ur,hwn⟩:=hg args H (r,c) he
 simp only[lq,apu] at hc
 obtain⟨code,l9,b,hb,rs,yK,hc⟩:=hc
 obtain⟨h0,hc⟩:=ab hc
 injection hc with hc
 subst hc
 simp only[Bool.and_eq_true,Nat.ble_eq,bne_iff_ne,ne_eq] at h0
 refine⟨⟨fn,sQ,by rw[l9];rfl,h0.2⟩,P3 args H r c he,fun base gh w vs hW iw pQ cy=>?_⟩
 refine calls_of_wp sQ l9 ?_
 have am3:args.length=fn.params.size+fn.nfree:=Ur
 have hI:=uO (locals:=locals) (muts:=muts) (fn:=fn) hW pQ (by omega) (fun j v x hv hx=>.inl (cy j v x hv hx))
 refine ke (aau hA) hA.mixed code b hb _ gh.taken w _ _ _ hI hwn (fun e s' a' aK w' hr iT=>?_)
 cases e with
 | exit i=>exact hr.elim
 | normal =>
  obtain⟨_,v,CX,hv,hR⟩:=lL (P:=P) hW iw iT yK hr
  exact⟨iT.F.defers,v,hv,v,CX,rfl,hR⟩
 | ret =>
  obtain⟨_,v,CX,hv,hR⟩:=lL (P:=P) hW iw iT yK hr
  exact⟨iT.F.defers,v,hv,v,CX,rfl,hR⟩
end
end
end Go.Abs
