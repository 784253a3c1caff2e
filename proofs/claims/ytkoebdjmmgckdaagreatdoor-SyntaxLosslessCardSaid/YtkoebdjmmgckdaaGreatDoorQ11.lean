/-
  A part of the proof of SyntaxLossless: U47, U48, U49, U50, U51, U52, UQ16, UQ17, UQ18, UQ19, UQ20, UQ21, UQ22, UQ23.
-/
import Derived.Test.YtkoebdjmmgckdaaGreatDoorQ10
set_option linter.unusedSimpArgs false
set_option linter.unusedVariables false
set_option linter.defProp false
set_option maxHeartbeats 4000000
set_option maxRecDepth 100000
noncomputable section
namespace Go.Proofs.YtkoebdjmmgckdaaGreatDoor
open Go Go.Abs Go.Proofs
variable {b:Bool}{k' kd nn:Int}{c0 cs:List AV}{ks:List Tm}{L l:List av}{g gen i j lo lv mm ra:Nat}{tb:Nat->List av}{α:Type}{fn:aD}{K K0 M:aa}{T:az}{Q:bB->AS->Prop}
def ff(k:Int):av:=if k=0 then [110] else if k=1 then [110] else if k=2 then [97] else if k=3 then [97,107] else if k=4 then [110,107] else if k=5 then [107] else if k=6 then [107,115] else if k=7 then [97,107,115] else if k=8 then [97,102,107] else if k=9 then [97,102,107] else if k=10 then [97,107,115] else if k=11 then [116,107] else if k=12 then [107,115] else []
def fe0:dC [.i] [.int .i64 0] []=some none:=rfl
def fe1:dC [.i] [.int .i64 1] [[.int .i64 0,.str [110]]]=some none:=rfl
def fe2:dC [.i] [.int .i64 2] [[.int .i64 0,.str [110]],[.int .i64 1,.str [110]]]=some none:=rfl
def fe3:dC [.i] [.int .i64 3] [[.int .i64 0,.str [110]],[.int .i64 1,.str [110]],[.int .i64 2,.str [97]]]=some none:=rfl
def fe4:dC [.i] [.int .i64 4] [[.int .i64 0,.str [110]],[.int .i64 1,.str [110]],[.int .i64 2,.str [97]],[.int .i64 3,.str [97,107]]]=some none:=rfl
def fe5:dC [.i] [.int .i64 5] [[.int .i64 0,.str [110]],[.int .i64 1,.str [110]],[.int .i64 2,.str [97]],[.int .i64 3,.str [97,107]],[.int .i64 4,.str [110,107]]]=some none:=rfl
def fe6:dC [.i] [.int .i64 6] [[.int .i64 0,.str [110]],[.int .i64 1,.str [110]],[.int .i64 2,.str [97]],[.int .i64 3,.str [97,107]],[.int .i64 4,.str [110,107]],[.int .i64 5,.str [107]]]=some none:=rfl
def fe7:dC [.i] [.int .i64 7] [[.int .i64 0,.str [110]],[.int .i64 1,.str [110]],[.int .i64 2,.str [97]],[.int .i64 3,.str [97,107]],[.int .i64 4,.str [110,107]],[.int .i64 5,.str [107]],[.int .i64 6,.str [107,115]]]=some none:=rfl
def fe8:dC [.i] [.int .i64 8] [[.int .i64 0,.str [110]],[.int .i64 1,.str [110]],[.int .i64 2,.str [97]],[.int .i64 3,.str [97,107]],[.int .i64 4,.str [110,107]],[.int .i64 5,.str [107]],[.int .i64 6,.str [107,115]],[.int .i64 7,.str [97,107,115]]]=some none:=rfl
def fe9:dC [.i] [.int .i64 9] [[.int .i64 0,.str [110]],[.int .i64 1,.str [110]],[.int .i64 2,.str [97]],[.int .i64 3,.str [97,107]],[.int .i64 4,.str [110,107]],[.int .i64 5,.str [107]],[.int .i64 6,.str [107,115]],[.int .i64 7,.str [97,107,115]],[.int .i64 8,.str [97,102,107]]]=some none:=rfl
def aoF:dC [.i] [.int .i64 10] [[.int .i64 0,.str [110]],[.int .i64 1,.str [110]],[.int .i64 2,.str [97]],[.int .i64 3,.str [97,107]],[.int .i64 4,.str [110,107]],[.int .i64 5,.str [107]],[.int .i64 6,.str [107,115]],[.int .i64 7,.str [97,107,115]],[.int .i64 8,.str [97,102,107]],[.int .i64 9,.str [97,102,107]]]=some none:=rfl
def UK:dC [.i] [.int .i64 11] [[.int .i64 0,.str [110]],[.int .i64 1,.str [110]],[.int .i64 2,.str [97]],[.int .i64 3,.str [97,107]],[.int .i64 4,.str [110,107]],[.int .i64 5,.str [107]],[.int .i64 6,.str [107,115]],[.int .i64 7,.str [97,107,115]],[.int .i64 8,.str [97,102,107]],[.int .i64 9,.str [97,102,107]],[.int .i64 10,.str [97,107,115]]]=some none:=rfl
def aoG:dC [.i] [.int .i64 12] [[.int .i64 0,.str [110]],[.int .i64 1,.str [110]],[.int .i64 2,.str [97]],[.int .i64 3,.str [97,107]],[.int .i64 4,.str [110,107]],[.int .i64 5,.str [107]],[.int .i64 6,.str [107,115]],[.int .i64 7,.str [97,107,115]],[.int .i64 8,.str [97,102,107]],[.int .i64 9,.str [97,102,107]],[.int .i64 10,.str [97,107,115]],[.int .i64 11,.str [116,107]]]=some none:=rfl
def fgx{k:Int}(h:k<0\/12<k):dC [.i] [.int .i64 k] [[.int .i64 0,.str [110]],[.int .i64 1,.str [110]],[.int .i64 2,.str [97]],[.int .i64 3,.str [97,107]],[.int .i64 4,.str [110,107]],[.int .i64 5,.str [107]],[.int .i64 6,.str [107,115]],[.int .i64 7,.str [97,107,115]],[.int .i64 8,.str [97,102,107]],[.int .i64 9,.str [97,102,107]],[.int .i64 10,.str [97,107,115]],[.int .i64 11,.str [116,107]],[.int .i64 12,.str [107,115]]]=some none:=by
 have e0:(k==(0:Int))=false:=df;have e1:(k==(1:Int))=false:=df;have e2:(k==(2:Int))=false:=df;have e3:(k==(3:Int))=false:=df;have e4:(k==(4:Int))=false:=df;have e5:(k==(5:Int))=false:=df;have e6:(k==(6:Int))=false:=df;have e7:(k==(7:Int))=false:=df;have e8:(k==(8:Int))=false:=df;have e9:(k==(9:Int))=false:=df;have zY:(k==(10:Int))=false:=df;have e11:(k==(11:Int))=false:=df;have e12:(k==(12:Int))=false:=df;simp only[dC,cm,azV,cond_true,axa,aw7,axX,cond_false,e0,e1,e2,e3,e4,e5,e6,e7,e8,e9,zY,e11,e12,ayd]
def Ts{k:IntKind}{n:Int} : (AV.int k n).isAgg=false:=rfl
def Tt{s:av} : (AV.str s).isAgg=false:=rfl
def ajQ:(false==false)=true:=rfl
def sv{es:List (List AV)}{r:List AV} : wN es none r=es++[r]:=rfl
def ame(u:av)(c:UInt8)(loc:Nat)(H:aa)(hu:u.length<=1000)(hl:H[loc]?=some (.box 9 [.str u])):ai A 104 [.str [c],.ref loc 0] H=some (.bool (!decide (0<=cw c.toNat 0 u)),none):=by
 have h:=Bt u c H af;refine cW adh.eq_1 ?_;exact nL2 h hl tv
def cj(u:av)(c:UInt8):Bool:=!decide (0<=cw c.toNat 0 u)
def pL(u:av)(t:Tm):Bool:=!(cj u 110&&(t.n != 0) || (cj u 97&&!(t.name==[]) || (cj u 102&&!(t.field==[]) || (cj u 116&&(!(t.wn==[]) || decide (0<t.wk.length)) || (cj u 107&&decide (0<t.kids.length) || cj u 115&&decide (0<t.names.length))))))
def bZ(t:Tm):Bool:=pL (ff t.kind) t
def w7(u:av)(c:UInt8)(b:Bool)(loc:Nat)(H:aa)(hu:u.length<=1000)(hl:H[loc]?=some (.box 9 [.str u]))(hb:cj u c=b):ai A 104 [.str [c],.ref loc 0] H=some (.bool b,none):=by
 rw[<- hb];exact ame u c loc H hu hl
def Tc(t:Tm)(H:aa)(u:av)(s:AS):Prop:=∃ T K,s=⟨T,K,H.length,0⟩/\K.take H.length=H/\T 1=.ref H.length 0/\T 4=.func (.func 104) [] [.ref (H.length+2) 0]/\K[H.length]?=some (.box 83 [.int .i64 t.kind,.int .i64 t.n,.str t.name,.str t.field,.str t.wn,.slice (aM t.wk) false,.slice (aF t.kids) false,.slice (strs t.names) false])/\K[H.length+2]?=some (.box 9 [.str u])
def ais{t:Tm}{H:aa} : W A (oM.body.pre 2) ⟨dO [.agg (aK t)],H,H.length,0⟩ (andThen (Tc t H (ff t.kind)) Q):=by
 rw[aj];have wF:decide (H.length+1<H.length)=false:=ae;have rf:decide (H.length+2<H.length)=false:=ae;have run:∀ (k:Int) (u:av),(dC [.i] [.int .i64 k] [[.int .i64 0,.str [110]],[.int .i64 1,.str [110]],[.int .i64 2,.str [97]],[.int .i64 3,.str [97,107]],[.int .i64 4,.str [110,107]],[.int .i64 5,.str [107]],[.int .i64 6,.str [107,115]],[.int .i64 7,.str [97,107,115]],[.int .i64 8,.str [97,102,107]],[.int .i64 9,.str [97,102,107]],[.int .i64 10,.str [97,107,115]],[.int .i64 11,.str [116,107]],[.int .i64 12,.str [107,115]]]).map (qc false false [.str []] 1 [[.int .i64 0,.str [110]],[.int .i64 1,.str [110]],[.int .i64 2,.str [97]],[.int .i64 3,.str [97,107]],[.int .i64 4,.str [110,107]],[.int .i64 5,.str [107]],[.int .i64 6,.str [107,115]],[.int .i64 7,.str [97,107,115]],[.int .i64 8,.str [97,102,107]],[.int .i64 9,.str [97,102,107]],[.int .i64 10,.str [97,107,115]],[.int .i64 11,.str [116,107]],[.int .i64 12,.str [107,115]]])=some (.str u)->W A (oM.body.pre 2) ⟨dO [.agg [.int .i64 k,.int .i64 t.n,.str t.name,.str t.field,.str t.wn,.slice (aM t.wk) false,.slice (aF t.kids) false,.slice (strs t.names) false]],H,H.length,0⟩ (andThen (fun s=>∃ T K,s=⟨T,K,H.length,0⟩/\K.take H.length=H/\T 1=.ref H.length 0/\T 4=.func (.func 104) [] [.ref (H.length+2) 0]/\K[H.length]?=some (.box 83 [.int .i64 k,.int .i64 t.n,.str t.name,.str t.field,.str t.wn,.slice (aM t.wk) false,.slice (aF t.kids) false,.slice (strs t.names) false])/\K[H.length+2]?=some (.box 9 [.str u])) Q):=by
  intro k u hu;unfold oM;simp only[aG.pre];have hlx:∀ a,zy (H++[a,.map 1 false false [[.int .i64 0,.str [110]],[.int .i64 1,.str [110]],[.int .i64 2,.str [97]],[.int .i64 3,.str [97,107]],[.int .i64 4,.str [110,107]],[.int .i64 5,.str [107]],[.int .i64 6,.str [107,115]],[.int .i64 7,.str [97,107,115]],[.int .i64 8,.str [97,102,107]],[.int .i64 9,.str [97,102,107]],[.int .i64 10,.str [97,107,115]],[.int .i64 11,.str [116,107]],[.int .i64 12,.str [107,115]]]]) false 1 false false [.i] [.str []] (.mref (H.length+1)) (.int .i64 k)=some (.str u):=fun a=>by
   simp only[zy,V3,AV.drop,AV.cells,aw7,h2b];exact hu
  refine nM (j4 (j5 wF rf @fe0 @fe1 @fe2) (j5 @fe3 @fe4 @fe5 @fe6 @fe7) (j5 @fe8 @fe9 @aoF @UK @aoG) (j5 @sv @Ts @Tt hlx @tu.eq_1)) ?_;exact⟨_,_,rfl,h3t,Lw tv,Lw tv,h3a,by rw[h3c]⟩
 unfold Tc;refine run t.kind (ff t.kind) ?_
 rcases tG t.kind with e|e|e|e|e|e|e|e|e|e|e|e|e|e
 all_goals first|(rw[e];rfl)|skip
 rw[fgx e];have:ff t.kind=[]:=by
  unfold ff
  repeat rw[if_neg af]
 rw[this];rfl
def XR{t:Tm}{H:aa}{s:AS}(hs:Tc t H [110] s):W A (oM.body.post 2) s (done H.length [.tmp 2] (.bool (pL [110] t),none)):=by
 obtain⟨T,K,rfl,hK,q1,q4,hb,hu⟩:=hs;unfold oM;simp only[aG.post];obtain⟨m1,m2,m3,m4,m5,m6⟩:cj [110] 110=false/\cj [110] 97=true/\cj [110] 102=true/\cj [110] 116=true/\cj [110] 107=true/\cj [110] 115=true:=⟨rfl,rfl,rfl,rfl,rfl,rfl⟩;have nc:=fun c b=>w7 [110] c b (H.length+2) K aB hu
 have n1:=nc _ _ m1;have n2:=nc _ _ m2;have n3:=nc _ _ m3;have n4:=nc _ _ m4;have n5:=nc _ _ m5;have n6:=nc _ _ m6;clear nc;cases De:(t.name==[]);rotate_left;cases qI:(t.field==[]);rotate_left;cases Kh:(t.wn==[]);rotate_left
 by_cases Kg:0<t.wk.length
 rotate_left
 by_cases Uc:0<t.kids.length
 rotate_left
 by_cases td:0<t.names.length
 rotate_left
 all_goals simp(disch:=omega)only[dJ,ab,simprocAttr,bne,gF,cx,bu,ah,pL, *]
def ang{t:Tm}{H:aa}{s:AS}(hs:Tc t H [97] s):W A (oM.body.post 2) s (done H.length [.tmp 2] (.bool (pL [97] t),none)):=by
 obtain⟨T,K,rfl,hK,q1,q4,hb,hu⟩:=hs;unfold oM;simp only[aG.post];obtain⟨m1,m2,m3,m4,m5,m6⟩:cj [97] 110=true/\cj [97] 97=false/\cj [97] 102=true/\cj [97] 116=true/\cj [97] 107=true/\cj [97] 115=true:=⟨rfl,rfl,rfl,rfl,rfl,rfl⟩;have nc:=fun c b=>w7 [97] c b (H.length+2) K aB hu
 have n1:=nc _ _ m1;have n2:=nc _ _ m2;have n3:=nc _ _ m3;have n4:=nc _ _ m4;have n5:=nc _ _ m5;have n6:=nc _ _ m6;clear nc;cases d_n:(t.n==0);rotate_left;cases qI:(t.field==[]);rotate_left;cases Kh:(t.wn==[]);rotate_left
 by_cases Kg:0<t.wk.length
 rotate_left
 by_cases Uc:0<t.kids.length
 rotate_left
 by_cases td:0<t.names.length
 rotate_left
 all_goals simp(disch:=omega)only[dJ,ab,simprocAttr,bne,gF,cx,bu,ah,pL, *]
def SU{t:Tm}{H:aa}{s:AS}(hs:Tc t H [97,107] s):W A (oM.body.post 2) s (done H.length [.tmp 2] (.bool (pL [97,107] t),none)):=by
 obtain⟨T,K,rfl,hK,q1,q4,hb,hu⟩:=hs;unfold oM;simp only[aG.post];obtain⟨m1,m2,m3,m4,m5,m6⟩:cj [97,107] 110=true/\cj [97,107] 97=false/\cj [97,107] 102=true/\cj [97,107] 116=true/\cj [97,107] 107=false/\cj [97,107] 115=true:=⟨rfl,rfl,rfl,rfl,rfl,rfl⟩;have nc:=fun c b=>w7 [97,107] c b (H.length+2) K aB hu
 have n1:=nc _ _ m1;have n2:=nc _ _ m2;have n3:=nc _ _ m3;have n4:=nc _ _ m4;have n5:=nc _ _ m5;have n6:=nc _ _ m6;clear nc;cases d_n:(t.n==0);rotate_left;cases qI:(t.field==[]);rotate_left;cases Kh:(t.wn==[]);rotate_left
 by_cases Kg:0<t.wk.length
 rotate_left
 by_cases td:0<t.names.length
 rotate_left
 all_goals simp(disch:=omega)only[dJ,ab,simprocAttr,bne,gF,bu,ah,pL, *]
def OP{t:Tm}{H:aa}{s:AS}(hs:Tc t H [110,107] s):W A (oM.body.post 2) s (done H.length [.tmp 2] (.bool (pL [110,107] t),none)):=by
 obtain⟨T,K,rfl,hK,q1,q4,hb,hu⟩:=hs;unfold oM;simp only[aG.post];obtain⟨m1,m2,m3,m4,m5,m6⟩:cj [110,107] 110=false/\cj [110,107] 97=true/\cj [110,107] 102=true/\cj [110,107] 116=true/\cj [110,107] 107=false/\cj [110,107] 115=true:=⟨rfl,rfl,rfl,rfl,rfl,rfl⟩;have nc:=fun c b=>w7 [110,107] c b (H.length+2) K aB hu
 have n1:=nc _ _ m1;have n2:=nc _ _ m2;have n3:=nc _ _ m3;have n4:=nc _ _ m4;have n5:=nc _ _ m5;have n6:=nc _ _ m6;clear nc;cases De:(t.name==[]);rotate_left;cases qI:(t.field==[]);rotate_left;cases Kh:(t.wn==[]);rotate_left
 by_cases Kg:0<t.wk.length
 rotate_left
 by_cases td:0<t.names.length
 rotate_left
 all_goals simp(disch:=omega)only[dJ,ab,simprocAttr,bne,gF,bu,ah,pL, *]
def air{t:Tm}{H:aa}{s:AS}(hs:Tc t H [107] s):W A (oM.body.post 2) s (done H.length [.tmp 2] (.bool (pL [107] t),none)):=by
 obtain⟨T,K,rfl,hK,q1,q4,hb,hu⟩:=hs;unfold oM;simp only[aG.post];obtain⟨m1,m2,m3,m4,m5,m6⟩:cj [107] 110=true/\cj [107] 97=true/\cj [107] 102=true/\cj [107] 116=true/\cj [107] 107=false/\cj [107] 115=true:=⟨rfl,rfl,rfl,rfl,rfl,rfl⟩;have nc:=fun c b=>w7 [107] c b (H.length+2) K aB hu
 have n1:=nc _ _ m1;have n2:=nc _ _ m2;have n3:=nc _ _ m3;have n4:=nc _ _ m4;have n5:=nc _ _ m5;have n6:=nc _ _ m6;clear nc;cases d_n:(t.n==0);rotate_left;cases De:(t.name==[]);rotate_left;cases qI:(t.field==[]);rotate_left;cases Kh:(t.wn==[]);rotate_left
 by_cases Kg:0<t.wk.length
 rotate_left
 by_cases td:0<t.names.length
 rotate_left
 all_goals simp(disch:=omega)only[dJ,ab,simprocAttr,bne,gF,bu,ah,pL, *]
def FN{t:Tm}{H:aa}{s:AS}(hs:Tc t H [107,115] s):W A (oM.body.post 2) s (done H.length [.tmp 2] (.bool (pL [107,115] t),none)):=by
 obtain⟨T,K,rfl,hK,q1,q4,hb,hu⟩:=hs;unfold oM;simp only[aG.post];obtain⟨m1,m2,m3,m4,m5,m6⟩:cj [107,115] 110=true/\cj [107,115] 97=true/\cj [107,115] 102=true/\cj [107,115] 116=true/\cj [107,115] 107=false/\cj [107,115] 115=false:=⟨rfl,rfl,rfl,rfl,rfl,rfl⟩;have nc:=fun c b=>w7 [107,115] c b (H.length+2) K aB hu
 have n1:=nc _ _ m1;have n2:=nc _ _ m2;have n3:=nc _ _ m3;have n4:=nc _ _ m4;have n5:=nc _ _ m5;have n6:=nc _ _ m6;clear nc;cases d_n:(t.n==0);rotate_left;cases De:(t.name==[]);rotate_left;cases qI:(t.field==[]);rotate_left;cases Kh:(t.wn==[]);rotate_left
 by_cases Kg:0<t.wk.length
 rotate_left
 all_goals simp(disch:=omega)only[dJ,ab,simprocAttr,bne,gF,ah,pL, *]
def xj{t:Tm}{H:aa}{s:AS}(hs:Tc t H [97,107,115] s):W A (oM.body.post 2) s (done H.length [.tmp 2] (.bool (pL [97,107,115] t),none)):=by
 obtain⟨T,K,rfl,hK,q1,q4,hb,hu⟩:=hs;unfold oM;simp only[aG.post];obtain⟨m1,m2,m3,m4,m5,m6⟩:cj [97,107,115] 110=true/\cj [97,107,115] 97=false/\cj [97,107,115] 102=true/\cj [97,107,115] 116=true/\cj [97,107,115] 107=false/\cj [97,107,115] 115=false:=⟨rfl,rfl,rfl,rfl,rfl,rfl⟩;have nc:=fun c b=>w7 [97,107,115] c b (H.length+2) K aB hu
 have n1:=nc _ _ m1;have n2:=nc _ _ m2;have n3:=nc _ _ m3;have n4:=nc _ _ m4;have n5:=nc _ _ m5;have n6:=nc _ _ m6;clear nc;cases d_n:(t.n==0);rotate_left;cases qI:(t.field==[]);rotate_left;cases Kh:(t.wn==[]);rotate_left
 by_cases Kg:0<t.wk.length
 rotate_left
 all_goals simp(disch:=omega)only[dJ,ab,simprocAttr,bne,gF,ah,pL, *]
def xi{t:Tm}{H:aa}{s:AS}(hs:Tc t H [97,102,107] s):W A (oM.body.post 2) s (done H.length [.tmp 2] (.bool (pL [97,102,107] t),none)):=by
 obtain⟨T,K,rfl,hK,q1,q4,hb,hu⟩:=hs;unfold oM;simp only[aG.post];obtain⟨m1,m2,m3,m4,m5,m6⟩:cj [97,102,107] 110=true/\cj [97,102,107] 97=false/\cj [97,102,107] 102=false/\cj [97,102,107] 116=true/\cj [97,102,107] 107=false/\cj [97,102,107] 115=true:=⟨rfl,rfl,rfl,rfl,rfl,rfl⟩;have nc:=fun c b=>w7 [97,102,107] c b (H.length+2) K aB hu
 have n1:=nc _ _ m1;have n2:=nc _ _ m2;have n3:=nc _ _ m3;have n4:=nc _ _ m4;have n5:=nc _ _ m5;have n6:=nc _ _ m6;clear nc;cases d_n:(t.n==0);rotate_left;cases Kh:(t.wn==[]);rotate_left
 by_cases Kg:0<t.wk.length
 rotate_left
 by_cases td:0<t.names.length
 rotate_left
 all_goals simp(disch:=omega)only[dJ,ab,simprocAttr,bne,gF,bu,ah,pL, *]
def OQ{t:Tm}{H:aa}{s:AS}(hs:Tc t H [116,107] s):W A (oM.body.post 2) s (done H.length [.tmp 2] (.bool (pL [116,107] t),none)):=by
 obtain⟨T,K,rfl,hK,q1,q4,hb,hu⟩:=hs;unfold oM;simp only[aG.post];obtain⟨m1,m2,m3,m4,m5,m6⟩:cj [116,107] 110=true/\cj [116,107] 97=true/\cj [116,107] 102=true/\cj [116,107] 116=false/\cj [116,107] 107=false/\cj [116,107] 115=true:=⟨rfl,rfl,rfl,rfl,rfl,rfl⟩;have nc:=fun c b=>w7 [116,107] c b (H.length+2) K aB hu
 have n1:=nc _ _ m1;have n2:=nc _ _ m2;have n3:=nc _ _ m3;have n4:=nc _ _ m4;have n5:=nc _ _ m5;have n6:=nc _ _ m6;clear nc;cases d_n:(t.n==0);rotate_left;cases De:(t.name==[]);rotate_left;cases qI:(t.field==[]);rotate_left
 by_cases td:0<t.names.length
 rotate_left
 all_goals simp(disch:=omega)only[dJ,ab,simprocAttr,bne,bu,ah,pL, *]
def arj{t:Tm}{H:aa}{s:AS}(hs:Tc t H [] s):W A (oM.body.post 2) s (done H.length [.tmp 2] (.bool (pL [] t),none)):=by
 obtain⟨T,K,rfl,hK,q1,q4,hb,hu⟩:=hs;unfold oM;simp only[aG.post];obtain⟨m1,m2,m3,m4,m5,m6⟩:cj [] 110=true/\cj [] 97=true/\cj [] 102=true/\cj [] 116=true/\cj [] 107=true/\cj [] 115=true:=⟨rfl,rfl,rfl,rfl,rfl,rfl⟩;have nc:=fun c b=>w7 [] c b (H.length+2) K aB hu
 have n1:=nc _ _ m1;have n2:=nc _ _ m2;have n3:=nc _ _ m3;have n4:=nc _ _ m4;have n5:=nc _ _ m5;have n6:=nc _ _ m6;clear nc;cases d_n:(t.n==0);rotate_left;cases De:(t.name==[]);rotate_left;cases qI:(t.field==[]);rotate_left;cases Kh:(t.wn==[]);rotate_left
 by_cases Kg:0<t.wk.length
 rotate_left
 by_cases Uc:0<t.kids.length
 rotate_left
 by_cases td:0<t.names.length
 rotate_left
 all_goals simp(disch:=omega)only[dJ,ab,simprocAttr,bne,gF,cx,bu,ah,pL, *]
def jb(t:Tm)(H:aa):ai A 69 [.agg (aK t)] H=some (.bool (bZ t),none):=by
 refine cy (fn:=oM) rfl rfl rfl ?_;refine iC 2 _ ais fun s hs=>?_
 unfold bZ
 rcases tG t.kind with e|e|e|e|e|e|e|e|e|e|e|e|e|e
 ·have hu:ff t.kind=[110]:=by rw[e];rfl
  rw[hu] at hs ⊢;exact XR hs
 ·have hu:ff t.kind=[110]:=by rw[e];rfl
  rw[hu] at hs ⊢;exact XR hs
 ·have hu:ff t.kind=[97]:=by rw[e];rfl
  rw[hu] at hs ⊢;exact ang hs
 ·have hu:ff t.kind=[97,107]:=by rw[e];rfl
  rw[hu] at hs ⊢;exact SU hs
 ·have hu:ff t.kind=[110,107]:=by rw[e];rfl
  rw[hu] at hs ⊢;exact OP hs
 ·have hu:ff t.kind=[107]:=by rw[e];rfl
  rw[hu] at hs ⊢;exact air hs
 ·have hu:ff t.kind=[107,115]:=by rw[e];rfl
  rw[hu] at hs ⊢;exact FN hs
 ·have hu:ff t.kind=[97,107,115]:=by rw[e];rfl
  rw[hu] at hs ⊢;exact xj hs
 ·have hu:ff t.kind=[97,102,107]:=by rw[e];rfl
  rw[hu] at hs ⊢;exact xi hs
 ·have hu:ff t.kind=[97,102,107]:=by rw[e];rfl
  rw[hu] at hs ⊢;exact xi hs
 ·have hu:ff t.kind=[97,107,115]:=by rw[e];rfl
  rw[hu] at hs ⊢;exact xj hs
 ·have hu:ff t.kind=[116,107]:=by rw[e];rfl
  rw[hu] at hs ⊢;exact OQ hs
 ·have hu:ff t.kind=[107,115]:=by rw[e];rfl
  rw[hu] at hs ⊢;exact FN hs
 ·have hu:ff t.kind=[]:=by
   unfold ff
   repeat rw[if_neg af]
  rw[hu] at hs ⊢;exact arj hs
def Mc(n:Int)(H:aa):ai A 132 [.int .i64 n] H=some (.tuple [.str (oE n).1,.int .i64 (oE n).2],none):=fC (A:=A) (f:=132) rfl rfl
def DT(t:Tm):Int:=if t.kind=5\/t.kind=6\/t.kind=12 then 0 else if t.kind=4 then (oE t.n).2 else 8
def Wf(t:Tm)(H:aa):ai A 148 [.agg (aK t)] H=some (.int .i64 (DT t),none):=by
 have hs:=fun K=>Mc t.n K
 refine cy (fn:=VQ) rfl rfl rfl ?_;rw[aj];unfold VQ DT;have ht:(H++[bG.box 83 [.int .i64 t.kind,.int .i64 t.n,.str t.name,.str t.field,.str t.wn,.slice (aM t.wk) false,.slice (aF t.kids) false,.slice (strs t.names) false]]).take H.length=H:=G1
 by_cases k5:t.kind=5
 ·rw[if_pos (.inl k5)]
  exact nL0 tv
 by_cases k6:t.kind=6
 ·rw[if_pos (.inr (.inl k6))]
  exact nL0 tv
 by_cases k12:t.kind=12
 ·rw[if_pos (.inr (.inr k12))]
  exact nL0 tv
 rw[if_neg af]
 by_cases k4:t.kind=4
 ·rw[if_pos k4]
  exact nL1 hs tv
 ·rw[if_neg k4]
  exact nL0 tv
def Qs{n:Int}(h:¬ (n<0\/11<n)):oE n=cD n:=by unfold oE;rw[if_neg h]
def N0{t:Tm}(h:ax t=true):DT t=bo t:=by
 unfold DT bo;split
 ·rfl
 ·split
  ·rename_i _ hk
   have hO:=qR h;have:¬ (t.n<0\/11<t.n):=by
    intro hn;have hs:(cD t.n).1=[]:=by unfold cD;rw[if_pos hn]
    have hc:bP t.kind t.n t.kids.length=(-2,0):=by
     unfold bP;simp[hk,hs]
    exact (gm hO hc).1 rfl
   rw[Qs this]
  ·rfl
def fD(h:PW mm K)(ok:Bool)(l:List av)(b:Bool):ai A 67 [.ref mm 0,.bool ok] (ct mm l b K)=some (.undef,some ⟨ct mm l (b || !ok) K,mm⟩):=by
 refine cW ago.eq_1 ?_;have h0:=fu (l:=l) (b:=b) h;unfold nJ at h0;have aP:=h.lt;have ho:=fun b=>h.open l b
 have h1:∀ x:bG,((ct mm l b K).set mm x)[mm]?=some x:=fun x=>List.getElem?_set_self (by rw[bf];exact aP)
 cases b<;>exact nL5 h0 @bf @zN @fF ho tv
def iD(t:Tm)(k m:Int):Bool:=decide ((t.kids.length:Int)=k)&&decide ((t.names.length:Int)=m)
theorem ae4(hP:PW mm K)(t:Tm)(k m:Int)(l:List av)(b:Bool):ai A 111 [.ref mm 0,.agg (aK t),.int .i64 k,.int .i64 m] (ct mm l b K)=some (.bool (!(b || !iD t k m)),some ⟨ct mm l (b || !iD t k m) K,mm⟩):=by
 rw[aj];obtain⟨K1,fj,cY,fm,hT,hO⟩:=oZ hP t;have aP:=hP.lt;have e1:=fun ok=>fD fj ok l b
 have yp:decide (K.length<K.length)=false:=ae;refine cy (fn:=VI) rfl rfl rfl ?_;unfold VI iD
 by_cases h1:(t.kids.length:Int)=k
 ·by_cases h2:(t.names.length:Int)=m
  ·have e:=e1 true
   have ho:=hO l (b || !true);have h0:=fu (l:=l) (b:=b || !true) fj;unfold nJ at h0;rw[decide_eq_true h1,decide_eq_true h2];simp only[Bool.and_self];generalize (b || !true)=b1 at *;exact l9 cY fm @cx @bu e (j5 h0 hT ho @Nat.lt_irrefl @bf) tv
  ·have e:=e1 false
   have ho:=hO l (b || !false);have h0:=fu (l:=l) (b:=b || !false) fj;unfold nJ at h0;rw[decide_eq_true h1,ax1 h2];simp only[Bool.and_false];generalize (b || !false)=b1 at *;exact l9 cY fm @cx @bu e (j5 h0 hT ho @Nat.lt_irrefl @bf) tv
 ·have e:=e1 false
  have ho:=hO l (b || !false);have h0:=fu (l:=l) (b:=b || !false) fj;unfold nJ at h0;rw[ax1 h1];simp only[axt];generalize (b || !false)=b1 at *;exact l9 cY fm @cx e h0 (j4 hT ho @Nat.lt_irrefl @bf) tv
def orT(b:Bool):(b || !true)=b:=by cases b<;>rfl
def uz(s:av):strs [s]=[[.str s]]:=rfl
def ve(tb:Nat->List av)(ks:List Tm)(i:Nat):List (List av):=(List.range i).map fun j=>tb j++ag (ks.getD j qt)
def DP : ve tb ks (i+1)=ve tb ks i++[tb i++ag (ks.getD i qt)]:=by unfold ve;rw[List.range_succ,List.map_append];rfl
def PY : (ve tb ks i).length=i:=by unfold ve;simp
def Bef(mm:Nat)(K:aa)(fb:FuncId)(cs:List AV)(i:Nat)(ok:Bool)(jo:List av)(n:Nat):Prop :=
 ∀ l b,l.length+n<=10000000->∃ l' c,ai A fb (.int .i64 i :: cs) (ct mm l b K)=some (.undef,c)/\(c=some ⟨ct mm l' (b || !ok) K,mm⟩\/c=none/\l'=l/\ok=true)/\((b || !ok)=false->l'=l++jo)/\l'.length<=l.length+n
def I5{fb:FuncId} : ai A 109 [.ref mm 0,.slice [] false,.func (.func fb) [] cs] K=some (.undef,none):=by
 refine cW VH.eq_1 ?_;refine Ce ?_;refine bK 0 0 (fun i s=>∃ T g,s=⟨T,K,K.length,g⟩/\T 9=.int .i64 0/\T 10=.int .i64 0) (fun s=>∃ T g,s=⟨T,K,K.length,g⟩) (fun _=>False) ?_ ?_ (fun _ h=>h.elim) 0 _ af ?_
 ·rintro i s hi ⟨T,g,rfl,q9,JV⟩
  refine qx q9 JV ?_;exact⟨_,_,rfl⟩
 ·rintro s ⟨T,g,rfl⟩
  exact sH
 ·exact⟨_,_,rfl,dS,dS⟩
def Sm(i:Nat):Bef mm K 106 [] i true [] 0:=by
 intro l b hl;refine⟨l,none,?_,.inr ⟨rfl,rfl,rfl⟩,fun _=>ae,af⟩
 refine cW adj.eq_1 ?_;exact Ce tv
def AZ(ts:List av)(ks:List Tm)(i:Nat):List av:=((List.range i).map fun j=>[ts.getD j []]++ag (ks.getD j qt)).flatten
def LU{ts:List av} : AZ ts ks (i+1)=AZ ts ks i++([ts.getD i []]++ag (ks.getD i qt)):=by unfold AZ;rw[List.range_succ,List.map_append,List.flatten_append];simp
def okP(ks:List Tm)(i:Nat):Bool:=(List.range i).all fun j=>ax (ks.getD j qt)
def ait{t:Tm}(hk:t.kind=0)(hu:bZ t=true):True/\t.name=[]/\t.field=[]/\t.wn=[]/\t.wk=[]/\t.kids=[]/\t.names=[]:=by
 unfold bZ at hu;rw[hk] at hu;rw[show ff 0=[110] from rfl] at hu
 simp only[pL,show cj [110] 110=false from rfl,show cj [110] 97=true from rfl,show cj [110] 102=true from rfl,show cj [110] 116=true from rfl,show cj [110] 107=true from rfl,show cj [110] 115=true from rfl,axF,axt,ax2,axq,axG,ax3,axL,axo,ayx,ayp,axm] at hu
 simp_all
def aiu{t:Tm}(hk:t.kind=1)(hu:bZ t=true):True/\t.name=[]/\t.field=[]/\t.wn=[]/\t.wk=[]/\t.kids=[]/\t.names=[]:=by
 unfold bZ at hu;rw[hk] at hu;rw[show ff 1=[110] from rfl] at hu
 simp only[pL,show cj [110] 110=false from rfl,show cj [110] 97=true from rfl,show cj [110] 102=true from rfl,show cj [110] 116=true from rfl,show cj [110] 107=true from rfl,show cj [110] 115=true from rfl,axF,axt,ax2,axq,axG,ax3,axL,axo,ayx,ayp,axm] at hu
 simp_all
def aiv{t:Tm}(hk:t.kind=2)(hu:bZ t=true):True/\t.n=0/\t.field=[]/\t.wn=[]/\t.wk=[]/\t.kids=[]/\t.names=[]:=by
 unfold bZ at hu;rw[hk] at hu;rw[show ff 2=[97] from rfl] at hu
 simp only[pL,show cj [97] 110=true from rfl,show cj [97] 97=false from rfl,show cj [97] 102=true from rfl,show cj [97] 116=true from rfl,show cj [97] 107=true from rfl,show cj [97] 115=true from rfl,axF,axt,ax2,axq,axG,ax3,axL,ayf,axo,ayx,ayp,axm] at hu
 simp_all
def aiw{t:Tm}(hk:t.kind=3)(hu:bZ t=true):True/\t.n=0/\t.field=[]/\t.wn=[]/\t.wk=[]/\t.names=[]:=by
 unfold bZ at hu;rw[hk] at hu;rw[show ff 3=[97,107] from rfl] at hu
 simp only[pL,show cj [97,107] 110=true from rfl,show cj [97,107] 97=false from rfl,show cj [97,107] 102=true from rfl,show cj [97,107] 116=true from rfl,show cj [97,107] 107=false from rfl,show cj [97,107] 115=true from rfl,axF,axt,ax2,axq,axG,ax3,axL,ayf,axo,ayx,ayp,axm] at hu
 simp_all
def aix{t:Tm}(hk:t.kind=4)(hu:bZ t=true):True/\t.name=[]/\t.field=[]/\t.wn=[]/\t.wk=[]/\t.names=[]:=by
 unfold bZ at hu;rw[hk] at hu;rw[show ff 4=[110,107] from rfl] at hu
 simp only[pL,show cj [110,107] 110=false from rfl,show cj [110,107] 97=true from rfl,show cj [110,107] 102=true from rfl,show cj [110,107] 116=true from rfl,show cj [110,107] 107=false from rfl,show cj [110,107] 115=true from rfl,axF,axt,ax2,axq,axG,ax3,axL,axo,ayx,ayp,axm] at hu
 simp_all
def aiy{t:Tm}(hk:t.kind=5)(hu:bZ t=true):True/\t.n=0/\t.name=[]/\t.field=[]/\t.wn=[]/\t.wk=[]/\t.names=[]:=by
 unfold bZ at hu;rw[hk] at hu;rw[show ff 5=[107] from rfl] at hu
 simp only[pL,show cj [107] 110=true from rfl,show cj [107] 97=true from rfl,show cj [107] 102=true from rfl,show cj [107] 116=true from rfl,show cj [107] 107=false from rfl,show cj [107] 115=true from rfl,axF,axt,ax2,axq,axG,ax3,axL,ayf,axo,ayx,ayp,axm] at hu
 simp_all
def aiz{t:Tm}(hk:t.kind=6)(hu:bZ t=true):True/\t.n=0/\t.name=[]/\t.field=[]/\t.wn=[]/\t.wk=[]:=by
 unfold bZ at hu;rw[hk] at hu;rw[show ff 6=[107,115] from rfl] at hu
 simp only[pL,show cj [107,115] 110=true from rfl,show cj [107,115] 97=true from rfl,show cj [107,115] 102=true from rfl,show cj [107,115] 116=true from rfl,show cj [107,115] 107=false from rfl,show cj [107,115] 115=false from rfl,axF,axt,ayw,axq,axG,ax3,axL,ayf,axo,ayx,ayp,axm] at hu
 simp_all
def aiA{t:Tm}(hk:t.kind=7)(hu:bZ t=true):True/\t.n=0/\t.field=[]/\t.wn=[]/\t.wk=[]:=by
 unfold bZ at hu;rw[hk] at hu;rw[show ff 7=[97,107,115] from rfl] at hu
 simp only[pL,show cj [97,107,115] 110=true from rfl,show cj [97,107,115] 97=false from rfl,show cj [97,107,115] 102=true from rfl,show cj [97,107,115] 116=true from rfl,show cj [97,107,115] 107=false from rfl,show cj [97,107,115] 115=false from rfl,axF,axt,ax2,ayw,axq,axG,ax3,axL,ayf,axo,ayx,ayp,axm] at hu
 simp_all
def ab2{t:Tm}(hk:t.kind=8)(hu:bZ t=true):True/\t.n=0/\t.wn=[]/\t.wk=[]/\t.names=[]:=by
 unfold bZ at hu;rw[hk] at hu;rw[show ff 8=[97,102,107] from rfl] at hu
 simp only[pL,show cj [97,102,107] 110=true from rfl,show cj [97,102,107] 97=false from rfl,show cj [97,102,107] 102=false from rfl,show cj [97,102,107] 116=true from rfl,show cj [97,102,107] 107=false from rfl,show cj [97,102,107] 115=true from rfl,axF,axt,ax2,axq,axG,ax3,axL,ayf,axo,ayx,ayp,axm] at hu
 simp_all
def ab3{t:Tm}(hk:t.kind=9)(hu:bZ t=true):True/\t.n=0/\t.wn=[]/\t.wk=[]/\t.names=[]:=by
 unfold bZ at hu;rw[hk] at hu;rw[show ff 9=[97,102,107] from rfl] at hu
 simp only[pL,show cj [97,102,107] 110=true from rfl,show cj [97,102,107] 97=false from rfl,show cj [97,102,107] 102=false from rfl,show cj [97,102,107] 116=true from rfl,show cj [97,102,107] 107=false from rfl,show cj [97,102,107] 115=true from rfl,axF,axt,ax2,axq,axG,ax3,axL,ayf,axo,ayx,ayp,axm] at hu
 simp_all
def XS{t:Tm}(hk:t.kind=10)(hu:bZ t=true):True/\t.n=0/\t.field=[]/\t.wn=[]/\t.wk=[]:=by
 unfold bZ at hu;rw[hk] at hu;rw[show ff 10=[97,107,115] from rfl] at hu
 simp only[pL,show cj [97,107,115] 110=true from rfl,show cj [97,107,115] 97=false from rfl,show cj [97,107,115] 102=true from rfl,show cj [97,107,115] 116=true from rfl,show cj [97,107,115] 107=false from rfl,show cj [97,107,115] 115=false from rfl,axF,axt,ax2,ayw,axq,axG,ax3,axL,ayf,axo,ayx,ayp,axm] at hu
 simp_all
def XT{t:Tm}(hk:t.kind=11)(hu:bZ t=true):True/\t.n=0/\t.name=[]/\t.field=[]/\t.names=[]:=by
 unfold bZ at hu;rw[hk] at hu;rw[show ff 11=[116,107] from rfl] at hu
 simp only[pL,show cj [116,107] 110=true from rfl,show cj [116,107] 97=true from rfl,show cj [116,107] 102=true from rfl,show cj [116,107] 116=false from rfl,show cj [116,107] 107=false from rfl,show cj [116,107] 115=true from rfl,axF,axt,ax2,axq,axG,ax3,axL,ayf,axo,ayx,ayp,axm] at hu
 simp_all
def XU{t:Tm}(hk:t.kind=12)(hu:bZ t=true):True/\t.n=0/\t.name=[]/\t.field=[]/\t.wn=[]/\t.wk=[]:=by
 unfold bZ at hu;rw[hk] at hu;rw[show ff 12=[107,115] from rfl] at hu
 simp only[pL,show cj [107,115] 110=true from rfl,show cj [107,115] 97=true from rfl,show cj [107,115] 102=true from rfl,show cj [107,115] 116=true from rfl,show cj [107,115] 107=false from rfl,show cj [107,115] 115=false from rfl,axF,axt,ayw,axq,axG,ax3,axL,ayf,axo,ayx,ayp,axm] at hu
 simp_all
def Qt{n:Int}(h:0<=n/\n<=11):(cD n).1≠[]:=by
 have:n=0\/n=1\/n=2\/n=3\/n=4\/n=5\/n=6\/n=7\/n=8\/n=9\/n=10\/n=11:=by omega
 rcases this with rfl|rfl|rfl|rfl|rfl|rfl|rfl|rfl|rfl|rfl|rfl|rfl<;>decide
def Mb{n:Int}(h:¬ (0<=n/\n<=11)):cD n=([],0):=by unfold cD;rw[if_pos (by omega)]
def WR{t:Tm}(hk:t.kind=0)(hu:bZ t=true):ax t=decide (-1099511627776<=t.n/\t.n<=1099511627776):=by
 obtain⟨-,h0,h1,h2,h3,h4,h5⟩:=ait hk hu;rw[fp,dk];unfold oQ rG om sV sW rH rI sY;simp[hk,h0,h1,h2,h3,h4,h5,bP,jE];rw[Bool.eq_iff_iff];simp
def ams{t:Tm}(hk:t.kind=1)(hu:bZ t=true):ax t=decide (t.n=0\/t.n=1):=by
 obtain⟨-,h0,h1,h2,h3,h4,h5⟩:=aiu hk hu;rw[fp,dk];unfold oQ rG om sV sW rH rI sY;simp[hk,h0,h1,h2,h3,h4,h5,bP,jE]
def adO{t:Tm}(hk:t.kind=2)(hu:bZ t=true):ax t=isWord t.name:=by
 obtain⟨-,h0,h1,h2,h3,h4,h5⟩:=aiv hk hu;rw[fp,dk];unfold oQ rG om sV sW rH rI sY;simp[hk,h0,h1,h2,h3,h4,h5,bP,jE]
def adP{t:Tm}(hk:t.kind=3)(hu:bZ t=true):ax t=(gK t.name&&t.kids.all ax):=by
 obtain⟨-,h0,h1,h2,h3,h4⟩:=aiw hk hu;rw[fp,dk];unfold oQ rG om sV sW rH rI sY;simp[hk,h0,h1,h2,h3,h4,bP,jE]
def Fh{t:Tm}(hk:t.kind=4)(hu:bZ t=true):ax t=(decide (0<=t.n/\t.n<=11)&&iD t (if (cD t.n).2=7 then 1 else 2) 0&&t.kids.all ax):=by
 obtain⟨-,h0,h1,h2,h3,h4⟩:=aix hk hu;rw[fp,dk];unfold oQ rG om sV sW rH rI sY iD
 by_cases hn:0<=t.n/\t.n<=11
 ·have h9:=Qt hn
  obtain⟨II,ZJ⟩:=hn
  by_cases h7:(cD t.n).2=7
  ·simp[hk,h0,h1,h2,h3,h4,bP,jE,h9,h7,II,ZJ]
  ·simp[hk,h0,h1,h2,h3,h4,bP,jE,h9,h7,II,ZJ]
 have h9:=Mb hn;have hd:decide (0<=t.n/\t.n<=11)=false:=ax1 hn;rw[hd];simp[hk,h0,h1,h2,h3,h4,bP,jE,h9]
def Qm{t:Tm}(hk:t.kind=5)(hu:bZ t=true):ax t=(iD t 3 0&&t.kids.all ax):=by
 obtain⟨-,h0,h1,h2,h3,h4,h5⟩:=aiy hk hu;rw[fp,dk];unfold oQ rG om sV sW rH rI sY iD;simp[hk,h0,h1,h2,h3,h4,h5,bP,jE]
def Qn{t:Tm}(hk:t.kind=6)(hu:bZ t=true):ax t=(iD t 2 1&&t.names.all isWord&&t.kids.all ax):=by
 obtain⟨-,h0,h1,h2,h3,h4⟩:=aiz hk hu;rw[fp,dk];unfold oQ rG om sV sW rH rI sY iD;simp[hk,h0,h1,h2,h3,h4,bP,jE]
def Qo{t:Tm}(hk:t.kind=7)(hu:bZ t=true):ax t=(decide ((t.names.length:Int)=t.kids.length)&&t.names.all isWord&&gK t.name&&t.kids.all ax):=by
 obtain⟨-,h0,h1,h2,h3⟩:=aiA hk hu;rw[fp,dk];unfold oQ rG om sV sW rH rI sY;simp[hk,h0,h1,h2,h3,bP,jE]
def LR{t:Tm}(hk:t.kind=8)(hu:bZ t=true):ax t=(decide ((t.kids.length:Int)=1)&&gK t.name&&isWord t.field&&t.kids.all ax):=by
 obtain⟨-,h0,h1,h2,h3⟩:=ab2 hk hu;rw[fp,dk];unfold oQ rG om sV sW rH rI sY;simp[hk,h0,h1,h2,h3,bP,jE]
def LS{t:Tm}(hk:t.kind=9)(hu:bZ t=true):ax t=(decide ((t.kids.length:Int)=1)&&gK t.name&&isWord t.field&&t.kids.all ax):=by
 obtain⟨-,h0,h1,h2,h3⟩:=ab3 hk hu;rw[fp,dk];unfold oQ rG om sV sW rH rI sY;simp[hk,h0,h1,h2,h3,bP,jE]
def Fg{t:Tm}(hk:t.kind=10)(hu:bZ t=true):ax t=(decide (2<=t.kids.length)&&decide ((t.names.length:Int)=2*((t.kids.length:Int)-1))&&t.names.all isWord&&gK t.name&&t.kids.all ax):=by
 obtain⟨-,h0,h1,h2,h3⟩:=XS hk hu;rw[fp,dk];unfold oQ rG om sV sW rH rI sY
 by_cases h7:t.kids.length<2
 ·have h8:decide (2<=t.kids.length)=false:=ax1 (by omega)
  rw[h8];simp[hk,h0,h1,h2,h3,bP,jE,h7]
 have h8:decide (2<=t.kids.length)=true:=decide_eq_true (by omega)
 rw[h8];simp[hk,h0,h1,h2,h3,bP,jE,h7]
def Oo{t:Tm}(hk:t.kind=11)(hu:bZ t=true):ax t=(bD (.mk t.wn t.wk)&&t.kids.all ax):=by
 obtain⟨-,h0,h1,h2,h3⟩:=XT hk hu;rw[fp,dk];unfold oQ rG om sV sW rH rI sY;simp[hk,h0,h1,h2,h3,bP,jE]
def Jd{t:Tm}(hk:t.kind=12)(hu:bZ t=true):ax t=(iD t 3 2&&t.names.all isWord&&t.kids.all ax):=by
 obtain⟨-,h0,h1,h2,h3,h4⟩:=XU hk hu;rw[fp,dk];unfold oQ rG om sV sW rH rI sY iD;simp[hk,h0,h1,h2,h3,h4,bP,jE]
section
def zm : ∀ i,i<=ks.length->ve tb ks i=((ks.take i).zipIdx.map fun p=>tb p.2++ag p.1)
 | 0,_=>by simp[ve]
 | i+1,h=>by
  have hx:=aw3 (show i<ks.length by omega)
  have hg:ks.getD i qt=ks[i]:=by rw[List.getD,hx];rfl
  have hl:(ks.take i).length=i:=by rw[axO];omega
  rw[DP,zm i af,jD hx,hg,List.zipIdx_append,List.map_append,hl];simp
def zl : ve (fun _=>[]) ks ks.length=ks.map ag:=by
 rw[zm _ (Nat.le_refl _),axz];simp only[axM];have:∀ (l:List Tm) (k:Nat),(l.zipIdx k).map (fun p=>ag p.1)=l.map ag:=by
  intro l;induction l with
  | nil=>intro k;rfl
  | cons a r ih=>intro k;simp only[azf,axe,ih]
 exact this ks 0
theorem Z7{ns:List av}(h:ns.length=ks.length):ve (fun j=>[ns.getD j [],[61]]) ks ks.length=List.zipWith (fun s (x:List av × Int)=>[s,[61]]++x.1) ns (ks.map fun t=>(ag t,bo t)):=by
 rw[zm _ (Nat.le_refl _),axz];have:∀ (l:List Tm) (m:List av) (k:Nat),m.length=l.length->(∀ j,j<l.length->ns.getD (k+j) []=m.getD j [])->(l.zipIdx k).map (fun p=>[ns.getD p.2 [],[61]]++ag p.1)=List.zipWith (fun s (x:List av × Int)=>[s,[61]]++x.1) m (l.map fun t=>(ag t,bo t)):=by
  intro l;induction l with
  | nil=>intro m k hm _;cases m with|nil=>rfl|cons a r=>simp at hm
  | cons a r ih =>
   intro m k hm hg;cases m with
   | nil=>simp at hm
   | cons b q =>
    have h0:=hg 0 ae;simp only[axZ] at h0;simp only[azf,axe,ayU,h0];rw[ih q (k+1) (cJ hm) (fun j hj=>by
     have:=hg (j+1) df
     rw[show k+(j+1)=k+1+j by omega] at this
     rw[this];rfl)]
    rfl
 grind
section
variable {n:Int}{a f p q r u:av}{w:Wd}{ns:List av}{tl:List (List av × Int)}{x y z:List av × Int}
theorem b0:fK 0 n a f w ns tl=if n<0 then [[45],lV (-n).toNat] else [lV n.toNat]:=rfl
theorem b1:fK 1 n a f w ns tl=[if n=0 then [102,97,108,115,101] else [116,114,117,101]]:=rfl
theorem b2:fK 2 n a f w ns tl=[a]:=rfl
theorem b3:fK 3 n a f w ns tl=aL a++[[40]]++ar (tl.map (·.1))++[[41]]:=rfl
def b4a:fK 4 n a f w ns [x]=[(cD n).1]++fV x 7:=rfl
def b4b:fK 4 n a f w ns [x,y]=fV x (if (cD n).2=3 then 4 else (cD n).2)++[(cD n).1]++fV y ((cD n).2+1):=rfl
def b5:fK 5 n a f w ns [x,y,z]=[[105,102]]++x.1++[[116,104,101,110]]++y.1++[[101,108,115,101]]++z.1:=rfl
def b6:fK 6 n a f w [p] [x,y]=[[108,101,116],p,[61]]++x.1++[[105,110]]++y.1:=rfl
theorem b7:fK 7 n a f w ns tl=aL a++[[123]]++ar (List.zipWith (fun s (x:List av × Int)=>[s,[61]]++x.1) ns tl)++[[125]]:=rfl
def b8:fK 8 n a f w ns [x]=aL a++[[58],f]++[[91]]++x.1++[[93]]:=rfl
def b9:fK 9 n a f w ns [x]=aL a++[[58],f]++[[40]]++x.1++[[41]]:=rfl
theorem b11:fK 11 n a f w ns tl=[cz]++[[40]]++bM w++[[41]]++[[91]]++ar (tl.map (·.1))++[[93]]:=rfl
def b12:fK 12 n a f w [p,q] [x,y,z]=[[102,111,108,100],p,[44],q,[61]]++y.1++[[111,118,101,114]]++x.1++[[100,111]]++z.1:=rfl
end
def pt2{a b:av}{x y:Tm} : AZ [a,b] [x,y] 2=[a]++ag x++[b]++ag y:=by simp[AZ,List.range_succ]
def pt3{a b c:av}{x y z:Tm} : AZ [a,b,c] [x,y,z] 3=[a]++ag x++[b]++ag y++[c]++ag z:=by simp[AZ,List.range_succ]
end
def PW.amt(h:PW mm K){a b:bG}(ha:∀ cs,a≠.bR cs)(hb:∀ cs,b≠.bR cs):PW mm (K++[a,b]):=by
 have:=(h.push ha).push hb
 rwa [axf] at this
def abx(h:PW mm K){x y:bG} : (ct mm l b (K++[x,y]))[K.length]?=some x:=by rw[Jn (by have:=h.lt;omega)];exact h2a
def aby(h:PW mm K){x y:bG} : (ct mm l b (K++[x,y]))[K.length+1]?=some y:=by rw[Jn (by have:=h.lt;omega)];exact h2b
def xx{A:AP}{T:az}{H:aa}{lo gen t ty l off:Nat}{os:List aQ}{K:AS->Prop}(h:l<=H.length):TU A ty (.ref l off) t os T H lo gen K=WO A os ⟨T.put t (.ref H.length 0),H++[.box ty [.ref l off]],cond (Nat.blt H.length lo) H.length lo,gen⟩ K:=by
 simp only[TU,AV.drop,AV.cells,aw7,List.all_cons,List.all_nil,aV,axH h,axX,cond_true];exact aS
structure TyH (mm:Nat) (t:Tm) (n:Nat) (K:aa):Prop where
 p:PW mm K
 w:∀ l b,(ct mm l b K)[n]?=some (.box 123 [.ref mm 0])
 t:∀ l b,(ct mm l b K)[n+1]?=some (.box 83 [.int .i64 t.kind,.int .i64 t.n,.str t.name,.str t.field,.str t.wn,.slice (aM t.wk) false,.slice (aF t.kids) false,.slice (strs t.names) false])
def aeo{n:Nat}{t:Tm}(h:TyH mm t n K)(i:Nat)(hi:i<t.names.length)(DE:∀ s∈t.names,s.length<=1100000):Bef mm K 135 [.ref n 0,.ref (n+1) 0] i (isWord (t.names.getD i [])) [t.names.getD i [],[61]] 2:=by
 intro l b hl;have ft:=iu hi;have qu:=nw DE i;generalize t.names.getD i []=s at ft qu ⊢;obtain⟨l1,e1,t1,n1⟩:=tJ h.p s af l b af;obtain⟨l2,e2,t2,n2⟩:=BN h.p [[61]] ae l1 (b || !isWord s) iA;simp only[List.length_cons,List.length_nil] at n2;rw[orT,uz] at e2;rw[orT] at t2;refine⟨l2,_,?_,.inl rfl,fun hp=>by rw[t2 hp,t1 hp];simp,af⟩
 refine cW adx.eq_1 ?_;have hw:=h.w;have ht:=h.t;have aP:=h.p.lt;have ho:=h.p.open l2 (b || !isWord s);generalize (b || !isWord s)=b1 at *;exact l9 hw ht ft e1 e2 (j4 @fF ho @Nat.lt_irrefl @bf) tv
section
abbrev ZT:List AV:=[.int .i64 0,.int .i64 0,.str [],.str [],.str [],.al,.al,.al]
def iU{s:AS}{v:AV} : AS.cN s (.yn v)=s:=rfl
def We{H:List α}{a b:α} : (H++[a,b]).length=H.length+2:=ae
def P6{α:Type}{H:List α}{a:α} : (H++[a]).length=H.length+1:=ae
def adH{H:List α}{a b c:α} : (H++[a,b,c]).length=H.length+3:=ae
def uc{H:List α}{a b:α} : H++[a]++[b]=H++[a,b]:=ae
def Ty{H:List α}{a b c:α} : H++[a,b]++[c]=H++[a,b,c]:=ae
def acK{H:List α}{a b:α} : (H++[a,b])[H.length+1]?=some b:=by rw[List.getElem?_append_right af];simp
def ajY{H:List α}{a b c:α} : (H++[a,b,c])[H.length+2]?=some c:=by rw[List.getElem?_append_right af];simp
def adX{H:List α}{a b x:α} : (H++[a,b]).set (H.length+1) x=H++[a,x]:=by rw[List.set_append_right _ _ af];simp
def am1{H:List α}{a b c x:α} : (H++[a,b,c]).set (H.length+2) x=H++[a,b,x]:=by rw[List.set_append_right _ _ af];simp
def Jg{A:AP}{t:Nat}{os:List aQ}{H:aa}{K:AS->Prop}(hf:cs.all aO=true)(hd:cs.map AV.drop=cs) :
  WO A (⟨some t,none,.QY (.yn (.agg cs))⟩ :: os) ⟨T,H,lo,gen⟩ K=WO A os ⟨T.put t (.ref H.length 0),H++[.bR cs],cond (Nat.blt H.length lo) H.length lo,gen⟩ K:=by
 rw[fG];have hd2:AV.drop (.agg cs)=.agg cs:=rfl;have:bS A.aX (ai A) ⟨T,H,lo,gen⟩ ⟨some t,none,.QY (.yn (.agg cs))⟩=some ⟨T.put t (.ref H.length 0),H++[.bR cs],cond (Nat.blt H.length lo) H.length lo,gen⟩:=by
  simp only[bS,br,aI.eval,hd2,GK,aw7,hf,cond_true,hd,axt,cond_false,AS.cR,AS.cc,AS.iw]
 rw[this,aS]
def PQ.box{pl:Nat}(h:PQ pl K){ty:TypeId} : PQ pl (K++[.box ty cs]):=h.push fun cs h=>by cases h
def FB{tk:List Tk}{pl:Nat}{s:PS}(h:pl<K.length):aH tk pl s K++M=aH tk pl s (K++M):=by unfold aH;rw[List.set_append_left _ _ h]
theorem jX{tk:List Tk}{pl:Nat}{s:PS}(h:pl<j):(aH tk pl s K)[j]?=K[j]?:=dA af
def qk{tk:List Tk}{pl:Nat}{s:PS}{o:bG}(h:pl<j):(aH tk pl s K).set j o=aH tk pl s (K.set j o):=by unfold aH;rw[List.set_comm _ _ af]
section
variable {n:Nat}{tk:List Tk}{pl:Nat}{s s' : PS}{H:aa}
def N8(h:jk tk pl s H){nm:av}{s1:PS}(hq:aJ (aq tk) s=(nm,s1))
  (hQ:∀ T,T 1=.ref H.length 0->T 2=.lbox 0 ZT->T 3=.ref (H.length+1) 0->T 4=.ref (H.length+2) 0 ->
   W (PA 2 n) (oV.body.sub [true,true,true]) ⟨T,aH tk pl s1 (H++[.box 72 [.ref pl 0],.bR [.int .i64 0,.int .i64 0,.str nm,.str [],.str [],.al,.al,.al],.box 1 [.func (.func 139) [.agg [.ref pl 0,.ref (H.length+1) 0]] []]]),pl,1⟩ Q) :
  W (PA 2 n) oV.body ⟨dO [.ref pl 0],H,H.length,0⟩ Q:=by
 have gI:=h.q.lt;have h1:jk tk pl s (H++[.box 72 [.ref pl 0]]):=⟨h.q.box,by rw[axd gI];exact h.at',h.b,h.le⟩
 have hq1:=WT (k:=2) (n:=n) h1;rw[hq] at hq1;simp only at hq1;have g0:(H++[bG.box 72 [.ref pl 0]])[H.length]?=some (.box 72 [.ref pl 0]):=ae;have g1:∀ x,(aH tk pl s1 (H++[bG.box 72 [.ref pl 0],x]))[H.length]?=some (.box 72 [.ref pl 0]):=fun x=>by rw[jX gI,List.getElem?_append_right (Nat.le_refl _)];simp
 have a1:∀ M,aH tk pl s1 (H++[bG.box 72 [.ref pl 0]])++M=aH tk pl s1 (H++[bG.box 72 [.ref pl 0]]++M):=fun M=>FB df
 have a2:∀ x M,aH tk pl s1 (H++[bG.box 72 [.ref pl 0],x])++M=aH tk pl s1 (H++[bG.box 72 [.ref pl 0],x]++M):=fun x M=>FB df
 have g2:∀ x,(aH tk pl s1 (H++[bG.box 72 [.ref pl 0],x]))[H.length+1]?=some x:=fun x=>by rw[jX af,acK]
 have p2:∀ x y,(aH tk pl s1 (H++[bG.box 72 [.ref pl 0],x])).set (H.length+1) y=aH tk pl s1 (H++[bG.box 72 [.ref pl 0],y]):=fun x y=>by rw[qk af,adX]
 have g3:∀ x y,(aH tk pl s1 (H++[bG.box 72 [.ref pl 0],x,y]))[H.length+2]?=some y:=fun x y=>by rw[jX af,ajY]
 have p3:∀ x y z,(aH tk pl s1 (H++[bG.box 72 [.ref pl 0],x,y])).set (H.length+2) z=aH tk pl s1 (H++[bG.box 72 [.ref pl 0],x,z]):=fun x y z=>by rw[qk af,am1]
 have JF:decide (pl<=H.length+2)=true:=df;have kG:decide (H.length+1<=H.length+2)=true:=ae;refine (show W (PA 2 n) (.seq (.region _) (.seq (.region _) (.seq (.region _) (oV.body.sub [true,true,true])))) _ Q from ?_)
 generalize hX:oV.body.sub [true,true,true]=X;rw[hX] at hQ;have od:decide (H.length+1<pl)=false:=df;have F0:decide (H.length+2<pl)=false:=df;have rz:=fun (t:Nat) (os:List aQ) (T:az) (H:aa) (lo gen:Nat) (K:AS->Prop)=>Jg (A:=PA 2 n) (t:=t) (os:=os) (T:=T) (H:=H) (lo:=lo) (gen:=gen) (K:=K) (cs:=ZT) rfl rfl
 simp(disch:=omega)only[dJ,ab,simprocAttr,xx,rz,od,F0,g0,hq1,P6,We,bA,a1,uc,g2,p2,g1,a2,Ty,g3,p3,aW,aV,lX,il,JF,Bool.and_self];refine hQ _ ?_ ?_ ?_ ?_<;>exact sH
theorem se(hr:fn.results=[.cell ra true 8])(h7:fn.muts.elem 777777=true)(h8:fn.muts.elem 888888=false)(h:jk tk pl s H){tl:Nat}{a f wn:av}{wc kc nc:AV}{wk:List Wd}{ns:List av}
  (hT:T ra=.lbox g [.int .i64 kd,.int .i64 nn,.str a,.str f,.str wn,wc,kc,nc]) (hwc:wc=.al/\wk=[]\/wc=.slice (aM wk) false) (hk:Tf K H.length tl 8 kc (aF ks)) (hn:Tf K H.length tl 1 nc (strs ns))
  (hK:K.take H.length=aH tk pl s' H):finish H.length fn ⟨T,K,pl,gen⟩=some (.agg (aK (.mk kd nn a f wn wk ks ns)),some ⟨aH tk pl s' H,pl⟩):=by
 have ho:kg H.length ⟨T,K,pl,gen⟩=true:=by
  have:=h.q.open (tk:=tk) (s:=s')
  unfold mc at this;unfold kg
  grind
 have:=UM hr h7 h8 (s:=⟨T,K,pl,gen⟩) hT hwc hk hn ho h.q.lt
 rw[this,hK]
def A'(h:pl<H.length):(aH tk pl s' (H++M)).take H.length=aH tk pl s' H:=by
 rw[<- FB h,ayv bA]
theorem JT.take{base tl:Nat}{ns:List av}(h:JT tk pl base tl c0 (aH tk pl s (H++M)) b ns ks s' K)(gI:pl<H.length)(qO:H.length<=tl)(hb:H.length<=base):K.take H.length=aH tk pl s' H:=by
 refine ayq fun j=>?_
 rw[List.getElem?_take]
 by_cases hj:j<H.length
 ·rw[if_pos hj]
  by_cases e:j=pl
  ·subst e
   rw[h.p.at'];unfold aH
   grind
  ·rw[h.old j af af e,dA (fun h=>e h.symm),dA (fun h=>e h.symm),axd hj]
 ·grind [bA]
theorem JT.start{s1:PS}(h:jk tk pl s H)(hl:s'.i<=tk.length)(h6:c0.length=6)(hp:∀ x∈c0,∀ b,AV.bp b x=true){F:az} :
  JT tk pl (H.length+3) (H.length+1) c0 (aH tk pl s1 (H++[.box 72 [.ref pl 0],.bR (c0++[.al,.al]),.box 1 [.func (.func 139) [.agg [.ref pl 0,.ref (H.length+1) 0]] []]])) false [] [] s'
   (aH tk pl s' (H++[.box 72 [.ref pl 0],.bR (c0++[.al,.al]),.box 1 [.func (.func 139) [.agg [.ref pl 0,.ref (H.length+1) 0]] []]])):=by
 have gI:=h.q.lt;have hq:PQ pl (H++[.box 72 [.ref pl 0],.bR (c0++[.al,.al]),.box 1 [.func (.func 139) [.agg [.ref pl 0,.ref (H.length+1) 0]] []]]):=by
  rw[<- Ty,<- uc];refine ((h.q.box).push fun cs hc=>?_).box
  cases hc;rw[aw8];intro x hx
  rcases aw9.1 hx with hx|hx
  ·exact hp x hx _
  ·simp only[axs,axR,ays,or_self] at hx
   subst hx;rfl
 refine⟨⟨hq.aH,nI hq,h.b,hl⟩,⟨⟨.al,.al,?_,.inl ⟨rfl,rfl⟩,.inl ⟨rfl,rfl⟩⟩,h6⟩,af,af,by rw[bA,adH];exact Nat.le_refl _,(fun h=>absurd h ae),fun j h1 h2 h3=>by rw[dA (fun e=>h3 e.symm),dA (fun e=>h3 e.symm)]⟩
 grind [jX]
end
def nH(pl:Nat)(H:aa)(nm:av)(k:Int)(f:av):aa:=H++[.box 72 [.ref pl 0],.bR [.int .i64 k,.int .i64 0,.str nm,.str f,.str [],.al,.al,.al],.box 1 [.func (.func 139) [.agg [.ref pl 0,.ref (H.length+1) 0]] []]]
abbrev c0N(nm:av)(k:Int)(f:av):List AV:=[.int .i64 k,.int .i64 0,.str nm,.str f,.str [],.al]
section
variable {n:Nat}{tk:List Tk}{pl:Nat}{s s' : PS}{H:aa}{nm:av}{k:Int}{f:av}
def al7(h:jk tk pl s H):jk tk pl s (nH pl H nm k f):=by
 have gI:=h.q.lt;unfold nH;refine⟨?_,by rw[axd gI];exact h.at',h.b,h.le⟩
 rw[<- Ty,<- uc];refine ((h.q.box).push fun cs hc=>?_).box
 cases hc;rfl
def Ws:(aH tk pl s' (nH pl H nm k f)).length=H.length+3:=by rw[bA];unfold nH;rw[adH]
def al9(h:jk tk pl s H):(aH tk pl s' (nH pl H nm k f))[H.length]?=some (.box 72 [.ref pl 0]):=by
 rw[jX h.q.lt];unfold nH;rw[List.getElem?_append_right (Nat.le_refl _)];simp
def al'(h:jk tk pl s H):(aH tk pl s' (nH pl H nm k f))[H.length+1]?=some (.bR [.int .i64 k,.int .i64 0,.str nm,.str f,.str [],.al,.al,.al]):=by
 have:=h.q.lt
 rw[jX af];unfold nH;rw[List.getElem?_append_right af];simp
def al8(h:jk tk pl s H):(aH tk pl s' (nH pl H nm k f))[H.length+2]?=some (.box 1 [.func (.func 139) [.agg [.ref pl 0,.ref (H.length+1) 0]] []]):=by
 have:=h.q.lt
 rw[jX af];unfold nH;rw[List.getElem?_append_right af];simp
def agV(h:jk tk pl s H){f':av} : (aH tk pl s' (nH pl H nm k f)).set (H.length+1) (.bR [.int .i64 k',.int .i64 0,.str nm,.str f',.str [],.al,.al,.al])=aH tk pl s' (nH pl H nm k' f'):=by
 have:=h.q.lt
 rw[qk af];unfold nH;rw[List.set_append_right _ _ af];simp
def rZ{s1:PS}(h:jk tk pl s H)(hl:s'.i<=tk.length):JT tk pl (H.length+3) (H.length+1) (c0N nm k f) (aH tk pl s1 (nH pl H nm k f)) false [] [] s' (aH tk pl s' (nH pl H nm k f)) :=
 JT.start h hl rfl (by intro x hx b;simp only[axs,axR,ays] at hx;rcases hx with rfl|rfl|rfl|rfl|rfl|rfl<;>rfl) (F:=fun _=>.undef)
def lM.facts{base tl z:Nat}{v:AV}{rows:List (List AV)}(h:lM K base tl z v rows):v.drop=v/\aO v=true:=by
 rcases h with ⟨rfl,_⟩|⟨l,rfl,_⟩<;>exact⟨rfl,rfl⟩
def agU(h:jk tk pl s H){base:Nat}{ns:List av}(hb:H.length<=base)(hJ:JT tk pl base (H.length+1) (c0N nm k f) (aH tk pl s (H++M)) b ns ks s' K)(q2:T 2=.lbox 0 ZT)(q3:T 3=.ref (H.length+1) 0) :
  W (PA 2 n) (oV.body.sub [true,true,true,true]) ⟨T,K,pl,1⟩ (dn oV H.length (.agg (aK (.mk k 0 nm f [] [] ks ns)),some ⟨aH tk pl s' H,pl⟩)):=by
 obtain⟨⟨kc,nc,t1,t2,t3⟩,t6⟩:=hJ.t;obtain⟨d1,f1⟩:=t2.facts;obtain⟨d2,f2⟩:=t3.facts;have gI:=h.q.lt;simp only[c0N,axN,axM] at t1;have e:=hJ.take gI af hb;have nN:=fun T' gen (Ge:T' 2=.lbox 0 [.int .i64 k,.int .i64 0,.str nm,.str f,.str [],.al,kc,nc])=>se (fn:=oV) (ra:=2) (tl:=H.length+1) (gen:=gen) rfl rfl rfl h (T:=T') Ge (.inl ⟨rfl,rfl⟩) (.inl (lM.base t2 af)) (.inl (lM.base t3 af)) e
 refine (show W (PA 2 n) (.seq (.region _) .ret) _ _ from ?_)
 simp(disch:=omega)only[dJ,ab,simprocAttr,q2,q3,t1,d1,d2,f1,f2,aW,bN,ah,azd];exact nN _ _ (sH)
end
theorem Ow{tk:List Tk}(hb:Cj tk){s:PS} : (aJ (aq tk) s).1.length<=2000001:=by
 unfold aJ
 grind [vj]
def aaE{n:Nat}{tk:List Tk}{pl:Nat}{s s':PS}{H:aa}{t:Tm}(h:jk tk pl s H)(hn:n<=1000000)(he:kW (aq tk) n (pE (aq tk) n 0) s=some (t,s')) :
  ai (PA 2 n) 141 [.ref pl 0] H=some (.agg (aK t),some ⟨aH tk pl s' H,pl⟩):=by
 refine C9 (fn:=oV) rfl rfl rfl ?_;have gI:=h.q.lt;have l1:=(jW (tk:=tk) (s:=s)).le h.le;unfold kW at he;simp only at he;generalize hqq:aJ (aq tk) s=q at *;obtain⟨nm,s1⟩:=q;simp only at he l1;refine N8 h hqq fun T q1 q2 q3 q4=>?_
 refine (show W (PA 2 n) (oV.body.sub [true,true,true]) ⟨T,aH tk pl s1 (nH pl H nm 0 []),pl,1⟩ _ from ?_)
 have ue:=fun s' k f=>al9 (s':=s') (nm:=nm) (k:=k) (f:=f) h
 have KM:=fun s' k f=>al' (s':=s') (nm:=nm) (k:=k) (f:=f) h
 have gcv:=fun s' k f=>al8 (s':=s') (nm:=nm) (k:=k) (f:=f) h
 have wC:=fun s' k f k' f'=>agV (s':=s') (nm:=nm) (k:=k) (f:=f) (k':=k') (f':=f') h
 have hN:=fun k f=>al7 (nm:=nm) (k:=k) (f:=f) h
 have xM:∀ (st:AS) (Q:bB->AS->Prop),W (PA 2 n) (oV.body.sub [true,true,true]) st Q=W (PA 2 n) (.block 0 (oV.body.sub [true,true,true,false,false])) st (andThen (fun s'=>W (PA 2 n) (oV.body.sub [true,true,true,true]) s' Q) Q):=fun st Q=>Gw
 rw[xM];generalize hF:oV.body.sub [true,true,true,true]=F;have nN:∀ {M:aa} {K:aa} {base:Nat} {b:Bool} {ns:List av} {ks:List Tm} {k:Int} {f:av} {s' : PS} (hb:H.length<=base) (hJ:JT tk pl base (H.length+1) (c0N nm k f) (aH tk pl s (H++M)) b ns ks s' K) {T:az} (q2:T 2=.lbox 0 ZT) (q3:T 3=.ref (H.length+1) 0),
  W (PA 2 n) F ⟨T,K,pl,1⟩ (dn oV H.length (.agg (aK (.mk k 0 nm f [] [] ks ns)),some ⟨aH tk pl s' H,pl⟩)):=fun hb hJ T q2 q3=>by rw[<- hF];exact agU h hb hJ q2 q3
 have od:decide (H.length+1<pl)=false:=df;unfold oV;simp only[aG.sub];cases e1:(pk (aq tk) s1==[40]) with
 | true =>
  rw[e1,cond_true] at he;simp only[aw0] at he;obtain⟨⟨ks,s2⟩,hl,he⟩:=he;injection he with lJ iX
  subst lJ iX;have hi:=Lc (k:=2) (n:=n) (s:=s1) (hN 0 []) ae e1;have lu:=lp (tk:=tk) (s:=s1) (w:=[40]) ae e1;obtain⟨K',hc,b,hJ⟩:=I4 (V7 (n:=n) (tl:=H.length+1) (base:=H.length+3) (c0:=c0N nm 3 []) (K0:=aH tk pl s (nH pl H nm 3 [])) hn) Ws (fin:=[41]) ae (rZ h lu) df hl;simp(disch:=omega)only[dJ,ab,simprocAttr,iU,od,bN,ah,q1,q3,q4,ue,KM,gcv,wC,hi,hc,aW];refine nN af hJ ?_ ?_<;>exact My q2 q3
 | false =>
 have i1:=Lb (k:=2) (n:=n) (s:=s1) (hN 0 []) l1 e1;rw[e1,cond_false] at he;cases e2:(pk (aq tk) s1==[123]) with
 | true =>
  rw[e2,cond_true] at he;simp only[aw0] at he;obtain⟨⟨⟨ns,ks⟩,s2⟩,hl,he⟩:=he;injection he with lJ iX
  subst lJ iX;have hi:=Lc (k:=2) (n:=n) (s:=s1) (hN 0 []) ae e2;have lu:=lp (tk:=tk) (s:=s1) (w:=[123]) ae e2;obtain⟨K',hc,b,hJ,_⟩:=I4 (aad (n:=n) (tl:=H.length+1) (base:=H.length+3) (c0:=c0N nm 7 []) (K0:=aH tk pl s (nH pl H nm 7 [])) hn (ue s 7 []) (gcv s 7 []) gI af af af) Ws (fin:=[125]) ae ⟨rZ h lu,rfl⟩ df hl;simp(disch:=omega)only[dJ,ab,simprocAttr,iU,od,bN,ah,q1,q3,q4,ue,KM,wC,i1,hi,hc,aW];refine nN af hJ ?_ ?_<;>exact My q2 q3
 | false =>
 have i2:=Lb (k:=2) (n:=n) (s:=s1) (hN 0 []) l1 e2;rw[e2,cond_false] at he;cases e3:(pk (aq tk) s1==[58]) with
 | true =>
  rw[e3,cond_true] at he;have hi:=Lc (k:=2) (n:=n) (s:=s1) (hN 0 []) ae e3;have lu:=lp (tk:=tk) (s:=s1) (w:=[58]) ae e3;have tD:=Hm (k:=2) (n:=n) (s:=s1.up) (hN 0 []) lu;have ln:=jS (tk:=tk) lu;unfold oP at he;generalize aE (aq tk) s1.up=q at *;obtain⟨fd,s2⟩:=q;simp only at he tD ln;cases e4:(pk (aq tk) s2==[91]) with
  | true =>
   rw[e4,cond_true] at he;simp only[aw0] at he;obtain⟨⟨t1,s3⟩,hx,he⟩:=he;injection he with lJ iX
   subst lJ iX;have B3:=Lc (k:=2) (n:=n) (s:=s2) (hN 9 fd) ae e4;have lu2:=lp (tk:=tk) (s:=s2) (w:=[91]) ae e4;have FW:=rZ (s1:=s) (nm:=nm) (k:=8) (f:=fd) h lu2;obtain⟨K',ha,hJ⟩:=FW.kid hn ae hx;have hk:=aac (k:=2) af (yt.mk (tl:=H.length+1) FW.p hn af hx ha);have hw:=zW (k:=2) (n:=n) hJ.p (w:=[93]) ae;have Mr:=hJ.set (s':=aN (aq tk) [93] s3) (fT ae hJ.p.le);have Gf:=hJ.bk;have hgp:K'[H.length]?=some (.box 72 [.ref pl 0]):=by rw[hJ.old _ af af af];exact ue s 8 fd
   simp(disch:=omega)only[dJ,ab,simprocAttr,iU,od,bN,ah,q1,q3,q4,ue,KM,gcv,wC,i1,i2,hi,tD,B3,hk,hw,hgp,aW];refine nN af Mr ?_ ?_<;>exact My q2 q3
  | false =>
   rw[e4,cond_false] at he;simp only[aw0] at he;obtain⟨⟨t1,s3⟩,hx,he⟩:=he;injection he with lJ iX
   subst lJ iX;have B3:=Lb (k:=2) (n:=n) (s:=s2) (hN 9 fd) ln e4;have Gl:=BU (k:=2) (n:=n) (s:=s2) (hN 9 fd) ln (w:=[40]) ae;have lw0:=fT (tk:=tk) (w:=[40]) ae ln;have FW:=rZ (s1:=s) (nm:=nm) (k:=9) (f:=fd) h lw0;obtain⟨K',ha,hJ⟩:=FW.kid hn ae hx;have hk:=aac (k:=2) af (yt.mk (tl:=H.length+1) FW.p hn af hx ha);have hw:=zW (k:=2) (n:=n) hJ.p (w:=[41]) ae;have Mr:=hJ.set (s':=aN (aq tk) [41] s3) (fT ae hJ.p.le);have Gf:=hJ.bk;have hgp:K'[H.length]?=some (.box 72 [.ref pl 0]):=by rw[hJ.old _ af af af];exact ue s 9 fd
   simp(disch:=omega)only[dJ,ab,simprocAttr,iU,od,bN,ah,q1,q3,q4,ue,KM,gcv,wC,i1,i2,hi,tD,B3,Gl,hk,hw,hgp,aW];refine nN af Mr ?_ ?_<;>exact My q2 q3
 | false =>
 have i3:=Lb (k:=2) (n:=n) (s:=s1) (hN 0 []) l1 e3;rw[e3,cond_false] at he;have u9:nm.length<=2000001:=by
  have:=Ow h.b (s:=s)
  rwa [hqq] at this
 have hct:∀ H,ai (PA 2 n) 105 [.str nm,.str [46]] H=some (.bool (decide (0<=cw 46 0 nm)),none):=fun H=>cP rfl (Bt nm 46 H af)
 have h0:=YE (s:=s1) (hN 0 []);cases e4:decide (0<=cw 46 0 nm) with
 | true =>
  rw[e4,cond_true] at he;injection he with he
  injection he with lJ iX
  subst lJ iX;rw[e4] at hct;have hJ:=rZ (s1:=s) (nm:=nm) (k:=0) (f:=[]) (s':=s1.xI) h l1;have qz:∀ i (b:Bool),(aH tk pl s1 (nH pl H nm 0 [])).set pl (.box 74 [.slice (tk.map gp) false,.int .i64 (i:Nat),.bool b])=aH tk pl ⟨i,b⟩ (nH pl H nm 0 []):=fun i b=>vu
  unfold PS.xI at hJ ⊢;simp(disch:=omega)only[dJ,ab,simprocAttr,iU,bN,ah,q1,q3,ue,KM,i1,i2,i3,hct,h0,qz,aW];refine nN af hJ ?_ ?_<;>exact My q2 q3
 | false =>
  rw[e4,cond_false] at he;injection he with he
  injection he with lJ iX
  subst lJ iX;rw[e4] at hct;have hJ:=rZ (s1:=s) (nm:=nm) (k:=2) (f:=[]) (s':=s1) h l1;simp(disch:=omega)only[dJ,ab,simprocAttr,iU,od,bN,ah,q1,q3,ue,KM,wC,i1,i2,i3,hct,aW];refine nN af hJ ?_ ?_<;>exact My q2 q3
end
section
def Pt{H:List α}{a:α} : (H++[a])[H.length]?=some a:=by rw[List.getElem?_append_right (Nat.le_refl _)];simp
def adW{H:List α}{a x:α} : (H++[a]).set H.length x=H++[x]:=by rw[List.set_append_right _ _ (Nat.le_refl _)];simp
section
variable {n:Nat}{tk:List Tk}{pl:Nat}{s s' : PS}{H:aa}
theorem To(h:jk tk pl s H)(hc:∀ x∈cs,∀ b,AV.bp b x=true)(hl:s'.i<=tk.length):jk tk pl s' (aH tk pl s' (H++[.bR cs])):=by
 have gI:=h.q.lt;have hq:PQ pl (H++[.bR cs]):=h.q.push fun cs' e=>by
  grind
 exact⟨hq.aH,nI hq,h.b,hl⟩
theorem aoo(h:jk tk pl s H)(hc:∀ x∈cs,∀ b,AV.bp b x=true):jk tk pl s (H++[.bR cs]):=by
 have gI:=h.q.lt;have hq:PQ pl (H++[.bR cs]):=h.q.push fun cs' e=>by
  grind
 exact⟨hq,by rw[axd gI];exact h.at',h.b,h.le⟩
def Tp : (aH tk pl s' (H++[.bR cs])).length=H.length+1:=by rw[bA,P6]
def acj(h:jk tk pl s H) : (aH tk pl s' (H++[.bR cs]))[H.length]?=some (.bR cs):=by rw[jX h.q.lt,Pt]
def aec(h:jk tk pl s H){cs':List AV} : (aH tk pl s' (H++[.bR cs])).set H.length (.bR cs')=aH tk pl s' (H++[.bR cs']):=by rw[qk h.q.lt,adW]
def Tq(h:jk tk pl s H)(hl:s'.i<=tk.length)(h6:c0.length=6)(hp:∀ x∈c0,∀ b,AV.bp b x=true){s1:PS} :
  JT tk pl (H.length+1) H.length c0 (aH tk pl s1 (H++[.bR (c0++[.al,.al])])) false [] [] s' (aH tk pl s' (H++[.bR (c0++[.al,.al])])):=by
 have gI:=h.q.lt;have hc:∀ x∈c0++[.al,.al],∀ b,AV.bp b x=true:=fun x hx b=>by
  rcases aw9.1 hx with hx|hx
  ·exact hp x hx b
  ·simp only[axs,axR,ays,or_self] at hx
   subst hx;rfl
 refine⟨To h hc hl,⟨⟨.al,.al,acj h,.inl ⟨rfl,rfl⟩,.inl ⟨rfl,rfl⟩⟩,h6⟩,gI,af,by rw[Tp];exact Nat.le_refl _,(fun h=>absurd h ae),fun j h1 h2 h3=>by rw[dA (fun e=>h3 e.symm),dA (fun e=>h3 e.symm)]⟩
def aox{t:Tm} : ∀ x∈aK t,∀ b,AV.bp b x=true:=by
 intro x hx b;rw[aj] at hx;simp only[axs,axR,ays] at hx
 rcases hx with rfl|rfl|rfl|rfl|rfl|rfl|rfl|rfl<;>rfl
def aoy:∀ x∈ZT,∀ b,AV.bp b x=true:=by
 intro x hx b;simp only[axs,axR,ays] at hx
 rcases hx with rfl|rfl|rfl|rfl|rfl|rfl|rfl|rfl<;>rfl
def v8(hr:fn.results=[.cell ra true 8])(h7:fn.muts.elem 777777=true)(h8:fn.muts.elem 888888=false)(h:jk tk pl s H){t:Tm}(hT:T ra=.lbox g (aK t)) :
  finish H.length fn ⟨T,aH tk pl s' (H++M),pl,gen⟩=some (.agg (aK t),some ⟨aH tk pl s' H,pl⟩):=by
 rw[aj] at hT;have:=se (tl:=0) hr h7 h8 h (K:=aH tk pl s' (H++M)) (gen:=gen) hT (.inr rfl) (.inr rfl) (.inr rfl) (A' h.q.lt)
 rw[this,aj];cases t;rfl
def Om(hr:fn.results=[.cell ra true 8])(h7:fn.muts.elem 777777=true)(h8:fn.muts.elem 888888=false)(h:jk tk pl s H){a:av}(hT:T ra=.lbox g [.int .i64 kd,.int .i64 nn,.str a,.str [],.str [],.al,.al,.al]) :
  finish H.length fn ⟨T,aH tk pl s' (H++M),pl,gen⟩=some (.agg (aK (.mk kd nn a [] [] [] [] [])),some ⟨aH tk pl s' H,pl⟩) :=
 se (tl:=0) hr h7 h8 h (K:=aH tk pl s' (H++M)) (gen:=gen) hT (.inl ⟨rfl,rfl⟩) (.inl (.inl ⟨rfl,rfl⟩)) (.inl (.inl ⟨rfl,rfl⟩)) (A' h.q.lt)
end
theorem LD(s:av):dE s<=1099511627776:=by
 unfold dE
 grind
def WB{tk:List Tk}{least:Int}{s:PS}(h:0<=least):0<=(iE (aq tk) least s).1/\(iE (aq tk) least s).1<=1099511627776:=by
 unfold iE;cases e:decide (dE (pk (aq tk) s)<least) with
 | true=>simp only[cond_true];omega
 | false =>
  simp only[cond_false];simp only[axo] at e;have:=LD (pk (aq tk) s)
  omega
def aem{n:Nat}{tk:List Tk}{pl:Nat}{s s':PS}{H:aa}{t:Tm}(h:jk tk pl s H)(hn:n<=1000000)(he:lN (aq tk) n (pE (aq tk) n 0) s=some (t,s')) :
  ai (PA 2 n) 126 [.ref pl 0] H=some (.agg (aK t),some ⟨aH tk pl s' H,pl⟩):=by
 refine C9 (fn:=oz) rfl rfl rfl ?_;have gI:=h.q.lt;have rz:=fun (t:Nat) (os:List aQ) (T:az) (H:aa) (lo gen:Nat) (K:AS->Prop)=>Jg (A:=PA 2 n) (t:=t) (os:=os) (T:=T) (H:=H) (lo:=lo) (gen:=gen) (K:=K) (cs:=ZT) rfl rfl
 have hG:=aoo h aoy;have CA:=Qi (k:=2) (n:=n) hG;have hnu:=fun H=>WD (k:=2) (n:=n) (H:=H) (h.b.pkl s)
 have wC:=fun s' cs cs'=>aec (s':=s') (cs:=cs) (cs':=cs') h
 have KM:=fun s' cs=>acj (s':=s') (cs:=cs) h
 have Pz:=fun (T:az) (s' : PS) (M:aa) (kd nn:Int) (a:av) (hT:T 2=.lbox 0 [.int .i64 kd,.int .i64 nn,.str a,.str [],.str [],.al,.al,.al])=>Om (fn:=oz) (ra:=2) (s':=s') (M:=M) (gen:=1) rfl rfl rfl h hT
 have KX:=fun (T:az) (s' : PS) (M:aa) (t:Tm) (hT:T 2=.lbox 0 (aK t))=>v8 (fn:=oz) (ra:=2) (s':=s') (M:=M) (gen:=1) rfl rfl rfl h hT
 have od:decide (H.length<pl)=false:=df;have hle:=h.le;unfold lN at he;have ex:dn oz H.length (.agg (aK t),some ⟨aH tk pl s' H,pl⟩)=dn oz H.length (.agg (aK t),some ⟨aH tk pl s' H,pl⟩):=rfl;generalize RD:dn oz H.length (.agg (aK t),some ⟨aH tk pl s' H,pl⟩)=DN;have done:∀ st,finish H.length oz st=some (.agg (aK t),some ⟨aH tk pl s' H,pl⟩)->DN .ret st:=fun st h=>by rw[<- RD];exact h
 cases e1:decide (0<=dE (pk (aq tk) s)) with
 | true =>
  rw[e1,cond_true] at he;injection he with he
  injection he with lJ iX
  have dL:=ag7 (k:=2) (n:=n) hG (least:=0) af af;generalize iE (aq tk) 0 s=q at *;obtain⟨v,s1⟩:=q;subst lJ iX;simp only at dL RD done;unfold oz;refine l8 rz CA hnu e1 dL @aW.eq_1 ?_;exact done _ (Pz _ _ _ _ _ _ (sH))
 | false =>
 rw[e1,cond_false] at he;cases e2:(pk (aq tk) s==[45]) with
 | true =>
  rw[e2,cond_true] at he;injection he with he
  injection he with lJ iX
  have hi:=IV (k:=2) (n:=n) hG ae e2;have lu:=lp (tk:=tk) (s:=s) (w:=[45]) ae e2;have dL:=ag7 (k:=2) (n:=n) (hG.to lu) (least:=1) af af;have hrg:=WB (tk:=tk) (least:=1) (s:=s.up) af;rw[fh] at dL;generalize iE (aq tk) 1 s.up=q at *;obtain⟨v,s1⟩:=q;subst lJ iX;simp only at dL RD done hrg;have hv:(0:Int)-v=-v:=af;unfold oz;refine l8 rz CA hnu e1 hi (j3 dL hv @aW.eq_1) ?_;exact done _ (Pz _ _ _ _ _ _ (sH))
 | false =>
 have i2:=IU (k:=2) (n:=n) hG e2;rw[e2,cond_false] at he;cases e3:(pk (aq tk) s==xt) with
 | true =>
  rw[e3,cond_true] at he;injection he with he
  injection he with lJ iX
  subst lJ iX;have hi:=IV (k:=2) (n:=n) hG aB e3;unfold xt at hi;unfold oz;refine l8 rz CA hnu e1 i2 (j2 hi @aW.eq_1) ?_;exact done _ (Pz _ _ _ _ _ _ (sH))
 | false =>
 have i3:=IU (k:=2) (n:=n) hG e3;unfold xt at i3;rw[e3,cond_false] at he;cases e4:(pk (aq tk) s==sQ) with
 | true =>
  rw[e4,cond_true] at he;injection he with he
  injection he with lJ iX
  subst lJ iX;have hi:=IV (k:=2) (n:=n) hG aB e4;unfold sQ at hi;unfold oz;refine l8 rz CA hnu e1 i2 (j3 i3 hi @aW.eq_1) ?_;exact done _ (Pz _ _ _ _ _ _ (sH))
 | false =>
 have i4:=IU (k:=2) (n:=n) hG e4;unfold sQ at i4;rw[e4,cond_false] at he;cases e5:(pk (aq tk) s==[40]) with
 | true =>
  rw[e5,cond_true] at he;simp only[aw0] at he;obtain⟨⟨t1,s1⟩,hx,he⟩:=he;injection he with lJ iX
  have hi:=IV (k:=2) (n:=n) hG ae e5;have lu:=lp (tk:=tk) (s:=s) (w:=[40]) ae e5;have hex:=Pg (k:=2) hG hn lu hx;have l1:=(iN n 0 _ _ hx).le lu;have hw:=fun cs (hc:∀ x∈cs,∀ b,AV.bp b x=true)=>zW (k:=2) (n:=n) (To h hc l1) (w:=[41]) ae
  have hwT:=hw (aK t1) aox;rw[fh] at hwT;simp only at iX lJ;generalize aN (aq tk) [41] s1=s2 at *;subst lJ iX;rw[aj] at hex hwT;unfold oz;refine l9 rz CA hnu (j2 e1 i2) (j5 i3 i4 hi hex hwT) (j5 KM wC od @bN.eq_1 @aW.eq_1) ?_;exact done _ (KX _ _ _ _ (n8 aj))
 | false =>
 have i5:=IU (k:=2) (n:=n) hG e5;rw[e5,cond_false] at he;cases e6:(pk (aq tk) s==jr) with
 | true =>
  rw[e6,cond_true] at he;simp only[aw1,aw0] at he;obtain⟨⟨w,s1⟩,B2,⟨ks,s3⟩,hl,he⟩:=he;injection he with lJ iX
  have hi:=IV (k:=2) (n:=n) hG aB e6;have lu:=lp (tk:=tk) (s:=s) (w:=jr) aB e6;have JG:=Uo (k:=2) (n:=n) (hG.to lu) B2;rw[fh] at JG;have l1:=(xX B2).le lu;simp only at hl l1;have hwn:=fun cs (hc:∀ x∈cs,∀ b,AV.bp b x=true)=>zW (k:=2) (n:=n) (To h hc l1) (w:=[91]) ae
  have l2:=fT (tk:=tk) (w:=[91]) ae l1;have U2:∀ x∈([.int .i64 11,.int .i64 0,.str [],.str [],.str w.name,.slice (aM w.kids) false]:List AV),∀ b,AV.bp b x=true:=by
   intro x hx b;simp only[axs,axR,ays] at hx
   rcases hx with rfl|rfl|rfl|rfl|rfl|rfl<;>rfl
  have hwT:=hwn ([.int .i64 11,.int .i64 0,.str [],.str [],.str w.name,.slice (aM w.kids) false,.al,.al]) (by
   intro x hx b;simp only[axs,axR,ays] at hx
   rcases hx with rfl|rfl|rfl|rfl|rfl|rfl|rfl|rfl<;>rfl)
  rw[fh] at hwT;have FW:=Tq (s1:=s) h l2 (c0:=[.int .i64 11,.int .i64 0,.str [],.str [],.str w.name,.slice (aM w.kids) false]) rfl U2;obtain⟨K',hc,b,hJ⟩:=I4 (V7 (n:=n) (tl:=H.length) (base:=H.length+1) hn) Tp (fin:=[93]) ae FW df hl;simp only[axN,axM] at hc;obtain⟨⟨kc,nc,t1,t2,t3⟩,t6⟩:=hJ.t;obtain⟨d1,f1⟩:=t2.facts;obtain⟨d2,f2⟩:=t3.facts;simp only[axN,axM] at t1;have e:=hJ.take gI (Nat.le_refl _) af;simp only at iX lJ e t2;have nN:=fun T' (Ge:T' 2=.lbox 0 [.int .i64 11,.int .i64 0,.str [],.str [],.str w.name,.slice (aM w.kids) false,kc,nc])=>se (fn:=oz) (ra:=2) (tl:=H.length) (gen:=1) rfl rfl rfl h (T:=T') Ge (.inr rfl) (.inl (lM.base t2 af)) (.inl (lM.base t3 af)) e
  generalize aN (aq tk) [91] s1=s2 at *;subst lJ iX;rw[fI] at JG;unfold jr at hi;unfold oz;simp(disch:=omega)only[dJ,ab,simprocAttr,rz,CA,hnu,e1,i2,i3,i4,i5,hi,JG,hwT,hc,KM,wC,t1,d1,d2,f1,f2,iU,bN,ah,aW,od,azd];exact done _ (nN _ (sH))
 | false =>
 have i6:=IU (k:=2) (n:=n) hG e6;unfold jr at i6;rw[e6,cond_false] at he;cases e7:(pk (aq tk) s==qF) with
 | true =>
  rw[e7,cond_true] at he;have hi:=IV (k:=2) (n:=n) hG aB e7;have lu:=lp (tk:=tk) (s:=s) (w:=qF) aB e7;have hm:=aas (hG.to lu) hn he;rw[fh,aj] at hm;unfold qF at hi;unfold oz;refine l8 rz CA hnu e1 (j3 i2 i3 i4) (j5 i5 i6 hi hm @aW.eq_1) ?_;exact done _ (KX _ _ _ _ (n8 aj))
 | false =>
  have i7:=IU (k:=2) (n:=n) hG e7;unfold qF at i7;rw[e7,cond_false] at he;have hm:=aaE hG hn he;rw[aj] at hm;unfold oz;refine l8 rz CA hnu e1 (j3 i2 i3 i4) (j5 i5 i6 i7 hm @aW.eq_1) ?_;exact done _ (KX _ _ _ _ (n8 aj))
end
def aaq(w:av)(H:aa):zy H true 1 false true [.s] [.int .i64 0,.int .i64 0] (.mA 1 false true mZ) (.str w)=some (match wL w with|some (o,l)=>.tuple [.agg [.int .i64 o,.int .i64 l],.bool true]|none=>.tuple [.agg [.int .i64 0,.int .i64 0],.bool false]):=by
 have ap:uJ mZ=true:=aB;have e:zy H true 1 false true [.s] [.int .i64 0,.int .i64 0] (.mA 1 false true mZ) (.str w)=(dC [.s] [.str w] mZ).map (qc true true [.int .i64 0,.int .i64 0] 1 mZ):=by
  simp[zy,V3,AV.drop,AV.cells,AV.isAgg,ap,VZ]
 rw[e]
 by_cases h1:w=[37]
 ·subst h1;rfl
 by_cases h2:w=[42]
 ·subst h2;rfl
 by_cases h3:w=[43]
 ·subst h3;rfl
 by_cases h4:w=[45]
 ·subst h4;rfl
 by_cases h5:w=[47]
 ·subst h5;rfl
 by_cases h6:w=[60]
 ·subst h6;rfl
 by_cases h7:w=[61,61]
 ·subst h7;rfl
 by_cases h8:w=[97,110,100]
 ·subst h8;rfl
 by_cases h9:w=[106,111,105,110]
 ·subst h9;rfl
 by_cases h10:w=[111,114]
 ·subst h10;rfl
 have f:∀ {a b:av},a≠b->(a==b)=false:=fun h=>cJ h
 have o:wL w=none:=by
  unfold wL mZ;simp only[List.find?_cons,List.find?_nil,f (ayk h1),f (ayk h2),f (ayk h3),f (ayk h4),f (ayk h5),f (ayk h6),f (ayk h7),f (ayk h8),f (ayk h9),f (ayk h10)];rfl
 rw[o];unfold mZ;simp only[dC,cm,f h1,f h2,f h3,f h4,f h5,f h6,f h7,f h8,f h9,f h10,axa,axt,aw7,cond_false,ayd,qc,BI,cond_true,axe,axB,AV.drop]
def Co{kz:Nat}{ka va:Bool}{es:List (List AV)} : AV.drop (.mA kz ka va es)=.mA kz ka va es:=rfl
def Cl{s kz:Nat}{ka va:Bool}{es:List (List AV)} : mM s (.mA kz ka va es)=.mA kz ka va es:=rfl
def WI{w:av}{o l:Int}(h:wL w=some (o,l)):w≠[]:=fun e=>by subst e;rw[LG] at h;cases h
theorem TP{n:Nat}{tk:List Tk}{pl:Nat}{s s1:PS}{H:aa}(h:jk tk pl s H)(hn:n<=1000000)(h1:1<=lv)(h6:lv<=6)(pH:s1.i<=tk.length){t1:Tm}{r:Tm × PS}(hb:rJ (aq tk) (pE (aq tk) n (lv+1)) lv n t1 s1=some r)
  {T0:az} {g7 gen:Nat} (q0:T0 0=.ref pl 0) (q1:T0 1=.int .i64 lv) (q4:T0 4=.lbox 0 ZT) (q7:T0 7=.lbox g7 (aK t1)) :
  W (PA 2 n) (jy.body.sub [true,true,true]) ⟨T0,aH tk pl s1 H,pl,gen⟩ (dn jy H.length (.agg (aK r.1),some ⟨aH tk pl r.2 H,pl⟩)):=by
 have gI:=h.q.lt;have hl:=h.b.len;have hgl:(PA 2 n).aX 4=[.mA 1 false true mZ]:=rfl;have nN:∀ (T:az) (g gen:Nat),T 4=.lbox g (aK r.1)->finish H.length jy ⟨T,aH tk pl r.2 H,pl,gen⟩=some (.agg (aK r.1),some ⟨aH tk pl r.2 H,pl⟩):=fun T g gen hT=>by
  have:=v8 (fn:=jy) (ra:=4) (s':=r.2) (M:=[]) (gen:=gen) rfl rfl rfl h hT
  grind
 generalize RD:dn jy H.length (.agg (aK r.1),some ⟨aH tk pl r.2 H,pl⟩)=DN;have done:∀ st,finish H.length jy st=some (.agg (aK r.1),some ⟨aH tk pl r.2 H,pl⟩)->DN .ret st:=fun st h=>by rw[<- RD];exact h
 unfold jy;simp only[aG.sub];refine (show W (PA 2 n) (.seq (.block 2 (.loop _)) (.seq (.region _) .ret)) _ DN from ?_)
 rw[Gw,H4];refine o6 2 (fun k st=>∃ T t s2 g gen,st=⟨T,aH tk pl s2 H,pl,gen⟩/\T 0=.ref pl 0/\T 1=.int .i64 lv/\T 4=.lbox 0 ZT/\(∃ b1 b2 b3,T 7=.lbox g [.int .i64 t.kind,.int .i64 t.n,.str t.name,.str t.field,.str t.wn,.slice (aM t.wk) b1,.slice (aF t.kids) b2,.slice (strs t.names) b3])/\s2.i<=tk.length/\rJ (aq tk) (pE (aq tk) n (lv+1)) lv k t s2=some r)
  (fun st=>∃ T g gen,st=⟨T,aH tk pl r.2 H,pl,gen⟩/\T 4=.lbox 0 ZT/\(∃ b1 b2 b3,T 7=.lbox g [.int .i64 r.1.kind,.int .i64 r.1.n,.str r.1.name,.str r.1.field,.str r.1.wn,.slice (aM r.1.wk) b1,.slice (aF r.1.kids) b2,.slice (strs r.1.names) b3])) (fun _=>False) ?_ ?_ (fun _ h=>h.elim) n _ ⟨T0,t1,s1,g7,gen,rfl,q0,q1,q4,⟨false,false,false,by rw[q7,aj]⟩,pH,hb⟩
 ·rintro k st ⟨T,t,s2,g,gen,rfl,q0,q1,q4,⟨b1,b2,b3,q7⟩,xP,hb⟩
  cases k with
  | zero=>cases hb
  | succ k =>
  have h0:=YE (s:=s2) h;have uu:((lv:Int)+1)=((lv+1:Nat):Int):=af;obtain⟨i2,bd⟩:=s2;simp only at h0 xP;unfold rJ at hb;simp only at hb;cases bd with
  | true =>
   rw[cond_true] at hb;injection hb with hb
   subst hb;refine qx q0 h0 ?_;exact⟨_,g,gen,rfl,n8 q4,⟨b1,b2,b3,n8 q7⟩⟩
  | false =>
   rw[cond_false] at hb;have CA:=Qi (k:=2) (n:=n) (s:=⟨i2,false⟩) (h.to (s':=⟨i2,false⟩) xP);have Yh:=fun H=>aaq (pk (aq tk) ⟨i2,false⟩) H
   cases ho:wL (pk (aq tk) ⟨i2,false⟩) with
   | none =>
    rw[ho] at hb Yh;injection hb with hb
    subst hb;simp only at Yh;refine l8 q0 @Co @Cl h0 @hgl (j2 CA Yh) ?_;exact⟨_,g,_,rfl,n8 q4,⟨b1,b2,b3,n8 q7⟩⟩
   | some x =>
    obtain⟨o,l⟩:=x;rw[ho] at hb Yh;simp only at hb Yh;have aP:=um (tk:=tk) (s:=⟨i2,false⟩) (WI ho);simp only at aP;cases Gg:decide (l=(lv:Int)) with
    | false =>
     rw[Gg,cond_false] at hb;injection hb with hb
     subst hb;have da:(l != (lv:Int))=true:=by simp only[axo] at Gg;simpa using Gg
     refine l8 q0 q1 @Co @Cl h0 (j4 @hgl CA Yh da) ?_;exact⟨_,g,_,rfl,n8 q4,⟨b1,b2,b3,n8 q7⟩⟩
    | true =>
     rw[Gg,cond_true] at hb;simp only[aw'] at Gg;subst Gg;simp only[aw1] at hb;obtain⟨⟨t2,s3⟩,hx,hb⟩:=hb;simp only at hb;have NI:(PS.up ⟨i2,false⟩).i<=tk.length:=aP;have Pw:=YI (k:=2) (h.to NI) hn (lv:=lv+1) af af hx;have l3:=(iN n _ _ _ hx).le NI;rw[fh,aj,<- uu] at Pw;unfold PS.up at Pw;have qz:∀ i (b:Bool),(aH tk pl ⟨i2,false⟩ H).set pl (.box 74 [.slice (tk.map gp) false,.int .i64 ((i:Nat)+1),.bool b])=aH tk pl ⟨i+1,b⟩ H:=fun i b=>su
     have da:((lv:Int) != (lv:Int))=false:=ae;have h3:((lv:Int)==3)=decide ((lv:Int)=3):=rfl;cases h33:decide ((lv:Int)=3) with
     | true =>
      rw[h33,cond_true] at hb;injection hb with hb
      subst hb;rw[h33] at h3;refine l9 q0 q1 q7 (j2 @Co @Cl) (j5 h0 @hgl CA Yh da) (j5 qz Pw h3 @fY.eq_1 @aW.eq_1) ?_;exact⟨_,g,_,rfl,n8 q4,⟨_,_,_,by simp(disch:=omega)only[dJ,ab,simprocAttr,aj,aF,aM,strs,Tm.kind,Tm.n,Tm.name,Tm.field,Tm.wn,Tm.wk,Tm.kids,Tm.names];rfl⟩⟩
     | false =>
      rw[h33,cond_false] at hb;rw[h33] at h3;refine l9 q0 q1 q7 (j2 @Co @Cl) (j5 h0 @hgl CA Yh da) (j5 qz Pw h3 @fY.eq_1 @aW.eq_1) ?_;exact⟨k,af,_,_,s3,g,_,rfl,n8 q0,n8 q1,n8 q4,⟨_,_,_,by simp(disch:=omega)only[dJ,ab,simprocAttr,aj,aF,aM,strs,Tm.kind,Tm.n,Tm.name,Tm.field,Tm.wn,Tm.wk,Tm.kids,Tm.names];rfl⟩,l3,hb⟩
 ·rintro st ⟨T,g,gen,rfl,q4,b1,b2,b3,q7⟩
  refine nL3 q4 q7 @aW.eq_1 ?_;exact done _ (nN _ 0 _ (n8 aj))
section
def ahh{n:Nat}{s:PS}(h1:1<=lv)(h6:lv<=6):pE L (n+1) lv s=(pE L n (lv+1) s).bind fun r=>rJ L (pE L n (lv+1)) lv n r.1 r.2:=by
 have h:lv=1\/lv=2\/lv=3\/lv=4\/lv=5\/lv=6:=af
 rcases h with rfl|rfl|rfl|rfl|rfl|rfl<;>rfl
def amp{n:Nat}{s:PS} : pE L (n+1) 7 s=bif pk L s==rC then (pE L n 7 s.up).map fun r=>(.mk 4 9 [] [] [] [] [r.1] [],r.2)
   else bif pk L s==ua then (pE L n 7 s.up).map fun r=>(.mk 4 11 [] [] [] [] [r.1] [],r.2)
   else lN L n (pE L n 0) s:=rfl
def Jy:List (List AV):=[[.int .i64 9,.str [110,111,116]],[.int .i64 11,.str [108,101,110]]]
def aez{A:AP}{kz:Nat}{ka va:Bool}{cur:List AV}{todo:List (List AV)}{H:aa}{t d:Nat}{r:List aQ}(h:T t=.iter g kz ka va cur todo)
  (h1:todo=[]->WO A r ⟨T.put d (.tuple [.bool false]),H,lo,gen⟩ (Q .normal))
  (h2:∀ q rest,todo.Perm (q :: rest)->WO A r ⟨(T.put t (.iter g kz ka va q rest)).put d (.tuple [.bool true,qY ka (q.take kz),qY va (q.drop kz)]),H,lo,gen⟩ (Q .normal)) :
  D A (.region (⟨some d,none,.next (.tmp t)⟩ :: r)) ⟨T,H,lo,gen⟩ Q:=by
 have key:∀ s,WO A r s (Q .normal)->qq A.aX (ai A) r s (Q .normal):=fun s ⟨s',h1,h2⟩=>vB r s s' h1 h2
 exact⟨g,kz,ka,va,cur,todo,h,fun e=>key _ (h1 e),fun q rest hp=>key _ (h2 q rest hp)⟩
section
variable {n:Nat}{tk:List Tk}{pl:Nat}{s s' : PS}{H:aa}{t:Tm}
def YJ(h:jk tk pl s H)(hn:n<=1000000)(h1:1<=lv)(h6:lv<=6)(he:pE (aq tk) (n+1) lv s=some (t,s')) :
  D (PA 2 n) jy.body ⟨dO [.ref pl 0,.int .i64 lv],H,H.length,0⟩ (dn jy H.length (.agg (aK t),some ⟨aH tk pl s' H,pl⟩)):=by
 rw[ahh h1 h6] at he;simp only[aw1] at he;obtain⟨⟨t1,s1⟩,hx,hb⟩:=he;simp only at hb;have PD:=(iN n _ _ _ hx).le h.le;have Pw:=YI (k:=2) h hn (lv:=lv+1) af af hx;have uu:(((lv+1:Nat)):Int)=(lv:Int)+1:=af;rw[uu] at Pw;have h7:((lv:Int)==7)=false:=df;have gI:=h.q.lt;have ac2:=fun T0 g7 gen q0 q1 q4 q7=>TP (r:=(t,s')) h hn h1 h6 PD hb (T0:=T0) (g7:=g7) (gen:=gen) q0 q1 q4 q7
 generalize hX:jy.body.sub [true,true,true]=X;rw[hX] at ac2;refine (show D (PA 2 n) (.seq (.region _) (.seq (.seq (.region _) (.cond _ (jy.body.sub [true,false,true,false]) .skip)) (.seq (.region _) (jy.body.sub [true,true,true])))) _ _ from ?_)
 rw[hX];rw[dM,bY rfl];refine Ce ?_;rw[dM,dM,bY rfl];refine ry h7 @iQ @tf ?_;rw[dM,bY rfl];rw[aj] at Pw;refine qx Pw @aW.eq_1 ?_;refine Q8 (ac2 _ 1 _ ?_ ?_ ?_ ?_)<;>exact n8 aj
def UL(hr:fn.results=[.cell ra true 8]){s:AS}{base:Nat}(hT:s.T ra=.lbox g cs):finish base fn s=finish base fn (s.cc ra (.lbox g (cs.map AV.drop))):=by
 have dd:∀ v:AV,v.drop.drop=v.drop:=fun v=>by cases v<;>rfl
 have e:iP (s.cc ra (.lbox g (cs.map AV.drop))) (.cell ra true 8)=iP s (.cell ra true 8):=by
  have h2:(s.cc ra (.lbox g (cs.map AV.drop))).T ra=.lbox g (cs.map AV.drop):=by
   show cond (Nat.beq ra ra) _ _=_
   rw[ayP];rfl
  simp only[iP,h2,hT,ah,cond_true,List.length_map,List.drop_zero,<- List.map_take,List.map_map]
  congr 3
  refine List.map_congr_left fun x _=>dd x
 have er:oR (s.cc ra (.lbox g (cs.map AV.drop))) (.cell ra true 8)=oR s (.cell ra true 8):=rfl;have eo:kg base (s.cc ra (.lbox g (cs.map AV.drop)))=kg base s:=rfl;unfold finish mj qM o7 tz iF qZ tA Cq xJ;rw[hr,eo];simp only[mJ,rr,wq,lS,e,er];rfl
theorem YL(h:jk tk pl s H)(hn:n<=1000000)(he:pE (aq tk) (n+1) 7 s=some (t,s')) :
  D (PA 2 n) jy.body ⟨dO [.ref pl 0,.int .i64 (7:Nat)],H,H.length,0⟩ (dn jy H.length (.agg (aK t),some ⟨aH tk pl s' H,pl⟩)):=by
 rw[amp] at he;have gI:=h.q.lt;have nN:∀ (T:az) (g gen:Nat) (s1:PS) (t1:Tm) (b1 b2 b3:Bool) (M:aa),T 4=.lbox g [.int .i64 t1.kind,.int .i64 t1.n,.str t1.name,.str t1.field,.str t1.wn,.slice (aM t1.wk) b1,.slice (aF t1.kids) b2,.slice (strs t1.names) b3] ->
   finish H.length jy ⟨T,aH tk pl s1 (H++M),pl,gen⟩=some (.agg (aK t1),some ⟨aH tk pl s1 H,pl⟩):=by
  intro T g gen s1 t1 b1 b2 b3 M hT;rw[UL (ra:=4) rfl hT];refine v8 (fn:=jy) (ra:=4) (s':=s1) (M:=M) (gen:=gen) (g:=g) rfl rfl rfl h ?_;rw[aj];rfl
 generalize RD:dn jy H.length (.agg (aK t),some ⟨aH tk pl s' H,pl⟩)=DN;have done:∀ st,finish H.length jy st=some (.agg (aK t),some ⟨aH tk pl s' H,pl⟩)->DN .ret st:=fun st h=>by rw[<- RD];exact h
 have hGl:pl<(H++[bG.iW 1 false false Jy]).length:=df;have hG:jk tk pl s (H++[.iW 1 false false Jy]):=⟨h.q.push fun cs e=>(by cases e),by rw[axd gI];exact h.at',h.b,h.le⟩
 have FY:∀ x:bG,(H++[x])[H.length]?=some x:=fun x=>Pt
 have pH:∀ x y:bG,(H++[x]).set H.length y=H++[y]:=fun x y=>adW
 have fe9:dC [.i] [.int .i64 9] []=some none:=rfl;have UK:dC [.i] [.int .i64 11] [[.int .i64 9,.str [110,111,116]]]=some none:=rfl;have Ts:∀ (k:IntKind) (n:Int),(AV.int k n).isAgg=false:=fun _ _=>rfl
 have Tt:∀ (s:List UInt8),(AV.str s).isAgg=false:=fun _=>rfl
 have ajQ:(false==false)=true:=rfl;have sv:∀ (es:List (List AV)) (r:List AV),wN es none r=es++[r]:=fun _ _=>rfl
 have wF:decide (H.length<H.length)=false:=ae;have cu:dG Jy=true:=rfl;refine (show D (PA 2 n) (.seq (.region _) (.seq (.seq (.region _) (.cond _ (.seq (.seq (.region _) (.block 0 (.loop (.seq (.region _) (.seq (.cond _ .skip (.exit 0)) (.block 1 (.seq (.region _) (.seq (.region _) (.cond _ (.seq (.region _) .ret) .skip))))))))) (.seq (.region _) .ret)) .skip)) (jy.body.sub [true,true]))) _ DN from ?_)
 generalize jy.body.sub [true,true]=X;rw[dM,bY rfl];refine Ce ?_;rw[dM,dM,bY rfl];refine P9 @iQ ?_;rw[dM,dM,bY rfl];refine nM (j2 (j5 FY pH @fe9 @UK @Ts) (j4 @Tt @sv wF @tu.eq_1)) ?_;have hr:∀ (T:az) (K:AS->Prop),T 13=.mref H.length->WO (PA 2 n) [⟨some 14,none,.rng 1 false false (.tmp 13)⟩] ⟨T,H++[.map 1 false false Jy],H.length,1⟩ K=K ⟨T.put 14 (.iter 1 1 false false [] Jy),H++[.iW 1 false false Jy],H.length,2⟩:=fun T K h=>by
  rw[fG];have yZ:Nat.blt H.length H.length=false:=by
   cases hb:Nat.blt H.length H.length with
   | true=>have:=ax5 hb;omega
   | false=>rfl
  have:bS (PA 2 n).aX (ai (PA 2 n)) ⟨T,H++[.map 1 false false Jy],H.length,1⟩ ⟨some 14,none,.rng 1 false false (.tmp 13)⟩=some ⟨T.put 14 (.iter 1 1 false false [] Jy),H++[.iW 1 false false Jy],H.length,2⟩:=by
   simp only[bS,br,aI.addr,h,FY,ayP,ayo,cu,Bool.and_self,cond_true,aw7,axt,cond_false,AS.cR,AS.cc,AS.iw,pH,yZ]
  rw[this,aS,H3]
 refine (show WO (PA 2 n) [⟨some 14,none,.rng 1 false false (.tmp 13)⟩] ⟨_,H++[.map 1 false false Jy],H.length,1⟩ _ from ?_)
 rw[hr _ _ (sH)];refine Ce ?_;rw[Il];have ft:=fun (t1:Tm) (s1:PS) (hx:lN (aq tk) n (pE (aq tk) n 0) s=some (t1,s1))=>aem hG hn hx
 have od:decide (H.length<pl)=false:=df;refine⟨_,QG (fun k st=>∃ T cur todo gen,st=⟨T,H++[.iW 1 false false Jy],H.length,gen⟩/\T 0=.ref pl 0/\T 4=.lbox 0 ZT/\T 14=.iter 1 1 false false cur todo/\todo.length=k/\(∀ q∈todo,q∈Jy) /\
   ∀ q∈Jy,q∈todo\/∀ i w,q=[.int .i64 i,.str w]->(pk (aq tk) s==w)=false) ?_ 2 _ ⟨_,[],Jy,2,rfl,sH,sH,sH,rfl,fun q h=>h,fun q h=>.inl h⟩⟩
 rintro k st ⟨T,cur,todo,gen,rfl,q0,q4,q14,hk,ZE,dQ⟩
 refine (show D (PA 2 n) (.seq (.region _) _) _ _ from ?_)
 rw[dM];refine aez q14 ?_ ?_
 ·intro e
  subst e;have mS:(pk (aq tk) s==rC)=false:=((dQ [.int .i64 9,.str [110,111,116]] (by simp[Jy])).resolve_left ae) 9 _ rfl
  have hle:(pk (aq tk) s==ua)=false:=((dQ [.int .i64 11,.str [108,101,110]] (by simp[Jy])).resolve_left ae) 11 _ rfl
  rw[mS,hle,cond_false,cond_false] at he;have hm:=ft _ _ he;rw[aj] at hm;refine Ce ?_;rw[dM];refine qx @iQ @aex ?_;rw[dM,bY rfl];refine Hk q0 q4 hm @acA @aW.eq_1 ?_;exact done _ (nN _ 0 _ _ t false false false _ (sH))
 ·intro q rest hp
  have hq:q∈Jy:=ZE _ (hp.mem_iff.2 (List.mem_cons_self));obtain⟨i,w,rfl,hw,hi⟩:∃ i w,q=[.int .i64 i,.str w]/\w≠[]/\(w=rC/\i=9\/w=ua/\i=11):=by
   simp only[Jy,axs,axR,ays] at hq
   rcases hq with rfl|rfl
   ·exact⟨9,rC,rfl,aB,.inl ⟨rfl,rfl⟩⟩
   ·exact⟨11,ua,rfl,aB,.inr ⟨rfl,rfl⟩⟩
  have ZB:∀ (T:az) (H:aa) (lo gen t u:Nat) (os:List aQ) (K:AS->Prop),T u=.iter 1 1 false false [AV.int .i64 i,AV.str w] rest->WO (PA 2 n) (⟨some t,none,.ent (.tmp u)⟩ :: os) ⟨T,H,lo,gen⟩ K=jC (PA 2 n) (some (.tuple [.int .i64 i,.str w])) t os T H lo gen K:=fun T H lo gen t u os K h=>gJ (by simp only[br,h];rfl)
  have akv:∀ (t:Nat) (os:List aQ) (T0:az) (v0 v1 v2:AV) (K:AS->Prop) (lo gen:Nat) (H:aa),WO (PA 2 n) (⟨some t,none,.ent (.tmp 14)⟩ :: os) ⟨((T0.put 14 (.iter 1 1 false false [AV.int .i64 i,AV.str w] rest)).put 15 v1).put 16 v2,H,lo,gen⟩ K=jC (PA 2 n) (some (.tuple [.int .i64 i,.str w])) t os (((T0.put 14 (.iter 1 1 false false [AV.int .i64 i,AV.str w] rest)).put 15 v1).put 16 v2) H lo gen K:=fun t os T0 v0 v1 v2 K lo gen H=>ZB _ _ _ _ _ _ _ _ rfl
  refine Ce ?_;rw[dM];refine qx @iQ @tf ?_;rw[Il,dM,bY rfl];simp only[akv _ _ _ .undef];refine Ce ?_;rw[dM,bY rfl];cases e:(pk (aq tk) s==w) with
  | true =>
   have S6:=IV (k:=2) (n:=n) hG hw e;have lu:=lp (tk:=tk) (s:=s) hw e;have e':=axL.1 e;obtain⟨t1,hx,rfl⟩:∃ t1,pE (aq tk) n 7 s.up=some (t1,s')/\t=.mk 4 i [] [] [] [] [t1] []:=by
    rcases hi with ⟨rfl,rfl⟩|⟨rfl,rfl⟩
    ·rw[e,cond_true] at he
     simp only[aw0] at he
     grind
    ·have en:(pk (aq tk) s==rC)=false:=by rw[e'];rfl
     rw[en,e,cond_false,cond_true] at he;simp only[aw0] at he
     grind
   have Pw:=YI (k:=2) (hG.to lu) hn (lv:=7) af af hx;rw[fh,aj] at Pw;have ae9:ai (PA 2 n) 100 [.ref pl 0,.int .i64 7] (aH tk pl s.up (H++[.iW 1 false false Jy]))=_:=Pw;refine ry q0 S6 @iQ ?_;rw[dM,bY rfl];refine Hk q0 q4 ae9 @acA @aW.eq_1 ?_;refine done _ (nN _ 0 _ _ (.mk 4 i [] [] [] [] [t1] []) true false true _ ?_);exact nT1 @aj tv
  | false =>
   have S6:=IU (k:=2) (n:=n) hG e;refine wK q0 S6 @iQ @tf ?_;have hl:=hp.length_eq;rw[List.length_cons] at hl;refine⟨rest.length,af,_,[AV.int .i64 i,.str w],rest,_,rfl,n8 q0,n8 q4,sH,rfl,fun q hq=>ZE q (hp.mem_iff.2 (ax8 _ hq)),fun q hq=>?_⟩
   grind
end
end
section
def ack:aG:=mX.body.sub [true,true,true,false,false,true,false,true,false]
def acm:aG:=mX.body.sub [true,true,true,false,false,true,true,true,true,true,false,true,false,true,true,false]
def acn:aG:=mX.body.sub [true,true,true,false,false,true,true,true,true,true,false,true,true,true,true,true,true,false]
def lt5{P:Nat->Prop}(h0:P 0)(h1:P 1)(h2:P 2)(h3:P 3)(h4:P 4):∀ t,t<5->P t
 | 0,_=>h0|1,_=>h1|2,_=>h2|3,_=>h3|4,_=>h4
section
variable {n:Nat}{tk:List Tk}{pl pv tl:Nat}{s s' : PS}{H:aa}{t:Tm}{nm:av}
def alS(aP:pl<tl)(hle:pl<H.length)(uu:pl<pv/\pv<tl)(hv:H[pv]?=some (.box 72 [.ref pl 0]))(kj:ai (PA 2 n) 63 [.ref pl 0] H=some (.agg (aK t),some ⟨aH tk pl s' H,pl⟩))
  {kc:AV} {m:Nat} {es:List AV} {Hd:aa} {cs:List AV} (hA:rA (aH tk pl s' H) tl 6 8 kc m es Hd cs) {T0:az} {g:Nat} (Dz:T0 1=.ref pv 0) (hT3:T0 3=.ref tl 0) {Q:bB->AS->Prop}
  (hQ:∀ T,(∀ t,t<5->T t=T0 t)->Q .normal ⟨T,(sU Hd es (aK t)).set tl (.bR (cs.set 6 (.sref H.length 0 (m+1) 8))),pl,g⟩) :
  D (PA 2 n) ack ⟨T0,H,pl,g⟩ Q:=by
 have pX:H[tl]?=some (.bR cs):=by have:=hA.obj;rwa [dA af] at this
 have oc:(aH tk pl s' H).length=H.length:=bA;have Vs:=hv;have uV:=fun (T:az) (o:Bool) (os:List aQ) (K:AS->Prop)=>hA.ao (A:=PA 2 n) (row:=nK) (o:=o) (bytes:=136) (d:=18) (os:=os) (T:=T) (lo:=pl) (gen:=g) (K:=K) af af rfl rfl
 rw[oc] at uV;have h7:decide (7<=cs.length)=true:=by have:=hA.cl;simp;omega
 have mD:=fun v=>hA.tk (v:=v)
 have JM:decide (tl<pl)=false:=df;have Ny:decide (pl<pl)=false:=ae;have Vf:decide (H.length<pl)=false:=df;have asm:asNat (.int .i64 (m:Int))=some m:=by rw[gf af];rfl
 have Cz:decide (m<m+1)=true:=ae;have hn:=fun row o=>hA.n (row:=row) (o:=o)
 have hn0:=fun row=>hA.n0 (row:=row)
 have qz:=fun o=>hA.set (row:=nK) (row':=aK t) (o:=o)
 have K8:=hA.am0 (row:=nK) (row':=aK t);rw[oc] at hn hn0 qz K8;have K7:=hA.put (row:=nK) (row':=aK t) rfl ja;have B7:List.take (m*8) (es++nK)++aK t++List.drop (m*8+8) (es++nK)=es++aK t:=by
  have:=K7;unfold putAt at this;rwa [ja] at this
 have B2:(es++nK).length=(m+1)*8:=by rw[List.length_append,hA.el];simp[nK];omega
 have h88:decide (m*8+8<=(m+1)*8)=true:=df;have dQ:(aK t).all (aV H.length)=true:=by rw[aj];rfl
 unfold ack mX;simp only[aG.sub];refine acz 7 [] rfl (by conv=>lhs;cbv) rfl (by conv=>lhs;cbv) ?_
 simp(disch:=omega)only[Y2,ni,jN,nD,kM,AU,bS,br,fO,aI.eval,AS.cR,↓reduceIte,Nat.reduceEqDiff,Option.isSome,Option.isNone,cond_true,cond_false,Nat.reduceBEq,Nat.reduceAdd,Nat.reduceMul,ab,mr,eq_self,reduceCtorEq,yj,ny,j8,gX,bound,nO,AS.cN,cK,iK,dN,Nat.reduceLeDiff,mI,putAt,Int.reduceEq,Int.reduceLT,Int.reduceLE,Int.reduceBEq,Int.reduceBNe,Int.reduceAdd,Int.reduceNeg,Int.reduceSub,Int.reduceMul,zd,zc,zb,za,y9,y8,zg,zf,aW,gf,Int.toNat_natCast,axZ,F1,hT3,Dz,hA.obj,pX,hA.bc,hA.hc,Vs,kj,Ny,hA.adr,hA.lv,uV,asm,Cz,ja,hn,hn0,B2,h88,dQ,B7,qz,K8,Vf,(fun r=>hA.t (row:=r)),h7,mD,JM,X6,X4,OS,JD,X5]
 and_intros<;>exact hQ _ (lt5 rfl rfl rfl rfl rfl)
def ag4(aP:pl<tl)(hle:pl<H.length)(uu:pl<pv/\pv<tl)(hv:H[pv]?=some (.box 72 [.ref pl 0]))(kj:ai (PA 2 n) 25 [.ref pl 0] H=some (.str nm,some ⟨aH tk pl s' H,pl⟩))
  {kc:AV} {m:Nat} {es:List AV} {Hd:aa} {cs:List AV} (hA:rA (aH tk pl s' H) tl 7 1 kc m es Hd cs) {T0:az} {g:Nat} (Dz:T0 1=.ref pv 0) (hT3:T0 3=.ref tl 0) {Q:bB->AS->Prop}
  (hQ:∀ T,(∀ t,t<5->T t=T0 t)->Q .normal ⟨T,(sU Hd es [.str nm]).set tl (.bR (cs.set 7 (.sref H.length 0 (m+1) 1))),pl,g⟩) :
  D (PA 2 n) acm ⟨T0,H,pl,g⟩ Q:=by
 have pX:H[tl]?=some (.bR cs):=by have:=hA.obj;rwa [dA af] at this
 have oc:(aH tk pl s' H).length=H.length:=bA;have Vs:=hv;have uV:=fun (T:az) (o:Bool) (os:List aQ) (K:AS->Prop)=>hA.ao (A:=PA 2 n) (row:=[.str nm]) (o:=o) (bytes:=16) (d:=57) (os:=os) (T:=T) (lo:=pl) (gen:=g) (K:=K) af af rfl rfl
 rw[oc] at uV;have h7:decide (8<=cs.length)=true:=by have:=hA.cl;simp;omega
 have mD:=fun v=>hA.tk (v:=v)
 have JM:decide (tl<pl)=false:=df;have Ny:decide (pl<pl)=false:=ae;unfold acm mX;simp only[aG.sub];refine Q8 ?_;refine nM (j4 (j5 hT3 Dz hA.obj pX hA.bc) (j5 hA.hc Vs kj Ny hA.adr) (j5 hA.lv uV (fun r=>hA.t (row:=r)) h7 mD) JM) ?_
 exact hQ _ (lt5 rfl rfl rfl rfl rfl)
def ah5{l:Nat}{a b c:Tm}(aP:pl<tl)(qO:tl<l)(pX:H[tl]?=some (.bR cs))(hc6:cs[6]?=some (.sref l 0 3 8))(RG:H[l]?=some (.box bz (aK a++(aK b++aK c)))){T0:az}(hT3:T0 3=.ref tl 0)
  (hQ:∀ T,(∀ t,t<5->T t=T0 t)->Q .normal ⟨T,H.set l (.box bz (aK b++(aK a++aK c))),pl,g⟩) :
  D (PA 2 n) acn ⟨T0,H,pl,g⟩ Q:=by
 have oc:=(aw5.1 RG).1;have apY:(H.set l (.box bz (aK b++(aK b++aK c))))[tl]?=some (.bR cs):=by rw[List.getElem?_set_ne af];exact pX
 have hbt:bN (some (.bR cs)) false 1 6=some (.sref l 0 3 8):=by simp only[bN,ah,cond_false,hc6,axa,AV.drop]
 have h03:decide (0<3)=true:=rfl;have h13:decide (1<3)=true:=rfl;have ta:=ja (t:=a);have tb:=ja (t:=b);have tc:=ja (t:=c);have dT:∀ t:Tm,(aK t).map AV.drop=aK t:=fun t=>by rw[aj];rfl
 have JF:bN (some (.box bz (aK a++(aK b++aK c)))) true 8 8=some (.agg (aK b)):=by
  have h24:Nat.ble (8+8) (aK a++(aK b++aK c)).length=true:=by simp[ta,tb,tc]
  simp only[bN,ah,cond_true,h24];rw[ayu ta,ayv tb,dT]
 have hb0:bN (some (.box bz (aK a++(aK b++aK c)))) true 8 0=some (.agg (aK a)):=by
  have h24:Nat.ble (0+8) (aK a++(aK b++aK c)).length=true:=by simp[ta,tb,tc]
  simp only[bN,ah,cond_true,h24];rw[List.drop_zero,ayv ta,dT]
 have akl:(H.set l (.box bz (aK b++(aK b++aK c))))[l]?=some (.box bz (aK b++(aK b++aK c))):=List.getElem?_set_self oc;have h24:∀ x:Tm,(aK x++(aK b++aK c)).length=24:=fun x=>by simp[ja]
 have dQ:∀ x:Tm,(aK x).all (aV l)=true:=fun x=>by rw[aj];rfl
 have Mw:List.take 0 (aK a++(aK b++aK c))++aK b++List.drop 8 (aK a++(aK b++aK c))=aK b++(aK b++aK c):=by
  rw[ayu ta];rfl
 have FY:List.take 8 (aK b++(aK b++aK c))++aK a++List.drop 16 (aK b++(aK b++aK c))=aK b++(aK a++aK c):=by
  rw[ayv tb,show (16:Nat)=8+8 from rfl,<- ax6,ayu tb,ayu tb,axf]
 have JM:decide (l<pl)=false:=df;have hd0:List.drop 8 (aK a++(aK b++aK c))=aK b++aK c:=ayu ta;unfold acn mX;simp only[aG.sub];refine Q8 ?_;simp(disch:=omega)only[Y2,ni,jN,nD,kM,AU,bS,br,fO,aI.eval,AS.cR,↓reduceIte,Nat.reduceEqDiff,Option.isSome,Option.isNone,cond_true,cond_false,Nat.reduceBEq,Nat.reduceAdd,Nat.reduceMul,ab,mr,eq_self,reduceCtorEq,yj,ny,j8,gX,bound,nO,AS.cN,cK,iK,dN,Nat.reduceLeDiff,mI,putAt,Int.reduceEq,Int.reduceLT,Int.reduceLE,Int.reduceBEq,Int.reduceBNe,Int.reduceAdd,Int.reduceNeg,Int.reduceSub,Int.reduceMul,zd,zc,zb,za,y9,y8,zg,zf,aW,gf,Int.toNat_natCast,axZ,hT3,pX,hbt,apY,h13,RG,JF,h03,hb0,ja,h24,dQ,hd0,Mw,JM,akl,FY,List.set_set];exact hQ _ (lt5 rfl rfl rfl rfl rfl)
end
end
section
abbrev c0E(k:Int):List AV:=[.int .i64 k,.int .i64 0,.str [],.str [],.str [],.al]
def eH(pl:Nat)(H:aa)(k:Int):aa:=H++[.box 72 [.ref pl 0],.bR [.int .i64 k,.int .i64 0,.str [],.str [],.str [],.al,.al,.al]]
section
variable {n:Nat}{tk:List Tk}{pl:Nat}{s s' : PS}{H:aa}{k:Int}
def acB(h:jk tk pl s H):jk tk pl s (eH pl H k):=by
 have gI:=h.q.lt;unfold eH;refine⟨?_,by rw[axd gI];exact h.at',h.b,h.le⟩
 rw[<- uc];refine (h.q.box).push fun cs hc=>?_
 cases hc;rfl
def nq:(aH tk pl s' (eH pl H k)).length=H.length+2:=by rw[bA];unfold eH;rw[We]
def ajH(h:jk tk pl s H):(aH tk pl s' (eH pl H k))[H.length]?=some (.box 72 [.ref pl 0]):=by
 rw[jX h.q.lt];unfold eH;rw[List.getElem?_append_right (Nat.le_refl _)];simp
def acC(h:jk tk pl s H):(aH tk pl s' (eH pl H k))[H.length+1]?=some (.bR [.int .i64 k,.int .i64 0,.str [],.str [],.str [],.al,.al,.al]):=by
 have:=h.q.lt
 rw[jX af];unfold eH;rw[List.getElem?_append_right af];simp
def aeE(h:jk tk pl s H) : (aH tk pl s' (eH pl H k)).set (H.length+1) (.bR [.int .i64 k',.int .i64 0,.str [],.str [],.str [],.al,.al,.al])=aH tk pl s' (eH pl H k'):=by
 have:=h.q.lt
 rw[qk af];unfold eH;rw[List.set_append_right _ _ af];simp
def Dh{s1:PS}(h:jk tk pl s H)(hl:s'.i<=tk.length):JT tk pl (H.length+2) (H.length+1) (c0E k) (aH tk pl s1 (eH pl H k)) false [] [] s' (aH tk pl s' (eH pl H k)):=by
 have gI:=h.q.lt;refine⟨(acB h).to hl,⟨⟨.al,.al,acC h,.inl ⟨rfl,rfl⟩,.inl ⟨rfl,rfl⟩⟩,rfl⟩,af,af,by rw[nq];exact Nat.le_refl _,(fun h=>absurd h ae),fun j h1 h2 h3=>by rw[dA (fun e=>h3 e.symm),dA (fun e=>h3 e.symm)]⟩
def JT.mY{base tl pv:Nat}{ns:List av}{w:av}{r:List Tm × PS}(hJ:JT tk pl base tl c0 K0 b ns ks s K)(hn:n<=1000000)(hw:w≠[])(hv:K0[pv]?=some (.box 72 [.ref pl 0]))(h1:pl<pv)(h2:pv<tl)
  (fU:ks.length<=1000) (he:Go.Proofs.YtkoebdjmmgckdaaGreatDoor.mY (aq tk) (pE (aq tk) n 0) w ks s=some r) :
  ∃ K',ai (PA 2 n) 99 [.str w,.ref pv 0,.ref tl 0] K=some (.tuple [],some ⟨K',pl⟩)/\(∃ b',JT tk pl base tl c0 K0 b' ns r.1 r.2 K')/\r.1.length<=ks.length+1/\(r.2.bad=false->r.1.length=ks.length+1):=by
 have htb:=hJ.tb;have o9:K[pv]?=some (.box 72 [.ref pl 0]):=by rw[hJ.old pv af af af];exact hv
 unfold Go.Proofs.YtkoebdjmmgckdaaGreatDoor.mY at he;cases e:(aN (aq tk) w s).bad with
 | true =>
  rw[e,cond_true] at he;injection he with he
  subst he;refine⟨_,UB (k:=2) af (Am.no (tl:=tl) hJ.p hn o9 h1 h2 hw e),⟨b,hJ.set (fT hw hJ.p.le)⟩,ae,fun h=>?_⟩
  rw[e] at h;cases h
 | false =>
  rw[e,cond_false] at he;unfold qB at he;simp only[aw0] at he;obtain⟨⟨t,s2⟩,hx,rfl⟩:=he;obtain⟨K',ha,hJ'⟩:=(hJ.set (s':=aN (aq tk) w s) (fT hw hJ.p.le)).kid hn af hx;rw[fh] at ha;refine⟨K',UB (k:=2) af (Am.mk (tl:=tl) hJ.p hn o9 h1 h2 hw e hx ha),⟨true,hJ'⟩,ae,fun _=>ae⟩
def JT.swap{base tl:Nat}{ns:List av}(hJ:JT tk pl base tl c0 K0 b ns ks s K)(h3:ks.length=3)(h6:c0.length=6) :
  ∃ l x y z cs,ks=[x,y,z]/\tl<l/\K[tl]?=some (.bR cs)/\cs[6]?=some (.sref l 0 3 8)/\K[l]?=some (.box bz (aK x++(aK y++aK z)))/\JT tk pl base tl c0 K0 b ns [y,x,z] s (K.set l (.box bz (aK y++(aK x++aK z)))):=by
 obtain⟨x,y,z,rfl⟩:∃ x y z,ks=[x,y,z]:=by
  match ks,h3 with
  | [x,y,z],_=>exact⟨x,y,z,rfl⟩
 obtain⟨⟨kc,nc,t1,t2,t3⟩,t6⟩:=hJ.t
 rcases t2 with ⟨_,h⟩|⟨l,rfl,q1,q2,q3,q4⟩
 ·cases h
 ·have xN:(aF [x,y,z]).flatten=aK x++(aK y++aK z):=by simp[aF]
  have ZC:(aF [y,x,z]).flatten=aK y++(aK x++aK z):=by simp[aF]
  have hl3:(aF [x,y,z]).length=3:=by simp[aF]
  rw[xN] at q3;rw[hl3] at t1;have oc:=(aw5.1 q3).1;have aP:=hJ.lt;have htb:=hJ.tb;have hbk:=hJ.bk;refine⟨l,x,y,z,_,rfl,q1,t1,by rw[List.getElem?_append_right af,h6];rfl,q3,⟨?_,?_,hJ.lt,hJ.tb,by rw[List.length_set];exact hJ.bk,fun _=>ae,fun j a1 a2 a3=>by rw[List.getElem?_set_ne af];exact hJ.old j a1 a2 a3⟩⟩
  ·refine⟨⟨by rw[List.length_set];exact hJ.p.q.lt,fun j cs hj hc=>?_⟩,by rw[List.getElem?_set_ne af];exact hJ.p.at',hJ.p.b,hJ.p.le⟩
   rw[List.length_set]
   by_cases e:l=j
   ·subst e;rw[List.getElem?_set_self oc] at hc;cases hc
   ·rw[List.getElem?_set_ne e] at hc;exact hJ.p.q.ob j cs hj hc
  ·refine⟨⟨_,nc,by rw[List.getElem?_set_ne af];exact t1,.inr ⟨l,rfl,q1,q2,by rw[List.getElem?_set_self oc,ZC],by simp[aF]⟩,t3.AK fun l' n' hv=>?_⟩,t6⟩
   subst hv;refine List.getElem?_set_ne fun e=>?_
   subst e;exact MM (ks:=[x,y,z]) (m:=3) (.inr ⟨l,by rw[hl3],q1,q2,by rw[xN];exact q3,q4⟩) t3
end
end
section
section
variable {n:Nat}{tk:List Tk}{pl:Nat}{s s' : PS}{H:aa}{t:Tm}
def aeD(h:jk tk pl s H){base:Nat}{ns:List av}{k:Int}(hb:H.length<=base)(hJ:JT tk pl base (H.length+1) (c0E k) (aH tk pl s (H++M)) b ns ks s' K)(q2:T 2=.lbox 0 ZT)(q3:T 3=.ref (H.length+1) 0) :
  W (PA 2 n) (mX.body.sub [true,true,true,true]) ⟨T,K,pl,1⟩ (dn mX H.length (.agg (aK (.mk k 0 [] [] [] [] ks ns)),some ⟨aH tk pl s' H,pl⟩)):=by
 obtain⟨⟨kc,nc,t1,t2,t3⟩,t6⟩:=hJ.t;obtain⟨d1,f1⟩:=t2.facts;obtain⟨d2,f2⟩:=t3.facts;have gI:=h.q.lt;simp only[c0E,axN,axM] at t1;have e:=hJ.take gI af hb;have nN:=fun T' gen (Ge:T' 2=.lbox 0 [.int .i64 k,.int .i64 0,.str [],.str [],.str [],.al,kc,nc])=>se (fn:=mX) (ra:=2) (tl:=H.length+1) (gen:=gen) rfl rfl rfl h (T:=T') Ge (.inl ⟨rfl,rfl⟩) (.inl (lM.base t2 af)) (.inl (lM.base t3 af)) e
 refine (show W (PA 2 n) (.seq (.region _) .ret) _ _ from ?_)
 simp(disch:=omega)only[dJ,ab,simprocAttr,q2,q3,t1,d1,d2,f1,f2,aW,bN,ah,azd];exact nN _ _ (sH)
def UC{args:List AV}{H:aa}{x:AV × Option fw}(hR:Al (n+1) args H x):args.length=mX.np/\D (PA 2 n) mX.body ⟨dO args,H,H.length,0⟩ (dn mX H.length x):=by
 cases hR with
 | @mk tk pl s H t s' h II he =>
 refine⟨rfl,?_⟩;have hn:n<=1000000:=af;have he:ow (aq tk) (pE (aq tk) n 0) (pE (aq tk) n 1) s=some (t,s'):=he;have gI:=h.q.lt;have hG:=acB (k:=0) h;have rz:=fun (t:Nat) (os:List aQ) (T:az) (H:aa) (lo gen:Nat) (K:AS->Prop)=>Jg (A:=PA 2 n) (t:=t) (os:=os) (T:=T) (H:=H) (lo:=lo) (gen:=gen) (K:=K) (cs:=ZT) rfl rfl
 have g0:(H++[bG.box 72 [.ref pl 0]])[H.length]?=some (.box 72 [.ref pl 0]):=ae;have KW:∀ {M:aa} {K:aa} {base:Nat} {b:Bool} {ns:List av} {ks:List Tm} {k:Int} {s' : PS} (hb:H.length<=base) (hJ:JT tk pl base (H.length+1) (c0E k) (aH tk pl s (H++M)) b ns ks s' K) {T:az} (q2:T 2=.lbox 0 ZT) (q3:T 3=.ref (H.length+1) 0),
   D (PA 2 n) (mX.body.sub [true,true,true,true]) ⟨T,K,pl,1⟩ (dn mX H.length (.agg (aK (.mk k 0 [] [] [] [] ks ns)),some ⟨aH tk pl s' H,pl⟩)):=fun hb hJ T q2 q3=>Q8 (aeD h hb hJ q2 q3)
 have KX:=fun (T:az) (s' : PS) (M:aa) (t:Tm) (hT:T 2=.lbox 0 (aK t))=>v8 (fn:=mX) (ra:=2) (s':=s') (M:=M) (gen:=1) rfl rfl rfl h hT
 generalize RD:dn mX H.length (.agg (aK t),some ⟨aH tk pl s' H,pl⟩)=DN;have done:∀ st,finish H.length mX st=some (.agg (aK t),some ⟨aH tk pl s' H,pl⟩)->DN .ret st:=fun st h=>by rw[<- RD];exact h
 refine (show D (PA 2 n) (.seq (.region _) (.seq (.region _) (.seq (.region _) (.seq (.block 0 (mX.body.sub [true,true,true,false,false])) (mX.body.sub [true,true,true,true]))))) _ DN from ?_)
 generalize hF:mX.body.sub [true,true,true,true]=F;rw[hF] at KW;rw[dM,bY rfl];refine P9 @xx ?_;rw[dM,bY rfl];refine qx rz @P6 ?_;rw[dM,bY rfl];refine Ce ?_;rw[dM,Il];have q:∀ (T:az),T 1=.ref H.length 0->T 2=.lbox 0 ZT->T 3=.ref (H.length+1) 0->T 4=.func (.func 99) [] [.ref H.length 0,.ref (H.length+1) 0] ->
   D (PA 2 n) (mX.body.sub [true,true,true,false,false]) ⟨T,eH pl H 0,H.length,1⟩ (leave 0 (andThen (fun s'=>D (PA 2 n) F s' DN) DN)):=by
  intro T q1 q2 q3 q4;rw[hG.eq];have ue:=fun s' k=>ajH (s':=s') (k:=k) h
  have KM:=fun s' k=>acC (s':=s') (k:=k) h
  have wC:=fun s' k k'=>aeE (s':=s') (k:=k) (k':=k') h
  have od:decide (H.length+1<pl)=false:=df;have CC:decide (H.length<pl)=false:=df;have hxx:decide (pl<pl)=false:=ae;have F0:decide (H.length+2<pl)=false:=df;have ac7:∀ w:av,dG [[.str w]]=true:=fun _=>rfl
  unfold ow at he;unfold mX;simp only[aG.sub];cases e1:(pk (aq tk) s==JZ) with
  | true =>
   rw[e1,cond_true] at he;unfold qB at he;simp only[aw1,aw0] at he;obtain⟨_,⟨⟨t1,sA⟩,RY,rfl⟩,⟨ks2,sB⟩,ZW,⟨ks3,sC⟩,ZX,he⟩:=he;injection he with lJ iX
   simp only at lJ iX ZW ZX;subst lJ iX;have hi:=Lc (k:=2) (n:=n) (s:=s) hG aB e1;have lu:=lp (tk:=tk) (s:=s) (w:=JZ) aB e1;have FW:=Dh (s1:=s) (k:=5) h lu;obtain⟨K1,ha,B1⟩:=FW.kid hn ae RY;obtain⟨kc,m,es,Hd,cs,hA,hH⟩:=ng ja ha;have mB:=Ph (k:=2) FW.p hn RY;obtain⟨K2,gC,⟨b2,Mr⟩,z2,_⟩:=B1.mY hn (w:=H7) aB (pv:=H.length) (ue s 5) gI af ae ZW;have zz2:ks2.length<=1000:=by
    have:ks2.length<=0+1+1:=cJ z2
    omega
   obtain⟨K3,pG,⟨b3,UW⟩,z3,_⟩:=Mr.mY hn (w:=H5) aB (pv:=H.length) (ue s 5) gI af zz2 ZX;unfold JZ at hi;unfold H7 at gC;unfold H5 at pG;have hl5:(aH tk pl s.up (eH pl H 5)).length=H.length+2:=nq;rw[dM,bY rfl];refine wK q1 ue hi @iQ ?_;rw[dM,bY rfl];simp(disch:=omega)only[dJ,ab,simprocAttr,q3,KM,wC,aW,iU,od];rw[dM];refine alS (n:=n) (pv:=H.length) af (by rw[hl5];omega) ⟨gI,af⟩ (ue s.up 5) mB hA (n8 q1) (n8 q3) fun T' Ge=>?_
   have p1:=Ge 1 af;have p2:=Ge 2 af;have p3:=Ge 3 af;have p4:=Ge 4 af;simp(disch:=omega)only[dJ,ab,simprocAttr,q1,q2,q3,q4] at p1 p2 p3 p4;rw[bA] at hH
   replace hH:K1=(sU Hd es (aK t1)).set (H.length+1) (.bR (cs.set 6 (.sref (aH tk pl s.up (eH pl H 5)).length 0 (m+1) 8))):=hH
   rw[<- hH,kH];refine Q8 ?_;refine ry p4 gC pG ?_;rw[<- RD];refine KW af UW ?_ ?_<;>exact My p2 p3
  | false =>
  have i1:=Lb (k:=2) (n:=n) (s:=s) hG h.le e1;unfold JZ at i1;rw[e1,cond_false] at he;cases e2:(pk (aq tk) s==Bk) with
  | true =>
   rw[e2,cond_true] at he;simp only[aw1,aw0] at he;obtain⟨⟨ks2,sB⟩,ZW,⟨ks3,sC⟩,ZX,he⟩:=he;injection he with lJ iX
   simp only at lJ iX ZX;have hi:=Lc (k:=2) (n:=n) (s:=s) hG aB e2;have lu:=lp (tk:=tk) (s:=s) (w:=Bk) aB e2;have tD:=Hm (k:=2) (n:=n) (s:=s.up) hG lu;have ln:=jS (tk:=tk) lu;generalize aE (aq tk) s.up=q at *;obtain⟨nm,sN⟩:=q;simp only at tD ln ZW lJ;subst lJ iX;have FW:=(Dh (s1:=s) (k:=6) h ln).nam nm ae;obtain⟨K0,ha,FW⟩:=FW;obtain⟨K2,gC,⟨b2,Mr⟩,z2,_⟩:=FW.mY hn (w:=[61]) ae (pv:=H.length) (ue s 6) gI af ae ZW;have zz2:ks2.length<=1000:=by
    have:ks2.length<=0+1:=cJ z2
    omega
   obtain⟨K3,pG,⟨b3,UW⟩,z3,_⟩:=Mr.mY hn (w:=Yv) aB (pv:=H.length) (ue s 6) gI af zz2 ZX;unfold Bk at hi;unfold Yv at pG;have hK0:K0=(aH tk pl sN (eH pl H 6)++[bG.box bz [.str nm]]).set (H.length+1) (.bR [.int .i64 6,.int .i64 0,.str [],.str [],.str [],.al,.al,.sref (H.length+2) 0 1 1]):=by
    have:=ha
    unfold uI at this;rw[KM] at this;simp only[axK,axl] at this;injection this with this
    rw[<- this,List.set_append_left _ _ (by rw[nq];omega),nq]
    rfl
   have g1:(aH tk pl sN (eH pl H 0)++[bG.box bz [.str nm]])[H.length+1]?=some (.bR [.int .i64 0,.int .i64 0,.str [],.str [],.str [],.al,.al,.al]):=by
    rw[axd (by rw[nq];omega)];exact KM sN 0
   have g2:∀ cs,(aH tk pl sN (eH pl H 0)++[bG.box bz [.str nm]]).set (H.length+1) (.bR cs)=(aH tk pl sN (eH pl H 0)).set (H.length+1) (.bR cs)++[bG.box bz [.str nm]]:=fun cs=>List.set_append_left _ _ (by rw[nq];omega)
   have g3:(aH tk pl sN (eH pl H 6)++[bG.box bz [.str nm]])[H.length+1]?=some (.bR [.int .i64 6,.int .i64 0,.str [],.str [],.str [],.al,.al,.al]):=by
    rw[axd (by rw[nq];omega)];exact KM sN 6
   have i1' : ai (PA 2 n) 26 [.ref pl 0,.str [105,102]] (aH tk pl s (eH pl H 0))=some (.bool false,none):=i1;rw[dM,bY rfl];refine wK q1 ue i1 @iQ ?_;rw[dM,bY rfl];refine wK q1 ue hi @iQ ?_;refine Q8 ?_;simp(disch:=omega)only[dJ,ab,simprocAttr,ac7,axw,ayi,q1,q3,q4,ue,tD,nq,g1,g2,wC,g3,aW,iU,od,F0,<- hK0,gC,pG];rw[<- RD];refine KW af UW ?_ ?_<;>exact My q2 q3
  | false =>
  have i2:=Lb (k:=2) (n:=n) (s:=s) hG h.le e2;unfold Bk at i2;rw[e2,cond_false] at he;cases e3:(pk (aq tk) s==uG) with
  | true =>
   rw[e3,cond_true] at he;simp only[aw1,aw0] at he;obtain⟨⟨P5,sA⟩,RY,⟨ks2,sB⟩,ZW,⟨ks3,sC⟩,ZX,he⟩:=he;injection he with lJ iX
   simp only at lJ iX ZW ZX;have hi:=Lc (k:=2) (n:=n) (s:=s) hG aB e3;have lu:=lp (tk:=tk) (s:=s) (w:=uG) aB e3;have tD:=Hm (k:=2) (n:=n) (s:=s.up) hG lu;have ln:=jS (tk:=tk) lu;unfold nu at RY lJ;generalize aE (aq tk) s.up=q at *;obtain⟨nm,sN⟩:=q;simp only at tD ln RY lJ;obtain⟨K0,ha,FW⟩:=(Dh (s1:=s) (k:=12) h ln).nam nm ae;unfold uG at hi;have hK0:K0=(aH tk pl sN (eH pl H 12)++[bG.box bz [.str nm]]).set (H.length+1) (.bR [.int .i64 12,.int .i64 0,.str [],.str [],.str [],.al,.al,.sref (H.length+2) 0 1 1]):=by
    have:=ha
    unfold uI at this;rw[KM] at this;simp only[axK,axl] at this;injection this with this
    rw[<- this,List.set_append_left _ _ (by rw[nq];omega),nq]
    rfl
   have g1:(aH tk pl sN (eH pl H 0)++[bG.box bz [.str nm]])[H.length+1]?=some (.bR [.int .i64 0,.int .i64 0,.str [],.str [],.str [],.al,.al,.al]):=by
    rw[axd (by rw[nq];omega)];exact KM sN 0
   have g2:∀ cs,(aH tk pl sN (eH pl H 0)++[bG.box bz [.str nm]]).set (H.length+1) (.bR cs)=(aH tk pl sN (eH pl H 0)).set (H.length+1) (.bR cs)++[bG.box bz [.str nm]]:=fun cs=>List.set_append_left _ _ (by rw[nq];omega)
   have g3:(aH tk pl sN (eH pl H 12)++[bG.box bz [.str nm]])[H.length+1]?=some (.bR [.int .i64 12,.int .i64 0,.str [],.str [],.str [],.al,.al,.al]):=by
    rw[axd (by rw[nq];omega)];exact KM sN 12
   have ap7:K0[H.length]?=some (.box 72 [.ref pl 0]):=by rw[FW.old _ af af af];exact ue s 12
   have hwc:=zW (k:=2) (n:=n) FW.p (w:=[44]) ae;have B1:=FW.set (s':=aN (aq tk) [44] sN) (fT ae FW.p.le);have tail:∀ (ns:List av) (sM:PS) (K:aa) (T' : az) (b:Bool),JT tk pl (H.length+2) (H.length+1) (c0E 12) (aH tk pl s (eH pl H 12)) b ns [] sM K->mY (aq tk) (pE (aq tk) n 0) [61] [] sM=some (P5,sA) ->
     T' 1=.ref H.length 0->T' 2=.lbox 0 ZT->T' 3=.ref (H.length+1) 0->T' 4=.func (.func 99) [] [.ref H.length 0,.ref (H.length+1) 0]->t=.mk 12 0 [] [] [] [] (bif sC.bad then ks3 else FI ks3) ns ->
     D (PA 2 n) (mX.body.sub [true,true,true,false,false,true,true,true,true,true,false,true,true]) ⟨T',K,pl,1⟩ (leave 0 (andThen (fun s'=>D (PA 2 n) F s' DN) DN)):=by
    intro ns sM K T' b hJ RY p1 p2 p3 p4 ht;obtain⟨K1,hc1,⟨b1,B1⟩,z1,w1⟩:=hJ.mY hn (w:=[61]) ae (pv:=H.length) (ue s 12) gI af ae RY;have zz1:P5.length<=1:=cJ z1;obtain⟨K2,gC,⟨b2,Mr⟩,z2,w2⟩:=B1.mY hn (w:=H6) aB (pv:=H.length) (ue s 12) gI af (by show P5.length<=1000;omega) ZW
    have zz2:ks2.length<=2:=by have:ks2.length<=P5.length+1:=z2;omega
    obtain⟨K3,pG,⟨b3,UW⟩,z3,w3⟩:=Mr.mY hn (w:=Yu) aB (pv:=H.length) (ue s 12) gI af (by show ks2.length<=1000;omega) ZX
    have lB:=ga (iN n 0) aB ZX;have lA:=ga (iN n 0) aB ZW;have akX:K3[H.length]?=some (.box 72 [.ref pl 0]):=by rw[UW.old _ af af af];exact ue s 12
    have ft:=UW.p.at';unfold nS at ft;simp only at ft lB lA w1 w2 w3 UW;unfold H6 at gC;unfold Yu at pG;unfold mX;simp only[aG.sub];rw[dM,bY rfl];refine qx p4 hc1 ?_;rw[dM,bY rfl];refine qx p4 gC ?_;rw[dM,bY rfl];refine qx p4 pG ?_;rw[dM,bY rfl];cases hb:sC.bad with
    | true =>
     rw[hb] at ft ht;rw[cond_true] at ht;refine Hk p1 akX ft @iQ @tf ?_;rw[<- RD,ht,<- iX];refine KW af UW ?_ ?_<;>exact My p2 p3
    | false =>
     rw[hb] at ft ht;rw[cond_false] at ht;have hB:sB.bad=false:=by
      cases h:sB.bad with
      | false=>rfl
      | true=>have:=lB.bad h;rw[hb] at this;cases this
     have hA:sA.bad=false:=by
      cases h:sA.bad with
      | false=>rfl
      | true=>have:=lA.bad h;rw[hB] at this;cases this
     have e1':=w1 hA;have e2':=w2 hB;have e3':=w3 hb;simp only[List.length_nil] at e1';obtain⟨l,x,y,z,cs,fU,k1,k2,k3,k4,hJ4⟩:=UW.swap af rfl;refine Hk p1 akX ft @iQ @tf ?_;refine ah5 af k1 k2 k3 k4 (n8 p3) fun T2 hT2=>?_
     have r2:=hT2 2 af;have r3:=hT2 3 af;simp(disch:=omega)only[dJ,ab,simprocAttr,p2,p3] at r2 r3;have hsw:FI ks3=[y,x,z]:=by rw[fU];rfl
     rw[hsw] at ht
     show D (PA 2 n) F _ DN
     rw[<- RD,ht,<- iX];exact KW af hJ4 r2 r3
   have IC:=B1.p.at';unfold nS at IC;have NC:(aH tk pl (aN (aq tk) [44] sN) K0)[H.length]?=some (.box 72 [.ref pl 0]):=by rw[B1.old _ af af af];exact ue s 12
   generalize hTL:mX.body.sub [true,true,true,false,false,true,true,true,true,true,false,true,true]=TL at tail;have atY:TL=TL:=rfl;unfold mX at hTL;simp only[aG.sub] at hTL;rw[hTL];rw[dM,bY rfl];refine wK q1 ue i1 @iQ ?_;rw[dM,bY rfl];refine wK q1 ue i2 @iQ ?_;rw[dM,bY rfl];refine wK q1 ue hi @iQ ?_;rw[dM,bY rfl];simp(disch:=omega)only[dJ,ab,simprocAttr,ac7,axw,ayi,q1,q3,ue,tD,nq,g1,g2,wC,g3,aW,iU,od,F0,<- hK0];rw[dM,dM,bY rfl];refine ry q1 ap7 hwc ?_;rw[dM,bY rfl];cases hbW:(aN (aq tk) [44] sN).bad with
   | true =>
    rw[hbW] at IC RY lJ;rw[cond_true] at RY lJ;refine Hk q1 NC IC @iQ @tf ?_;refine tail _ _ _ _ _ B1 RY ?_ ?_ ?_ ?_ lJ.symm<;>exact vK4 q1 q2 q3 q4
   | false =>
    rw[hbW] at IC RY lJ;rw[cond_false] at RY lJ;refine Hk q1 NC IC @iQ @tf ?_;have Mr:=B1.set (s':=(aE (aq tk) (aN (aq tk) [44] sN)).2) (jS B1.p.le);obtain⟨K4,ha4,hJ4⟩:=Mr.nam (aE (aq tk) (aN (aq tk) [44] sN)).1 ae;have hcn:=Wv (k:=2) (n:=n) B1.p;obtain⟨kc,m,es,Hd,cs,hA,hH⟩:=ng (z:=1) (row:=[.str (aE (aq tk) (aN (aq tk) [44] sN)).1]) rfl ha4;have hbk:=B1.bk;refine ag4 (n:=n) (pv:=H.length) af B1.p.q.lt ⟨gI,af⟩ NC hcn hA (n8 q1) (n8 q3) fun T' Ge=>?_
    have p1:=Ge 1 af;have p2:=Ge 2 af;have p3:=Ge 3 af;have p4:=Ge 4 af;simp(disch:=omega)only[dJ,ab,simprocAttr,q1,q2,q3,q4] at p1 p2 p3 p4;rw[bA] at hH
    replace hH:K4=(sU Hd es [.str (aE (aq tk) (aN (aq tk) [44] sN)).1]).set (H.length+1) (.bR (cs.set 7 (.sref (aH tk pl (aN (aq tk) [44] sN) K0).length 0 (m+1) 1))):=hH
    rw[<- hH];exact tail _ _ _ _ _ hJ4 RY p1 p2 p3 p4 lJ.symm
  | false =>
  have i3:=Lb (k:=2) (n:=n) (s:=s) hG h.le e3;unfold uG at i3;rw[e3,cond_false] at he;have Pw:=YI (k:=2) hG hn (lv:=1) af af he;rw[hG.eq,fh,aj] at Pw;have ae9:ai (PA 2 n) 100 [.ref pl 0,.int .i64 1] (aH tk pl s (eH pl H 0))=_:=Pw;rw[dM,bY rfl];refine wK q1 ue i1 @iQ ?_;rw[dM,bY rfl];refine wK q1 ue i2 @iQ ?_;rw[dM,bY rfl];refine wK q1 ue i3 @iQ ?_;refine Q8 ?_;simp(disch:=omega)only[dJ,ab,simprocAttr,q1,q2,ue,ae9,aW];unfold eH;refine done _ (KX _ _ _ _ ?_);exact n8 aj
 refine q _ ?_ ?_ ?_ ?_<;>exact sH
end
end
section
section
variable {n:Nat}{tk:List Tk}{pl pv fl:Nat}{s s1 s2:PS}{H:aa}{nm:av}{w:Wd}
def am3(aP:pl<pv)(hle:pl<H.length)(hv:H[pv]?=some (.box 72 [.ref pl 0]))(afe:ai (PA 2 n) 25 [.ref pl 0] H=some (.str nm,some ⟨aH tk pl s1 H,pl⟩))(aff:ai (PA 2 n) 61 [.ref pl 0] (aH tk pl s1 H)=some (.agg [.str w.name,.slice (aM w.kids) false],some ⟨aH tk pl s2 H,pl⟩))
  {T0:az} (o8:T0 0=.ref pv 0) {Q:bB->AS->Prop}
  (hQ:∀ T,T 0=T0 0->T 1=T0 1->T 2=.lbox 0 [.str nm,.str w.name,.slice (aM w.kids) false,.int .i64 0]->Q .normal ⟨T,aH tk pl s2 H,pl,1⟩) :
  D (PA 2 n) (DO.body.sub [false]) ⟨T0,H,H.length,0⟩ Q:=by
 have Vs:H[pv]?=some (.box 72 [.ref pl 0]):=hv;have NC:(aH tk pl s1 H)[pv]?=some (.box 72 [.ref pl 0]):=by rw[dA af];exact hv
 have Ny:decide (pl<pl)=false:=ae;unfold DO;simp only[aG.sub];refine Q8 ?_;refine nM (j2 (j5 o8 Vs afe NC aff) (j2 Ny @aW.eq_1)) ?_;exact hQ _ rfl rfl rfl
end
end
end Go.Proofs.YtkoebdjmmgckdaaGreatDoor
end
