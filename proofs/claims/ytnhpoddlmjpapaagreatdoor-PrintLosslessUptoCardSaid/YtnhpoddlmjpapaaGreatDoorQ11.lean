/-
  A part of the proof of PrintLossless: U47, U48, U49, U50, U51, U52, UQ16, UQ17, UQ18, UQ19, UQ20, UQ21.
-/
import Derived.Test.YtnhpoddlmjpapaaGreatDoorQ10
set_option linter.unusedSimpArgs false
set_option linter.unusedVariables false
set_option linter.defProp false
set_option maxHeartbeats 2000000
set_option maxRecDepth 100000
noncomputable section
namespace Go.Proofs.YtnhpoddlmjpapaaGreatDoor
open Go Go.Abs Go.Proofs
variable {v:AV}{b ka va:Bool}{k' kd nn:Int}{es:List (List AV)}{c0 cs:List AV}{ks:List Tm}{L l:List aB}{os:List aS}{g gen i j lo lv mm ra:Nat}{tb:Nat->List aB}{s1:PS}{α:Type}{T:aD}{K K0 M:ae}{fn:ax}{Q:bJ->AS->Prop}
def fE(k:Int):aB:=if k=0 then [110] else if k=1 then [110] else if k=2 then [97] else if k=3 then [97,107] else if k=4 then [110,107] else if k=5 then [107] else if k=6 then [107,115] else if k=7 then [97,107,115] else if k=8 then [97,102,107] else if k=9 then [97,102,107] else if k=10 then [97,107,115] else if k=11 then [116,107] else if k=12 then [107,115] else []
def fe0:dX [.i] [.int .i64 0] []=some none:=rfl
def fe1:dX [.i] [.int .i64 1] [[.int .i64 0,.str [110]]]=some none:=rfl
def fe2:dX [.i] [.int .i64 2] [[.int .i64 0,.str [110]],[.int .i64 1,.str [110]]]=some none:=rfl
def fe3:dX [.i] [.int .i64 3] [[.int .i64 0,.str [110]],[.int .i64 1,.str [110]],[.int .i64 2,.str [97]]]=some none:=rfl
def fe4:dX [.i] [.int .i64 4] [[.int .i64 0,.str [110]],[.int .i64 1,.str [110]],[.int .i64 2,.str [97]],[.int .i64 3,.str [97,107]]]=some none:=rfl
def fe5:dX [.i] [.int .i64 5] [[.int .i64 0,.str [110]],[.int .i64 1,.str [110]],[.int .i64 2,.str [97]],[.int .i64 3,.str [97,107]],[.int .i64 4,.str [110,107]]]=some none:=rfl
def fe6:dX [.i] [.int .i64 6] [[.int .i64 0,.str [110]],[.int .i64 1,.str [110]],[.int .i64 2,.str [97]],[.int .i64 3,.str [97,107]],[.int .i64 4,.str [110,107]],[.int .i64 5,.str [107]]]=some none:=rfl
def fe7:dX [.i] [.int .i64 7] [[.int .i64 0,.str [110]],[.int .i64 1,.str [110]],[.int .i64 2,.str [97]],[.int .i64 3,.str [97,107]],[.int .i64 4,.str [110,107]],[.int .i64 5,.str [107]],[.int .i64 6,.str [107,115]]]=some none:=rfl
def fe8:dX [.i] [.int .i64 8] [[.int .i64 0,.str [110]],[.int .i64 1,.str [110]],[.int .i64 2,.str [97]],[.int .i64 3,.str [97,107]],[.int .i64 4,.str [110,107]],[.int .i64 5,.str [107]],[.int .i64 6,.str [107,115]],[.int .i64 7,.str [97,107,115]]]=some none:=rfl
def fe9:dX [.i] [.int .i64 9] [[.int .i64 0,.str [110]],[.int .i64 1,.str [110]],[.int .i64 2,.str [97]],[.int .i64 3,.str [97,107]],[.int .i64 4,.str [110,107]],[.int .i64 5,.str [107]],[.int .i64 6,.str [107,115]],[.int .i64 7,.str [97,107,115]],[.int .i64 8,.str [97,102,107]]]=some none:=rfl
def amq:dX [.i] [.int .i64 10] [[.int .i64 0,.str [110]],[.int .i64 1,.str [110]],[.int .i64 2,.str [97]],[.int .i64 3,.str [97,107]],[.int .i64 4,.str [110,107]],[.int .i64 5,.str [107]],[.int .i64 6,.str [107,115]],[.int .i64 7,.str [97,107,115]],[.int .i64 8,.str [97,102,107]],[.int .i64 9,.str [97,102,107]]]=some none:=rfl
def Tg:dX [.i] [.int .i64 11] [[.int .i64 0,.str [110]],[.int .i64 1,.str [110]],[.int .i64 2,.str [97]],[.int .i64 3,.str [97,107]],[.int .i64 4,.str [110,107]],[.int .i64 5,.str [107]],[.int .i64 6,.str [107,115]],[.int .i64 7,.str [97,107,115]],[.int .i64 8,.str [97,102,107]],[.int .i64 9,.str [97,102,107]],[.int .i64 10,.str [97,107,115]]]=some none:=rfl
def amr:dX [.i] [.int .i64 12] [[.int .i64 0,.str [110]],[.int .i64 1,.str [110]],[.int .i64 2,.str [97]],[.int .i64 3,.str [97,107]],[.int .i64 4,.str [110,107]],[.int .i64 5,.str [107]],[.int .i64 6,.str [107,115]],[.int .i64 7,.str [97,107,115]],[.int .i64 8,.str [97,102,107]],[.int .i64 9,.str [97,102,107]],[.int .i64 10,.str [97,107,115]],[.int .i64 11,.str [116,107]]]=some none:=rfl
def fgx{k:Int}(h:k<0\/12<k):dX [.i] [.int .i64 k] [[.int .i64 0,.str [110]],[.int .i64 1,.str [110]],[.int .i64 2,.str [97]],[.int .i64 3,.str [97,107]],[.int .i64 4,.str [110,107]],[.int .i64 5,.str [107]],[.int .i64 6,.str [107,115]],[.int .i64 7,.str [97,107,115]],[.int .i64 8,.str [97,102,107]],[.int .i64 9,.str [97,102,107]],[.int .i64 10,.str [97,107,115]],[.int .i64 11,.str [116,107]],[.int .i64 12,.str [107,115]]]=some none:=by
 have e0:(k==(0:Int))=false:=dw;have e1:(k==(1:Int))=false:=dw;have e2:(k==(2:Int))=false:=dw;have e3:(k==(3:Int))=false:=dw;have e4:(k==(4:Int))=false:=dw;have e5:(k==(5:Int))=false:=dw;have e6:(k==(6:Int))=false:=dw;have e7:(k==(7:Int))=false:=dw;have e8:(k==(8:Int))=false:=dw;have e9:(k==(9:Int))=false:=dw;have zg:(k==(10:Int))=false:=dw;have e11:(k==(11:Int))=false:=dw;have e12:(k==(12:Int))=false:=dw;simp only[dX,cD,axU,cond_true,au2,auW,avI,cond_false,e0,e1,e2,e3,e4,e5,e6,e7,e8,e9,zg,e11,e12,av6]
def R1{k:IntKind}{n:Int} : (AV.int k n).isAgg=false:=rfl
def R2{s:aB} : (AV.str s).isAgg=false:=rfl
def ahG:(false==false)=true:=rfl
def rJ{r:List AV} : vR es none r=es++[r]:=rfl
def ajU(u:aB)(c:UInt8)(loc:Nat)(H:ae)(hu:u.length<=1000)(hl:H[loc]?=some (.box 9 [.str u])):aj A 100 [.str [c],.ref loc 0] H=some (.bool (!decide (0<=dD c.toNat 0 u)),none):=by
 have h:=AB u c H ah;refine cW abm.eq_1 ?_;simp(disch:=omega)only[aO,aa,simprocAttr,h,hl,ab]
def cC(u:aB)(c:UInt8):Bool:=!decide (0<=dD c.toNat 0 u)
def oX(u:aB)(t:Tm):Bool:=!(cC u 110&&(t.n != 0) || (cC u 97&&!(t.name==[]) || (cC u 102&&!(t.field==[]) || (cC u 116&&(!(t.wn==[]) || decide (0<t.wk.length)) || (cC u 107&&decide (0<t.kids.length) || cC u 115&&decide (0<t.names.length))))))
def cw(t:Tm):Bool:=oX (fE t.kind) t
def wv(u:aB)(c:UInt8)(b:Bool)(loc:Nat)(H:ae)(hu:u.length<=1000)(hl:H[loc]?=some (.box 9 [.str u]))(hb:cC u c=b):aj A 100 [.str [c],.ref loc 0] H=some (.bool b,none):=by
 rw[<- hb];exact ajU u c loc H hu hl
def RO(t:Tm)(H:ae)(u:aB)(s:AS):Prop:=∃ T K,s=⟨T,K,H.length,0⟩/\K.take H.length=H/\T 1=.ref H.length 0/\T 4=.func (.func 100) [] [.ref (H.length+2) 0]/\K[H.length]?=some (.box 83 [.int .i64 t.kind,.int .i64 t.n,.str t.name,.str t.field,.str t.wn,.slice (aG t.wk) false,.slice (aC t.kids) false,.slice (strs t.names) false])/\K[H.length+2]?=some (.box 9 [.str u])
def ags{t:Tm}{H:ae} : W A (om.body.pre 2) ⟨fm [.agg (aK t)],H,H.length,0⟩ (andThen (RO t H (fE t.kind)) Q):=by
 rw[ai];have tP:decide (H.length+1<H.length)=false:=ag;have qD:decide (H.length+2<H.length)=false:=ag;have run:∀ (k:Int) (u:aB),(dX [.i] [.int .i64 k] [[.int .i64 0,.str [110]],[.int .i64 1,.str [110]],[.int .i64 2,.str [97]],[.int .i64 3,.str [97,107]],[.int .i64 4,.str [110,107]],[.int .i64 5,.str [107]],[.int .i64 6,.str [107,115]],[.int .i64 7,.str [97,107,115]],[.int .i64 8,.str [97,102,107]],[.int .i64 9,.str [97,102,107]],[.int .i64 10,.str [97,107,115]],[.int .i64 11,.str [116,107]],[.int .i64 12,.str [107,115]]]).map (pI false false [.str []] 1 [[.int .i64 0,.str [110]],[.int .i64 1,.str [110]],[.int .i64 2,.str [97]],[.int .i64 3,.str [97,107]],[.int .i64 4,.str [110,107]],[.int .i64 5,.str [107]],[.int .i64 6,.str [107,115]],[.int .i64 7,.str [97,107,115]],[.int .i64 8,.str [97,102,107]],[.int .i64 9,.str [97,102,107]],[.int .i64 10,.str [97,107,115]],[.int .i64 11,.str [116,107]],[.int .i64 12,.str [107,115]]])=some (.str u)->W A (om.body.pre 2) ⟨fm [.agg [.int .i64 k,.int .i64 t.n,.str t.name,.str t.field,.str t.wn,.slice (aG t.wk) false,.slice (aC t.kids) false,.slice (strs t.names) false]],H,H.length,0⟩ (andThen (fun s=>∃ T K,s=⟨T,K,H.length,0⟩/\K.take H.length=H/\T 1=.ref H.length 0/\T 4=.func (.func 100) [] [.ref (H.length+2) 0]/\K[H.length]?=some (.box 83 [.int .i64 k,.int .i64 t.n,.str t.name,.str t.field,.str t.wn,.slice (aG t.wk) false,.slice (aC t.kids) false,.slice (strs t.names) false])/\K[H.length+2]?=some (.box 9 [.str u])) Q):=by
  intro k u hu;unfold om;simp only[aH.pre];have hlx:∀ a,yP (H++[a,.map 1 false false [[.int .i64 0,.str [110]],[.int .i64 1,.str [110]],[.int .i64 2,.str [97]],[.int .i64 3,.str [97,107]],[.int .i64 4,.str [110,107]],[.int .i64 5,.str [107]],[.int .i64 6,.str [107,115]],[.int .i64 7,.str [97,107,115]],[.int .i64 8,.str [97,102,107]],[.int .i64 9,.str [97,102,107]],[.int .i64 10,.str [97,107,115]],[.int .i64 11,.str [116,107]],[.int .i64 12,.str [107,115]]]]) false 1 false false [.i] [.str []] (.mref (H.length+1)) (.int .i64 k)=some (.str u):=fun a=>by
   simp only[yP,UA,AV.drop,AV.cells,auW,h2b];exact hu
  simp(disch:=omega)only[nK,cY,cb,ct,cm,gC,aP,aQ,br,aE.eval,AS.bW,↓reduceIte,Nat.reduceEqDiff,Option.isSome,Option.isNone,cond_true,cond_false,Nat.reduceBEq,Nat.reduceAdd,Nat.reduceMul,aa,cn,avs,reduceCtorEq,gr,cZ,cd,bD,bound,dc,AS.bC,aN,bI,bu,Nat.reduceLeDiff,cq,putAt,Int.reduceEq,Int.reduceLT,Int.reduceLE,Int.reduceBEq,Int.reduceBNe,Int.reduceAdd,Int.reduceNeg,Int.reduceSub,Int.reduceMul,dQ,dP,dO,dN,dM,dL,dS,dR,au,bA,au5,au7,sx,tP,qD,fe0,fe1,fe2,fe3,fe4,fe5,fe6,fe7,fe8,fe9,amq,Tg,amr,rJ,R1,R2,Bool.and_self,cond_true,hlx,ab];exact⟨_,_,rfl,h3t,by simp(disch:=omega)only[nK,cY,cb,ct,cm,gC,aP,aQ,br,aE.eval,AS.bW,↓reduceIte,Nat.reduceEqDiff,Option.isSome,Option.isNone,cond_true,cond_false,Nat.reduceBEq,Nat.reduceAdd,Nat.reduceMul,aa,cn,avs,reduceCtorEq,gr,cZ,cd,bD,bound,dc,AS.bC,aN,bI,bu,Nat.reduceLeDiff,cq,putAt,Int.reduceEq,Int.reduceLT,Int.reduceLE,Int.reduceBEq,Int.reduceBNe,Int.reduceAdd,Int.reduceNeg,Int.reduceSub,Int.reduceMul,dQ,dP,dO,dN,dM,dL,dS,dR],by simp(disch:=omega)only[nK,cY,cb,ct,cm,gC,aP,aQ,br,aE.eval,AS.bW,↓reduceIte,Nat.reduceEqDiff,Option.isSome,Option.isNone,cond_true,cond_false,Nat.reduceBEq,Nat.reduceAdd,Nat.reduceMul,aa,cn,avs,reduceCtorEq,gr,cZ,cd,bD,bound,dc,AS.bC,aN,bI,bu,Nat.reduceLeDiff,cq,putAt,Int.reduceEq,Int.reduceLT,Int.reduceLE,Int.reduceBEq,Int.reduceBNe,Int.reduceAdd,Int.reduceNeg,Int.reduceSub,Int.reduceMul,dQ,dP,dO,dN,dM,dL,dS,dR],h3a,by rw[h3c]⟩
 unfold RO;refine run t.kind (fE t.kind) ?_
 rcases uK t.kind with e|e|e|e|e|e|e|e|e|e|e|e|e|e
 all_goals first|(rw[e];rfl)|skip
 rw[fgx e];have:fE t.kind=[]:=by
  unfold fE
  repeat rw[if_neg ah]
 rw[this];rfl
def Wf{t:Tm}{H:ae}{s:AS}(hs:RO t H [110] s):W A (om.body.post 2) s (done H.length [.tmp 2] (.bool (oX [110] t),none)):=by
 obtain⟨T,K,rfl,hK,q1,q4,hb,hu⟩:=hs;unfold om;simp only[aH.post];obtain⟨m1,m2,m3,m4,m5,m6⟩:cC [110] 110=false/\cC [110] 97=true/\cC [110] 102=true/\cC [110] 116=true/\cC [110] 107=true/\cC [110] 115=true:=⟨rfl,rfl,rfl,rfl,rfl,rfl⟩;have nc:=fun c b=>wv [110] c b (H.length+2) K a8 hu
 have n1:=nc _ _ m1;have n2:=nc _ _ m2;have n3:=nc _ _ m3;have n4:=nc _ _ m4;have n5:=nc _ _ m5;have n6:=nc _ _ m6;clear nc;cases Cl:(t.name==[]);rotate_left;cases qk:(t.field==[]);rotate_left;cases Jt:(t.wn==[]);rotate_left
 by_cases Js:0<t.wk.length
 rotate_left
 by_cases SI:0<t.kids.length
 rotate_left
 by_cases sn:0<t.names.length
 rotate_left
 all_goals simp(disch:=omega)only[aO,aa,simprocAttr,bne,ig,cR,bG,ab,oX, *]
def akW{t:Tm}{H:ae}{s:AS}(hs:RO t H [97] s):W A (om.body.post 2) s (done H.length [.tmp 2] (.bool (oX [97] t),none)):=by
 obtain⟨T,K,rfl,hK,q1,q4,hb,hu⟩:=hs;unfold om;simp only[aH.post];obtain⟨m1,m2,m3,m4,m5,m6⟩:cC [97] 110=true/\cC [97] 97=false/\cC [97] 102=true/\cC [97] 116=true/\cC [97] 107=true/\cC [97] 115=true:=⟨rfl,rfl,rfl,rfl,rfl,rfl⟩;have nc:=fun c b=>wv [97] c b (H.length+2) K a8 hu
 have n1:=nc _ _ m1;have n2:=nc _ _ m2;have n3:=nc _ _ m3;have n4:=nc _ _ m4;have n5:=nc _ _ m5;have n6:=nc _ _ m6;clear nc;cases d_n:(t.n==0);rotate_left;cases qk:(t.field==[]);rotate_left;cases Jt:(t.wn==[]);rotate_left
 by_cases Js:0<t.wk.length
 rotate_left
 by_cases SI:0<t.kids.length
 rotate_left
 by_cases sn:0<t.names.length
 rotate_left
 all_goals simp(disch:=omega)only[aO,aa,simprocAttr,bne,ig,cR,bG,ab,oX, *]
def Ru{t:Tm}{H:ae}{s:AS}(hs:RO t H [97,107] s):W A (om.body.post 2) s (done H.length [.tmp 2] (.bool (oX [97,107] t),none)):=by
 obtain⟨T,K,rfl,hK,q1,q4,hb,hu⟩:=hs;unfold om;simp only[aH.post];obtain⟨m1,m2,m3,m4,m5,m6⟩:cC [97,107] 110=true/\cC [97,107] 97=false/\cC [97,107] 102=true/\cC [97,107] 116=true/\cC [97,107] 107=false/\cC [97,107] 115=true:=⟨rfl,rfl,rfl,rfl,rfl,rfl⟩;have nc:=fun c b=>wv [97,107] c b (H.length+2) K a8 hu
 have n1:=nc _ _ m1;have n2:=nc _ _ m2;have n3:=nc _ _ m3;have n4:=nc _ _ m4;have n5:=nc _ _ m5;have n6:=nc _ _ m6;clear nc;cases d_n:(t.n==0);rotate_left;cases qk:(t.field==[]);rotate_left;cases Jt:(t.wn==[]);rotate_left
 by_cases Js:0<t.wk.length
 rotate_left
 by_cases sn:0<t.names.length
 rotate_left
 all_goals simp(disch:=omega)only[aO,aa,simprocAttr,bne,ig,bG,ab,oX, *]
def NS{t:Tm}{H:ae}{s:AS}(hs:RO t H [110,107] s):W A (om.body.post 2) s (done H.length [.tmp 2] (.bool (oX [110,107] t),none)):=by
 obtain⟨T,K,rfl,hK,q1,q4,hb,hu⟩:=hs;unfold om;simp only[aH.post];obtain⟨m1,m2,m3,m4,m5,m6⟩:cC [110,107] 110=false/\cC [110,107] 97=true/\cC [110,107] 102=true/\cC [110,107] 116=true/\cC [110,107] 107=false/\cC [110,107] 115=true:=⟨rfl,rfl,rfl,rfl,rfl,rfl⟩;have nc:=fun c b=>wv [110,107] c b (H.length+2) K a8 hu
 have n1:=nc _ _ m1;have n2:=nc _ _ m2;have n3:=nc _ _ m3;have n4:=nc _ _ m4;have n5:=nc _ _ m5;have n6:=nc _ _ m6;clear nc;cases Cl:(t.name==[]);rotate_left;cases qk:(t.field==[]);rotate_left;cases Jt:(t.wn==[]);rotate_left
 by_cases Js:0<t.wk.length
 rotate_left
 by_cases sn:0<t.names.length
 rotate_left
 all_goals simp(disch:=omega)only[aO,aa,simprocAttr,bne,ig,bG,ab,oX, *]
def agr{t:Tm}{H:ae}{s:AS}(hs:RO t H [107] s):W A (om.body.post 2) s (done H.length [.tmp 2] (.bool (oX [107] t),none)):=by
 obtain⟨T,K,rfl,hK,q1,q4,hb,hu⟩:=hs;unfold om;simp only[aH.post];obtain⟨m1,m2,m3,m4,m5,m6⟩:cC [107] 110=true/\cC [107] 97=true/\cC [107] 102=true/\cC [107] 116=true/\cC [107] 107=false/\cC [107] 115=true:=⟨rfl,rfl,rfl,rfl,rfl,rfl⟩;have nc:=fun c b=>wv [107] c b (H.length+2) K a8 hu
 have n1:=nc _ _ m1;have n2:=nc _ _ m2;have n3:=nc _ _ m3;have n4:=nc _ _ m4;have n5:=nc _ _ m5;have n6:=nc _ _ m6;clear nc;cases d_n:(t.n==0);rotate_left;cases Cl:(t.name==[]);rotate_left;cases qk:(t.field==[]);rotate_left;cases Jt:(t.wn==[]);rotate_left
 by_cases Js:0<t.wk.length
 rotate_left
 by_cases sn:0<t.names.length
 rotate_left
 all_goals simp(disch:=omega)only[aO,aa,simprocAttr,bne,ig,bG,ab,oX, *]
def DW{t:Tm}{H:ae}{s:AS}(hs:RO t H [107,115] s):W A (om.body.post 2) s (done H.length [.tmp 2] (.bool (oX [107,115] t),none)):=by
 obtain⟨T,K,rfl,hK,q1,q4,hb,hu⟩:=hs;unfold om;simp only[aH.post];obtain⟨m1,m2,m3,m4,m5,m6⟩:cC [107,115] 110=true/\cC [107,115] 97=true/\cC [107,115] 102=true/\cC [107,115] 116=true/\cC [107,115] 107=false/\cC [107,115] 115=false:=⟨rfl,rfl,rfl,rfl,rfl,rfl⟩;have nc:=fun c b=>wv [107,115] c b (H.length+2) K a8 hu
 have n1:=nc _ _ m1;have n2:=nc _ _ m2;have n3:=nc _ _ m3;have n4:=nc _ _ m4;have n5:=nc _ _ m5;have n6:=nc _ _ m6;clear nc;cases d_n:(t.n==0);rotate_left;cases Cl:(t.name==[]);rotate_left;cases qk:(t.field==[]);rotate_left;cases Jt:(t.wn==[]);rotate_left
 by_cases Js:0<t.wk.length
 rotate_left
 all_goals simp(disch:=omega)only[aO,aa,simprocAttr,bne,ig,ab,oX, *]
def wE{t:Tm}{H:ae}{s:AS}(hs:RO t H [97,107,115] s):W A (om.body.post 2) s (done H.length [.tmp 2] (.bool (oX [97,107,115] t),none)):=by
 obtain⟨T,K,rfl,hK,q1,q4,hb,hu⟩:=hs;unfold om;simp only[aH.post];obtain⟨m1,m2,m3,m4,m5,m6⟩:cC [97,107,115] 110=true/\cC [97,107,115] 97=false/\cC [97,107,115] 102=true/\cC [97,107,115] 116=true/\cC [97,107,115] 107=false/\cC [97,107,115] 115=false:=⟨rfl,rfl,rfl,rfl,rfl,rfl⟩;have nc:=fun c b=>wv [97,107,115] c b (H.length+2) K a8 hu
 have n1:=nc _ _ m1;have n2:=nc _ _ m2;have n3:=nc _ _ m3;have n4:=nc _ _ m4;have n5:=nc _ _ m5;have n6:=nc _ _ m6;clear nc;cases d_n:(t.n==0);rotate_left;cases qk:(t.field==[]);rotate_left;cases Jt:(t.wn==[]);rotate_left
 by_cases Js:0<t.wk.length
 rotate_left
 all_goals simp(disch:=omega)only[aO,aa,simprocAttr,bne,ig,ab,oX, *]
def wD{t:Tm}{H:ae}{s:AS}(hs:RO t H [97,102,107] s):W A (om.body.post 2) s (done H.length [.tmp 2] (.bool (oX [97,102,107] t),none)):=by
 obtain⟨T,K,rfl,hK,q1,q4,hb,hu⟩:=hs;unfold om;simp only[aH.post];obtain⟨m1,m2,m3,m4,m5,m6⟩:cC [97,102,107] 110=true/\cC [97,102,107] 97=false/\cC [97,102,107] 102=false/\cC [97,102,107] 116=true/\cC [97,102,107] 107=false/\cC [97,102,107] 115=true:=⟨rfl,rfl,rfl,rfl,rfl,rfl⟩;have nc:=fun c b=>wv [97,102,107] c b (H.length+2) K a8 hu
 have n1:=nc _ _ m1;have n2:=nc _ _ m2;have n3:=nc _ _ m3;have n4:=nc _ _ m4;have n5:=nc _ _ m5;have n6:=nc _ _ m6;clear nc;cases d_n:(t.n==0);rotate_left;cases Jt:(t.wn==[]);rotate_left
 by_cases Js:0<t.wk.length
 rotate_left
 by_cases sn:0<t.names.length
 rotate_left
 all_goals simp(disch:=omega)only[aO,aa,simprocAttr,bne,ig,bG,ab,oX, *]
def NT{t:Tm}{H:ae}{s:AS}(hs:RO t H [116,107] s):W A (om.body.post 2) s (done H.length [.tmp 2] (.bool (oX [116,107] t),none)):=by
 obtain⟨T,K,rfl,hK,q1,q4,hb,hu⟩:=hs;unfold om;simp only[aH.post];obtain⟨m1,m2,m3,m4,m5,m6⟩:cC [116,107] 110=true/\cC [116,107] 97=true/\cC [116,107] 102=true/\cC [116,107] 116=false/\cC [116,107] 107=false/\cC [116,107] 115=true:=⟨rfl,rfl,rfl,rfl,rfl,rfl⟩;have nc:=fun c b=>wv [116,107] c b (H.length+2) K a8 hu
 have n1:=nc _ _ m1;have n2:=nc _ _ m2;have n3:=nc _ _ m3;have n4:=nc _ _ m4;have n5:=nc _ _ m5;have n6:=nc _ _ m6;clear nc;cases d_n:(t.n==0);rotate_left;cases Cl:(t.name==[]);rotate_left;cases qk:(t.field==[]);rotate_left
 by_cases sn:0<t.names.length
 rotate_left
 all_goals simp(disch:=omega)only[aO,aa,simprocAttr,bne,bG,ab,oX, *]
def ao8{t:Tm}{H:ae}{s:AS}(hs:RO t H [] s):W A (om.body.post 2) s (done H.length [.tmp 2] (.bool (oX [] t),none)):=by
 obtain⟨T,K,rfl,hK,q1,q4,hb,hu⟩:=hs;unfold om;simp only[aH.post];obtain⟨m1,m2,m3,m4,m5,m6⟩:cC [] 110=true/\cC [] 97=true/\cC [] 102=true/\cC [] 116=true/\cC [] 107=true/\cC [] 115=true:=⟨rfl,rfl,rfl,rfl,rfl,rfl⟩;have nc:=fun c b=>wv [] c b (H.length+2) K a8 hu
 have n1:=nc _ _ m1;have n2:=nc _ _ m2;have n3:=nc _ _ m3;have n4:=nc _ _ m4;have n5:=nc _ _ m5;have n6:=nc _ _ m6;clear nc;cases d_n:(t.n==0);rotate_left;cases Cl:(t.name==[]);rotate_left;cases qk:(t.field==[]);rotate_left;cases Jt:(t.wn==[]);rotate_left
 by_cases Js:0<t.wk.length
 rotate_left
 by_cases SI:0<t.kids.length
 rotate_left
 by_cases sn:0<t.names.length
 rotate_left
 all_goals simp(disch:=omega)only[aO,aa,simprocAttr,bne,ig,cR,bG,ab,oX, *]
def jb(t:Tm)(H:ae):aj A 65 [.agg (aK t)] H=some (.bool (cw t),none):=by
 refine cB (fn:=om) rfl rfl rfl ?_;refine im 2 _ ags fun s hs=>?_
 unfold cw
 rcases uK t.kind with e|e|e|e|e|e|e|e|e|e|e|e|e|e
 ·have hu:fE t.kind=[110]:=by rw[e];rfl
  rw[hu] at hs ⊢;exact Wf hs
 ·have hu:fE t.kind=[110]:=by rw[e];rfl
  rw[hu] at hs ⊢;exact Wf hs
 ·have hu:fE t.kind=[97]:=by rw[e];rfl
  rw[hu] at hs ⊢;exact akW hs
 ·have hu:fE t.kind=[97,107]:=by rw[e];rfl
  rw[hu] at hs ⊢;exact Ru hs
 ·have hu:fE t.kind=[110,107]:=by rw[e];rfl
  rw[hu] at hs ⊢;exact NS hs
 ·have hu:fE t.kind=[107]:=by rw[e];rfl
  rw[hu] at hs ⊢;exact agr hs
 ·have hu:fE t.kind=[107,115]:=by rw[e];rfl
  rw[hu] at hs ⊢;exact DW hs
 ·have hu:fE t.kind=[97,107,115]:=by rw[e];rfl
  rw[hu] at hs ⊢;exact wE hs
 ·have hu:fE t.kind=[97,102,107]:=by rw[e];rfl
  rw[hu] at hs ⊢;exact wD hs
 ·have hu:fE t.kind=[97,102,107]:=by rw[e];rfl
  rw[hu] at hs ⊢;exact wD hs
 ·have hu:fE t.kind=[97,107,115]:=by rw[e];rfl
  rw[hu] at hs ⊢;exact wE hs
 ·have hu:fE t.kind=[116,107]:=by rw[e];rfl
  rw[hu] at hs ⊢;exact NT hs
 ·have hu:fE t.kind=[107,115]:=by rw[e];rfl
  rw[hu] at hs ⊢;exact DW hs
 ·have hu:fE t.kind=[]:=by
   unfold fE
   repeat rw[if_neg ah]
  rw[hu] at hs ⊢;exact ao8 hs
def Lb(n:Int)(H:ae):aj A 128 [.int .i64 n] H=some (.tuple [.str (n8 n).1,.int .i64 (n8 n).2],none):=fZ (A:=A) (f:=128) rfl rfl
def C9(t:Tm):Int:=if t.kind=5\/t.kind=6\/t.kind=12 then 0 else if t.kind=4 then (n8 t.n).2 else 8
def UL(t:Tm)(H:ae):aj A 145 [.agg (aK t)] H=some (.int .i64 (C9 t),none):=by
 have hs:=fun K=>Lb t.n K
 refine cB (fn:=Uo) rfl rfl rfl ?_;rw[ai];unfold Uo C9;have ht:(H++[bM.box 83 [.int .i64 t.kind,.int .i64 t.n,.str t.name,.str t.field,.str t.wn,.slice (aG t.wk) false,.slice (aC t.kids) false,.slice (strs t.names) false]]).take H.length=H:=Gk
 by_cases k5:t.kind=5
 ·rw[if_pos (.inl k5)]
  simp(disch:=omega)only[aO,aa,simprocAttr,ab]
 by_cases k6:t.kind=6
 ·rw[if_pos (.inr (.inl k6))]
  simp(disch:=omega)only[aO,aa,simprocAttr,ab]
 by_cases k12:t.kind=12
 ·rw[if_pos (.inr (.inr k12))]
  simp(disch:=omega)only[aO,aa,simprocAttr,ab]
 rw[if_neg ah]
 by_cases k4:t.kind=4
 ·rw[if_pos k4]
  simp(disch:=omega)only[aO,aa,simprocAttr,hs,ab]
 ·rw[if_neg k4]
  simp(disch:=omega)only[aO,aa,simprocAttr,ab]
def O7{n:Int}(h:¬ (n<0\/11<n)):n8 n=da n:=by unfold n8;rw[if_neg h]
def M6{t:Tm}(h:ay t=true):C9 t=bH t:=by
 unfold C9 bH;split
 ·rfl
 ·split
  ·rename_i _ hk
   have hO:=vy h;have:¬ (t.n<0\/11<t.n):=by
    intro hn;have hs:(da t.n).1=[]:=by unfold da;rw[if_pos hn]
    have hc:bR t.kind t.n t.kids.length=(-2,0):=by
     unfold bR;simp[hk,hs]
    exact (gJ hO hc).1 rfl
   rw[O7 this]
  ·rfl
def ga(h:PW mm K)(ok:Bool)(l:List aB)(b:Bool):aj A 63 [.ref mm 0,.bool ok] (cI mm l b K)=some (.undef,some ⟨cI mm l (b || !ok) K,mm⟩):=by
 refine cW aes.eq_1 ?_;have h0:=fQ (l:=l) (b:=b) h;unfold nq at h0;have aZ:=h.lt;have ho:=fun b=>h.open l b
 have h1:∀ x:bM,((cI mm l b K).set mm x)[mm]?=some x:=fun x=>List.getElem?_set_self (by rw[bw];exact aZ)
 cases b<;>simp(disch:=omega)only[aO,aa,simprocAttr,h0,bw,y7,gk,ho,ab]
def jv(t:Tm)(k m:Int):Bool:=decide ((t.kids.length:Int)=k)&&decide ((t.names.length:Int)=m)
theorem ac'(hP:PW mm K)(t:Tm)(k m:Int)(l:List aB)(b:Bool):aj A 107 [.ref mm 0,.agg (aK t),.int .i64 k,.int .i64 m] (cI mm l b K)=some (.bool (!(b || !jv t k m)),some ⟨cI mm l (b || !jv t k m) K,mm⟩):=by
 rw[ai];obtain⟨K1,fN,dj,fO,hT,hO⟩:=oC hP t;have aZ:=hP.lt;have e1:=fun ok=>ga fN ok l b
 have we:decide (K.length<K.length)=false:=ag;refine cB (fn:=Uf) rfl rfl rfl ?_;unfold Uf jv
 by_cases h1:(t.kids.length:Int)=k
 ·by_cases h2:(t.names.length:Int)=m
  ·have e:=e1 true
   have ho:=hO l (b || !true);have h0:=fQ (l:=l) (b:=b || !true) fN;unfold nq at h0;rw[decide_eq_true h1,decide_eq_true h2];simp only[Bool.and_self];generalize (b || !true)=b1 at *;simp(disch:=omega)only[aO,aa,simprocAttr,dj,fO,cR,bG,e,h0,hT,ho,au4,bw,ab]
  ·have e:=e1 false
   have ho:=hO l (b || !false);have h0:=fQ (l:=l) (b:=b || !false) fN;unfold nq at h0;rw[decide_eq_true h1,av1 h2];simp only[Bool.and_false];generalize (b || !false)=b1 at *;simp(disch:=omega)only[aO,aa,simprocAttr,dj,fO,cR,bG,e,h0,hT,ho,au4,bw,ab]
 ·have e:=e1 false
  have ho:=hO l (b || !false);have h0:=fQ (l:=l) (b:=b || !false) fN;unfold nq at h0;rw[av1 h1];simp only[avk];generalize (b || !false)=b1 at *;simp(disch:=omega)only[aO,aa,simprocAttr,dj,fO,cR,e,h0,hT,ho,au4,bw,ab]
def orT(b:Bool):(b || !true)=b:=by cases b<;>rfl
def tT(s:aB):strs [s]=[[.str s]]:=rfl
def uI(tb:Nat->List aB)(ks:List Tm)(i:Nat):List (List aB):=(List.range i).map fun j=>tb j++af (ks.getD j pY)
def C5 : uI tb ks (i+1)=uI tb ks i++[tb i++af (ks.getD i pY)]:=by unfold uI;rw[List.range_succ,List.map_append];rfl
def OM : (uI tb ks i).length=i:=by unfold uI;simp
def Bef(mm:Nat)(K:ae)(fb:FuncId)(cs:List AV)(i:Nat)(ok:Bool)(jq:List aB)(n:Nat):Prop :=
 ∀ l b,l.length+n<=10000000->∃ l' c,aj A fb (.int .i64 i :: cs) (cI mm l b K)=some (.undef,c)/\(c=some ⟨cI mm l' (b || !ok) K,mm⟩\/c=none/\l'=l/\ok=true)/\((b || !ok)=false->l'=l++jq)/\l'.length<=l.length+n
def Ii{fb:FuncId} : aj A 105 [.ref mm 0,.slice [] false,.func (.func fb) [] cs] K=some (.undef,none):=by
 refine cW Ue.eq_1 ?_;simp(disch:=omega)only[aO,aa,simprocAttr];refine cj 0 0 (fun i s=>∃ T g,s=⟨T,K,K.length,g⟩/\T 9=.int .i64 0/\T 10=.int .i64 0) (fun s=>∃ T g,s=⟨T,K,K.length,g⟩) (fun _=>False) ?_ ?_ (fun _ h=>h.elim) 0 _ ah ?_
 ·rintro i s hi ⟨T,g,rfl,q9,I5⟩
  simp(disch:=omega)only[aO,aa,simprocAttr,q9,I5];exact⟨_,_,rfl⟩
 ·rintro s ⟨T,g,rfl⟩
  exact tL
 ·exact⟨_,_,rfl,jd,jd⟩
def QZ(i:Nat):Bef mm K 102 [] i true [] 0:=by
 intro l b hl;refine⟨l,none,?_,.inr ⟨rfl,rfl,rfl⟩,fun _=>ag,ah⟩
 refine cW abo.eq_1 ?_;simp(disch:=omega)only[nK,cY,cb,ct,cm,gC,aP,aQ,br,aE.eval,AS.bW,↓reduceIte,Nat.reduceEqDiff,Option.isSome,Option.isNone,cond_true,cond_false,Nat.reduceBEq,Nat.reduceAdd,Nat.reduceMul,aa,cn,avs,reduceCtorEq,gr,cZ,cd,bD,bound,dc,AS.bC,aN,bI,bu,Nat.reduceLeDiff,cq,putAt,Int.reduceEq,Int.reduceLT,Int.reduceLE,Int.reduceBEq,Int.reduceBNe,Int.reduceAdd,Int.reduceNeg,Int.reduceSub,Int.reduceMul,dQ,dP,dO,dN,dM,dL,dS,dR,au,bA,au5,au7]
def Ad(ts:List aB)(ks:List Tm)(i:Nat):List aB:=((List.range i).map fun j=>[ts.getD j []]++af (ks.getD j pY)).flatten
def KO{ts:List aB} : Ad ts ks (i+1)=Ad ts ks i++([ts.getD i []]++af (ks.getD i pY)):=by unfold Ad;rw[List.range_succ,List.map_append,List.flatten_append];simp
def okP(ks:List Tm)(i:Nat):Bool:=(List.range i).all fun j=>ay (ks.getD j pY)
def akX{t:Tm}(hk:t.kind=0)(hu:cw t=true):True/\t.name=[]/\t.field=[]/\t.wn=[]/\t.wk=[]/\t.kids=[]/\t.names=[]:=by
 unfold cw at hu;rw[hk] at hu;rw[show fE 0=[110] from rfl] at hu
 simp only[oX,show cC [110] 110=false from rfl,show cC [110] 97=true from rfl,show cC [110] 102=true from rfl,show cC [110] 116=true from rfl,show cC [110] 107=true from rfl,show cC [110] 115=true from rfl,avv,avk,avP,avg,avz,avQ,avB,ave,awq,awh,avc] at hu
 simp_all
def akY{t:Tm}(hk:t.kind=1)(hu:cw t=true):True/\t.name=[]/\t.field=[]/\t.wn=[]/\t.wk=[]/\t.kids=[]/\t.names=[]:=by
 unfold cw at hu;rw[hk] at hu;rw[show fE 1=[110] from rfl] at hu
 simp only[oX,show cC [110] 110=false from rfl,show cC [110] 97=true from rfl,show cC [110] 102=true from rfl,show cC [110] 116=true from rfl,show cC [110] 107=true from rfl,show cC [110] 115=true from rfl,avv,avk,avP,avg,avz,avQ,avB,ave,awq,awh,avc] at hu
 simp_all
def akZ{t:Tm}(hk:t.kind=2)(hu:cw t=true):True/\t.n=0/\t.field=[]/\t.wn=[]/\t.wk=[]/\t.kids=[]/\t.names=[]:=by
 unfold cw at hu;rw[hk] at hu;rw[show fE 2=[97] from rfl] at hu
 simp only[oX,show cC [97] 110=true from rfl,show cC [97] 97=false from rfl,show cC [97] 102=true from rfl,show cC [97] 116=true from rfl,show cC [97] 107=true from rfl,show cC [97] 115=true from rfl,avv,avk,avP,avg,avz,avQ,avB,av9,ave,awq,awh,avc] at hu
 simp_all
def ak0{t:Tm}(hk:t.kind=3)(hu:cw t=true):True/\t.n=0/\t.field=[]/\t.wn=[]/\t.wk=[]/\t.names=[]:=by
 unfold cw at hu;rw[hk] at hu;rw[show fE 3=[97,107] from rfl] at hu
 simp only[oX,show cC [97,107] 110=true from rfl,show cC [97,107] 97=false from rfl,show cC [97,107] 102=true from rfl,show cC [97,107] 116=true from rfl,show cC [97,107] 107=false from rfl,show cC [97,107] 115=true from rfl,avv,avk,avP,avg,avz,avQ,avB,av9,ave,awq,awh,avc] at hu
 simp_all
def ak1{t:Tm}(hk:t.kind=4)(hu:cw t=true):True/\t.name=[]/\t.field=[]/\t.wn=[]/\t.wk=[]/\t.names=[]:=by
 unfold cw at hu;rw[hk] at hu;rw[show fE 4=[110,107] from rfl] at hu
 simp only[oX,show cC [110,107] 110=false from rfl,show cC [110,107] 97=true from rfl,show cC [110,107] 102=true from rfl,show cC [110,107] 116=true from rfl,show cC [110,107] 107=false from rfl,show cC [110,107] 115=true from rfl,avv,avk,avP,avg,avz,avQ,avB,ave,awq,awh,avc] at hu
 simp_all
def ak2{t:Tm}(hk:t.kind=5)(hu:cw t=true):True/\t.n=0/\t.name=[]/\t.field=[]/\t.wn=[]/\t.wk=[]/\t.names=[]:=by
 unfold cw at hu;rw[hk] at hu;rw[show fE 5=[107] from rfl] at hu
 simp only[oX,show cC [107] 110=true from rfl,show cC [107] 97=true from rfl,show cC [107] 102=true from rfl,show cC [107] 116=true from rfl,show cC [107] 107=false from rfl,show cC [107] 115=true from rfl,avv,avk,avP,avg,avz,avQ,avB,av9,ave,awq,awh,avc] at hu
 simp_all
def ak3{t:Tm}(hk:t.kind=6)(hu:cw t=true):True/\t.n=0/\t.name=[]/\t.field=[]/\t.wn=[]/\t.wk=[]:=by
 unfold cw at hu;rw[hk] at hu;rw[show fE 6=[107,115] from rfl] at hu
 simp only[oX,show cC [107,115] 110=true from rfl,show cC [107,115] 97=true from rfl,show cC [107,115] 102=true from rfl,show cC [107,115] 116=true from rfl,show cC [107,115] 107=false from rfl,show cC [107,115] 115=false from rfl,avv,avk,awp,avg,avz,avQ,avB,av9,ave,awq,awh,avc] at hu
 simp_all
def ak4{t:Tm}(hk:t.kind=7)(hu:cw t=true):True/\t.n=0/\t.field=[]/\t.wn=[]/\t.wk=[]:=by
 unfold cw at hu;rw[hk] at hu;rw[show fE 7=[97,107,115] from rfl] at hu
 simp only[oX,show cC [97,107,115] 110=true from rfl,show cC [97,107,115] 97=false from rfl,show cC [97,107,115] 102=true from rfl,show cC [97,107,115] 116=true from rfl,show cC [97,107,115] 107=false from rfl,show cC [97,107,115] 115=false from rfl,avv,avk,avP,awp,avg,avz,avQ,avB,av9,ave,awq,awh,avc] at hu
 simp_all
def agt{t:Tm}(hk:t.kind=8)(hu:cw t=true):True/\t.n=0/\t.wn=[]/\t.wk=[]/\t.names=[]:=by
 unfold cw at hu;rw[hk] at hu;rw[show fE 8=[97,102,107] from rfl] at hu
 simp only[oX,show cC [97,102,107] 110=true from rfl,show cC [97,102,107] 97=false from rfl,show cC [97,102,107] 102=false from rfl,show cC [97,102,107] 116=true from rfl,show cC [97,102,107] 107=false from rfl,show cC [97,102,107] 115=true from rfl,avv,avk,avP,avg,avz,avQ,avB,av9,ave,awq,awh,avc] at hu
 simp_all
def agu{t:Tm}(hk:t.kind=9)(hu:cw t=true):True/\t.n=0/\t.wn=[]/\t.wk=[]/\t.names=[]:=by
 unfold cw at hu;rw[hk] at hu;rw[show fE 9=[97,102,107] from rfl] at hu
 simp only[oX,show cC [97,102,107] 110=true from rfl,show cC [97,102,107] 97=false from rfl,show cC [97,102,107] 102=false from rfl,show cC [97,102,107] 116=true from rfl,show cC [97,102,107] 107=false from rfl,show cC [97,102,107] 115=true from rfl,avv,avk,avP,avg,avz,avQ,avB,av9,ave,awq,awh,avc] at hu
 simp_all
def ab2{t:Tm}(hk:t.kind=10)(hu:cw t=true):True/\t.n=0/\t.field=[]/\t.wn=[]/\t.wk=[]:=by
 unfold cw at hu;rw[hk] at hu;rw[show fE 10=[97,107,115] from rfl] at hu
 simp only[oX,show cC [97,107,115] 110=true from rfl,show cC [97,107,115] 97=false from rfl,show cC [97,107,115] 102=true from rfl,show cC [97,107,115] 116=true from rfl,show cC [97,107,115] 107=false from rfl,show cC [97,107,115] 115=false from rfl,avv,avk,avP,awp,avg,avz,avQ,avB,av9,ave,awq,awh,avc] at hu
 simp_all
def ab3{t:Tm}(hk:t.kind=11)(hu:cw t=true):True/\t.n=0/\t.name=[]/\t.field=[]/\t.names=[]:=by
 unfold cw at hu;rw[hk] at hu;rw[show fE 11=[116,107] from rfl] at hu
 simp only[oX,show cC [116,107] 110=true from rfl,show cC [116,107] 97=true from rfl,show cC [116,107] 102=true from rfl,show cC [116,107] 116=false from rfl,show cC [116,107] 107=false from rfl,show cC [116,107] 115=true from rfl,avv,avk,avP,avg,avz,avQ,avB,av9,ave,awq,awh,avc] at hu
 simp_all
def ab4{t:Tm}(hk:t.kind=12)(hu:cw t=true):True/\t.n=0/\t.name=[]/\t.field=[]/\t.wn=[]/\t.wk=[]:=by
 unfold cw at hu;rw[hk] at hu;rw[show fE 12=[107,115] from rfl] at hu
 simp only[oX,show cC [107,115] 110=true from rfl,show cC [107,115] 97=true from rfl,show cC [107,115] 102=true from rfl,show cC [107,115] 116=true from rfl,show cC [107,115] 107=false from rfl,show cC [107,115] 115=false from rfl,avv,avk,awp,avg,avz,avQ,avB,av9,ave,awq,awh,avc] at hu
 simp_all
def O8{n:Int}(h:0<=n/\n<=11):(da n).1≠[]:=by
 have:n=0\/n=1\/n=2\/n=3\/n=4\/n=5\/n=6\/n=7\/n=8\/n=9\/n=10\/n=11:=by omega
 rcases this with rfl|rfl|rfl|rfl|rfl|rfl|rfl|rfl|rfl|rfl|rfl|rfl<;>decide
def La{n:Int}(h:¬ (0<=n/\n<=11)):da n=([],0):=by unfold da;rw[if_pos (by omega)]
def Vf{t:Tm}(hk:t.kind=0)(hu:cw t=true):ay t=decide (-1099511627776<=t.n/\t.n<=1099511627776):=by
 obtain⟨-,h0,h1,h2,h3,h4,h5⟩:=akX hk hu;rw[fP,dG];unfold ot qT nR rY rZ qU qV se;simp[hk,h0,h1,h2,h3,h4,h5,bR,jC];rw[Bool.eq_iff_iff];simp
def aj8{t:Tm}(hk:t.kind=1)(hu:cw t=true):ay t=decide (t.n=0\/t.n=1):=by
 obtain⟨-,h0,h1,h2,h3,h4,h5⟩:=akY hk hu;rw[fP,dG];unfold ot qT nR rY rZ qU qV se;simp[hk,h0,h1,h2,h3,h4,h5,bR,jC]
def abN{t:Tm}(hk:t.kind=2)(hu:cw t=true):ay t=isWord t.name:=by
 obtain⟨-,h0,h1,h2,h3,h4,h5⟩:=akZ hk hu;rw[fP,dG];unfold ot qT nR rY rZ qU qV se;simp[hk,h0,h1,h2,h3,h4,h5,bR,jC]
def abO{t:Tm}(hk:t.kind=3)(hu:cw t=true):ay t=(gV t.name&&t.kids.all ay):=by
 obtain⟨-,h0,h1,h2,h3,h4⟩:=ak0 hk hu;rw[fP,dG];unfold ot qT nR rY rZ qU qV se;simp[hk,h0,h1,h2,h3,h4,bR,jC]
def GQ{t:Tm}(hk:t.kind=4)(hu:cw t=true):ay t=(decide (0<=t.n/\t.n<=11)&&jv t (if (da t.n).2=7 then 1 else 2) 0&&t.kids.all ay):=by
 obtain⟨-,h0,h1,h2,h3,h4⟩:=ak1 hk hu;rw[fP,dG];unfold ot qT nR rY rZ qU qV se jv
 by_cases hn:0<=t.n/\t.n<=11
 ·have h9:=O8 hn
  obtain⟨HR,XX⟩:=hn
  by_cases h7:(da t.n).2=7
  ·simp[hk,h0,h1,h2,h3,h4,bR,jC,h9,h7,HR,XX]
  ·simp[hk,h0,h1,h2,h3,h4,bR,jC,h9,h7,HR,XX]
 have h9:=La hn;have hd:decide (0<=t.n/\t.n<=11)=false:=av1 hn;rw[hd];simp[hk,h0,h1,h2,h3,h4,bR,jC,h9]
def Vh{t:Tm}(hk:t.kind=5)(hu:cw t=true):ay t=(jv t 3 0&&t.kids.all ay):=by
 obtain⟨-,h0,h1,h2,h3,h4,h5⟩:=ak2 hk hu;rw[fP,dG];unfold ot qT nR rY rZ qU qV se jv;simp[hk,h0,h1,h2,h3,h4,h5,bR,jC]
def Vi{t:Tm}(hk:t.kind=6)(hu:cw t=true):ay t=(jv t 2 1&&t.names.all isWord&&t.kids.all ay):=by
 obtain⟨-,h0,h1,h2,h3,h4⟩:=ak3 hk hu;rw[fP,dG];unfold ot qT nR rY rZ qU qV se jv;simp[hk,h0,h1,h2,h3,h4,bR,jC]
def Vj{t:Tm}(hk:t.kind=7)(hu:cw t=true):ay t=(decide ((t.names.length:Int)=t.kids.length)&&t.names.all isWord&&gV t.name&&t.kids.all ay):=by
 obtain⟨-,h0,h1,h2,h3⟩:=ak4 hk hu;rw[fP,dG];unfold ot qT nR rY rZ qU qV se;simp[hk,h0,h1,h2,h3,bR,jC]
def O2{t:Tm}(hk:t.kind=8)(hu:cw t=true):ay t=(decide ((t.kids.length:Int)=1)&&gV t.name&&isWord t.field&&t.kids.all ay):=by
 obtain⟨-,h0,h1,h2,h3⟩:=agt hk hu;rw[fP,dG];unfold ot qT nR rY rZ qU qV se;simp[hk,h0,h1,h2,h3,bR,jC]
def O3{t:Tm}(hk:t.kind=9)(hu:cw t=true):ay t=(decide ((t.kids.length:Int)=1)&&gV t.name&&isWord t.field&&t.kids.all ay):=by
 obtain⟨-,h0,h1,h2,h3⟩:=agu hk hu;rw[fP,dG];unfold ot qT nR rY rZ qU qV se;simp[hk,h0,h1,h2,h3,bR,jC]
def Ip{t:Tm}(hk:t.kind=10)(hu:cw t=true):ay t=(decide (2<=t.kids.length)&&decide ((t.names.length:Int)=2*((t.kids.length:Int)-1))&&t.names.all isWord&&gV t.name&&t.kids.all ay):=by
 obtain⟨-,h0,h1,h2,h3⟩:=ab2 hk hu;rw[fP,dG];unfold ot qT nR rY rZ qU qV se
 by_cases h7:t.kids.length<2
 ·have h8:decide (2<=t.kids.length)=false:=av1 (by omega)
  rw[h8];simp[hk,h0,h1,h2,h3,bR,jC,h7]
 have h8:decide (2<=t.kids.length)=true:=decide_eq_true (by omega)
 rw[h8];simp[hk,h0,h1,h2,h3,bR,jC,h7]
def Vg{t:Tm}(hk:t.kind=11)(hu:cw t=true):ay t=(bX (.mk t.wn t.wk)&&t.kids.all ay):=by
 obtain⟨-,h0,h1,h2,h3⟩:=ab3 hk hu;rw[fP,dG];unfold ot qT nR rY rZ qU qV se;simp[hk,h0,h1,h2,h3,bR,jC]
def Nt{t:Tm}(hk:t.kind=12)(hu:cw t=true):ay t=(jv t 3 2&&t.names.all isWord&&t.kids.all ay):=by
 obtain⟨-,h0,h1,h2,h3,h4⟩:=ab4 hk hu;rw[fP,dG];unfold ot qT nR rY rZ qU qV se jv;simp[hk,h0,h1,h2,h3,h4,bR,jC]
section
def yI : ∀ i,i<=ks.length->uI tb ks i=((ks.take i).zipIdx.map fun p=>tb p.2++af p.1)
 | 0,_=>by simp[uI]
 | i+1,h=>by
  have hx:=auS (show i<ks.length by omega)
  have hg:ks.getD i pY=ks[i]:=by rw[List.getD,hx];rfl
  have hl:(ks.take i).length=i:=by rw[avK];omega
  rw[C5,yI i ah,kg hx,hg,List.zipIdx_append,List.map_append,hl];simp
def yH : uI (fun _=>[]) ks ks.length=ks.map af:=by
 rw[yI _ (Nat.le_refl _),avr];simp only[avM];have:∀ (l:List Tm) (k:Nat),(l.zipIdx k).map (fun p=>af p.1)=l.map af:=by
  intro l;induction l with
  | nil=>intro k;rfl
  | cons a r ih=>intro k;simp only[axa,au9,ih]
 exact this ks 0
theorem Yp{ns:List aB}(h:ns.length=ks.length):uI (fun j=>[ns.getD j [],[61]]) ks ks.length=List.zipWith (fun s (x:List aB × Int)=>[s,[61]]++x.1) ns (ks.map fun t=>(af t,bH t)):=by
 rw[yI _ (Nat.le_refl _),avr];have:∀ (l:List Tm) (m:List aB) (k:Nat),m.length=l.length->(∀ j,j<l.length->ns.getD (k+j) []=m.getD j [])->(l.zipIdx k).map (fun p=>[ns.getD p.2 [],[61]]++af p.1)=List.zipWith (fun s (x:List aB × Int)=>[s,[61]]++x.1) m (l.map fun t=>(af t,bH t)):=by
  intro l;induction l with
  | nil=>intro m k hm _;cases m with|nil=>rfl|cons a r=>simp at hm
  | cons a r ih =>
   intro m k hm hg;cases m with
   | nil=>simp at hm
   | cons b q =>
    have h0:=hg 0 ag;simp only[au7] at h0;simp only[axa,au9,aw5,h0];rw[ih q (k+1) (cT hm) (fun j hj=>by
     have:=hg (j+1) dw
     rw[show k+(j+1)=k+1+j by omega] at this
     rw[this];rfl)]
    rfl
 grind
section
variable {n:Int}{a f p q r u:aB}{w:Wd}{ns:List aB}{tl:List (List aB × Int)}{x y z:List aB × Int}
theorem b0:gn 0 n a f w ns tl=if n<0 then [[45],lR (-n).toNat] else [lR n.toNat]:=rfl
theorem b1:gn 1 n a f w ns tl=[if n=0 then [102,97,108,115,101] else [116,114,117,101]]:=rfl
theorem b2:gn 2 n a f w ns tl=[a]:=rfl
theorem b3:gn 3 n a f w ns tl=aJ a++[[40]]++av (tl.map (·.1))++[[41]]:=rfl
def b4a:gn 4 n a f w ns [x]=[(da n).1]++gH x 7:=rfl
def b4b:gn 4 n a f w ns [x,y]=gH x (if (da n).2=3 then 4 else (da n).2)++[(da n).1]++gH y ((da n).2+1):=rfl
def b5:gn 5 n a f w ns [x,y,z]=[[105,102]]++x.1++[[116,104,101,110]]++y.1++[[101,108,115,101]]++z.1:=rfl
def b6:gn 6 n a f w [p] [x,y]=[[108,101,116],p,[61]]++x.1++[[105,110]]++y.1:=rfl
theorem b7:gn 7 n a f w ns tl=aJ a++[[123]]++av (List.zipWith (fun s (x:List aB × Int)=>[s,[61]]++x.1) ns tl)++[[125]]:=rfl
def b8:gn 8 n a f w ns [x]=aJ a++[[58],f]++[[91]]++x.1++[[93]]:=rfl
def b9:gn 9 n a f w ns [x]=aJ a++[[58],f]++[[40]]++x.1++[[41]]:=rfl
theorem b11:gn 11 n a f w ns tl=[cS]++[[40]]++bQ w++[[41]]++[[91]]++av (tl.map (·.1))++[[93]]:=rfl
def b12:gn 12 n a f w [p,q] [x,y,z]=[[102,111,108,100],p,[44],q,[61]]++y.1++[[111,118,101,114]]++x.1++[[100,111]]++z.1:=rfl
end
def pt2{a b:aB}{x y:Tm} : Ad [a,b] [x,y] 2=[a]++af x++[b]++af y:=by simp[Ad,List.range_succ]
def pt3{a b c:aB}{x y z:Tm} : Ad [a,b,c] [x,y,z] 3=[a]++af x++[b]++af y++[c]++af z:=by simp[Ad,List.range_succ]
end
def PW.aj9(h:PW mm K){a b:bM}(ha:∀ cs,a≠.bV cs)(hb:∀ cs,b≠.bV cs):PW mm (K++[a,b]):=by
 have:=(h.push ha).push hb
 rwa [au8] at this
def ZN(h:PW mm K){x y:bM} : (cI mm l b (K++[x,y]))[K.length]?=some x:=by rw[IA (by have:=h.lt;omega)];exact h2a
def ZO(h:PW mm K){x y:bM} : (cI mm l b (K++[x,y]))[K.length+1]?=some y:=by rw[IA (by have:=h.lt;omega)];exact h2b
def wN{A:AP}{H:ae}{t ty l off:Nat}{K:AS->Prop}(h:l<=H.length):Ss A ty (.ref l off) t os T H lo gen K=WO A os ⟨T.put t (.ref H.length 0),H++[.box ty [.ref l off]],cond (Nat.blt H.length lo) H.length lo,gen⟩ K:=by
 simp only[Ss,AV.drop,AV.cells,auW,List.all_cons,List.all_nil,aX,avA h,avI,cond_true];exact aU
structure TyH (mm:Nat) (t:Tm) (n:Nat) (K:ae):Prop where
 p:PW mm K
 w:∀ l b,(cI mm l b K)[n]?=some (.box 113 [.ref mm 0])
 t:∀ l b,(cI mm l b K)[n+1]?=some (.box 83 [.int .i64 t.kind,.int .i64 t.n,.str t.name,.str t.field,.str t.wn,.slice (aG t.wk) false,.slice (aC t.kids) false,.slice (strs t.names) false])
def acv{n:Nat}{t:Tm}(h:TyH mm t n K)(i:Nat)(hi:i<t.names.length)(CQ:∀ s∈t.names,s.length<=1100000):Bef mm K 131 [.ref n 0,.ref (n+1) 0] i (isWord (t.names.getD i [])) [t.names.getD i [],[61]] 2:=by
 intro l b hl;have gb:=ke hi;have ri:=ph CQ i;generalize t.names.getD i []=s at gb ri ⊢;obtain⟨l1,e1,t1,n1⟩:=sU h.p s ah l b ah;obtain⟨l2,e2,t2,n2⟩:=A2 h.p [[61]] ag l1 (b || !isWord s) ko;simp only[List.length_cons,List.length_nil] at n2;rw[orT,tT] at e2;rw[orT] at t2;refine⟨l2,_,?_,.inl rfl,fun hp=>by rw[t2 hp,t1 hp];simp,ah⟩
 refine cW abA.eq_1 ?_;have hw:=h.w;have ht:=h.t;have aZ:=h.p.lt;have ho:=h.p.open l2 (b || !isWord s);generalize (b || !isWord s)=b1 at *;simp(disch:=omega)only[aO,aa,simprocAttr,hw,ht,gb,e1,e2,gk,ho,au4,bw,ab]
section
abbrev ZT:List AV:=[.int .i64 0,.int .i64 0,.str [],.str [],.str [],.aq,.aq,.aq]
def jA{s:AS} : AS.bC s (.xI v)=s:=rfl
def UK{H:List α}{a b:α} : (H++[a,b]).length=H.length+2:=ag
def OQ{H:List α}{a:α} : (H++[a]).length=H.length+1:=ag
def abK{H:List α}{a b c:α} : (H++[a,b,c]).length=H.length+3:=ag
def tz{H:List α}{a b:α} : H++[a]++[b]=H++[a,b]:=ag
def R7{H:List α}{a b c:α} : H++[a,b]++[c]=H++[a,b,c]:=ag
def aaV{H:List α}{a b:α} : (H++[a,b])[H.length+1]?=some b:=by rw[List.getElem?_append_right ah];simp
def ahO{H:List α}{a b c:α} : (H++[a,b,c])[H.length+2]?=some c:=by rw[List.getElem?_append_right ah];simp
def abW{H:List α}{a b x:α} : (H++[a,b]).set (H.length+1) x=H++[a,x]:=by rw[List.set_append_right _ _ ah];simp
def akG{H:List α}{a b c x:α} : (H++[a,b,c]).set (H.length+2) x=H++[a,b,x]:=by rw[List.set_append_right _ _ ah];simp
def Is{A:AP}{t:Nat}{H:ae}{K:AS->Prop}(hf:cs.all aM=true)(hd:cs.map AV.drop=cs) :
  WO A (⟨some t,none,.L1 (.xI (.agg cs))⟩ :: os) ⟨T,H,lo,gen⟩ K=WO A os ⟨T.put t (.ref H.length 0),H++[.bV cs],cond (Nat.blt H.length lo) H.length lo,gen⟩ K:=by
 rw[gl];have hd2:AV.drop (.agg cs)=.agg cs:=rfl;have:aP A.aW (aj A) ⟨T,H,lo,gen⟩ ⟨some t,none,.L1 (.xI (.agg cs))⟩=some ⟨T.put t (.ref H.length 0),H++[.bV cs],cond (Nat.blt H.length lo) H.length lo,gen⟩:=by
  simp only[aP,aQ,aE.eval,hd2,F0,auW,hf,cond_true,hd,avk,cond_false,AS.bW,AS.cy,AS.iF]
 rw[this,aU]
def PQ.box{pl:Nat}(h:PQ pl K){ty:TypeId} : PQ pl (K++[.box ty cs]):=h.push fun cs h=>by cases h
def DJ{tk:List Tk}{pl:Nat}{s:PS}(h:pl<K.length):aI tk pl s K++M=aI tk pl s (K++M):=by unfold aI;rw[List.set_append_left _ _ h]
theorem j4{tk:List Tk}{pl:Nat}{s:PS}(h:pl<j):(aI tk pl s K)[j]?=K[j]?:=dV ah
def pO{tk:List Tk}{pl:Nat}{s:PS}{o:bM}(h:pl<j):(aI tk pl s K).set j o=aI tk pl s (K.set j o):=by unfold aI;rw[List.set_comm _ _ ah]
section
variable {n:Nat}{tk:List Tk}{pl:Nat}{s s' : PS}{H:ae}
def Nc(h:jn tk pl s H){nm:aB}(hq:aR (az tk) s=(nm,s1))
  (hQ:∀ T,T 1=.ref H.length 0->T 2=.lbox 0 ZT->T 3=.ref (H.length+1) 0->T 4=.ref (H.length+2) 0 ->
   W (PA 2 n) (oA.body.sub [true,true,true]) ⟨T,aI tk pl s1 (H++[.box 72 [.ref pl 0],.bV [.int .i64 0,.int .i64 0,.str nm,.str [],.str [],.aq,.aq,.aq],.box 1 [.func (.func 136) [.agg [.ref pl 0,.ref (H.length+1) 0]] []]]),pl,1⟩ Q) :
  W (PA 2 n) oA.body ⟨fm [.ref pl 0],H,H.length,0⟩ Q:=by
 have ij:=h.q.lt;have h1:jn tk pl s (H++[.box 72 [.ref pl 0]]):=⟨h.q.box,by rw[au3 ij];exact h.at',h.b,h.le⟩
 have hq1:=Vl (k:=2) (n:=n) h1;rw[hq] at hq1;simp only at hq1;have g0:(H++[bM.box 72 [.ref pl 0]])[H.length]?=some (.box 72 [.ref pl 0]):=ag;have g1:∀ x,(aI tk pl s1 (H++[bM.box 72 [.ref pl 0],x]))[H.length]?=some (.box 72 [.ref pl 0]):=fun x=>by rw[j4 ij,List.getElem?_append_right (Nat.le_refl _)];simp
 have a1:∀ M,aI tk pl s1 (H++[bM.box 72 [.ref pl 0]])++M=aI tk pl s1 (H++[bM.box 72 [.ref pl 0]]++M):=fun M=>DJ dw
 have a2:∀ x M,aI tk pl s1 (H++[bM.box 72 [.ref pl 0],x])++M=aI tk pl s1 (H++[bM.box 72 [.ref pl 0],x]++M):=fun x M=>DJ dw
 have g2:∀ x,(aI tk pl s1 (H++[bM.box 72 [.ref pl 0],x]))[H.length+1]?=some x:=fun x=>by rw[j4 ah,aaV]
 have p2:∀ x y,(aI tk pl s1 (H++[bM.box 72 [.ref pl 0],x])).set (H.length+1) y=aI tk pl s1 (H++[bM.box 72 [.ref pl 0],y]):=fun x y=>by rw[pO ah,abW]
 have g3:∀ x y,(aI tk pl s1 (H++[bM.box 72 [.ref pl 0],x,y]))[H.length+2]?=some y:=fun x y=>by rw[j4 ah,ahO]
 have p3:∀ x y z,(aI tk pl s1 (H++[bM.box 72 [.ref pl 0],x,y])).set (H.length+2) z=aI tk pl s1 (H++[bM.box 72 [.ref pl 0],x,z]):=fun x y z=>by rw[pO ah,akG]
 have CL:decide (pl<=H.length+2)=true:=dw;have j7:decide (H.length+1<=H.length+2)=true:=ag;refine (show W (PA 2 n) (.seq (.region _) (.seq (.region _) (.seq (.region _) (oA.body.sub [true,true,true])))) _ Q from ?_)
 generalize hX:oA.body.sub [true,true,true]=X;rw[hX] at hQ;have nN:decide (H.length+1<pl)=false:=dw;have D9:decide (H.length+2<pl)=false:=dw;have rz:=fun (t:Nat) (os:List aS) (T:aD) (H:ae) (lo gen:Nat) (K:AS->Prop)=>Is (A:=PA 2 n) (t:=t) (os:=os) (T:=T) (H:=H) (lo:=lo) (gen:=gen) (K:=K) (cs:=ZT) rfl rfl
 simp(disch:=omega)only[aO,aa,simprocAttr,wN,rz,nN,D9,g0,hq1,OQ,UK,bF,a1,tz,g2,p2,g1,a2,R7,g3,p3,au,aX,lU,iD,CL,Bool.and_self];refine hQ _ ?_ ?_ ?_ ?_<;>exact tL
theorem rB(hr:fn.results=[.cell ra true 8])(h7:fn.muts.elem 777777=true)(h8:fn.muts.elem 888888=false)(h:jn tk pl s H){tl:Nat}{a f wn:aB}{wc kc nc:AV}{wk:List Wd}{ns:List aB}
  (hT:T ra=.lbox g [.int .i64 kd,.int .i64 nn,.str a,.str f,.str wn,wc,kc,nc]) (hwc:wc=.aq/\wk=[]\/wc=.slice (aG wk) false) (hk:RR K H.length tl 8 kc (aC ks)) (hn:RR K H.length tl 1 nc (strs ns))
  (hK:K.take H.length=aI tk pl s' H):finish H.length fn ⟨T,K,pl,gen⟩=some (.agg (aK (.mk kd nn a f wn wk ks ns)),some ⟨aI tk pl s' H,pl⟩):=by
 have ho:ku H.length ⟨T,K,pl,gen⟩=true:=by
  have:=h.q.open (tk:=tk) (s:=s')
  unfold l7 at this;unfold ku
  grind
 have:=Ti hr h7 h8 (s:=⟨T,K,pl,gen⟩) hT hwc hk hn ho h.q.lt
 rw[this,hK]
def Al(h:pl<H.length):(aI tk pl s' (H++M)).take H.length=aI tk pl s' H:=by
 rw[<- DJ h,awn bF]
theorem JT.take{base tl:Nat}{ns:List aB}(h:JT tk pl base tl c0 (aI tk pl s (H++M)) b ns ks s' K)(ij:pl<H.length)(qq:H.length<=tl)(hb:H.length<=base):K.take H.length=aI tk pl s' H:=by
 refine awi fun j=>?_
 rw[avn]
 by_cases hj:j<H.length
 ·rw[if_pos hj]
  by_cases e:j=pl
  ·subst e
   rw[h.p.at'];unfold aI
   grind
  ·rw[h.old j ah ah e,dV (fun h=>e h.symm),dV (fun h=>e h.symm),au3 hj]
 ·grind [bF]
theorem JT.start(h:jn tk pl s H)(hl:s'.i<=tk.length)(h6:c0.length=6)(hp:∀ x∈c0,∀ b,AV.bz b x=true){F:aD} :
  JT tk pl (H.length+3) (H.length+1) c0 (aI tk pl s1 (H++[.box 72 [.ref pl 0],.bV (c0++[.aq,.aq]),.box 1 [.func (.func 136) [.agg [.ref pl 0,.ref (H.length+1) 0]] []]])) false [] [] s'
   (aI tk pl s' (H++[.box 72 [.ref pl 0],.bV (c0++[.aq,.aq]),.box 1 [.func (.func 136) [.agg [.ref pl 0,.ref (H.length+1) 0]] []]])):=by
 have ij:=h.q.lt;have hq:PQ pl (H++[.box 72 [.ref pl 0],.bV (c0++[.aq,.aq]),.box 1 [.func (.func 136) [.agg [.ref pl 0,.ref (H.length+1) 0]] []]]):=by
  rw[<- R7,<- tz];refine ((h.q.box).push fun cs hc=>?_).box
  cases hc;rw[auX];intro x hx
  rcases auY.1 hx with hx|hx
  ·exact hp x hx _
  ·simp only[avi,avE,awk,or_self] at hx
   subst hx;rfl
 refine⟨⟨hq.aI,nj hq,h.b,hl⟩,⟨⟨.aq,.aq,?_,.inl ⟨rfl,rfl⟩,.inl ⟨rfl,rfl⟩⟩,h6⟩,ah,ah,by rw[bF,abK];exact Nat.le_refl _,(fun h=>absurd h ag),fun j h1 h2 h3=>by rw[dV (fun e=>h3 e.symm),dV (fun e=>h3 e.symm)]⟩
 grind [j4]
end
def nH(pl:Nat)(H:ae)(nm:aB)(k:Int)(f:aB):ae:=H++[.box 72 [.ref pl 0],.bV [.int .i64 k,.int .i64 0,.str nm,.str f,.str [],.aq,.aq,.aq],.box 1 [.func (.func 136) [.agg [.ref pl 0,.ref (H.length+1) 0]] []]]
abbrev c0N(nm:aB)(k:Int)(f:aB):List AV:=[.int .i64 k,.int .i64 0,.str nm,.str f,.str [],.aq]
section
variable {n:Nat}{tk:List Tk}{pl:Nat}{s s' : PS}{H:ae}{nm:aB}{k:Int}{f:aB}
def ajN(h:jn tk pl s H):jn tk pl s (nH pl H nm k f):=by
 have ij:=h.q.lt;unfold nH;refine⟨?_,by rw[au3 ij];exact h.at',h.b,h.le⟩
 rw[<- R7,<- tz];refine ((h.q.box).push fun cs hc=>?_).box
 cases hc;rfl
def UZ:(aI tk pl s' (nH pl H nm k f)).length=H.length+3:=by rw[bF];unfold nH;rw[abK]
def ajP(h:jn tk pl s H):(aI tk pl s' (nH pl H nm k f))[H.length]?=some (.box 72 [.ref pl 0]):=by
 rw[j4 h.q.lt];unfold nH;rw[List.getElem?_append_right (Nat.le_refl _)];simp
def ajQ(h:jn tk pl s H):(aI tk pl s' (nH pl H nm k f))[H.length+1]?=some (.bV [.int .i64 k,.int .i64 0,.str nm,.str f,.str [],.aq,.aq,.aq]):=by
 have:=h.q.lt
 rw[j4 ah];unfold nH;rw[List.getElem?_append_right ah];simp
def ajO(h:jn tk pl s H):(aI tk pl s' (nH pl H nm k f))[H.length+2]?=some (.box 1 [.func (.func 136) [.agg [.ref pl 0,.ref (H.length+1) 0]] []]):=by
 have:=h.q.lt
 rw[j4 ah];unfold nH;rw[List.getElem?_append_right ah];simp
def ae0(h:jn tk pl s H){f':aB} : (aI tk pl s' (nH pl H nm k f)).set (H.length+1) (.bV [.int .i64 k',.int .i64 0,.str nm,.str f',.str [],.aq,.aq,.aq])=aI tk pl s' (nH pl H nm k' f'):=by
 have:=h.q.lt
 rw[pO ah];unfold nH;rw[List.set_append_right _ _ ah];simp
def rA(h:jn tk pl s H)(hl:s'.i<=tk.length):JT tk pl (H.length+3) (H.length+1) (c0N nm k f) (aI tk pl s1 (nH pl H nm k f)) false [] [] s' (aI tk pl s' (nH pl H nm k f)) :=
 JT.start h hl rfl (by intro x hx b;simp only[avi,avE,awk] at hx;rcases hx with rfl|rfl|rfl|rfl|rfl|rfl<;>rfl) (F:=fun _=>.undef)
def lJ.facts{base tl z:Nat}{rows:List (List AV)}(h:lJ K base tl z v rows):v.drop=v/\aM v=true:=by
 rcases h with ⟨rfl,_⟩|⟨l,rfl,_⟩<;>exact⟨rfl,rfl⟩
def aeZ(h:jn tk pl s H){base:Nat}{ns:List aB}(hb:H.length<=base)(hJ:JT tk pl base (H.length+1) (c0N nm k f) (aI tk pl s (H++M)) b ns ks s' K)(q2:T 2=.lbox 0 ZT)(q3:T 3=.ref (H.length+1) 0) :
  W (PA 2 n) (oA.body.sub [true,true,true,true]) ⟨T,K,pl,1⟩ (dn oA H.length (.agg (aK (.mk k 0 nm f [] [] ks ns)),some ⟨aI tk pl s' H,pl⟩)):=by
 obtain⟨⟨kc,nc,t1,t2,t3⟩,t6⟩:=hJ.t;obtain⟨d1,f1⟩:=t2.facts;obtain⟨d2,f2⟩:=t3.facts;have ij:=h.q.lt;simp only[c0N,avU,avM] at t1;have e:=hJ.take ij ah hb;have nw:=fun T' gen (Fq:T' 2=.lbox 0 [.int .i64 k,.int .i64 0,.str nm,.str f,.str [],.aq,kc,nc])=>rB (fn:=oA) (ra:=2) (tl:=H.length+1) (gen:=gen) rfl rfl rfl h (T:=T') Fq (.inl ⟨rfl,rfl⟩) (.inl (lJ.base t2 ah)) (.inl (lJ.base t3 ah)) e
 refine (show W (PA 2 n) (.seq (.region _) .ret) _ _ from ?_)
 simp(disch:=omega)only[aO,aa,simprocAttr,q2,q3,t1,d1,d2,f1,f2,au,bS,ab,aw8];exact nw _ _ (tL)
end
theorem Ny{tk:List Tk}(hb:Bu tk){s:PS} : (aR (az tk) s).1.length<=2000001:=by
 unfold aR
 grind [uO]
def YV{n:Nat}{tk:List Tk}{pl:Nat}{s s':PS}{H:ae}{t:Tm}(h:jn tk pl s H)(hn:n<=1000000)(he:qH (az tk) n (pE (az tk) n 0) s=some (t,s')) :
  aj (PA 2 n) 138 [.ref pl 0] H=some (.agg (aK t),some ⟨aI tk pl s' H,pl⟩):=by
 refine Cg (fn:=oA) rfl rfl rfl ?_;have ij:=h.q.lt;have l1:=(jZ (tk:=tk) (s:=s)).le h.le;unfold qH at he;simp only at he;generalize hqq:aR (az tk) s=q at *;obtain⟨nm,s1⟩:=q;simp only at he l1;refine Nc h hqq fun T q1 q2 q3 q4=>?_
 refine (show W (PA 2 n) (oA.body.sub [true,true,true]) ⟨T,aI tk pl s1 (nH pl H nm 0 []),pl,1⟩ _ from ?_)
 have tC:=fun s' k f=>ajP (s':=s') (nm:=nm) (k:=k) (f:=f) h
 have JY:=fun s' k f=>ajQ (s':=s') (nm:=nm) (k:=k) (f:=f) h
 have gcv:=fun s' k f=>ajO (s':=s') (nm:=nm) (k:=k) (f:=f) h
 have vM:=fun s' k f k' f'=>ae0 (s':=s') (nm:=nm) (k:=k) (f:=f) (k':=k') (f':=f') h
 have hN:=fun k f=>ajN (nm:=nm) (k:=k) (f:=f) h
 have w7:∀ (st:AS) (Q:bJ->AS->Prop),W (PA 2 n) (oA.body.sub [true,true,true]) st Q=W (PA 2 n) (.block 0 (oA.body.sub [true,true,true,false,false])) st (andThen (fun s'=>W (PA 2 n) (oA.body.sub [true,true,true,true]) s' Q) Q):=fun st Q=>FJ
 rw[w7];generalize hF:oA.body.sub [true,true,true,true]=F;have nw:∀ {M:ae} {K:ae} {base:Nat} {b:Bool} {ns:List aB} {ks:List Tm} {k:Int} {f:aB} {s' : PS} (hb:H.length<=base) (hJ:JT tk pl base (H.length+1) (c0N nm k f) (aI tk pl s (H++M)) b ns ks s' K) {T:aD} (q2:T 2=.lbox 0 ZT) (q3:T 3=.ref (H.length+1) 0),
  W (PA 2 n) F ⟨T,K,pl,1⟩ (dn oA H.length (.agg (aK (.mk k 0 nm f [] [] ks ns)),some ⟨aI tk pl s' H,pl⟩)):=fun hb hJ T q2 q3=>by rw[<- hF];exact aeZ h hb hJ q2 q3
 have nN:decide (H.length+1<pl)=false:=dw;unfold oA;simp only[aH.sub];cases e1:(pk (az tk) s1==[40]) with
 | true =>
  rw[e1,cond_true] at he;simp only[auP] at he;obtain⟨⟨ks,s2⟩,hl,he⟩:=he;injection he with lO iY
  subst lO iY;have hi:=Kj (k:=2) (n:=n) (s:=s1) (hN 0 []) ag e1;have lu:=lk (tk:=tk) (s:=s1) (w:=[40]) ag e1;obtain⟨K',hc,b,hJ⟩:=Ie (UD (n:=n) (tl:=H.length+1) (base:=H.length+3) (c0:=c0N nm 3 []) (K0:=aI tk pl s (nH pl H nm 3 [])) hn) UZ (fin:=[41]) ag (rA h lu) dw hl;simp(disch:=omega)only[aO,aa,simprocAttr,jA,nN,bS,ab,q1,q3,q4,tC,JY,gcv,vM,hi,hc,au];refine nw ah hJ ?_ ?_<;>exact Lz q2 q3
 | false =>
 have i1:=Ki (k:=2) (n:=n) (s:=s1) (hN 0 []) l1 e1;rw[e1,cond_false] at he;cases e2:(pk (az tk) s1==[123]) with
 | true =>
  rw[e2,cond_true] at he;simp only[auP] at he;obtain⟨⟨⟨ns,ks⟩,s2⟩,hl,he⟩:=he;injection he with lO iY
  subst lO iY;have hi:=Kj (k:=2) (n:=n) (s:=s1) (hN 0 []) ag e2;have lu:=lk (tk:=tk) (s:=s1) (w:=[123]) ag e2;obtain⟨K',hc,b,hJ,_⟩:=Ie (Yv (n:=n) (tl:=H.length+1) (base:=H.length+3) (c0:=c0N nm 7 []) (K0:=aI tk pl s (nH pl H nm 7 [])) hn (tC s 7 []) (gcv s 7 []) ij ah ah ah) UZ (fin:=[125]) ag ⟨rA h lu,rfl⟩ dw hl;simp(disch:=omega)only[aO,aa,simprocAttr,jA,nN,bS,ab,q1,q3,q4,tC,JY,vM,i1,hi,hc,au];refine nw ah hJ ?_ ?_<;>exact Lz q2 q3
 | false =>
 have i2:=Ki (k:=2) (n:=n) (s:=s1) (hN 0 []) l1 e2;rw[e2,cond_false] at he;cases e3:(pk (az tk) s1==[58]) with
 | true =>
  rw[e3,cond_true] at he;have hi:=Kj (k:=2) (n:=n) (s:=s1) (hN 0 []) ag e3;have lu:=lk (tk:=tk) (s:=s1) (w:=[58]) ag e3;have sJ:=GD (k:=2) (n:=n) (s:=s1.up) (hN 0 []) lu;have ln:=jQ (tk:=tk) lu;unfold xx at he;generalize aL (az tk) s1.up=q at *;obtain⟨fd,s2⟩:=q;simp only at he sJ ln;cases e4:(pk (az tk) s2==[91]) with
  | true =>
   rw[e4,cond_true] at he;simp only[auP] at he;obtain⟨⟨t1,s3⟩,hx,he⟩:=he;injection he with lO iY
   subst lO iY;have Bg:=Kj (k:=2) (n:=n) (s:=s2) (hN 9 fd) ag e4;have lu2:=lk (tk:=tk) (s:=s2) (w:=[91]) ag e4;have HI:=rA (s1:=s) (nm:=nm) (k:=8) (f:=fd) h lu2;obtain⟨K',ha,hJ⟩:=HI.kid hn ag hx;have hk:=Yu (k:=2) ah (xO.mk (tl:=H.length+1) HI.p hn ah hx ha);have hw:=zf (k:=2) (n:=n) hJ.p (w:=[93]) ag;have Ls:=hJ.set (s':=aY (az tk) [93] s3) (gA ag hJ.p.le);have Ft:=hJ.bk;have hgp:K'[H.length]?=some (.box 72 [.ref pl 0]):=by rw[hJ.old _ ah ah ah];exact tC s 8 fd
   simp(disch:=omega)only[aO,aa,simprocAttr,jA,nN,bS,ab,q1,q3,q4,tC,JY,gcv,vM,i1,i2,hi,sJ,Bg,hk,hw,hgp,au];refine nw ah Ls ?_ ?_<;>exact Lz q2 q3
  | false =>
   rw[e4,cond_false] at he;simp only[auP] at he;obtain⟨⟨t1,s3⟩,hx,he⟩:=he;injection he with lO iY
   subst lO iY;have Bg:=Ki (k:=2) (n:=n) (s:=s2) (hN 9 fd) ln e4;have I2:=A7 (k:=2) (n:=n) (s:=s2) (hN 9 fd) ln (w:=[40]) ag;have lw0:=gA (tk:=tk) (w:=[40]) ag ln;have HI:=rA (s1:=s) (nm:=nm) (k:=9) (f:=fd) h lw0;obtain⟨K',ha,hJ⟩:=HI.kid hn ag hx;have hk:=Yu (k:=2) ah (xO.mk (tl:=H.length+1) HI.p hn ah hx ha);have hw:=zf (k:=2) (n:=n) hJ.p (w:=[41]) ag;have Ls:=hJ.set (s':=aY (az tk) [41] s3) (gA ag hJ.p.le);have Ft:=hJ.bk;have hgp:K'[H.length]?=some (.box 72 [.ref pl 0]):=by rw[hJ.old _ ah ah ah];exact tC s 9 fd
   simp(disch:=omega)only[aO,aa,simprocAttr,jA,nN,bS,ab,q1,q3,q4,tC,JY,gcv,vM,i1,i2,hi,sJ,Bg,I2,hk,hw,hgp,au];refine nw ah Ls ?_ ?_<;>exact Lz q2 q3
 | false =>
 have i3:=Ki (k:=2) (n:=n) (s:=s1) (hN 0 []) l1 e3;rw[e3,cond_false] at he;have uF:nm.length<=2000001:=by
  have:=Ny h.b (s:=s)
  rwa [hqq] at this
 have hct:∀ H,aj (PA 2 n) 101 [.str nm,.str [46]] H=some (.bool (decide (0<=dD 46 0 nm)),none):=fun H=>cP rfl (AB nm 46 H ah)
 have h0:=WV (s:=s1) (hN 0 []);cases e4:decide (0<=dD 46 0 nm) with
 | true =>
  rw[e4,cond_true] at he;injection he with he
  injection he with lO iY
  subst lO iY;rw[e4] at hct;have hJ:=rA (s1:=s) (nm:=nm) (k:=0) (f:=[]) (s':=s1.wX) h l1;have qc:∀ i (b:Bool),(aI tk pl s1 (nH pl H nm 0 [])).set pl (.box 74 [.slice (tk.map gL) false,.int .i64 (i:Nat),.bool b])=aI tk pl ⟨i,b⟩ (nH pl H nm 0 []):=fun i b=>uU
  unfold PS.wX at hJ ⊢;simp(disch:=omega)only[aO,aa,simprocAttr,jA,bS,ab,q1,q3,tC,JY,i1,i2,i3,hct,h0,qc,au];refine nw ah hJ ?_ ?_<;>exact Lz q2 q3
 | false =>
  rw[e4,cond_false] at he;injection he with he
  injection he with lO iY
  subst lO iY;rw[e4] at hct;have hJ:=rA (s1:=s) (nm:=nm) (k:=2) (f:=[]) (s':=s1) h l1;simp(disch:=omega)only[aO,aa,simprocAttr,jA,nN,bS,ab,q1,q3,tC,JY,vM,i1,i2,i3,hct,au];refine nw ah hJ ?_ ?_<;>exact Lz q2 q3
end
section
def Ov{H:List α}{a:α} : (H++[a])[H.length]?=some a:=by rw[List.getElem?_append_right (Nat.le_refl _)];simp
def abV{H:List α}{a x:α} : (H++[a]).set H.length x=H++[x]:=by rw[List.set_append_right _ _ (Nat.le_refl _)];simp
section
variable {n:Nat}{tk:List Tk}{pl:Nat}{s s' : PS}{H:ae}
theorem RY(h:jn tk pl s H)(hc:∀ x∈cs,∀ b,AV.bz b x=true)(hl:s'.i<=tk.length):jn tk pl s' (aI tk pl s' (H++[.bV cs])):=by
 have ij:=h.q.lt;have hq:PQ pl (H++[.bV cs]):=h.q.push fun cs' e=>by
  grind
 exact⟨hq.aI,nj hq,h.b,hl⟩
theorem al'(h:jn tk pl s H)(hc:∀ x∈cs,∀ b,AV.bz b x=true):jn tk pl s (H++[.bV cs]):=by
 have ij:=h.q.lt;have hq:PQ pl (H++[.bV cs]):=h.q.push fun cs' e=>by
  grind
 exact⟨hq,by rw[au3 ij];exact h.at',h.b,h.le⟩
def RZ : (aI tk pl s' (H++[.bV cs])).length=H.length+1:=by rw[bF,OQ]
def aav(h:jn tk pl s H) : (aI tk pl s' (H++[.bV cs]))[H.length]?=some (.bV cs):=by rw[j4 h.q.lt,Ov]
def ach(h:jn tk pl s H){cs':List AV} : (aI tk pl s' (H++[.bV cs])).set H.length (.bV cs')=aI tk pl s' (H++[.bV cs']):=by rw[pO h.q.lt,abV]
def R0(h:jn tk pl s H)(hl:s'.i<=tk.length)(h6:c0.length=6)(hp:∀ x∈c0,∀ b,AV.bz b x=true) :
  JT tk pl (H.length+1) H.length c0 (aI tk pl s1 (H++[.bV (c0++[.aq,.aq])])) false [] [] s' (aI tk pl s' (H++[.bV (c0++[.aq,.aq])])):=by
 have ij:=h.q.lt;have hc:∀ x∈c0++[.aq,.aq],∀ b,AV.bz b x=true:=fun x hx b=>by
  rcases auY.1 hx with hx|hx
  ·exact hp x hx b
  ·simp only[avi,avE,awk,or_self] at hx
   subst hx;rfl
 refine⟨RY h hc hl,⟨⟨.aq,.aq,aav h,.inl ⟨rfl,rfl⟩,.inl ⟨rfl,rfl⟩⟩,h6⟩,ij,ah,by rw[RZ];exact Nat.le_refl _,(fun h=>absurd h ag),fun j h1 h2 h3=>by rw[dV (fun e=>h3 e.symm),dV (fun e=>h3 e.symm)]⟩
def amg{t:Tm} : ∀ x∈aK t,∀ b,AV.bz b x=true:=by
 intro x hx b;rw[ai] at hx;simp only[avi,avE,awk] at hx
 rcases hx with rfl|rfl|rfl|rfl|rfl|rfl|rfl|rfl<;>rfl
def amh:∀ x∈ZT,∀ b,AV.bz b x=true:=by
 intro x hx b;simp only[avi,avE,awk] at hx
 rcases hx with rfl|rfl|rfl|rfl|rfl|rfl|rfl|rfl<;>rfl
def vA(hr:fn.results=[.cell ra true 8])(h7:fn.muts.elem 777777=true)(h8:fn.muts.elem 888888=false)(h:jn tk pl s H){t:Tm}(hT:T ra=.lbox g (aK t)) :
  finish H.length fn ⟨T,aI tk pl s' (H++M),pl,gen⟩=some (.agg (aK t),some ⟨aI tk pl s' H,pl⟩):=by
 rw[ai] at hT;have:=rB (tl:=0) hr h7 h8 h (K:=aI tk pl s' (H++M)) (gen:=gen) hT (.inr rfl) (.inr rfl) (.inr rfl) (Al h.q.lt)
 rw[this,ai];cases t;rfl
def Nr(hr:fn.results=[.cell ra true 8])(h7:fn.muts.elem 777777=true)(h8:fn.muts.elem 888888=false)(h:jn tk pl s H){a:aB}(hT:T ra=.lbox g [.int .i64 kd,.int .i64 nn,.str a,.str [],.str [],.aq,.aq,.aq]) :
  finish H.length fn ⟨T,aI tk pl s' (H++M),pl,gen⟩=some (.agg (aK (.mk kd nn a [] [] [] [] [])),some ⟨aI tk pl s' H,pl⟩) :=
 rB (tl:=0) hr h7 h8 h (K:=aI tk pl s' (H++M)) (gen:=gen) hT (.inl ⟨rfl,rfl⟩) (.inl (.inl ⟨rfl,rfl⟩)) (.inl (.inl ⟨rfl,rfl⟩)) (Al h.q.lt)
end
theorem KE(s:aB):fL s<=1099511627776:=by
 unfold fL
 grind
def U5{tk:List Tk}{least:Int}{s:PS}(h:0<=least):0<=(jR (az tk) least s).1/\(jR (az tk) least s).1<=1099511627776:=by
 unfold jR;cases e:decide (fL (pk (az tk) s)<least) with
 | true=>simp only[cond_true];omega
 | false =>
  simp only[cond_false];simp only[ave] at e;have:=KE (pk (az tk) s)
  omega
def acs{n:Nat}{tk:List Tk}{pl:Nat}{s s':PS}{H:ae}{t:Tm}(h:jn tk pl s H)(hn:n<=1000000)(he:qi (az tk) n (pE (az tk) n 0) s=some (t,s')) :
  aj (PA 2 n) 122 [.ref pl 0] H=some (.agg (aK t),some ⟨aI tk pl s' H,pl⟩):=by
 refine Cg (fn:=nW) rfl rfl rfl ?_;have ij:=h.q.lt;have rz:=fun (t:Nat) (os:List aS) (T:aD) (H:ae) (lo gen:Nat) (K:AS->Prop)=>Is (A:=PA 2 n) (t:=t) (os:=os) (T:=T) (H:=H) (lo:=lo) (gen:=gen) (K:=K) (cs:=ZT) rfl rfl
 have hG:=al' h amh;have BK:=OZ (k:=2) (n:=n) hG;have hnu:=fun H=>U7 (k:=2) (n:=n) (H:=H) (h.b.pkl s)
 have vM:=fun s' cs cs'=>ach (s':=s') (cs:=cs) (cs':=cs') h
 have JY:=fun s' cs=>aav (s':=s') (cs:=cs) h
 have OA:=fun (T:aD) (s' : PS) (M:ae) (kd nn:Int) (a:aB) (hT:T 2=.lbox 0 [.int .i64 kd,.int .i64 nn,.str a,.str [],.str [],.aq,.aq,.aq])=>Nr (fn:=nW) (ra:=2) (s':=s') (M:=M) (gen:=1) rfl rfl rfl h hT
 have J9:=fun (T:aD) (s' : PS) (M:ae) (t:Tm) (hT:T 2=.lbox 0 (aK t))=>vA (fn:=nW) (ra:=2) (s':=s') (M:=M) (gen:=1) rfl rfl rfl h hT
 have nN:decide (H.length<pl)=false:=dw;have hle:=h.le;unfold qi at he;have ex:dn nW H.length (.agg (aK t),some ⟨aI tk pl s' H,pl⟩)=dn nW H.length (.agg (aK t),some ⟨aI tk pl s' H,pl⟩):=rfl;generalize Qk:dn nW H.length (.agg (aK t),some ⟨aI tk pl s' H,pl⟩)=DN;have done:∀ st,finish H.length nW st=some (.agg (aK t),some ⟨aI tk pl s' H,pl⟩)->DN .ret st:=fun st h=>by rw[<- Qk];exact h
 cases e1:decide (0<=fL (pk (az tk) s)) with
 | true =>
  rw[e1,cond_true] at he;injection he with he
  injection he with lO iY
  have fh:=ae4 (k:=2) (n:=n) hG (least:=0) ah ah;generalize jR (az tk) 0 s=q at *;obtain⟨v,s1⟩:=q;subst lO iY;simp only at fh Qk done;unfold nW;simp(disch:=omega)only[aO,aa,simprocAttr,rz,BK,hnu,e1,fh,au];exact done _ (OA _ _ _ _ _ _ (tL))
 | false =>
 rw[e1,cond_false] at he;cases e2:(pk (az tk) s==[45]) with
 | true =>
  rw[e2,cond_true] at he;injection he with he
  injection he with lO iY
  have hi:=H5 (k:=2) (n:=n) hG ag e2;have lu:=lk (tk:=tk) (s:=s) (w:=[45]) ag e2;have fh:=ae4 (k:=2) (n:=n) (hG.to lu) (least:=1) ah ah;have hrg:=U5 (tk:=tk) (least:=1) (s:=s.up) ah;rw[fK] at fh;generalize jR (az tk) 1 s.up=q at *;obtain⟨v,s1⟩:=q;subst lO iY;simp only at fh Qk done hrg;have hv:(0:Int)-v=-v:=ah;unfold nW;simp(disch:=omega)only[aO,aa,simprocAttr,rz,BK,hnu,e1,hi,fh,hv,au];exact done _ (OA _ _ _ _ _ _ (tL))
 | false =>
 have i2:=H4 (k:=2) (n:=n) hG e2;rw[e2,cond_false] at he;cases e3:(pk (az tk) s==zA) with
 | true =>
  rw[e3,cond_true] at he;injection he with he
  injection he with lO iY
  subst lO iY;have hi:=H5 (k:=2) (n:=n) hG a8 e3;unfold zA at hi;unfold nW;simp(disch:=omega)only[aO,aa,simprocAttr,rz,BK,hnu,e1,i2,hi,au];exact done _ (OA _ _ _ _ _ _ (tL))
 | false =>
 have i3:=H4 (k:=2) (n:=n) hG e3;unfold zA at i3;rw[e3,cond_false] at he;cases e4:(pk (az tk) s==u6) with
 | true =>
  rw[e4,cond_true] at he;injection he with he
  injection he with lO iY
  subst lO iY;have hi:=H5 (k:=2) (n:=n) hG a8 e4;unfold u6 at hi;unfold nW;simp(disch:=omega)only[aO,aa,simprocAttr,rz,BK,hnu,e1,i2,i3,hi,au];exact done _ (OA _ _ _ _ _ _ (tL))
 | false =>
 have i4:=H4 (k:=2) (n:=n) hG e4;unfold u6 at i4;rw[e4,cond_false] at he;cases e5:(pk (az tk) s==[40]) with
 | true =>
  rw[e5,cond_true] at he;simp only[auP] at he;obtain⟨⟨t1,s1⟩,hx,he⟩:=he;injection he with lO iY
  have hi:=H5 (k:=2) (n:=n) hG ag e5;have lu:=lk (tk:=tk) (s:=s) (w:=[40]) ag e5;have hex:=Og (k:=2) hG hn lu hx;have l1:=(jY n 0 _ _ hx).le lu;have hw:=fun cs (hc:∀ x∈cs,∀ b,AV.bz b x=true)=>zf (k:=2) (n:=n) (RY h hc l1) (w:=[41]) ag
  have hwT:=hw (aK t1) amg;rw[fK] at hwT;simp only at iY lO;generalize aY (az tk) [41] s1=s2 at *;subst lO iY;rw[ai] at hex hwT;unfold nW;simp(disch:=omega)only[aO,aa,simprocAttr,rz,BK,hnu,e1,i2,i3,i4,hi,hex,hwT,JY,vM,bS,ab,au,nN];exact done _ (J9 _ _ _ _ (nx ai))
 | false =>
 have i5:=H4 (k:=2) (n:=n) hG e5;rw[e5,cond_false] at he;cases e6:(pk (az tk) s==ki) with
 | true =>
  rw[e6,cond_true] at he;simp only[auQ,auP] at he;obtain⟨⟨w,s1⟩,CN,⟨ks,s3⟩,hl,he⟩:=he;injection he with lO iY
  have hi:=H5 (k:=2) (n:=n) hG a8 e6;have lu:=lk (tk:=tk) (s:=s) (w:=ki) a8 e6;have IQ:=SU (k:=2) (n:=n) (hG.to lu) CN;rw[fK] at IQ;have l1:=(xr CN).le lu;simp only at hl l1;have hwn:=fun cs (hc:∀ x∈cs,∀ b,AV.bz b x=true)=>zf (k:=2) (n:=n) (RY h hc l1) (w:=[91]) ag
  have l2:=gA (tk:=tk) (w:=[91]) ag l1;have Ty:∀ x∈([.int .i64 11,.int .i64 0,.str [],.str [],.str w.name,.slice (aG w.kids) false]:List AV),∀ b,AV.bz b x=true:=by
   intro x hx b;simp only[avi,avE,awk] at hx
   rcases hx with rfl|rfl|rfl|rfl|rfl|rfl<;>rfl
  have hwT:=hwn ([.int .i64 11,.int .i64 0,.str [],.str [],.str w.name,.slice (aG w.kids) false,.aq,.aq]) (by
   intro x hx b;simp only[avi,avE,awk] at hx
   rcases hx with rfl|rfl|rfl|rfl|rfl|rfl|rfl|rfl<;>rfl)
  rw[fK] at hwT;have HI:=R0 (s1:=s) h l2 (c0:=[.int .i64 11,.int .i64 0,.str [],.str [],.str w.name,.slice (aG w.kids) false]) rfl Ty;obtain⟨K',hc,b,hJ⟩:=Ie (UD (n:=n) (tl:=H.length) (base:=H.length+1) hn) RZ (fin:=[93]) ag HI dw hl;simp only[avU,avM] at hc;obtain⟨⟨kc,nc,t1,t2,t3⟩,t6⟩:=hJ.t;obtain⟨d1,f1⟩:=t2.facts;obtain⟨d2,f2⟩:=t3.facts;simp only[avU,avM] at t1;have e:=hJ.take ij (Nat.le_refl _) ah;simp only at iY lO e t2;have nw:=fun T' (Fq:T' 2=.lbox 0 [.int .i64 11,.int .i64 0,.str [],.str [],.str w.name,.slice (aG w.kids) false,kc,nc])=>rB (fn:=nW) (ra:=2) (tl:=H.length) (gen:=1) rfl rfl rfl h (T:=T') Fq (.inr rfl) (.inl (lJ.base t2 ah)) (.inl (lJ.base t3 ah)) e
  generalize aY (az tk) [91] s1=s2 at *;subst lO iY;rw[iu] at IQ;unfold ki at hi;unfold nW;simp(disch:=omega)only[aO,aa,simprocAttr,rz,BK,hnu,e1,i2,i3,i4,i5,hi,IQ,hwT,hc,JY,vM,t1,d1,d2,f1,f2,jA,bS,ab,au,nN,aw8];exact done _ (nw _ (tL))
 | false =>
 have i6:=H4 (k:=2) (n:=n) hG e6;unfold ki at i6;rw[e6,cond_false] at he;cases e7:(pk (az tk) s==rV) with
 | true =>
  rw[e7,cond_true] at he;have hi:=H5 (k:=2) (n:=n) hG a8 e7;have lu:=lk (tk:=tk) (s:=s) (w:=rV) a8 e7;have hm:=YL (hG.to lu) hn he;rw[fK,ai] at hm;unfold rV at hi;unfold nW;simp(disch:=omega)only[aO,aa,simprocAttr,rz,BK,hnu,e1,i2,i3,i4,i5,i6,hi,hm,au];exact done _ (J9 _ _ _ _ (nx ai))
 | false =>
  have i7:=H4 (k:=2) (n:=n) hG e7;unfold rV at i7;rw[e7,cond_false] at he;have hm:=YV hG hn he;rw[ai] at hm;unfold nW;simp(disch:=omega)only[aO,aa,simprocAttr,rz,BK,hnu,e1,i2,i3,i4,i5,i6,i7,hm,au];exact done _ (J9 _ _ _ _ (nx ai))
end
def YH(w:aB)(H:ae):yP H true 1 false true [.s] [.int .i64 0,.int .i64 0] (.mn 1 false true mR) (.str w)=some (match Bo w with|some (o,l)=>.tuple [.agg [.int .i64 o,.int .i64 l],.bool true]|none=>.tuple [.agg [.int .i64 0,.int .i64 0],.bool false]):=by
 have ap:ue mR=true:=a8;have e:yP H true 1 false true [.s] [.int .i64 0,.int .i64 0] (.mn 1 false true mR) (.str w)=(dX [.s] [.str w] mR).map (pI true true [.int .i64 0,.int .i64 0] 1 mR):=by
  simp[yP,UA,AV.drop,AV.cells,AV.isAgg,ap,Ux]
 rw[e]
 by_cases h1:w=[37]
 ·subst h1;rfl
 by_cases h2:w=[42]
 ·subst h2;rfl
 by_cases h3:w=[43]
 ·subst h3;rfl
 by_cases h4:w=[45]
 ·subst h4;rfl
 by_cases h5:w=[47]
 ·subst h5;rfl
 by_cases h6:w=[60]
 ·subst h6;rfl
 by_cases h7:w=[61,61]
 ·subst h7;rfl
 by_cases h8:w=[97,110,100]
 ·subst h8;rfl
 by_cases h9:w=[106,111,105,110]
 ·subst h9;rfl
 by_cases h10:w=[111,114]
 ·subst h10;rfl
 have f:∀ {a b:aB},a≠b->(a==b)=false:=fun h=>cT h
 have o:Bo w=none:=by
  unfold Bo mR;simp only[List.find?_cons,List.find?_nil,f (awf h1),f (awf h2),f (awf h3),f (awf h4),f (awf h5),f (awf h6),f (awf h7),f (awf h8),f (awf h9),f (awf h10)];rfl
 rw[o];unfold mR;simp only[dX,cD,f h1,f h2,f h3,f h4,f h5,f h6,f h7,f h8,f h9,f h10,au2,avk,auW,cond_false,av6,pI,AU,cond_true,au9,avC,AV.drop]
def Bz{kz:Nat} : AV.drop (.mn kz ka va es)=.mn kz ka va es:=rfl
def Bw{s kz:Nat} : mB s (.mn kz ka va es)=.mn kz ka va es:=rfl
def U'{w:aB}{o l:Int}(h:Bo w=some (o,l)):w≠[]:=fun e=>by subst e;rw[KG] at h;cases h
theorem Sn{n:Nat}{tk:List Tk}{pl:Nat}{s:PS}{H:ae}(h:jn tk pl s H)(hn:n<=1000000)(h1:1<=lv)(h6:lv<=6)(qa:s1.i<=tk.length){t1:Tm}{r:Tm × PS}(hb:xV (az tk) (pE (az tk) n (lv+1)) lv n t1 s1=some r)
  {T0:aD} {g7 gen:Nat} (q0:T0 0=.ref pl 0) (q1:T0 1=.int .i64 lv) (q4:T0 4=.lbox 0 ZT) (q7:T0 7=.lbox g7 (aK t1)) :
  W (PA 2 n) (nA.body.sub [true,true,true]) ⟨T0,aI tk pl s1 H,pl,gen⟩ (dn nA H.length (.agg (aK r.1),some ⟨aI tk pl r.2 H,pl⟩)):=by
 have ij:=h.q.lt;have hl:=h.b.len;have hgl:(PA 2 n).aW 4=[.mn 1 false true mR]:=rfl;have nw:∀ (T:aD) (g gen:Nat),T 4=.lbox g (aK r.1)->finish H.length nA ⟨T,aI tk pl r.2 H,pl,gen⟩=some (.agg (aK r.1),some ⟨aI tk pl r.2 H,pl⟩):=fun T g gen hT=>by
  have:=vA (fn:=nA) (ra:=4) (s':=r.2) (M:=[]) (gen:=gen) rfl rfl rfl h hT
  grind
 generalize Qk:dn nA H.length (.agg (aK r.1),some ⟨aI tk pl r.2 H,pl⟩)=DN;have done:∀ st,finish H.length nA st=some (.agg (aK r.1),some ⟨aI tk pl r.2 H,pl⟩)->DN .ret st:=fun st h=>by rw[<- Qk];exact h
 unfold nA;simp only[aH.sub];refine (show W (PA 2 n) (.seq (.block 2 (.loop _)) (.seq (.region _) .ret)) _ DN from ?_)
 rw[FJ,Hj];refine oD 2 (fun k st=>∃ T t s2 g gen,st=⟨T,aI tk pl s2 H,pl,gen⟩/\T 0=.ref pl 0/\T 1=.int .i64 lv/\T 4=.lbox 0 ZT/\(∃ b1 b2 b3,T 7=.lbox g [.int .i64 t.kind,.int .i64 t.n,.str t.name,.str t.field,.str t.wn,.slice (aG t.wk) b1,.slice (aC t.kids) b2,.slice (strs t.names) b3])/\s2.i<=tk.length/\xV (az tk) (pE (az tk) n (lv+1)) lv k t s2=some r)
  (fun st=>∃ T g gen,st=⟨T,aI tk pl r.2 H,pl,gen⟩/\T 4=.lbox 0 ZT/\(∃ b1 b2 b3,T 7=.lbox g [.int .i64 r.1.kind,.int .i64 r.1.n,.str r.1.name,.str r.1.field,.str r.1.wn,.slice (aG r.1.wk) b1,.slice (aC r.1.kids) b2,.slice (strs r.1.names) b3])) (fun _=>False) ?_ ?_ (fun _ h=>h.elim) n _ ⟨T0,t1,s1,g7,gen,rfl,q0,q1,q4,⟨false,false,false,by rw[q7,ai]⟩,qa,hb⟩
 ·rintro k st ⟨T,t,s2,g,gen,rfl,q0,q1,q4,⟨b1,b2,b3,q7⟩,xe,hb⟩
  cases k with
  | zero=>cases hb
  | succ k =>
  have h0:=WV (s:=s2) h;have tQ:((lv:Int)+1)=((lv+1:Nat):Int):=ah;obtain⟨i2,bd⟩:=s2;simp only at h0 xe;unfold xV at hb;simp only at hb;cases bd with
  | true =>
   rw[cond_true] at hb;injection hb with hb
   subst hb;simp(disch:=omega)only[aO,aa,simprocAttr,q0,h0];exact⟨_,g,gen,rfl,nx q4,⟨b1,b2,b3,nx q7⟩⟩
  | false =>
   rw[cond_false] at hb;have BK:=OZ (k:=2) (n:=n) (s:=⟨i2,false⟩) (h.to (s':=⟨i2,false⟩) xe);have Wx:=fun H=>YH (pk (az tk) ⟨i2,false⟩) H
   cases ho:Bo (pk (az tk) ⟨i2,false⟩) with
   | none =>
    rw[ho] at hb Wx;injection hb with hb
    subst hb;simp only at Wx;simp(disch:=omega)only[aO,aa,simprocAttr,q0,Bz,Bw,h0,hgl,BK,Wx];exact⟨_,g,_,rfl,nx q4,⟨b1,b2,b3,nx q7⟩⟩
   | some x =>
    obtain⟨o,l⟩:=x;rw[ho] at hb Wx;simp only at hb Wx;have aZ:=tK (tk:=tk) (s:=⟨i2,false⟩) (U' ho);simp only at aZ;cases Fu:decide (l=(lv:Int)) with
    | false =>
     rw[Fu,cond_false] at hb;injection hb with hb
     subst hb;have dp:(l != (lv:Int))=true:=by simp only[ave] at Fu;simpa using Fu
     simp(disch:=omega)only[aO,aa,simprocAttr,q0,q1,Bz,Bw,h0,hgl,BK,Wx,dp];exact⟨_,g,_,rfl,nx q4,⟨b1,b2,b3,nx q7⟩⟩
    | true =>
     rw[Fu,cond_true] at hb;simp only[au1] at Fu;subst Fu;simp only[auQ] at hb;obtain⟨⟨t2,s3⟩,hx,hb⟩:=hb;simp only at hb;have MO:(PS.up ⟨i2,false⟩).i<=tk.length:=aZ;have Ox:=WY (k:=2) (h.to MO) hn (lv:=lv+1) ah ah hx;have l3:=(jY n _ _ _ hx).le MO;rw[fK,ai,<- tQ] at Ox;unfold PS.up at Ox;have qc:∀ i (b:Bool),(aI tk pl ⟨i2,false⟩ H).set pl (.box 74 [.slice (tk.map gL) false,.int .i64 ((i:Nat)+1),.bool b])=aI tk pl ⟨i+1,b⟩ H:=fun i b=>rI
     have dp:((lv:Int) != (lv:Int))=false:=ag;have h3:((lv:Int)==3)=decide ((lv:Int)=3):=rfl;cases h33:decide ((lv:Int)=3) with
     | true =>
      rw[h33,cond_true] at hb;injection hb with hb
      subst hb;rw[h33] at h3;simp(disch:=omega)only[aO,aa,simprocAttr,q0,q1,q7,Bz,Bw,h0,hgl,BK,Wx,dp,qc,Ox,h3,gv,au,ab];exact⟨_,g,_,rfl,nx q4,⟨_,_,_,by simp(disch:=omega)only[aO,aa,simprocAttr,ai,aC,aG,strs,Tm.kind,Tm.n,Tm.name,Tm.field,Tm.wn,Tm.wk,Tm.kids,Tm.names];rfl⟩⟩
     | false =>
      rw[h33,cond_false] at hb;rw[h33] at h3;simp(disch:=omega)only[aO,aa,simprocAttr,q0,q1,q7,Bz,Bw,h0,hgl,BK,Wx,dp,qc,Ox,h3,gv,au,ab];exact⟨k,ah,_,_,s3,g,_,rfl,nx q0,nx q1,nx q4,⟨_,_,_,by simp(disch:=omega)only[aO,aa,simprocAttr,ai,aC,aG,strs,Tm.kind,Tm.n,Tm.name,Tm.field,Tm.wn,Tm.wk,Tm.kids,Tm.names];rfl⟩,l3,hb⟩
 ·rintro st ⟨T,g,gen,rfl,q4,b1,b2,b3,q7⟩
  simp(disch:=omega)only[aO,aa,simprocAttr,q4,q7,ab,au];exact done _ (nw _ 0 _ (nx ai))
section
def afe{n:Nat}{s:PS}(h1:1<=lv)(h6:lv<=6):pE L (n+1) lv s=(pE L n (lv+1) s).bind fun r=>xV L (pE L n (lv+1)) lv n r.1 r.2:=by
 have h:lv=1\/lv=2\/lv=3\/lv=4\/lv=5\/lv=6:=ah
 rcases h with rfl|rfl|rfl|rfl|rfl|rfl<;>rfl
def aj5{n:Nat}{s:PS} : pE L (n+1) 7 s=bif pk L s==vU then (pE L n 7 s.up).map fun r=>(.mk 4 9 [] [] [] [] [r.1] [],r.2)
   else bif pk L s==xQ then (pE L n 7 s.up).map fun r=>(.mk 4 11 [] [] [] [] [r.1] [],r.2)
   else qi L n (pE L n 0) s:=rfl
def IJ:List (List AV):=[[.int .i64 9,.str [110,111,116]],[.int .i64 11,.str [108,101,110]]]
def acE{A:AP}{kz:Nat}{cur:List AV}{todo:List (List AV)}{H:ae}{t d:Nat}{r:List aS}(h:T t=.iter g kz ka va cur todo)
  (h1:todo=[]->WO A r ⟨T.put d (.tuple [.bool false]),H,lo,gen⟩ (Q .normal))
  (h2:∀ q rest,todo.Perm (q :: rest)->WO A r ⟨(T.put t (.iter g kz ka va q rest)).put d (.tuple [.bool true,qz ka (q.take kz),qz va (q.drop kz)]),H,lo,gen⟩ (Q .normal)) :
  D A (.region (⟨some d,none,.next (.tmp t)⟩ :: r)) ⟨T,H,lo,gen⟩ Q:=by
 have key:∀ s,WO A r s (Q .normal)->pW A.aW (aj A) r s (Q .normal):=fun s ⟨s',h1,h2⟩=>uY r s s' h1 h2
 exact⟨g,kz,ka,va,cur,todo,h,fun e=>key _ (h1 e),fun q rest hp=>key _ (h2 q rest hp)⟩
section
variable {n:Nat}{tk:List Tk}{pl:Nat}{s s' : PS}{H:ae}{t:Tm}
def WZ(h:jn tk pl s H)(hn:n<=1000000)(h1:1<=lv)(h6:lv<=6)(he:pE (az tk) (n+1) lv s=some (t,s')) :
  D (PA 2 n) nA.body ⟨fm [.ref pl 0,.int .i64 lv],H,H.length,0⟩ (dn nA H.length (.agg (aK t),some ⟨aI tk pl s' H,pl⟩)):=by
 rw[afe h1 h6] at he;simp only[auQ] at he;obtain⟨⟨t1,s1⟩,hx,hb⟩:=he;simp only at hb;have hl1:=(jY n _ _ _ hx).le h.le;have Ox:=WY (k:=2) h hn (lv:=lv+1) ah ah hx;have tQ:(((lv+1:Nat)):Int)=(lv:Int)+1:=ah;rw[tQ] at Ox;have h7:((lv:Int)==7)=false:=dw;have ij:=h.q.lt;have aba:=fun T0 g7 gen q0 q1 q4 q7=>Sn (r:=(t,s')) h hn h1 h6 hl1 hb (T0:=T0) (g7:=g7) (gen:=gen) q0 q1 q4 q7
 generalize hX:nA.body.sub [true,true,true]=X;rw[hX] at aba;refine (show D (PA 2 n) (.seq (.region _) (.seq (.seq (.region _) (.cond _ (nA.body.sub [true,false,true,false]) .skip)) (.seq (.region _) (nA.body.sub [true,true,true])))) _ _ from ?_)
 rw[hX];rw[fi,cr rfl];simp(disch:=omega)only[aO,aa,simprocAttr];rw[fi,fi,cr rfl];simp(disch:=omega)only[aO,aa,simprocAttr,h7,iP,sq];rw[fi,cr rfl];rw[ai] at Ox;simp(disch:=omega)only[aO,aa,simprocAttr,Ox,au];refine PH (aba _ 1 _ ?_ ?_ ?_ ?_)<;>exact nx ai
def Th(hr:fn.results=[.cell ra true 8]){s:AS}{base:Nat}(hT:s.T ra=.lbox g cs):finish base fn s=finish base fn (s.cy ra (.lbox g (cs.map AV.drop))):=by
 have dd:∀ v:AV,v.drop.drop=v.drop:=fun v=>by cases v<;>rfl
 have e:iO (s.cy ra (.lbox g (cs.map AV.drop))) (.cell ra true 8)=iO s (.cell ra true 8):=by
  have h2:(s.cy ra (.lbox g (cs.map AV.drop))).T ra=.lbox g (cs.map AV.drop):=by
   show cond (Nat.beq ra ra) _ _=_
   rw[awF];rfl
  simp only[iO,h2,hT,ab,cond_true,List.length_map,List.drop_zero,<- axG,avT]
  congr 3
  refine List.map_congr_left fun x _=>dd x
 have er:ow (s.cy ra (.lbox g (cs.map AV.drop))) (.cell ra true 8)=ow s (.cell ra true 8):=rfl;have eo:ku base (s.cy ra (.lbox g (cs.map AV.drop)))=ku base s:=rfl;unfold finish mc qp oE sD iI qA sG BB wY;rw[hr,eo];simp only[my,qL,vG,lN,e,er];rfl
theorem W2(h:jn tk pl s H)(hn:n<=1000000)(he:pE (az tk) (n+1) 7 s=some (t,s')) :
  D (PA 2 n) nA.body ⟨fm [.ref pl 0,.int .i64 (7:Nat)],H,H.length,0⟩ (dn nA H.length (.agg (aK t),some ⟨aI tk pl s' H,pl⟩)):=by
 rw[aj5] at he;have ij:=h.q.lt;have nw:∀ (T:aD) (g gen:Nat) (s1:PS) (t1:Tm) (b1 b2 b3:Bool) (M:ae),T 4=.lbox g [.int .i64 t1.kind,.int .i64 t1.n,.str t1.name,.str t1.field,.str t1.wn,.slice (aG t1.wk) b1,.slice (aC t1.kids) b2,.slice (strs t1.names) b3] ->
   finish H.length nA ⟨T,aI tk pl s1 (H++M),pl,gen⟩=some (.agg (aK t1),some ⟨aI tk pl s1 H,pl⟩):=by
  intro T g gen s1 t1 b1 b2 b3 M hT;rw[Th (ra:=4) rfl hT];refine vA (fn:=nA) (ra:=4) (s':=s1) (M:=M) (gen:=gen) (g:=g) rfl rfl rfl h ?_;rw[ai];rfl
 generalize Qk:dn nA H.length (.agg (aK t),some ⟨aI tk pl s' H,pl⟩)=DN;have done:∀ st,finish H.length nA st=some (.agg (aK t),some ⟨aI tk pl s' H,pl⟩)->DN .ret st:=fun st h=>by rw[<- Qk];exact h
 have hGl:pl<(H++[bM.iW 1 false false IJ]).length:=dw;have hG:jn tk pl s (H++[.iW 1 false false IJ]):=⟨h.q.push fun cs e=>(by cases e),by rw[au3 ij];exact h.at',h.b,h.le⟩
 have D5:∀ x:bM,(H++[x])[H.length]?=some x:=fun x=>Ov
 have qa:∀ x y:bM,(H++[x]).set H.length y=H++[y]:=fun x y=>abV
 have fe9:dX [.i] [.int .i64 9] []=some none:=rfl;have Tg:dX [.i] [.int .i64 11] [[.int .i64 9,.str [110,111,116]]]=some none:=rfl;have R1:∀ (k:IntKind) (n:Int),(AV.int k n).isAgg=false:=fun _ _=>rfl
 have R2:∀ (s:List UInt8),(AV.str s).isAgg=false:=fun _=>rfl
 have ahG:(false==false)=true:=rfl;have rJ:∀ (es:List (List AV)) (r:List AV),vR es none r=es++[r]:=fun _ _=>rfl
 have tP:decide (H.length<H.length)=false:=ag;have fg:dZ IJ=true:=rfl;refine (show D (PA 2 n) (.seq (.region _) (.seq (.seq (.region _) (.cond _ (.seq (.seq (.region _) (.block 0 (.loop (.seq (.region _) (.seq (.cond _ .skip (.exit 0)) (.block 1 (.seq (.region _) (.seq (.region _) (.cond _ (.seq (.region _) .ret) .skip))))))))) (.seq (.region _) .ret)) .skip)) (nA.body.sub [true,true]))) _ DN from ?_)
 generalize nA.body.sub [true,true]=X;rw[fi,cr rfl];simp(disch:=omega)only[aO,aa,simprocAttr];rw[fi,fi,cr rfl];simp(disch:=omega)only[aO,aa,simprocAttr,iP];rw[fi,fi,cr rfl];simp(disch:=omega)only[nK,cY,cb,ct,cm,gC,aP,aQ,br,aE.eval,AS.bW,↓reduceIte,Nat.reduceEqDiff,Option.isSome,Option.isNone,cond_true,cond_false,Nat.reduceBEq,Nat.reduceAdd,Nat.reduceMul,aa,cn,avs,reduceCtorEq,gr,cZ,cd,bD,bound,dc,AS.bC,aN,bI,bu,Nat.reduceLeDiff,cq,putAt,Int.reduceEq,Int.reduceLT,Int.reduceLE,Int.reduceBEq,Int.reduceBNe,Int.reduceAdd,Int.reduceNeg,Int.reduceSub,Int.reduceMul,dQ,dP,dO,dN,dM,dL,dS,dR,au,bA,au5,au7,sx,D5,qa,fe9,Tg,R1,R2,rJ,tP,Bool.and_self,cond_true];have hr:∀ (T:aD) (K:AS->Prop),T 13=.mref H.length->WO (PA 2 n) [⟨some 14,none,.rng 1 false false (.tmp 13)⟩] ⟨T,H++[.map 1 false false IJ],H.length,1⟩ K=K ⟨T.put 14 (.iter 1 1 false false [] IJ),H++[.iW 1 false false IJ],H.length,2⟩:=fun T K h=>by
  rw[gl];have w5:Nat.blt H.length H.length=false:=by
   cases hb:Nat.blt H.length H.length with
   | true=>have:=avS hb;omega
   | false=>rfl
  have:aP (PA 2 n).aW (aj (PA 2 n)) ⟨T,H++[.map 1 false false IJ],H.length,1⟩ ⟨some 14,none,.rng 1 false false (.tmp 13)⟩=some ⟨T.put 14 (.iter 1 1 false false [] IJ),H++[.iW 1 false false IJ],H.length,2⟩:=by
   simp only[aP,aQ,aE.addr,h,D5,awF,beq_self_eq_true,fg,Bool.and_self,cond_true,auW,avk,cond_false,AS.bW,AS.cy,AS.iF,qa,w5]
  rw[this,aU,Hi]
 refine (show WO (PA 2 n) [⟨some 14,none,.rng 1 false false (.tmp 13)⟩] ⟨_,H++[.map 1 false false IJ],H.length,1⟩ _ from ?_)
 rw[hr _ _ (tL)];simp(disch:=omega)only[aO,aa,simprocAttr];rw[Hu];have gb:=fun (t1:Tm) (s1:PS) (hx:qi (az tk) n (pE (az tk) n 0) s=some (t1,s1))=>acs hG hn hx
 have nN:decide (H.length<pl)=false:=dw;refine⟨_,Pg (fun k st=>∃ T cur todo gen,st=⟨T,H++[.iW 1 false false IJ],H.length,gen⟩/\T 0=.ref pl 0/\T 4=.lbox 0 ZT/\T 14=.iter 1 1 false false cur todo/\todo.length=k/\(∀ q∈todo,q∈IJ) /\
   ∀ q∈IJ,q∈todo\/∀ i w,q=[.int .i64 i,.str w]->(pk (az tk) s==w)=false) ?_ 2 _ ⟨_,[],IJ,2,rfl,tL,tL,tL,rfl,fun q h=>h,fun q h=>.inl h⟩⟩
 rintro k st ⟨T,cur,todo,gen,rfl,q0,q4,q14,hk,XS,fq⟩
 refine (show D (PA 2 n) (.seq (.region _) _) _ _ from ?_)
 rw[fi];refine acE q14 ?_ ?_
 ·intro e
  subst e;have mH:(pk (az tk) s==vU)=false:=((fq [.int .i64 9,.str [110,111,116]] (by simp[IJ])).resolve_left ag) 9 _ rfl
  have hle:(pk (az tk) s==xQ)=false:=((fq [.int .i64 11,.str [108,101,110]] (by simp[IJ])).resolve_left ag) 11 _ rfl
  rw[mH,hle,cond_false,cond_false] at he;have hm:=gb _ _ he;rw[ai] at hm;simp(disch:=omega)only[aO,aa,simprocAttr];rw[fi];simp(disch:=omega)only[aO,aa,simprocAttr,iP,acC];rw[fi,cr rfl];simp(disch:=omega)only[aO,aa,simprocAttr,q0,q4,hm,au,aaK];exact done _ (nw _ 0 _ _ t false false false _ (tL))
 ·intro q rest hp
  have hq:q∈IJ:=XS _ (hp.mem_iff.2 (List.mem_cons_self));obtain⟨i,w,rfl,hw,hi⟩:∃ i w,q=[.int .i64 i,.str w]/\w≠[]/\(w=vU/\i=9\/w=xQ/\i=11):=by
   simp only[IJ,avi,avE,awk] at hq
   rcases hq with rfl|rfl
   ·exact⟨9,vU,rfl,a8,.inl ⟨rfl,rfl⟩⟩
   ·exact⟨11,xQ,rfl,a8,.inr ⟨rfl,rfl⟩⟩
  have XP:∀ (T:aD) (H:ae) (lo gen t u:Nat) (os:List aS) (K:AS->Prop),T u=.iter 1 1 false false [AV.int .i64 i,AV.str w] rest->WO (PA 2 n) (⟨some t,none,.ent (.tmp u)⟩ :: os) ⟨T,H,lo,gen⟩ K=jB (PA 2 n) (some (.tuple [.int .i64 i,.str w])) t os T H lo gen K:=fun T H lo gen t u os K h=>gU (by simp only[aQ,h];rfl)
  have aii:∀ (t:Nat) (os:List aS) (T0:aD) (v0 v1 v2:AV) (K:AS->Prop) (lo gen:Nat) (H:ae),WO (PA 2 n) (⟨some t,none,.ent (.tmp 14)⟩ :: os) ⟨((T0.put 14 (.iter 1 1 false false [AV.int .i64 i,AV.str w] rest)).put 15 v1).put 16 v2,H,lo,gen⟩ K=jB (PA 2 n) (some (.tuple [.int .i64 i,.str w])) t os (((T0.put 14 (.iter 1 1 false false [AV.int .i64 i,AV.str w] rest)).put 15 v1).put 16 v2) H lo gen K:=fun t os T0 v0 v1 v2 K lo gen H=>XP _ _ _ _ _ _ _ _ rfl
  simp(disch:=omega)only[aO,aa,simprocAttr];rw[fi];simp(disch:=omega)only[aO,aa,simprocAttr,iP,sq];rw[Hu,fi,cr rfl];simp only[aii _ _ _ .undef];simp(disch:=omega)only[aO,aa,simprocAttr];rw[fi,cr rfl];cases e:(pk (az tk) s==w) with
  | true =>
   have RI:=H5 (k:=2) (n:=n) hG hw e;have lu:=lk (tk:=tk) (s:=s) hw e;have e':=avB.1 e;obtain⟨t1,hx,rfl⟩:∃ t1,pE (az tk) n 7 s.up=some (t1,s')/\t=.mk 4 i [] [] [] [] [t1] []:=by
    rcases hi with ⟨rfl,rfl⟩|⟨rfl,rfl⟩
    ·rw[e,cond_true] at he
     simp only[auP] at he
     grind
    ·have en:(pk (az tk) s==vU)=false:=by rw[e'];rfl
     rw[en,e,cond_false,cond_true] at he;simp only[auP] at he
     grind
   have Ox:=WY (k:=2) (hG.to lu) hn (lv:=7) ah ah hx;rw[fK,ai] at Ox;have adg:aj (PA 2 n) 96 [.ref pl 0,.int .i64 7] (aI tk pl s.up (H++[.iW 1 false false IJ]))=_:=Ox;simp(disch:=omega)only[aO,aa,simprocAttr,q0,RI,iP];rw[fi,cr rfl];simp(disch:=omega)only[aO,aa,simprocAttr,q0,q4,adg,au,aaK];refine done _ (nw _ 0 _ _ (.mk 4 i [] [] [] [] [t1] []) true false true _ ?_);simp(disch:=omega)only[aO,aa,simprocAttr,ai,aC,aG,strs,Tm.kind,Tm.n,Tm.name,Tm.field,Tm.wn,Tm.wk,Tm.kids,Tm.names]
  | false =>
   have RI:=H4 (k:=2) (n:=n) hG e;simp(disch:=omega)only[aO,aa,simprocAttr,q0,RI,iP,sq];have hl:=hp.length_eq;rw[List.length_cons] at hl;refine⟨rest.length,ah,_,[AV.int .i64 i,.str w],rest,_,rfl,nx q0,nx q4,tL,rfl,fun q hq=>XS q (hp.mem_iff.2 (av3 _ hq)),fun q hq=>?_⟩
   grind
end
end
section
def aaw:aH:=mQ.body.sub [true,true,true,false,false,true,false,true,false]
def aax:aH:=mQ.body.sub [true,true,true,false,false,true,true,true,true,true,false,true,false,true,true,false]
def aay:aH:=mQ.body.sub [true,true,true,false,false,true,true,true,true,true,false,true,true,true,true,true,true,false]
def lt5{P:Nat->Prop}(h0:P 0)(h1:P 1)(h2:P 2)(h3:P 3)(h4:P 4):∀ t,t<5->P t
 | 0,_=>h0|1,_=>h1|2,_=>h2|3,_=>h3|4,_=>h4
section
variable {n:Nat}{tk:List Tk}{pl pv tl:Nat}{s s' : PS}{H:ae}{t:Tm}{nm:aB}
def ajy(aZ:pl<tl)(hle:pl<H.length)(tQ:pl<pv/\pv<tl)(hv:H[pv]?=some (.box 72 [.ref pl 0]))(kB:aj (PA 2 n) 59 [.ref pl 0] H=some (.agg (aK t),some ⟨aI tk pl s' H,pl⟩))
  {kc:AV} {m:Nat} {es:List AV} {Hd:ae} {cs:List AV} (hA:qO (aI tk pl s' H) tl 6 8 kc m es Hd cs) {T0:aD} {g:Nat} (CI:T0 1=.ref pv 0) (hT3:T0 3=.ref tl 0) {Q:bJ->AS->Prop}
  (hQ:∀ T,(∀ t,t<5->T t=T0 t)->Q .normal ⟨T,(rX Hd es (aK t)).set tl (.bV (cs.set 6 (.sref H.length 0 (m+1) 8))),pl,g⟩) :
  D (PA 2 n) aaw ⟨T0,H,pl,g⟩ Q:=by
 have pj:H[tl]?=some (.bV cs):=by have:=hA.obj;rwa [dV ah] at this
 have oT:(aI tk pl s' H).length=H.length:=bF;have TY:=hv;have uy:=fun (T:aD) (o:Bool) (os:List aS) (K:AS->Prop)=>hA.ao (A:=PA 2 n) (row:=nr) (o:=o) (bytes:=136) (d:=18) (os:=os) (T:=T) (lo:=pl) (gen:=g) (K:=K) ah ah rfl rfl
 rw[oT] at uy;have h7:decide (7<=cs.length)=true:=by have:=hA.cl;simp;omega
 have mO:=fun v=>hA.tk (v:=v)
 have IX:decide (tl<pl)=false:=dw;have ME:decide (pl<pl)=false:=ag;have TN:decide (H.length<pl)=false:=dw;have asm:asNat (.int .i64 (m:Int))=some m:=by rw[bA ah];rfl
 have CP:decide (m<m+1)=true:=ag;have hn:=fun row o=>hA.n (row:=row) (o:=o)
 have hn0:=fun row=>hA.n0 (row:=row)
 have qc:=fun o=>hA.set (row:=nr) (row':=aK t) (o:=o)
 have Kf:=hA.akF (row:=nr) (row':=aK t);rw[oT] at hn hn0 qc Kf;have Ke:=hA.put (row:=nr) (row':=aK t) rfl ja;have Bk:List.take (m*8) (es++nr)++aK t++List.drop (m*8+8) (es++nr)=es++aK t:=by
  have:=Ke;unfold putAt at this;rwa [ja] at this
 have CN:(es++nr).length=(m+1)*8:=by rw[List.length_append,hA.el];simp[nr];omega
 have h88:decide (m*8+8<=(m+1)*8)=true:=dw;have fq:(aK t).all (aX H.length)=true:=by rw[ai];rfl
 unfold aaw mQ;simp only[aH.sub];refine aaJ 7 [] rfl (by conv=>lhs;cbv) rfl (by conv=>lhs;cbv) ?_
 simp(disch:=omega)only[nK,cY,cb,ct,cm,gC,aP,aQ,br,aE.eval,AS.bW,↓reduceIte,Nat.reduceEqDiff,Option.isSome,Option.isNone,cond_true,cond_false,Nat.reduceBEq,Nat.reduceAdd,Nat.reduceMul,aa,cn,avs,reduceCtorEq,gr,cZ,cd,bD,bound,dc,AS.bC,aN,bI,bu,Nat.reduceLeDiff,cq,putAt,Int.reduceEq,Int.reduceLT,Int.reduceLE,Int.reduceBEq,Int.reduceBNe,Int.reduceAdd,Int.reduceNeg,Int.reduceSub,Int.reduceMul,dQ,dP,dO,dN,dM,dL,dS,dR,au,bA,au5,au7,Fa,hT3,CI,hA.obj,pj,hA.bc,hA.hc,TY,kB,ME,hA.adr,hA.lv,uy,asm,CP,ja,hn,hn0,CN,h88,fq,Bk,qc,Kf,TN,hA.t,h7,mO,IX,Wp,Wn,NV,IP,Wo]
 and_intros<;>exact hQ _ (lt5 rfl rfl rfl rfl rfl)
def ae1(aZ:pl<tl)(hle:pl<H.length)(tQ:pl<pv/\pv<tl)(hv:H[pv]?=some (.box 72 [.ref pl 0]))(kB:aj (PA 2 n) 25 [.ref pl 0] H=some (.str nm,some ⟨aI tk pl s' H,pl⟩))
  {kc:AV} {m:Nat} {es:List AV} {Hd:ae} {cs:List AV} (hA:qO (aI tk pl s' H) tl 7 1 kc m es Hd cs) {T0:aD} {g:Nat} (CI:T0 1=.ref pv 0) (hT3:T0 3=.ref tl 0) {Q:bJ->AS->Prop}
  (hQ:∀ T,(∀ t,t<5->T t=T0 t)->Q .normal ⟨T,(rX Hd es [.str nm]).set tl (.bV (cs.set 7 (.sref H.length 0 (m+1) 1))),pl,g⟩) :
  D (PA 2 n) aax ⟨T0,H,pl,g⟩ Q:=by
 have pj:H[tl]?=some (.bV cs):=by have:=hA.obj;rwa [dV ah] at this
 have oT:(aI tk pl s' H).length=H.length:=bF;have TY:=hv;have uy:=fun (T:aD) (o:Bool) (os:List aS) (K:AS->Prop)=>hA.ao (A:=PA 2 n) (row:=[.str nm]) (o:=o) (bytes:=16) (d:=57) (os:=os) (T:=T) (lo:=pl) (gen:=g) (K:=K) ah ah rfl rfl
 rw[oT] at uy;have h7:decide (8<=cs.length)=true:=by have:=hA.cl;simp;omega
 have mO:=fun v=>hA.tk (v:=v)
 have IX:decide (tl<pl)=false:=dw;have ME:decide (pl<pl)=false:=ag;unfold aax mQ;simp only[aH.sub];refine PH ?_;simp(disch:=omega)only[nK,cY,cb,ct,cm,gC,aP,aQ,br,aE.eval,AS.bW,↓reduceIte,Nat.reduceEqDiff,Option.isSome,Option.isNone,cond_true,cond_false,Nat.reduceBEq,Nat.reduceAdd,Nat.reduceMul,aa,cn,avs,reduceCtorEq,gr,cZ,cd,bD,bound,dc,AS.bC,aN,bI,bu,Nat.reduceLeDiff,cq,putAt,Int.reduceEq,Int.reduceLT,Int.reduceLE,Int.reduceBEq,Int.reduceBNe,Int.reduceAdd,Int.reduceNeg,Int.reduceSub,Int.reduceMul,dQ,dP,dO,dN,dM,dL,dS,dR,au,bA,au5,au7,hT3,CI,hA.obj,pj,hA.bc,hA.hc,TY,kB,ME,hA.adr,hA.lv,uy,hA.t,h7,mO,IX];exact hQ _ (lt5 rfl rfl rfl rfl rfl)
def af3{l:Nat}{a b c:Tm}(aZ:pl<tl)(qq:tl<l)(pj:H[tl]?=some (.bV cs))(hc6:cs[6]?=some (.sref l 0 3 8))(Qn:H[l]?=some (.box bE (aK a++(aK b++aK c)))){T0:aD}(hT3:T0 3=.ref tl 0)
  (hQ:∀ T,(∀ t,t<5->T t=T0 t)->Q .normal ⟨T,H.set l (.box bE (aK b++(aK a++aK c))),pl,g⟩) :
  D (PA 2 n) aay ⟨T0,H,pl,g⟩ Q:=by
 have oT:=(auU.1 Qn).1;have anL:(H.set l (.box bE (aK b++(aK b++aK c))))[tl]?=some (.bV cs):=by rw[List.getElem?_set_ne ah];exact pj
 have hbt:bS (some (.bV cs)) false 1 6=some (.sref l 0 3 8):=by simp only[bS,ab,cond_false,hc6,au2,AV.drop]
 have h03:decide (0<3)=true:=rfl;have h13:decide (1<3)=true:=rfl;have ta:=ja (t:=a);have tb:=ja (t:=b);have tc:=ja (t:=c);have dT:∀ t:Tm,(aK t).map AV.drop=aK t:=fun t=>by rw[ai];rfl
 have CL:bS (some (.box bE (aK a++(aK b++aK c)))) true 8 8=some (.agg (aK b)):=by
  have h24:Nat.ble (8+8) (aK a++(aK b++aK c)).length=true:=by simp[ta,tb,tc]
  simp only[bS,ab,cond_true,h24];rw[awm ta,awn tb,dT]
 have hb0:bS (some (.box bE (aK a++(aK b++aK c)))) true 8 0=some (.agg (aK a)):=by
  have h24:Nat.ble (0+8) (aK a++(aK b++aK c)).length=true:=by simp[ta,tb,tc]
  simp only[bS,ab,cond_true,h24];rw[List.drop_zero,awn ta,dT]
 have ah9:(H.set l (.box bE (aK b++(aK b++aK c))))[l]?=some (.box bE (aK b++(aK b++aK c))):=List.getElem?_set_self oT;have h24:∀ x:Tm,(aK x++(aK b++aK c)).length=24:=fun x=>by simp[ja]
 have fq:∀ x:Tm,(aK x).all (aX l)=true:=fun x=>by rw[ai];rfl
 have Lx:List.take 0 (aK a++(aK b++aK c))++aK b++List.drop 8 (aK a++(aK b++aK c))=aK b++(aK b++aK c):=by
  rw[awm ta];rfl
 have D5:List.take 8 (aK b++(aK b++aK c))++aK a++List.drop 16 (aK b++(aK b++aK c))=aK b++(aK a++aK c):=by
  rw[awn tb,show (16:Nat)=8+8 from rfl,<- av',awm tb,awm tb,au8]
 have IX:decide (l<pl)=false:=dw;have hd0:List.drop 8 (aK a++(aK b++aK c))=aK b++aK c:=awm ta;unfold aay mQ;simp only[aH.sub];refine PH ?_;simp(disch:=omega)only[nK,cY,cb,ct,cm,gC,aP,aQ,br,aE.eval,AS.bW,↓reduceIte,Nat.reduceEqDiff,Option.isSome,Option.isNone,cond_true,cond_false,Nat.reduceBEq,Nat.reduceAdd,Nat.reduceMul,aa,cn,avs,reduceCtorEq,gr,cZ,cd,bD,bound,dc,AS.bC,aN,bI,bu,Nat.reduceLeDiff,cq,putAt,Int.reduceEq,Int.reduceLT,Int.reduceLE,Int.reduceBEq,Int.reduceBNe,Int.reduceAdd,Int.reduceNeg,Int.reduceSub,Int.reduceMul,dQ,dP,dO,dN,dM,dL,dS,dR,au,bA,au5,au7,hT3,pj,hbt,anL,h13,Qn,CL,h03,hb0,ja,h24,fq,hd0,Lx,IX,ah9,D5,List.set_set];exact hQ _ (lt5 rfl rfl rfl rfl rfl)
end
end
section
abbrev c0E(k:Int):List AV:=[.int .i64 k,.int .i64 0,.str [],.str [],.str [],.aq]
def eH(pl:Nat)(H:ae)(k:Int):ae:=H++[.box 72 [.ref pl 0],.bV [.int .i64 k,.int .i64 0,.str [],.str [],.str [],.aq,.aq,.aq]]
section
variable {n:Nat}{tk:List Tk}{pl:Nat}{s s' : PS}{H:ae}{k:Int}
def aaL(h:jn tk pl s H):jn tk pl s (eH pl H k):=by
 have ij:=h.q.lt;unfold eH;refine⟨?_,by rw[au3 ij];exact h.at',h.b,h.le⟩
 rw[<- tz];refine (h.q.box).push fun cs hc=>?_
 cases hc;rfl
def mW:(aI tk pl s' (eH pl H k)).length=H.length+2:=by rw[bF];unfold eH;rw[UK]
def ahC(h:jn tk pl s H):(aI tk pl s' (eH pl H k))[H.length]?=some (.box 72 [.ref pl 0]):=by
 rw[j4 h.q.lt];unfold eH;rw[List.getElem?_append_right (Nat.le_refl _)];simp
def aaM(h:jn tk pl s H):(aI tk pl s' (eH pl H k))[H.length+1]?=some (.bV [.int .i64 k,.int .i64 0,.str [],.str [],.str [],.aq,.aq,.aq]):=by
 have:=h.q.lt
 rw[j4 ah];unfold eH;rw[List.getElem?_append_right ah];simp
def acL(h:jn tk pl s H) : (aI tk pl s' (eH pl H k)).set (H.length+1) (.bV [.int .i64 k',.int .i64 0,.str [],.str [],.str [],.aq,.aq,.aq])=aI tk pl s' (eH pl H k'):=by
 have:=h.q.lt
 rw[pO ah];unfold eH;rw[List.set_append_right _ _ ah];simp
def Cq(h:jn tk pl s H)(hl:s'.i<=tk.length):JT tk pl (H.length+2) (H.length+1) (c0E k) (aI tk pl s1 (eH pl H k)) false [] [] s' (aI tk pl s' (eH pl H k)):=by
 have ij:=h.q.lt;refine⟨(aaL h).to hl,⟨⟨.aq,.aq,aaM h,.inl ⟨rfl,rfl⟩,.inl ⟨rfl,rfl⟩⟩,rfl⟩,ah,ah,by rw[mW];exact Nat.le_refl _,(fun h=>absurd h ag),fun j h1 h2 h3=>by rw[dV (fun e=>h3 e.symm),dV (fun e=>h3 e.symm)]⟩
def JT.oI{base tl pv:Nat}{ns:List aB}{w:aB}{r:List Tm × PS}(hJ:JT tk pl base tl c0 K0 b ns ks s K)(hn:n<=1000000)(hw:w≠[])(hv:K0[pv]?=some (.box 72 [.ref pl 0]))(h1:pl<pv)(h2:pv<tl)
  (gG:ks.length<=1000) (he:Go.Proofs.YtnhpoddlmjpapaaGreatDoor.oI (az tk) (pE (az tk) n 0) w ks s=some r) :
  ∃ K',aj (PA 2 n) 95 [.str w,.ref pv 0,.ref tl 0] K=some (.tuple [],some ⟨K',pl⟩)/\(∃ b',JT tk pl base tl c0 K0 b' ns r.1 r.2 K')/\r.1.length<=ks.length+1/\(r.2.bad=false->r.1.length=ks.length+1):=by
 have htb:=hJ.tb;have oG:K[pv]?=some (.box 72 [.ref pl 0]):=by rw[hJ.old pv ah ah ah];exact hv
 unfold Go.Proofs.YtnhpoddlmjpapaaGreatDoor.oI at he;cases e:(aY (az tk) w s).bad with
 | true =>
  rw[e,cond_true] at he;injection he with he
  subst he;refine⟨_,S7 (k:=2) ah (zx.no (tl:=tl) hJ.p hn oG h1 h2 hw e),⟨b,hJ.set (gA hw hJ.p.le)⟩,ag,fun h=>?_⟩
  rw[e] at h;cases h
 | false =>
  rw[e,cond_false] at he;unfold uJ at he;simp only[auP] at he;obtain⟨⟨t,s2⟩,hx,rfl⟩:=he;obtain⟨K',ha,hJ'⟩:=(hJ.set (s':=aY (az tk) w s) (gA hw hJ.p.le)).kid hn ah hx;rw[fK] at ha;refine⟨K',S7 (k:=2) ah (zx.mk (tl:=tl) hJ.p hn oG h1 h2 hw e hx ha),⟨true,hJ'⟩,ag,fun _=>ag⟩
def JT.swap{base tl:Nat}{ns:List aB}(hJ:JT tk pl base tl c0 K0 b ns ks s K)(h3:ks.length=3)(h6:c0.length=6) :
  ∃ l x y z cs,ks=[x,y,z]/\tl<l/\K[tl]?=some (.bV cs)/\cs[6]?=some (.sref l 0 3 8)/\K[l]?=some (.box bE (aK x++(aK y++aK z)))/\JT tk pl base tl c0 K0 b ns [y,x,z] s (K.set l (.box bE (aK y++(aK x++aK z)))):=by
 obtain⟨x,y,z,rfl⟩:∃ x y z,ks=[x,y,z]:=by
  match ks,h3 with
  | [x,y,z],_=>exact⟨x,y,z,rfl⟩
 obtain⟨⟨kc,nc,t1,t2,t3⟩,t6⟩:=hJ.t
 rcases t2 with ⟨_,h⟩|⟨l,rfl,q1,q2,q3,q4⟩
 ·cases h
 ·have w9:(aC [x,y,z]).flatten=aK x++(aK y++aK z):=by simp[aC]
  have XQ:(aC [y,x,z]).flatten=aK y++(aK x++aK z):=by simp[aC]
  have hl3:(aC [x,y,z]).length=3:=by simp[aC]
  rw[w9] at q3;rw[hl3] at t1;have oT:=(auU.1 q3).1;have aZ:=hJ.lt;have htb:=hJ.tb;have hbk:=hJ.bk;refine⟨l,x,y,z,_,rfl,q1,t1,by rw[List.getElem?_append_right ah,h6];rfl,q3,⟨?_,?_,hJ.lt,hJ.tb,by rw[List.length_set];exact hJ.bk,fun _=>ag,fun j a1 a2 a3=>by rw[List.getElem?_set_ne ah];exact hJ.old j a1 a2 a3⟩⟩
  ·refine⟨⟨by rw[List.length_set];exact hJ.p.q.lt,fun j cs hj hc=>?_⟩,by rw[List.getElem?_set_ne ah];exact hJ.p.at',hJ.p.b,hJ.p.le⟩
   rw[List.length_set]
   by_cases e:l=j
   ·subst e;rw[List.getElem?_set_self oT] at hc;cases hc
   ·rw[List.getElem?_set_ne e] at hc;exact hJ.p.q.ob j cs hj hc
  ·refine⟨⟨_,nc,by rw[List.getElem?_set_ne ah];exact t1,.inr ⟨l,rfl,q1,q2,by rw[List.getElem?_set_self oT,XQ],by simp[aC]⟩,t3.zY fun l' n' hv=>?_⟩,t6⟩
   subst hv;refine List.getElem?_set_ne fun e=>?_
   subst e;exact LV (ks:=[x,y,z]) (m:=3) (.inr ⟨l,by rw[hl3],q1,q2,by rw[w9];exact q3,q4⟩) t3
end
end
end Go.Proofs.YtnhpoddlmjpapaaGreatDoor
end
