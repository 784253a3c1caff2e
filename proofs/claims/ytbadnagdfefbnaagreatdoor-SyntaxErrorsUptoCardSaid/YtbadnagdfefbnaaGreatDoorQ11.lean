/-
  A part of the proof of SyntaxErrors: U47, U48, U49, U50, U51, U52, UQ16, UQ17, UQ18, UQ19, UQ20, UQ21, UQ22, UQ23.
-/
import Derived.Test.YtbadnagdfefbnaaGreatDoorQ10
set_option linter.unusedSimpArgs false
set_option linter.unusedVariables false
set_option linter.defProp false
set_option maxHeartbeats 4000000
set_option maxRecDepth 100000
noncomputable section
namespace Go.Proofs.YtbadnagdfefbnaaGreatDoor
open Go Go.Abs Go.Proofs
variable {v:AV}{b:Bool}{k' kd nn:Int}{c0 cs:List AV}{ks:List Tm}{L:List ay}{g gen i j lo lv mm ra:Nat}{tb:Nat->List ay}{α:Type}{fn:aB}{T:aD}{K K0 M:ae}{Q:bH->AS->Prop}
def fD(k:Int):ay:=if k=0 then [110] else if k=1 then [110] else if k=2 then [97] else if k=3 then [97,107] else if k=4 then [110,107] else if k=5 then [107] else if k=6 then [107,115] else if k=7 then [97,107,115] else if k=8 then [97,102,107] else if k=9 then [97,102,107] else if k=10 then [97,107,115] else if k=11 then [116,107] else if k=12 then [107,115] else []
def fe0:dK [.i] [.int .i64 0] []=some none:=rfl
def fe1:dK [.i] [.int .i64 1] [[.int .i64 0,.str [110]]]=some none:=rfl
def fe2:dK [.i] [.int .i64 2] [[.int .i64 0,.str [110]],[.int .i64 1,.str [110]]]=some none:=rfl
def fe3:dK [.i] [.int .i64 3] [[.int .i64 0,.str [110]],[.int .i64 1,.str [110]],[.int .i64 2,.str [97]]]=some none:=rfl
def fe4:dK [.i] [.int .i64 4] [[.int .i64 0,.str [110]],[.int .i64 1,.str [110]],[.int .i64 2,.str [97]],[.int .i64 3,.str [97,107]]]=some none:=rfl
def fe5:dK [.i] [.int .i64 5] [[.int .i64 0,.str [110]],[.int .i64 1,.str [110]],[.int .i64 2,.str [97]],[.int .i64 3,.str [97,107]],[.int .i64 4,.str [110,107]]]=some none:=rfl
def fe6:dK [.i] [.int .i64 6] [[.int .i64 0,.str [110]],[.int .i64 1,.str [110]],[.int .i64 2,.str [97]],[.int .i64 3,.str [97,107]],[.int .i64 4,.str [110,107]],[.int .i64 5,.str [107]]]=some none:=rfl
def fe7:dK [.i] [.int .i64 7] [[.int .i64 0,.str [110]],[.int .i64 1,.str [110]],[.int .i64 2,.str [97]],[.int .i64 3,.str [97,107]],[.int .i64 4,.str [110,107]],[.int .i64 5,.str [107]],[.int .i64 6,.str [107,115]]]=some none:=rfl
def fe8:dK [.i] [.int .i64 8] [[.int .i64 0,.str [110]],[.int .i64 1,.str [110]],[.int .i64 2,.str [97]],[.int .i64 3,.str [97,107]],[.int .i64 4,.str [110,107]],[.int .i64 5,.str [107]],[.int .i64 6,.str [107,115]],[.int .i64 7,.str [97,107,115]]]=some none:=rfl
def fe9:dK [.i] [.int .i64 9] [[.int .i64 0,.str [110]],[.int .i64 1,.str [110]],[.int .i64 2,.str [97]],[.int .i64 3,.str [97,107]],[.int .i64 4,.str [110,107]],[.int .i64 5,.str [107]],[.int .i64 6,.str [107,115]],[.int .i64 7,.str [97,107,115]],[.int .i64 8,.str [97,102,107]]]=some none:=rfl
def al4:dK [.i] [.int .i64 10] [[.int .i64 0,.str [110]],[.int .i64 1,.str [110]],[.int .i64 2,.str [97]],[.int .i64 3,.str [97,107]],[.int .i64 4,.str [110,107]],[.int .i64 5,.str [107]],[.int .i64 6,.str [107,115]],[.int .i64 7,.str [97,107,115]],[.int .i64 8,.str [97,102,107]],[.int .i64 9,.str [97,102,107]]]=some none:=rfl
def Te:dK [.i] [.int .i64 11] [[.int .i64 0,.str [110]],[.int .i64 1,.str [110]],[.int .i64 2,.str [97]],[.int .i64 3,.str [97,107]],[.int .i64 4,.str [110,107]],[.int .i64 5,.str [107]],[.int .i64 6,.str [107,115]],[.int .i64 7,.str [97,107,115]],[.int .i64 8,.str [97,102,107]],[.int .i64 9,.str [97,102,107]],[.int .i64 10,.str [97,107,115]]]=some none:=rfl
def al5:dK [.i] [.int .i64 12] [[.int .i64 0,.str [110]],[.int .i64 1,.str [110]],[.int .i64 2,.str [97]],[.int .i64 3,.str [97,107]],[.int .i64 4,.str [110,107]],[.int .i64 5,.str [107]],[.int .i64 6,.str [107,115]],[.int .i64 7,.str [97,107,115]],[.int .i64 8,.str [97,102,107]],[.int .i64 9,.str [97,102,107]],[.int .i64 10,.str [97,107,115]],[.int .i64 11,.str [116,107]]]=some none:=rfl
def fgx{k:Int}(h:k<0\/12<k):dK [.i] [.int .i64 k] [[.int .i64 0,.str [110]],[.int .i64 1,.str [110]],[.int .i64 2,.str [97]],[.int .i64 3,.str [97,107]],[.int .i64 4,.str [110,107]],[.int .i64 5,.str [107]],[.int .i64 6,.str [107,115]],[.int .i64 7,.str [97,107,115]],[.int .i64 8,.str [97,102,107]],[.int .i64 9,.str [97,102,107]],[.int .i64 10,.str [97,107,115]],[.int .i64 11,.str [116,107]],[.int .i64 12,.str [107,115]]]=some none:=by
 have e0:(k==(0:Int))=false:=dq;have e1:(k==(1:Int))=false:=dq;have e2:(k==(2:Int))=false:=dq;have e3:(k==(3:Int))=false:=dq;have e4:(k==(4:Int))=false:=dq;have e5:(k==(5:Int))=false:=dq;have e6:(k==(6:Int))=false:=dq;have e7:(k==(7:Int))=false:=dq;have e8:(k==(8:Int))=false:=dq;have e9:(k==(9:Int))=false:=dq;have zA:(k==(10:Int))=false:=dq;have e11:(k==(11:Int))=false:=dq;have e12:(k==(12:Int))=false:=dq;simp only[dK,cD,axY,cond_true,ave,au9,awb,cond_false,e0,e1,e2,e3,e4,e5,e6,e7,e8,e9,zA,e11,e12,awf]
def RX{k:IntKind}{n:Int} : (AV.int k n).isAgg=false:=rfl
def RY{s:ay} : (AV.str s).isAgg=false:=rfl
def ahu:(false==false)=true:=rfl
def sn{es:List (List AV)}{r:List AV} : wj es none r=es++[r]:=rfl
def ajv(u:ay)(c:UInt8)(loc:Nat)(H:ae)(hu:u.length<=1000)(hl:H[loc]?=some (.box 9 [.str u])):aj A 103 [.str [c],.ref loc 0] H=some (.bool (!decide (0<=dp c.toNat 0 u)),none):=by
 have h:=AL u c H ah;refine cW abx.eq_1 ?_;exact nL2 h hl tv
def cC(u:ay)(c:UInt8):Bool:=!decide (0<=dp c.toNat 0 u)
def po(u:ay)(t:Tm):Bool:=!(cC u 110&&(t.n != 0) || (cC u 97&&!(t.name==[]) || (cC u 102&&!(t.field==[]) || (cC u 116&&(!(t.wn==[]) || decide (0<t.wk.length)) || (cC u 107&&decide (0<t.kids.length) || cC u 115&&decide (0<t.names.length))))))
def cu(t:Tm):Bool:=po (fD t.kind) t
def wE(u:ay)(c:UInt8)(b:Bool)(loc:Nat)(H:ae)(hu:u.length<=1000)(hl:H[loc]?=some (.box 9 [.str u]))(hb:cC u c=b):aj A 103 [.str [c],.ref loc 0] H=some (.bool b,none):=by
 rw[<- hb];exact ajv u c loc H hu hl
def RI(t:Tm)(H:ae)(u:ay)(s:AS):Prop:=∃ T K,s=⟨T,K,H.length,0⟩/\K.take H.length=H/\T 1=.ref H.length 0/\T 4=.func (.func 103) [] [.ref (H.length+2) 0]/\K[H.length]?=some (.box 56 [.int .i64 t.kind,.int .i64 t.n,.str t.name,.str t.field,.str t.wn,.slice (aH t.wk) false,.slice (aC t.kids) false,.slice (strs t.names) false])/\K[H.length+2]?=some (.box 9 [.str u])
def agr{t:Tm}{H:ae} : W A (oB.body.pre 2) ⟨fi [.agg (aM t)],H,H.length,0⟩ (andThen (RI t H (fD t.kind)) Q):=by
 rw[ai];have v8:decide (H.length+1<H.length)=false:=ag;have rf:decide (H.length+2<H.length)=false:=ag;have run:∀ (k:Int) (u:ay),(dK [.i] [.int .i64 k] [[.int .i64 0,.str [110]],[.int .i64 1,.str [110]],[.int .i64 2,.str [97]],[.int .i64 3,.str [97,107]],[.int .i64 4,.str [110,107]],[.int .i64 5,.str [107]],[.int .i64 6,.str [107,115]],[.int .i64 7,.str [97,107,115]],[.int .i64 8,.str [97,102,107]],[.int .i64 9,.str [97,102,107]],[.int .i64 10,.str [97,107,115]],[.int .i64 11,.str [116,107]],[.int .i64 12,.str [107,115]]]).map (pW false false [.str []] 1 [[.int .i64 0,.str [110]],[.int .i64 1,.str [110]],[.int .i64 2,.str [97]],[.int .i64 3,.str [97,107]],[.int .i64 4,.str [110,107]],[.int .i64 5,.str [107]],[.int .i64 6,.str [107,115]],[.int .i64 7,.str [97,107,115]],[.int .i64 8,.str [97,102,107]],[.int .i64 9,.str [97,102,107]],[.int .i64 10,.str [97,107,115]],[.int .i64 11,.str [116,107]],[.int .i64 12,.str [107,115]]])=some (.str u)->W A (oB.body.pre 2) ⟨fi [.agg [.int .i64 k,.int .i64 t.n,.str t.name,.str t.field,.str t.wn,.slice (aH t.wk) false,.slice (aC t.kids) false,.slice (strs t.names) false]],H,H.length,0⟩ (andThen (fun s=>∃ T K,s=⟨T,K,H.length,0⟩/\K.take H.length=H/\T 1=.ref H.length 0/\T 4=.func (.func 103) [] [.ref (H.length+2) 0]/\K[H.length]?=some (.box 56 [.int .i64 k,.int .i64 t.n,.str t.name,.str t.field,.str t.wn,.slice (aH t.wk) false,.slice (aC t.kids) false,.slice (strs t.names) false])/\K[H.length+2]?=some (.box 9 [.str u])) Q):=by
  intro k u hu;unfold oB;simp only[aK.pre];have hlx:∀ a,y4 (H++[a,.map 1 false false [[.int .i64 0,.str [110]],[.int .i64 1,.str [110]],[.int .i64 2,.str [97]],[.int .i64 3,.str [97,107]],[.int .i64 4,.str [110,107]],[.int .i64 5,.str [107]],[.int .i64 6,.str [107,115]],[.int .i64 7,.str [97,107,115]],[.int .i64 8,.str [97,102,107]],[.int .i64 9,.str [97,102,107]],[.int .i64 10,.str [97,107,115]],[.int .i64 11,.str [116,107]],[.int .i64 12,.str [107,115]]]]) false 1 false false [.i] [.str []] (.mref (H.length+1)) (.int .i64 k)=some (.str u):=fun a=>by
   simp only[y4,UN,AV.drop,AV.cells,au9,h2b];exact hu
  refine nM (j4 (j5 v8 rf @fe0 @fe1 @fe2) (j5 @fe3 @fe4 @fe5 @fe6 @fe7) (j5 @fe8 @fe9 @al4 @Te @al5) (j5 @sn @RX @RY hlx @tf.eq_1)) ?_;exact⟨_,_,rfl,h3t,nO0 tv,nO0 tv,h3a,by rw[h3c]⟩
 unfold RI;refine run t.kind (fD t.kind) ?_
 rcases uT t.kind with e|e|e|e|e|e|e|e|e|e|e|e|e|e
 all_goals first|(rw[e];rfl)|skip
 rw[fgx e];have:fD t.kind=[]:=by
  unfold fD
  repeat rw[if_neg ah]
 rw[this];rfl
def Ww{t:Tm}{H:ae}{s:AS}(hs:RI t H [110] s):W A (oB.body.post 2) s (done H.length [.tmp 2] (.bool (po [110] t),none)):=by
 obtain⟨T,K,rfl,hK,q1,q4,hb,hu⟩:=hs;unfold oB;simp only[aK.post];obtain⟨m1,m2,m3,m4,m5,m6⟩:cC [110] 110=false/\cC [110] 97=true/\cC [110] 102=true/\cC [110] 116=true/\cC [110] 107=true/\cC [110] 115=true:=⟨rfl,rfl,rfl,rfl,rfl,rfl⟩;have nc:=fun c b=>wE [110] c b (H.length+2) K aI hu
 have n1:=nc _ _ m1;have n2:=nc _ _ m2;have n3:=nc _ _ m3;have n4:=nc _ _ m4;have n5:=nc _ _ m5;have n6:=nc _ _ m6;clear nc;cases Cw:(t.name==[]);rotate_left;cases qD:(t.field==[]);rotate_left;cases Ji:(t.wn==[]);rotate_left
 by_cases Jh:0<t.wk.length
 rotate_left
 by_cases SE:0<t.kids.length
 rotate_left
 by_cases sY:0<t.names.length
 rotate_left
 all_goals simp(disch:=omega)only[aO,aa,simprocAttr,bne,iw,cO,bV,ab,po, *]
def aky{t:Tm}{H:ae}{s:AS}(hs:RI t H [97] s):W A (oB.body.post 2) s (done H.length [.tmp 2] (.bool (po [97] t),none)):=by
 obtain⟨T,K,rfl,hK,q1,q4,hb,hu⟩:=hs;unfold oB;simp only[aK.post];obtain⟨m1,m2,m3,m4,m5,m6⟩:cC [97] 110=true/\cC [97] 97=false/\cC [97] 102=true/\cC [97] 116=true/\cC [97] 107=true/\cC [97] 115=true:=⟨rfl,rfl,rfl,rfl,rfl,rfl⟩;have nc:=fun c b=>wE [97] c b (H.length+2) K aI hu
 have n1:=nc _ _ m1;have n2:=nc _ _ m2;have n3:=nc _ _ m3;have n4:=nc _ _ m4;have n5:=nc _ _ m5;have n6:=nc _ _ m6;clear nc;cases d_n:(t.n==0);rotate_left;cases qD:(t.field==[]);rotate_left;cases Ji:(t.wn==[]);rotate_left
 by_cases Jh:0<t.wk.length
 rotate_left
 by_cases SE:0<t.kids.length
 rotate_left
 by_cases sY:0<t.names.length
 rotate_left
 all_goals simp(disch:=omega)only[aO,aa,simprocAttr,bne,iw,cO,bV,ab,po, *]
def Rq{t:Tm}{H:ae}{s:AS}(hs:RI t H [97,107] s):W A (oB.body.post 2) s (done H.length [.tmp 2] (.bool (po [97,107] t),none)):=by
 obtain⟨T,K,rfl,hK,q1,q4,hb,hu⟩:=hs;unfold oB;simp only[aK.post];obtain⟨m1,m2,m3,m4,m5,m6⟩:cC [97,107] 110=true/\cC [97,107] 97=false/\cC [97,107] 102=true/\cC [97,107] 116=true/\cC [97,107] 107=false/\cC [97,107] 115=true:=⟨rfl,rfl,rfl,rfl,rfl,rfl⟩;have nc:=fun c b=>wE [97,107] c b (H.length+2) K aI hu
 have n1:=nc _ _ m1;have n2:=nc _ _ m2;have n3:=nc _ _ m3;have n4:=nc _ _ m4;have n5:=nc _ _ m5;have n6:=nc _ _ m6;clear nc;cases d_n:(t.n==0);rotate_left;cases qD:(t.field==[]);rotate_left;cases Ji:(t.wn==[]);rotate_left
 by_cases Jh:0<t.wk.length
 rotate_left
 by_cases sY:0<t.names.length
 rotate_left
 all_goals simp(disch:=omega)only[aO,aa,simprocAttr,bne,iw,bV,ab,po, *]
def Nv{t:Tm}{H:ae}{s:AS}(hs:RI t H [110,107] s):W A (oB.body.post 2) s (done H.length [.tmp 2] (.bool (po [110,107] t),none)):=by
 obtain⟨T,K,rfl,hK,q1,q4,hb,hu⟩:=hs;unfold oB;simp only[aK.post];obtain⟨m1,m2,m3,m4,m5,m6⟩:cC [110,107] 110=false/\cC [110,107] 97=true/\cC [110,107] 102=true/\cC [110,107] 116=true/\cC [110,107] 107=false/\cC [110,107] 115=true:=⟨rfl,rfl,rfl,rfl,rfl,rfl⟩;have nc:=fun c b=>wE [110,107] c b (H.length+2) K aI hu
 have n1:=nc _ _ m1;have n2:=nc _ _ m2;have n3:=nc _ _ m3;have n4:=nc _ _ m4;have n5:=nc _ _ m5;have n6:=nc _ _ m6;clear nc;cases Cw:(t.name==[]);rotate_left;cases qD:(t.field==[]);rotate_left;cases Ji:(t.wn==[]);rotate_left
 by_cases Jh:0<t.wk.length
 rotate_left
 by_cases sY:0<t.names.length
 rotate_left
 all_goals simp(disch:=omega)only[aO,aa,simprocAttr,bne,iw,bV,ab,po, *]
def agq{t:Tm}{H:ae}{s:AS}(hs:RI t H [107] s):W A (oB.body.post 2) s (done H.length [.tmp 2] (.bool (po [107] t),none)):=by
 obtain⟨T,K,rfl,hK,q1,q4,hb,hu⟩:=hs;unfold oB;simp only[aK.post];obtain⟨m1,m2,m3,m4,m5,m6⟩:cC [107] 110=true/\cC [107] 97=true/\cC [107] 102=true/\cC [107] 116=true/\cC [107] 107=false/\cC [107] 115=true:=⟨rfl,rfl,rfl,rfl,rfl,rfl⟩;have nc:=fun c b=>wE [107] c b (H.length+2) K aI hu
 have n1:=nc _ _ m1;have n2:=nc _ _ m2;have n3:=nc _ _ m3;have n4:=nc _ _ m4;have n5:=nc _ _ m5;have n6:=nc _ _ m6;clear nc;cases d_n:(t.n==0);rotate_left;cases Cw:(t.name==[]);rotate_left;cases qD:(t.field==[]);rotate_left;cases Ji:(t.wn==[]);rotate_left
 by_cases Jh:0<t.wk.length
 rotate_left
 by_cases sY:0<t.names.length
 rotate_left
 all_goals simp(disch:=omega)only[aO,aa,simprocAttr,bne,iw,bV,ab,po, *]
def DX{t:Tm}{H:ae}{s:AS}(hs:RI t H [107,115] s):W A (oB.body.post 2) s (done H.length [.tmp 2] (.bool (po [107,115] t),none)):=by
 obtain⟨T,K,rfl,hK,q1,q4,hb,hu⟩:=hs;unfold oB;simp only[aK.post];obtain⟨m1,m2,m3,m4,m5,m6⟩:cC [107,115] 110=true/\cC [107,115] 97=true/\cC [107,115] 102=true/\cC [107,115] 116=true/\cC [107,115] 107=false/\cC [107,115] 115=false:=⟨rfl,rfl,rfl,rfl,rfl,rfl⟩;have nc:=fun c b=>wE [107,115] c b (H.length+2) K aI hu
 have n1:=nc _ _ m1;have n2:=nc _ _ m2;have n3:=nc _ _ m3;have n4:=nc _ _ m4;have n5:=nc _ _ m5;have n6:=nc _ _ m6;clear nc;cases d_n:(t.n==0);rotate_left;cases Cw:(t.name==[]);rotate_left;cases qD:(t.field==[]);rotate_left;cases Ji:(t.wn==[]);rotate_left
 by_cases Jh:0<t.wk.length
 rotate_left
 all_goals simp(disch:=omega)only[aO,aa,simprocAttr,bne,iw,ab,po, *]
def wN{t:Tm}{H:ae}{s:AS}(hs:RI t H [97,107,115] s):W A (oB.body.post 2) s (done H.length [.tmp 2] (.bool (po [97,107,115] t),none)):=by
 obtain⟨T,K,rfl,hK,q1,q4,hb,hu⟩:=hs;unfold oB;simp only[aK.post];obtain⟨m1,m2,m3,m4,m5,m6⟩:cC [97,107,115] 110=true/\cC [97,107,115] 97=false/\cC [97,107,115] 102=true/\cC [97,107,115] 116=true/\cC [97,107,115] 107=false/\cC [97,107,115] 115=false:=⟨rfl,rfl,rfl,rfl,rfl,rfl⟩;have nc:=fun c b=>wE [97,107,115] c b (H.length+2) K aI hu
 have n1:=nc _ _ m1;have n2:=nc _ _ m2;have n3:=nc _ _ m3;have n4:=nc _ _ m4;have n5:=nc _ _ m5;have n6:=nc _ _ m6;clear nc;cases d_n:(t.n==0);rotate_left;cases qD:(t.field==[]);rotate_left;cases Ji:(t.wn==[]);rotate_left
 by_cases Jh:0<t.wk.length
 rotate_left
 all_goals simp(disch:=omega)only[aO,aa,simprocAttr,bne,iw,ab,po, *]
def wM{t:Tm}{H:ae}{s:AS}(hs:RI t H [97,102,107] s):W A (oB.body.post 2) s (done H.length [.tmp 2] (.bool (po [97,102,107] t),none)):=by
 obtain⟨T,K,rfl,hK,q1,q4,hb,hu⟩:=hs;unfold oB;simp only[aK.post];obtain⟨m1,m2,m3,m4,m5,m6⟩:cC [97,102,107] 110=true/\cC [97,102,107] 97=false/\cC [97,102,107] 102=false/\cC [97,102,107] 116=true/\cC [97,102,107] 107=false/\cC [97,102,107] 115=true:=⟨rfl,rfl,rfl,rfl,rfl,rfl⟩;have nc:=fun c b=>wE [97,102,107] c b (H.length+2) K aI hu
 have n1:=nc _ _ m1;have n2:=nc _ _ m2;have n3:=nc _ _ m3;have n4:=nc _ _ m4;have n5:=nc _ _ m5;have n6:=nc _ _ m6;clear nc;cases d_n:(t.n==0);rotate_left;cases Ji:(t.wn==[]);rotate_left
 by_cases Jh:0<t.wk.length
 rotate_left
 by_cases sY:0<t.names.length
 rotate_left
 all_goals simp(disch:=omega)only[aO,aa,simprocAttr,bne,iw,bV,ab,po, *]
def Nw{t:Tm}{H:ae}{s:AS}(hs:RI t H [116,107] s):W A (oB.body.post 2) s (done H.length [.tmp 2] (.bool (po [116,107] t),none)):=by
 obtain⟨T,K,rfl,hK,q1,q4,hb,hu⟩:=hs;unfold oB;simp only[aK.post];obtain⟨m1,m2,m3,m4,m5,m6⟩:cC [116,107] 110=true/\cC [116,107] 97=true/\cC [116,107] 102=true/\cC [116,107] 116=false/\cC [116,107] 107=false/\cC [116,107] 115=true:=⟨rfl,rfl,rfl,rfl,rfl,rfl⟩;have nc:=fun c b=>wE [116,107] c b (H.length+2) K aI hu
 have n1:=nc _ _ m1;have n2:=nc _ _ m2;have n3:=nc _ _ m3;have n4:=nc _ _ m4;have n5:=nc _ _ m5;have n6:=nc _ _ m6;clear nc;cases d_n:(t.n==0);rotate_left;cases Cw:(t.name==[]);rotate_left;cases qD:(t.field==[]);rotate_left
 by_cases sY:0<t.names.length
 rotate_left
 all_goals simp(disch:=omega)only[aO,aa,simprocAttr,bne,bV,ab,po, *]
def aoF{t:Tm}{H:ae}{s:AS}(hs:RI t H [] s):W A (oB.body.post 2) s (done H.length [.tmp 2] (.bool (po [] t),none)):=by
 obtain⟨T,K,rfl,hK,q1,q4,hb,hu⟩:=hs;unfold oB;simp only[aK.post];obtain⟨m1,m2,m3,m4,m5,m6⟩:cC [] 110=true/\cC [] 97=true/\cC [] 102=true/\cC [] 116=true/\cC [] 107=true/\cC [] 115=true:=⟨rfl,rfl,rfl,rfl,rfl,rfl⟩;have nc:=fun c b=>wE [] c b (H.length+2) K aI hu
 have n1:=nc _ _ m1;have n2:=nc _ _ m2;have n3:=nc _ _ m3;have n4:=nc _ _ m4;have n5:=nc _ _ m5;have n6:=nc _ _ m6;clear nc;cases d_n:(t.n==0);rotate_left;cases Cw:(t.name==[]);rotate_left;cases qD:(t.field==[]);rotate_left;cases Ji:(t.wn==[]);rotate_left
 by_cases Jh:0<t.wk.length
 rotate_left
 by_cases SE:0<t.kids.length
 rotate_left
 by_cases sY:0<t.names.length
 rotate_left
 all_goals simp(disch:=omega)only[aO,aa,simprocAttr,bne,iw,cO,bV,ab,po, *]
def jl(t:Tm)(H:ae):aj A 63 [.agg (aM t)] H=some (.bool (cu t),none):=by
 refine cJ (fn:=oB) rfl rfl rfl ?_;refine iX 2 _ agr fun s hs=>?_
 unfold cu
 rcases uT t.kind with e|e|e|e|e|e|e|e|e|e|e|e|e|e
 ·have hu:fD t.kind=[110]:=by rw[e];rfl
  rw[hu] at hs ⊢;exact Ww hs
 ·have hu:fD t.kind=[110]:=by rw[e];rfl
  rw[hu] at hs ⊢;exact Ww hs
 ·have hu:fD t.kind=[97]:=by rw[e];rfl
  rw[hu] at hs ⊢;exact aky hs
 ·have hu:fD t.kind=[97,107]:=by rw[e];rfl
  rw[hu] at hs ⊢;exact Rq hs
 ·have hu:fD t.kind=[110,107]:=by rw[e];rfl
  rw[hu] at hs ⊢;exact Nv hs
 ·have hu:fD t.kind=[107]:=by rw[e];rfl
  rw[hu] at hs ⊢;exact agq hs
 ·have hu:fD t.kind=[107,115]:=by rw[e];rfl
  rw[hu] at hs ⊢;exact DX hs
 ·have hu:fD t.kind=[97,107,115]:=by rw[e];rfl
  rw[hu] at hs ⊢;exact wN hs
 ·have hu:fD t.kind=[97,102,107]:=by rw[e];rfl
  rw[hu] at hs ⊢;exact wM hs
 ·have hu:fD t.kind=[97,102,107]:=by rw[e];rfl
  rw[hu] at hs ⊢;exact wM hs
 ·have hu:fD t.kind=[97,107,115]:=by rw[e];rfl
  rw[hu] at hs ⊢;exact wN hs
 ·have hu:fD t.kind=[116,107]:=by rw[e];rfl
  rw[hu] at hs ⊢;exact Nw hs
 ·have hu:fD t.kind=[107,115]:=by rw[e];rfl
  rw[hu] at hs ⊢;exact DX hs
 ·have hu:fD t.kind=[]:=by
   unfold fD
   repeat rw[if_neg ah]
  rw[hu] at hs ⊢;exact aoF hs
def KX(n:Int)(H:ae):aj A 144 [.int .i64 n] H=some (.tuple [.str (ot n).1,.int .i64 (ot n).2],none):=gU (A:=A) (f:=144) rfl rfl
def Dc(t:Tm):Int:=if t.kind=5\/t.kind=6\/t.kind=12 then 0 else if t.kind=4 then (ot t.n).2 else 8
def UZ(t:Tm)(H:ae):aj A 166 [.agg (aM t)] H=some (.int .i64 (Dc t),none):=by
 have hs:=fun K=>KX t.n K
 refine cJ (fn:=UA) rfl rfl rfl ?_;rw[ai];unfold UA Dc;have ht:(H++[bS.box 56 [.int .i64 t.kind,.int .i64 t.n,.str t.name,.str t.field,.str t.wn,.slice (aH t.wk) false,.slice (aC t.kids) false,.slice (strs t.names) false]]).take H.length=H:=Qi
 by_cases k5:t.kind=5
 ·rw[if_pos (.inl k5)]
  exact nL0 tv
 by_cases k6:t.kind=6
 ·rw[if_pos (.inr (.inl k6))]
  exact nL0 tv
 by_cases k12:t.kind=12
 ·rw[if_pos (.inr (.inr k12))]
  exact nL0 tv
 rw[if_neg ah]
 by_cases k4:t.kind=4
 ·rw[if_pos k4]
  exact nL1 hs tv
 ·rw[if_neg k4]
  exact nL0 tv
def O0{n:Int}(h:¬ (n<0\/11<n)):ot n=cQ n:=by unfold ot;rw[if_neg h]
def MH{t:Tm}(h:az t=true):Dc t=bE t:=by
 unfold Dc bE;split
 ·rfl
 ·split
  ·rename_i _ hk
   have hO:=vJ h;have:¬ (t.n<0\/11<t.n):=by
    intro hn;have hs:(cQ t.n).1=[]:=by unfold cQ;rw[if_pos hn]
    have hc:bR t.kind t.n t.kids.length=(-2,0):=by
     unfold bR;simp[hk,hs]
    exact (gL hO hc).1 rfl
   rw[O0 this]
  ·rfl
def fV(h:PW mm K)(ok:Bool)(l:List ay)(b:Bool):aj A 61 [.ref mm 0,.bool ok] (cI mm l b K)=some (.undef,some ⟨cI mm l (b || !ok) K,mm⟩):=by
 refine cW aes.eq_1 ?_;have h0:=fO (l:=l) (b:=b) h;unfold nx at h0;have aZ:=h.lt;have ho:=fun b=>h.open l b
 have h1:∀ x:bS,((cI mm l b K).set mm x)[mm]?=some x:=fun x=>List.getElem?_set_self (by rw[bu];exact aZ)
 cases b<;>exact nL5 h0 @bu @zl @fY ho tv
def jf(t:Tm)(k m:Int):Bool:=decide ((t.kids.length:Int)=k)&&decide ((t.names.length:Int)=m)
theorem adh(hP:PW mm K)(t:Tm)(k m:Int)(l:List ay)(b:Bool):aj A 110 [.ref mm 0,.agg (aM t),.int .i64 k,.int .i64 m] (cI mm l b K)=some (.bool (!(b || !jf t k m)),some ⟨cI mm l (b || !jf t k m) K,mm⟩):=by
 rw[ai];obtain⟨K1,fJ,dc,fK,hT,hO⟩:=oO hP t;have aZ:=hP.lt;have e1:=fun ok=>fV fJ ok l b
 have xT:decide (K.length<K.length)=false:=ag;refine cJ (fn:=Uh) rfl rfl rfl ?_;unfold Uh jf
 by_cases h1:(t.kids.length:Int)=k
 ·by_cases h2:(t.names.length:Int)=m
  ·have e:=e1 true
   have ho:=hO l (b || !true);have h0:=fO (l:=l) (b:=b || !true) fJ;unfold nx at h0;rw[decide_eq_true h1,decide_eq_true h2];simp only[Bool.and_self];generalize (b || !true)=b1 at *;exact nL6 dc fK @cO @bV e (j5 h0 hT ho @Nat.lt_irrefl @bu) tv
  ·have e:=e1 false
   have ho:=hO l (b || !false);have h0:=fO (l:=l) (b:=b || !false) fJ;unfold nx at h0;rw[decide_eq_true h1,av1 h2];simp only[Bool.and_false];generalize (b || !false)=b1 at *;exact nL6 dc fK @cO @bV e (j5 h0 hT ho @Nat.lt_irrefl @bu) tv
 ·have e:=e1 false
  have ho:=hO l (b || !false);have h0:=fO (l:=l) (b:=b || !false) fJ;unfold nx at h0;rw[av1 h1];simp only[avt];generalize (b || !false)=b1 at *;exact nL6 dc fK @cO e h0 (j4 hT ho @Nat.lt_irrefl @bu) tv
def orT(b:Bool):(b || !true)=b:=by cases b<;>rfl
def ug(s:ay):strs [s]=[[.str s]]:=rfl
def uS(tb:Nat->List ay)(ks:List Tm)(i:Nat):List (List ay):=(List.range i).map fun j=>tb j++af (ks.getD j qj)
def C7 : uS tb ks (i+1)=uS tb ks i++[tb i++af (ks.getD i qj)]:=by unfold uS;rw[List.range_succ,List.map_append];rfl
def OA : (uS tb ks i).length=i:=by unfold uS;simp
def Bef(mm:Nat)(K:ae)(fb:FuncId)(cs:List AV)(i:Nat)(ok:Bool)(jy:List ay)(n:Nat):Prop :=
 ∀ l b,l.length+n<=10000000->∃ l' c,aj A fb (.int .i64 i :: cs) (cI mm l b K)=some (.undef,c)/\(c=some ⟨cI mm l' (b || !ok) K,mm⟩\/c=none/\l'=l/\ok=true)/\((b || !ok)=false->l'=l++jy)/\l'.length<=l.length+n
def H8{fb:FuncId} : aj A 108 [.ref mm 0,.slice [] false,.func (.func fb) [] cs] K=some (.undef,none):=by
 refine cW Ug.eq_1 ?_;refine nK0 ?_;refine cg 0 0 (fun i s=>∃ T g,s=⟨T,K,K.length,g⟩/\T 9=.int .i64 0/\T 10=.int .i64 0) (fun s=>∃ T g,s=⟨T,K,K.length,g⟩) (fun _=>False) ?_ ?_ (fun _ h=>h.elim) 0 _ ah ?_
 ·rintro i s hi ⟨T,g,rfl,q9,IX⟩
  refine nK2 q9 IX ?_;exact⟨_,_,rfl⟩
 ·rintro s ⟨T,g,rfl⟩
  exact uj
 ·exact⟨_,_,rfl,iJ,iJ⟩
def QS(i:Nat):Bef mm K 105 [] i true [] 0:=by
 intro l b hl;refine⟨l,none,?_,.inr ⟨rfl,rfl,rfl⟩,fun _=>ag,ah⟩
 refine cW abz.eq_1 ?_;exact nK0 tv
def Ap(ts:List ay)(ks:List Tm)(i:Nat):List ay:=((List.range i).map fun j=>[ts.getD j []]++af (ks.getD j qj)).flatten
def KD{ts:List ay} : Ap ts ks (i+1)=Ap ts ks i++([ts.getD i []]++af (ks.getD i qj)):=by unfold Ap;rw[List.range_succ,List.map_append,List.flatten_append];simp
def okP(ks:List Tm)(i:Nat):Bool:=(List.range i).all fun j=>az (ks.getD j qj)
def akz{t:Tm}(hk:t.kind=0)(hu:cu t=true):True/\t.name=[]/\t.field=[]/\t.wn=[]/\t.wk=[]/\t.kids=[]/\t.names=[]:=by
 unfold cu at hu;rw[hk] at hu;rw[show fD 0=[110] from rfl] at hu
 simp only[po,show cC [110] 110=false from rfl,show cC [110] 97=true from rfl,show cC [110] 102=true from rfl,show cC [110] 116=true from rfl,show cC [110] 107=true from rfl,show cC [110] 115=true from rfl,avE,avt,av3,avo,avJ,av4,avM,avp,awA,awu,avl] at hu
 simp_all
def akA{t:Tm}(hk:t.kind=1)(hu:cu t=true):True/\t.name=[]/\t.field=[]/\t.wn=[]/\t.wk=[]/\t.kids=[]/\t.names=[]:=by
 unfold cu at hu;rw[hk] at hu;rw[show fD 1=[110] from rfl] at hu
 simp only[po,show cC [110] 110=false from rfl,show cC [110] 97=true from rfl,show cC [110] 102=true from rfl,show cC [110] 116=true from rfl,show cC [110] 107=true from rfl,show cC [110] 115=true from rfl,avE,avt,av3,avo,avJ,av4,avM,avp,awA,awu,avl] at hu
 simp_all
def akB{t:Tm}(hk:t.kind=2)(hu:cu t=true):True/\t.n=0/\t.field=[]/\t.wn=[]/\t.wk=[]/\t.kids=[]/\t.names=[]:=by
 unfold cu at hu;rw[hk] at hu;rw[show fD 2=[97] from rfl] at hu
 simp only[po,show cC [97] 110=true from rfl,show cC [97] 97=false from rfl,show cC [97] 102=true from rfl,show cC [97] 116=true from rfl,show cC [97] 107=true from rfl,show cC [97] 115=true from rfl,avE,avt,av3,avo,avJ,av4,avM,awi,avp,awA,awu,avl] at hu
 simp_all
def akC{t:Tm}(hk:t.kind=3)(hu:cu t=true):True/\t.n=0/\t.field=[]/\t.wn=[]/\t.wk=[]/\t.names=[]:=by
 unfold cu at hu;rw[hk] at hu;rw[show fD 3=[97,107] from rfl] at hu
 simp only[po,show cC [97,107] 110=true from rfl,show cC [97,107] 97=false from rfl,show cC [97,107] 102=true from rfl,show cC [97,107] 116=true from rfl,show cC [97,107] 107=false from rfl,show cC [97,107] 115=true from rfl,avE,avt,av3,avo,avJ,av4,avM,awi,avp,awA,awu,avl] at hu
 simp_all
def akD{t:Tm}(hk:t.kind=4)(hu:cu t=true):True/\t.name=[]/\t.field=[]/\t.wn=[]/\t.wk=[]/\t.names=[]:=by
 unfold cu at hu;rw[hk] at hu;rw[show fD 4=[110,107] from rfl] at hu
 simp only[po,show cC [110,107] 110=false from rfl,show cC [110,107] 97=true from rfl,show cC [110,107] 102=true from rfl,show cC [110,107] 116=true from rfl,show cC [110,107] 107=false from rfl,show cC [110,107] 115=true from rfl,avE,avt,av3,avo,avJ,av4,avM,avp,awA,awu,avl] at hu
 simp_all
def akE{t:Tm}(hk:t.kind=5)(hu:cu t=true):True/\t.n=0/\t.name=[]/\t.field=[]/\t.wn=[]/\t.wk=[]/\t.names=[]:=by
 unfold cu at hu;rw[hk] at hu;rw[show fD 5=[107] from rfl] at hu
 simp only[po,show cC [107] 110=true from rfl,show cC [107] 97=true from rfl,show cC [107] 102=true from rfl,show cC [107] 116=true from rfl,show cC [107] 107=false from rfl,show cC [107] 115=true from rfl,avE,avt,av3,avo,avJ,av4,avM,awi,avp,awA,awu,avl] at hu
 simp_all
def akF{t:Tm}(hk:t.kind=6)(hu:cu t=true):True/\t.n=0/\t.name=[]/\t.field=[]/\t.wn=[]/\t.wk=[]:=by
 unfold cu at hu;rw[hk] at hu;rw[show fD 6=[107,115] from rfl] at hu
 simp only[po,show cC [107,115] 110=true from rfl,show cC [107,115] 97=true from rfl,show cC [107,115] 102=true from rfl,show cC [107,115] 116=true from rfl,show cC [107,115] 107=false from rfl,show cC [107,115] 115=false from rfl,avE,avt,awz,avo,avJ,av4,avM,awi,avp,awA,awu,avl] at hu
 simp_all
def akG{t:Tm}(hk:t.kind=7)(hu:cu t=true):True/\t.n=0/\t.field=[]/\t.wn=[]/\t.wk=[]:=by
 unfold cu at hu;rw[hk] at hu;rw[show fD 7=[97,107,115] from rfl] at hu
 simp only[po,show cC [97,107,115] 110=true from rfl,show cC [97,107,115] 97=false from rfl,show cC [97,107,115] 102=true from rfl,show cC [97,107,115] 116=true from rfl,show cC [97,107,115] 107=false from rfl,show cC [97,107,115] 115=false from rfl,avE,avt,av3,awz,avo,avJ,av4,avM,awi,avp,awA,awu,avl] at hu
 simp_all
def ags{t:Tm}(hk:t.kind=8)(hu:cu t=true):True/\t.n=0/\t.wn=[]/\t.wk=[]/\t.names=[]:=by
 unfold cu at hu;rw[hk] at hu;rw[show fD 8=[97,102,107] from rfl] at hu
 simp only[po,show cC [97,102,107] 110=true from rfl,show cC [97,102,107] 97=false from rfl,show cC [97,102,107] 102=false from rfl,show cC [97,102,107] 116=true from rfl,show cC [97,102,107] 107=false from rfl,show cC [97,102,107] 115=true from rfl,avE,avt,av3,avo,avJ,av4,avM,awi,avp,awA,awu,avl] at hu
 simp_all
def agt{t:Tm}(hk:t.kind=9)(hu:cu t=true):True/\t.n=0/\t.wn=[]/\t.wk=[]/\t.names=[]:=by
 unfold cu at hu;rw[hk] at hu;rw[show fD 9=[97,102,107] from rfl] at hu
 simp only[po,show cC [97,102,107] 110=true from rfl,show cC [97,102,107] 97=false from rfl,show cC [97,102,107] 102=false from rfl,show cC [97,102,107] 116=true from rfl,show cC [97,102,107] 107=false from rfl,show cC [97,102,107] 115=true from rfl,avE,avt,av3,avo,avJ,av4,avM,awi,avp,awA,awu,avl] at hu
 simp_all
def acb{t:Tm}(hk:t.kind=10)(hu:cu t=true):True/\t.n=0/\t.field=[]/\t.wn=[]/\t.wk=[]:=by
 unfold cu at hu;rw[hk] at hu;rw[show fD 10=[97,107,115] from rfl] at hu
 simp only[po,show cC [97,107,115] 110=true from rfl,show cC [97,107,115] 97=false from rfl,show cC [97,107,115] 102=true from rfl,show cC [97,107,115] 116=true from rfl,show cC [97,107,115] 107=false from rfl,show cC [97,107,115] 115=false from rfl,avE,avt,av3,awz,avo,avJ,av4,avM,awi,avp,awA,awu,avl] at hu
 simp_all
def acd{t:Tm}(hk:t.kind=11)(hu:cu t=true):True/\t.n=0/\t.name=[]/\t.field=[]/\t.names=[]:=by
 unfold cu at hu;rw[hk] at hu;rw[show fD 11=[116,107] from rfl] at hu
 simp only[po,show cC [116,107] 110=true from rfl,show cC [116,107] 97=true from rfl,show cC [116,107] 102=true from rfl,show cC [116,107] 116=false from rfl,show cC [116,107] 107=false from rfl,show cC [116,107] 115=true from rfl,avE,avt,av3,avo,avJ,av4,avM,awi,avp,awA,awu,avl] at hu
 simp_all
def ace{t:Tm}(hk:t.kind=12)(hu:cu t=true):True/\t.n=0/\t.name=[]/\t.field=[]/\t.wn=[]/\t.wk=[]:=by
 unfold cu at hu;rw[hk] at hu;rw[show fD 12=[107,115] from rfl] at hu
 simp only[po,show cC [107,115] 110=true from rfl,show cC [107,115] 97=true from rfl,show cC [107,115] 102=true from rfl,show cC [107,115] 116=true from rfl,show cC [107,115] 107=false from rfl,show cC [107,115] 115=false from rfl,avE,avt,awz,avo,avJ,av4,avM,awi,avp,awA,awu,avl] at hu
 simp_all
def O1{n:Int}(h:0<=n/\n<=11):(cQ n).1≠[]:=by
 have:n=0\/n=1\/n=2\/n=3\/n=4\/n=5\/n=6\/n=7\/n=8\/n=9\/n=10\/n=11:=by omega
 rcases this with rfl|rfl|rfl|rfl|rfl|rfl|rfl|rfl|rfl|rfl|rfl|rfl<;>decide
def KW{n:Int}(h:¬ (0<=n/\n<=11)):cQ n=([],0):=by unfold cQ;rw[if_pos (by omega)]
def Vs{t:Tm}(hk:t.kind=0)(hu:cu t=true):az t=decide (-1099511627776<=t.n/\t.n<=1099511627776):=by
 obtain⟨-,h0,h1,h2,h3,h4,h5⟩:=akz hk hu;rw[fL,dA];unfold oF rG n9 sP sQ rH rI sR;simp[hk,h0,h1,h2,h3,h4,h5,bR,jL];rw[Bool.eq_iff_iff];simp
def ajK{t:Tm}(hk:t.kind=1)(hu:cu t=true):az t=decide (t.n=0\/t.n=1):=by
 obtain⟨-,h0,h1,h2,h3,h4,h5⟩:=akA hk hu;rw[fL,dA];unfold oF rG n9 sP sQ rH rI sR;simp[hk,h0,h1,h2,h3,h4,h5,bR,jL]
def abX{t:Tm}(hk:t.kind=2)(hu:cu t=true):az t=isWord t.name:=by
 obtain⟨-,h0,h1,h2,h3,h4,h5⟩:=akB hk hu;rw[fL,dA];unfold oF rG n9 sP sQ rH rI sR;simp[hk,h0,h1,h2,h3,h4,h5,bR,jL]
def abY{t:Tm}(hk:t.kind=3)(hu:cu t=true):az t=(gA t.name&&t.kids.all az):=by
 obtain⟨-,h0,h1,h2,h3,h4⟩:=akC hk hu;rw[fL,dA];unfold oF rG n9 sP sQ rH rI sR;simp[hk,h0,h1,h2,h3,h4,bR,jL]
def KC{t:Tm}(hk:t.kind=4)(hu:cu t=true):az t=(decide (0<=t.n/\t.n<=11)&&jf t (if (cQ t.n).2=7 then 1 else 2) 0&&t.kids.all az):=by
 obtain⟨-,h0,h1,h2,h3,h4⟩:=akD hk hu;rw[fL,dA];unfold oF rG n9 sP sQ rH rI sR jf
 by_cases hn:0<=t.n/\t.n<=11
 ·have h9:=O1 hn
  obtain⟨HM,Yb⟩:=hn
  by_cases h7:(cQ t.n).2=7
  ·simp[hk,h0,h1,h2,h3,h4,bR,jL,h9,h7,HM,Yb]
  ·simp[hk,h0,h1,h2,h3,h4,bR,jL,h9,h7,HM,Yb]
 have h9:=KW hn;have hd:decide (0<=t.n/\t.n<=11)=false:=av1 hn;rw[hd];simp[hk,h0,h1,h2,h3,h4,bR,jL,h9]
def Vu{t:Tm}(hk:t.kind=5)(hu:cu t=true):az t=(jf t 3 0&&t.kids.all az):=by
 obtain⟨-,h0,h1,h2,h3,h4,h5⟩:=akE hk hu;rw[fL,dA];unfold oF rG n9 sP sQ rH rI sR jf;simp[hk,h0,h1,h2,h3,h4,h5,bR,jL]
def Vv{t:Tm}(hk:t.kind=6)(hu:cu t=true):az t=(jf t 2 1&&t.names.all isWord&&t.kids.all az):=by
 obtain⟨-,h0,h1,h2,h3,h4⟩:=akF hk hu;rw[fL,dA];unfold oF rG n9 sP sQ rH rI sR jf;simp[hk,h0,h1,h2,h3,h4,bR,jL]
def Vw{t:Tm}(hk:t.kind=7)(hu:cu t=true):az t=(decide ((t.names.length:Int)=t.kids.length)&&t.names.all isWord&&gA t.name&&t.kids.all az):=by
 obtain⟨-,h0,h1,h2,h3⟩:=akG hk hu;rw[fL,dA];unfold oF rG n9 sP sQ rH rI sR;simp[hk,h0,h1,h2,h3,bR,jL]
def OU{t:Tm}(hk:t.kind=8)(hu:cu t=true):az t=(decide ((t.kids.length:Int)=1)&&gA t.name&&isWord t.field&&t.kids.all az):=by
 obtain⟨-,h0,h1,h2,h3⟩:=ags hk hu;rw[fL,dA];unfold oF rG n9 sP sQ rH rI sR;simp[hk,h0,h1,h2,h3,bR,jL]
def OV{t:Tm}(hk:t.kind=9)(hu:cu t=true):az t=(decide ((t.kids.length:Int)=1)&&gA t.name&&isWord t.field&&t.kids.all az):=by
 obtain⟨-,h0,h1,h2,h3⟩:=agt hk hu;rw[fL,dA];unfold oF rG n9 sP sQ rH rI sR;simp[hk,h0,h1,h2,h3,bR,jL]
def Ih{t:Tm}(hk:t.kind=10)(hu:cu t=true):az t=(decide (2<=t.kids.length)&&decide ((t.names.length:Int)=2*((t.kids.length:Int)-1))&&t.names.all isWord&&gA t.name&&t.kids.all az):=by
 obtain⟨-,h0,h1,h2,h3⟩:=acb hk hu;rw[fL,dA];unfold oF rG n9 sP sQ rH rI sR
 by_cases h7:t.kids.length<2
 ·have h8:decide (2<=t.kids.length)=false:=av1 (by omega)
  rw[h8];simp[hk,h0,h1,h2,h3,bR,jL,h7]
 have h8:decide (2<=t.kids.length)=true:=decide_eq_true (by omega)
 rw[h8];simp[hk,h0,h1,h2,h3,bR,jL,h7]
def Vt{t:Tm}(hk:t.kind=11)(hu:cu t=true):az t=(bY (.mk t.wn t.wk)&&t.kids.all az):=by
 obtain⟨-,h0,h1,h2,h3⟩:=acd hk hu;rw[fL,dA];unfold oF rG n9 sP sQ rH rI sR;simp[hk,h0,h1,h2,h3,bR,jL]
def M8{t:Tm}(hk:t.kind=12)(hu:cu t=true):az t=(jf t 3 2&&t.names.all isWord&&t.kids.all az):=by
 obtain⟨-,h0,h1,h2,h3,h4⟩:=ace hk hu;rw[fL,dA];unfold oF rG n9 sP sQ rH rI sR jf;simp[hk,h0,h1,h2,h3,h4,bR,jL]
section
def yU : ∀ i,i<=ks.length->uS tb ks i=((ks.take i).zipIdx.map fun p=>tb p.2++af p.1)
 | 0,_=>by simp[uS]
 | i+1,h=>by
  have hx:=au5 (show i<ks.length by omega)
  have hg:ks.getD i qj=ks[i]:=by rw[List.getD,hx];rfl
  have hl:(ks.take i).length=i:=by rw[avU];omega
  rw[C7,yU i ah,lQ hx,hg,List.zipIdx_append,List.map_append,hl];simp
def yT : uS (fun _=>[]) ks ks.length=ks.map af:=by
 rw[yU _ (Nat.le_refl _),avL];simp only[avO];have:∀ (l:List Tm) (k:Nat),(l.zipIdx k).map (fun p=>af p.1)=l.map af:=by
  intro l;induction l with
  | nil=>intro k;rfl
  | cons a r ih=>intro k;simp only[axj,avm,ih]
 exact this ks 0
theorem Yz{ns:List ay}(h:ns.length=ks.length):uS (fun j=>[ns.getD j [],[61]]) ks ks.length=List.zipWith (fun s (x:List ay × Int)=>[s,[61]]++x.1) ns (ks.map fun t=>(af t,bE t)):=by
 rw[yU _ (Nat.le_refl _),avL];have:∀ (l:List Tm) (m:List ay) (k:Nat),m.length=l.length->(∀ j,j<l.length->ns.getD (k+j) []=m.getD j [])->(l.zipIdx k).map (fun p=>[ns.getD p.2 [],[61]]++af p.1)=List.zipWith (fun s (x:List ay × Int)=>[s,[61]]++x.1) m (l.map fun t=>(af t,bE t)):=by
  intro l;induction l with
  | nil=>intro m k hm _;cases m with|nil=>rfl|cons a r=>simp at hm
  | cons a r ih =>
   intro m k hm hg;cases m with
   | nil=>simp at hm
   | cons b q =>
    have h0:=hg 0 ag;simp only[avG] at h0;simp only[axj,avm,axH,h0];rw[ih q (k+1) (cY hm) (fun j hj=>by
     have:=hg (j+1) dq
     rw[show k+(j+1)=k+1+j by omega] at this
     rw[this];rfl)]
    rfl
 grind
section
variable {n:Int}{a f p q r u:ay}{w:Wd}{ns:List ay}{tl:List (List ay × Int)}{x y z:List ay × Int}
theorem b0:gp 0 n a f w ns tl=if n<0 then [[45],jT (-n).toNat] else [jT n.toNat]:=rfl
theorem b1:gp 1 n a f w ns tl=[if n=0 then [102,97,108,115,101] else [116,114,117,101]]:=rfl
theorem b2:gp 2 n a f w ns tl=[a]:=rfl
theorem b3:gp 3 n a f w ns tl=aL a++[[40]]++au (tl.map (·.1))++[[41]]:=rfl
def b4a:gp 4 n a f w ns [x]=[(cQ n).1]++fT x 7:=rfl
def b4b:gp 4 n a f w ns [x,y]=fT x (if (cQ n).2=3 then 4 else (cQ n).2)++[(cQ n).1]++fT y ((cQ n).2+1):=rfl
def b5:gp 5 n a f w ns [x,y,z]=[[105,102]]++x.1++[[116,104,101,110]]++y.1++[[101,108,115,101]]++z.1:=rfl
def b6:gp 6 n a f w [p] [x,y]=[[108,101,116],p,[61]]++x.1++[[105,110]]++y.1:=rfl
theorem b7:gp 7 n a f w ns tl=aL a++[[123]]++au (List.zipWith (fun s (x:List ay × Int)=>[s,[61]]++x.1) ns tl)++[[125]]:=rfl
def b8:gp 8 n a f w ns [x]=aL a++[[58],f]++[[91]]++x.1++[[93]]:=rfl
def b9:gp 9 n a f w ns [x]=aL a++[[58],f]++[[40]]++x.1++[[41]]:=rfl
theorem b11:gp 11 n a f w ns tl=[cR]++[[40]]++bW w++[[41]]++[[91]]++au (tl.map (·.1))++[[93]]:=rfl
def b12:gp 12 n a f w [p,q] [x,y,z]=[[102,111,108,100],p,[44],q,[61]]++y.1++[[111,118,101,114]]++x.1++[[100,111]]++z.1:=rfl
end
def pt2{a b:ay}{x y:Tm} : Ap [a,b] [x,y] 2=[a]++af x++[b]++af y:=by simp[Ap,List.range_succ]
def pt3{a b c:ay}{x y z:Tm} : Ap [a,b,c] [x,y,z] 3=[a]++af x++[b]++af y++[c]++af z:=by simp[Ap,List.range_succ]
end
def PW.ajL(h:PW mm K){a b:bS}(ha:∀ cs,a≠.bZ cs)(hb:∀ cs,b≠.bZ cs):PW mm (K++[a,b]):=by
 have:=(h.push ha).push hb
 rwa [avj] at this
def ZS{l:List ay}(h:PW mm K){x y:bS} : (cI mm l b (K++[x,y]))[K.length]?=some x:=by rw[Iu (by have:=h.lt;omega)];exact h2a
def ZU{l:List ay}(h:PW mm K){x y:bS} : (cI mm l b (K++[x,y]))[K.length+1]?=some y:=by rw[Iu (by have:=h.lt;omega)];exact h2b
def wW{A:AP}{T:aD}{H:ae}{lo gen t ty l off:Nat}{os:List aV}{K:AS->Prop}(h:l<=H.length):Sp A ty (.ref l off) t os T H lo gen K=WO A os ⟨T.put t (.ref H.length 0),H++[.box ty [.ref l off]],cond (Nat.blt H.length lo) H.length lo,gen⟩ K:=by
 simp only[Sp,AV.drop,AV.cells,au9,List.all_cons,List.all_nil,bf,avT h,awb,cond_true];exact aW
structure TyH (mm:Nat) (t:Tm) (n:Nat) (K:ae):Prop where
 p:PW mm K
 w:∀ l b,(cI mm l b K)[n]?=some (.box 122 [.ref mm 0])
 t:∀ l b,(cI mm l b K)[n+1]?=some (.box 56 [.int .i64 t.kind,.int .i64 t.n,.str t.name,.str t.field,.str t.wn,.slice (aH t.wk) false,.slice (aC t.kids) false,.slice (strs t.names) false])
def acD{n:Nat}{t:Tm}(h:TyH mm t n K)(i:Nat)(hi:i<t.names.length)(Fw:∀ s∈t.names,s.length<=1100000):Bef mm K 147 [.ref n 0,.ref (n+1) 0] i (isWord (t.names.getD i [])) [t.names.getD i [],[61]] 2:=by
 intro l b hl;have gn:=nT hi;have qv:=xh Fw i;generalize t.names.getD i []=s at gn qv ⊢;obtain⟨l1,e1,t1,n1⟩:=tC h.p s ah l b ah;obtain⟨l2,e2,t2,n2⟩:=Bb h.p [[61]] ag l1 (b || !isWord s) kq;simp only[List.length_cons,List.length_nil] at n2;rw[orT,ug] at e2;rw[orT] at t2;refine⟨l2,_,?_,.inl rfl,fun hp=>by rw[t2 hp,t1 hp];simp,ah⟩
 refine cW abM.eq_1 ?_;have hw:=h.w;have ht:=h.t;have aZ:=h.p.lt;have ho:=h.p.open l2 (b || !isWord s);generalize (b || !isWord s)=b1 at *;exact nL6 hw ht gn e1 e2 (j4 @fY ho @Nat.lt_irrefl @bu) tv
section
abbrev ZT:List AV:=[.int .i64 0,.int .i64 0,.str [],.str [],.str [],.ar,.ar,.ar]
def jJ{s:AS} : AS.bG s (.xQ v)=s:=rfl
def UY{H:List α}{a b:α} : (H++[a,b]).length=H.length+2:=ag
def OF{α:Type}{H:List α}{a:α} : (H++[a]).length=H.length+1:=ag
def abU{H:List α}{a b c:α} : (H++[a,b,c]).length=H.length+3:=ag
def tQ{H:List α}{a b:α} : H++[a]++[b]=H++[a,b]:=ag
def R3{H:List α}{a b c:α} : H++[a,b]++[c]=H++[a,b,c]:=ag
def aa3{H:List α}{a b:α} : (H++[a,b])[H.length+1]?=some b:=by rw[List.getElem?_append_right ah];simp
def ahD{H:List α}{a b c:α} : (H++[a,b,c])[H.length+2]?=some c:=by rw[List.getElem?_append_right ah];simp
def ab6{H:List α}{a b x:α} : (H++[a,b]).set (H.length+1) x=H++[a,x]:=by rw[List.set_append_right _ _ ah];simp
def aki{H:List α}{a b c x:α} : (H++[a,b,c]).set (H.length+2) x=H++[a,b,x]:=by rw[List.set_append_right _ _ ah];simp
def Ik{A:AP}{t:Nat}{os:List aV}{H:ae}{K:AS->Prop}(hf:cs.all aN=true)(hd:cs.map AV.drop=cs) :
  WO A (⟨some t,none,.Pp (.xQ (.agg cs))⟩ :: os) ⟨T,H,lo,gen⟩ K=WO A os ⟨T.put t (.ref H.length 0),H++[.bZ cs],cond (Nat.blt H.length lo) H.length lo,gen⟩ K:=by
 rw[fZ];have hd2:AV.drop (.agg cs)=.agg cs:=rfl;have:aS A.aY (aj A) ⟨T,H,lo,gen⟩ ⟨some t,none,.Pp (.xQ (.agg cs))⟩=some ⟨T.put t (.ref H.length 0),H++[.bZ cs],cond (Nat.blt H.length lo) H.length lo,gen⟩:=by
  simp only[aS,aR,aE.eval,hd2,FY,au9,hf,cond_true,hd,avt,cond_false,AS.ca,AS.cx,AS.iK]
 rw[this,aW]
def PQ.box{pl:Nat}(h:PQ pl K){ty:TypeId} : PQ pl (K++[.box ty cs]):=h.push fun cs h=>by cases h
def DL{tk:List Tk}{pl:Nat}{s:PS}(h:pl<K.length):aJ tk pl s K++M=aJ tk pl s (K++M):=by unfold aJ;rw[List.set_append_left _ _ h]
theorem ke{tk:List Tk}{pl:Nat}{s:PS}(h:pl<j):(aJ tk pl s K)[j]?=K[j]?:=dH ah
def qc{tk:List Tk}{pl:Nat}{s:PS}{o:bS}(h:pl<j):(aJ tk pl s K).set j o=aJ tk pl s (K.set j o):=by unfold aJ;rw[List.set_comm _ _ ah]
section
variable {n:Nat}{tk:List Tk}{pl:Nat}{s s' : PS}{H:ae}
def MP(h:jx tk pl s H){nm:ay}{s1:PS}(hq:aU (aq tk) s=(nm,s1))
  (hQ:∀ T,T 1=.ref H.length 0->T 2=.lbox 0 ZT->T 3=.ref (H.length+1) 0->T 4=.ref (H.length+2) 0 ->
   W (PA 2 n) (oL.body.sub [true,true,true]) ⟨T,aJ tk pl s1 (H++[.box 97 [.ref pl 0],.bZ [.int .i64 0,.int .i64 0,.str nm,.str [],.str [],.ar,.ar,.ar],.box 1 [.func (.func 173) [.agg [.ref pl 0,.ref (H.length+1) 0]] []]]),pl,1⟩ Q) :
  W (PA 2 n) oL.body ⟨fi [.ref pl 0],H,H.length,0⟩ Q:=by
 have gW:=h.q.lt;have h1:jx tk pl s (H++[.box 97 [.ref pl 0]]):=⟨h.q.box,by rw[avd gW];exact h.at',h.b,h.le⟩
 have hq1:=Vy (k:=2) (n:=n) h1;rw[hq] at hq1;simp only at hq1;have g0:(H++[bS.box 97 [.ref pl 0]])[H.length]?=some (.box 97 [.ref pl 0]):=ag;have g1:∀ x,(aJ tk pl s1 (H++[bS.box 97 [.ref pl 0],x]))[H.length]?=some (.box 97 [.ref pl 0]):=fun x=>by rw[ke gW,List.getElem?_append_right (Nat.le_refl _)];simp
 have a1:∀ M,aJ tk pl s1 (H++[bS.box 97 [.ref pl 0]])++M=aJ tk pl s1 (H++[bS.box 97 [.ref pl 0]]++M):=fun M=>DL dq
 have a2:∀ x M,aJ tk pl s1 (H++[bS.box 97 [.ref pl 0],x])++M=aJ tk pl s1 (H++[bS.box 97 [.ref pl 0],x]++M):=fun x M=>DL dq
 have g2:∀ x,(aJ tk pl s1 (H++[bS.box 97 [.ref pl 0],x]))[H.length+1]?=some x:=fun x=>by rw[ke ah,aa3]
 have p2:∀ x y,(aJ tk pl s1 (H++[bS.box 97 [.ref pl 0],x])).set (H.length+1) y=aJ tk pl s1 (H++[bS.box 97 [.ref pl 0],y]):=fun x y=>by rw[qc ah,ab6]
 have g3:∀ x y,(aJ tk pl s1 (H++[bS.box 97 [.ref pl 0],x,y]))[H.length+2]?=some y:=fun x y=>by rw[ke ah,ahD]
 have p3:∀ x y z,(aJ tk pl s1 (H++[bS.box 97 [.ref pl 0],x,y])).set (H.length+2) z=aJ tk pl s1 (H++[bS.box 97 [.ref pl 0],x,z]):=fun x y z=>by rw[qc ah,aki]
 have Ft:decide (pl<=H.length+2)=true:=dq;have kO:decide (H.length+1<=H.length+2)=true:=ag;refine (show W (PA 2 n) (.seq (.region _) (.seq (.region _) (.seq (.region _) (oL.body.sub [true,true,true])))) _ Q from ?_)
 generalize hX:oL.body.sub [true,true,true]=X;rw[hX] at hQ;have nY:decide (H.length+1<pl)=false:=dq;have D9:decide (H.length+2<pl)=false:=dq;have rz:=fun (t:Nat) (os:List aV) (T:aD) (H:ae) (lo gen:Nat) (K:AS->Prop)=>Ik (A:=PA 2 n) (t:=t) (os:=os) (T:=T) (H:=H) (lo:=lo) (gen:=gen) (K:=K) (cs:=ZT) rfl rfl
 simp(disch:=omega)only[aO,aa,simprocAttr,wW,rz,nY,D9,g0,hq1,OF,UY,bF,a1,tQ,g2,p2,g1,a2,R3,g3,p3,ax,bf,l8,iH,Ft,Bool.and_self];refine hQ _ ?_ ?_ ?_ ?_<;>exact uj
theorem rY(hr:fn.results=[.cell ra true 8])(h7:fn.muts.elem 777777=true)(h8:fn.muts.elem 888888=false)(h:jx tk pl s H){tl:Nat}{a f wn:ay}{wc kc nc:AV}{wk:List Wd}{ns:List ay}
  (hT:T ra=.lbox g [.int .i64 kd,.int .i64 nn,.str a,.str f,.str wn,wc,kc,nc]) (hwc:wc=.ar/\wk=[]\/wc=.slice (aH wk) false) (hk:RL K H.length tl 8 kc (aC ks)) (hn:RL K H.length tl 1 nc (strs ns))
  (hK:K.take H.length=aJ tk pl s' H):finish H.length fn ⟨T,K,pl,gen⟩=some (.agg (aM (.mk kd nn a f wn wk ks ns)),some ⟨aJ tk pl s' H,pl⟩):=by
 have ho:kB H.length ⟨T,K,pl,gen⟩=true:=by
  have:=h.q.open (tk:=tk) (s:=s')
  unfold ni at this;unfold kB
  grind
 have:=Tg hr h7 h8 (s:=⟨T,K,pl,gen⟩) hT hwc hk hn ho h.q.lt
 rw[this,hK]
def Ax(h:pl<H.length):(aJ tk pl s' (H++M)).take H.length=aJ tk pl s' H:=by
 rw[<- DL h,awy bF]
theorem JT.take{base tl:Nat}{ns:List ay}(h:JT tk pl base tl c0 (aJ tk pl s (H++M)) b ns ks s' K)(gW:pl<H.length)(ql:H.length<=tl)(hb:H.length<=base):K.take H.length=aJ tk pl s' H:=by
 refine awH fun j=>?_
 rw[avw]
 by_cases hj:j<H.length
 ·rw[if_pos hj]
  by_cases e:j=pl
  ·subst e
   rw[h.p.at'];unfold aJ
   grind
  ·rw[h.old j ah ah e,dH (fun h=>e h.symm),dH (fun h=>e h.symm),avd hj]
 ·grind [bF]
theorem JT.start{s1:PS}(h:jx tk pl s H)(hl:s'.i<=tk.length)(h6:c0.length=6)(hp:∀ x∈c0,∀ b,AV.bw b x=true){F:aD} :
  JT tk pl (H.length+3) (H.length+1) c0 (aJ tk pl s1 (H++[.box 97 [.ref pl 0],.bZ (c0++[.ar,.ar]),.box 1 [.func (.func 173) [.agg [.ref pl 0,.ref (H.length+1) 0]] []]])) false [] [] s'
   (aJ tk pl s' (H++[.box 97 [.ref pl 0],.bZ (c0++[.ar,.ar]),.box 1 [.func (.func 173) [.agg [.ref pl 0,.ref (H.length+1) 0]] []]])):=by
 have gW:=h.q.lt;have hq:PQ pl (H++[.box 97 [.ref pl 0],.bZ (c0++[.ar,.ar]),.box 1 [.func (.func 173) [.agg [.ref pl 0,.ref (H.length+1) 0]] []]]):=by
  rw[<- R3,<- tQ];refine ((h.q.box).push fun cs hc=>?_).box
  cases hc;rw[ava];intro x hx
  rcases au'.1 hx with hx|hx
  ·exact hp x hx _
  ·simp only[avs,avQ,aww,or_self] at hx
   subst hx;rfl
 refine⟨⟨hq.aJ,nu hq,h.b,hl⟩,⟨⟨.ar,.ar,?_,.inl ⟨rfl,rfl⟩,.inl ⟨rfl,rfl⟩⟩,h6⟩,ah,ah,by rw[bF,abU];exact Nat.le_refl _,(fun h=>absurd h ag),fun j h1 h2 h3=>by rw[dH (fun e=>h3 e.symm),dH (fun e=>h3 e.symm)]⟩
 grind [ke]
end
def nH(pl:Nat)(H:ae)(nm:ay)(k:Int)(f:ay):ae:=H++[.box 97 [.ref pl 0],.bZ [.int .i64 k,.int .i64 0,.str nm,.str f,.str [],.ar,.ar,.ar],.box 1 [.func (.func 173) [.agg [.ref pl 0,.ref (H.length+1) 0]] []]]
abbrev c0N(nm:ay)(k:Int)(f:ay):List AV:=[.int .i64 k,.int .i64 0,.str nm,.str f,.str [],.ar]
section
variable {n:Nat}{tk:List Tk}{pl:Nat}{s s' : PS}{H:ae}{nm:ay}{k:Int}{f:ay}
def ajo(h:jx tk pl s H):jx tk pl s (nH pl H nm k f):=by
 have gW:=h.q.lt;unfold nH;refine⟨?_,by rw[avd gW];exact h.at',h.b,h.le⟩
 rw[<- R3,<- tQ];refine ((h.q.box).push fun cs hc=>?_).box
 cases hc;rfl
def U' : (aJ tk pl s' (nH pl H nm k f)).length=H.length+3:=by rw[bF];unfold nH;rw[abU]
def ajq(h:jx tk pl s H):(aJ tk pl s' (nH pl H nm k f))[H.length]?=some (.box 97 [.ref pl 0]):=by
 rw[ke h.q.lt];unfold nH;rw[List.getElem?_append_right (Nat.le_refl _)];simp
def ajr(h:jx tk pl s H):(aJ tk pl s' (nH pl H nm k f))[H.length+1]?=some (.bZ [.int .i64 k,.int .i64 0,.str nm,.str f,.str [],.ar,.ar,.ar]):=by
 have:=h.q.lt
 rw[ke ah];unfold nH;rw[List.getElem?_append_right ah];simp
def ajp(h:jx tk pl s H):(aJ tk pl s' (nH pl H nm k f))[H.length+2]?=some (.box 1 [.func (.func 173) [.agg [.ref pl 0,.ref (H.length+1) 0]] []]):=by
 have:=h.q.lt
 rw[ke ah];unfold nH;rw[List.getElem?_append_right ah];simp
def aeY(h:jx tk pl s H){f':ay} : (aJ tk pl s' (nH pl H nm k f)).set (H.length+1) (.bZ [.int .i64 k',.int .i64 0,.str nm,.str f',.str [],.ar,.ar,.ar])=aJ tk pl s' (nH pl H nm k' f'):=by
 have:=h.q.lt
 rw[qc ah];unfold nH;rw[List.set_append_right _ _ ah];simp
def rX{s1:PS}(h:jx tk pl s H)(hl:s'.i<=tk.length):JT tk pl (H.length+3) (H.length+1) (c0N nm k f) (aJ tk pl s1 (nH pl H nm k f)) false [] [] s' (aJ tk pl s' (nH pl H nm k f)) :=
 JT.start h hl rfl (by intro x hx b;simp only[avs,avQ,aww] at hx;rcases hx with rfl|rfl|rfl|rfl|rfl|rfl<;>rfl) (F:=fun _=>.undef)
def lR.facts{base tl z:Nat}{rows:List (List AV)}(h:lR K base tl z v rows):v.drop=v/\aN v=true:=by
 rcases h with ⟨rfl,_⟩|⟨l,rfl,_⟩<;>exact⟨rfl,rfl⟩
def aeX(h:jx tk pl s H){base:Nat}{ns:List ay}(hb:H.length<=base)(hJ:JT tk pl base (H.length+1) (c0N nm k f) (aJ tk pl s (H++M)) b ns ks s' K)(q2:T 2=.lbox 0 ZT)(q3:T 3=.ref (H.length+1) 0) :
  W (PA 2 n) (oL.body.sub [true,true,true,true]) ⟨T,K,pl,1⟩ (dn oL H.length (.agg (aM (.mk k 0 nm f [] [] ks ns)),some ⟨aJ tk pl s' H,pl⟩)):=by
 obtain⟨⟨kc,nc,t1,t2,t3⟩,t6⟩:=hJ.t;obtain⟨d1,f1⟩:=t2.facts;obtain⟨d2,f2⟩:=t3.facts;have gW:=h.q.lt;simp only[c0N,avK,avO] at t1;have e:=hJ.take gW ah hb;have jW:=fun T' gen (Fq:T' 2=.lbox 0 [.int .i64 k,.int .i64 0,.str nm,.str f,.str [],.ar,kc,nc])=>rY (fn:=oL) (ra:=2) (tl:=H.length+1) (gen:=gen) rfl rfl rfl h (T:=T') Fq (.inl ⟨rfl,rfl⟩) (.inl (lR.base t2 ah)) (.inl (lR.base t3 ah)) e
 refine (show W (PA 2 n) (.seq (.region _) .ret) _ _ from ?_)
 simp(disch:=omega)only[aO,aa,simprocAttr,q2,q3,t1,d1,d2,f1,f2,ax,bU,ab,axh];exact jW _ _ (uj)
end
theorem Nb{tk:List Tk}(hb:BF tk){s:PS} : (aU (aq tk) s).1.length<=2000001:=by
 unfold aU
 grind [uW]
def Y0{n:Nat}{tk:List Tk}{pl:Nat}{s s':PS}{H:ae}{t:Tm}(h:jx tk pl s H)(hn:n<=1000000)(he:mZ (aq tk) n (pE (aq tk) n 0) s=some (t,s')) :
  aj (PA 2 n) 175 [.ref pl 0] H=some (.agg (aM t),some ⟨aJ tk pl s' H,pl⟩):=by
 refine Cr (fn:=oL) rfl rfl rfl ?_;have gW:=h.q.lt;have l1:=(j9 (tk:=tk) (s:=s)).le h.le;unfold mZ at he;simp only at he;generalize hqq:aU (aq tk) s=q at *;obtain⟨nm,s1⟩:=q;simp only at he l1;refine MP h hqq fun T q1 q2 q3 q4=>?_
 refine (show W (PA 2 n) (oL.body.sub [true,true,true]) ⟨T,aJ tk pl s1 (nH pl H nm 0 []),pl,1⟩ _ from ?_)
 have tS:=fun s' k f=>ajq (s':=s') (nm:=nm) (k:=k) (f:=f) h
 have JL:=fun s' k f=>ajr (s':=s') (nm:=nm) (k:=k) (f:=f) h
 have gcv:=fun s' k f=>ajp (s':=s') (nm:=nm) (k:=k) (f:=f) h
 have vX:=fun s' k f k' f'=>aeY (s':=s') (nm:=nm) (k:=k) (f:=f) (k':=k') (f':=f') h
 have hN:=fun k f=>ajo (nm:=nm) (k:=k) (f:=f) h
 have xj:∀ (st:AS) (Q:bH->AS->Prop),W (PA 2 n) (oL.body.sub [true,true,true]) st Q=W (PA 2 n) (.block 0 (oL.body.sub [true,true,true,false,false])) st (andThen (fun s'=>W (PA 2 n) (oL.body.sub [true,true,true,true]) s' Q) Q):=fun st Q=>FJ
 rw[xj];generalize hF:oL.body.sub [true,true,true,true]=F;have jW:∀ {M:ae} {K:ae} {base:Nat} {b:Bool} {ns:List ay} {ks:List Tm} {k:Int} {f:ay} {s' : PS} (hb:H.length<=base) (hJ:JT tk pl base (H.length+1) (c0N nm k f) (aJ tk pl s (H++M)) b ns ks s' K) {T:aD} (q2:T 2=.lbox 0 ZT) (q3:T 3=.ref (H.length+1) 0),
  W (PA 2 n) F ⟨T,K,pl,1⟩ (dn oL H.length (.agg (aM (.mk k 0 nm f [] [] ks ns)),some ⟨aJ tk pl s' H,pl⟩)):=fun hb hJ T q2 q3=>by rw[<- hF];exact aeX h hb hJ q2 q3
 have nY:decide (H.length+1<pl)=false:=dq;unfold oL;simp only[aK.sub];cases e1:(pk (aq tk) s1==[40]) with
 | true =>
  rw[e1,cond_true] at he;simp only[au2] at he;obtain⟨⟨ks,s2⟩,hl,he⟩:=he;injection he with lZ iZ
  subst lZ iZ;have hi:=J7 (k:=2) (n:=n) (s:=s1) (hN 0 []) ag e1;have lu:=lG (tk:=tk) (s:=s1) (w:=[40]) ag e1;obtain⟨K',hc,b,hJ⟩:=H7 (UP (n:=n) (tl:=H.length+1) (base:=H.length+3) (c0:=c0N nm 3 []) (K0:=aJ tk pl s (nH pl H nm 3 [])) hn) U' (fin:=[41]) ag (rX h lu) dq hl;simp(disch:=omega)only[aO,aa,simprocAttr,jJ,nY,bU,ab,q1,q3,q4,tS,JL,gcv,vX,hi,hc,ax];refine jW ah hJ ?_ ?_<;>exact Lm q2 q3
 | false =>
 have i1:=J6 (k:=2) (n:=n) (s:=s1) (hN 0 []) l1 e1;rw[e1,cond_false] at he;cases e2:(pk (aq tk) s1==[123]) with
 | true =>
  rw[e2,cond_true] at he;simp only[au2] at he;obtain⟨⟨⟨ns,ks⟩,s2⟩,hl,he⟩:=he;injection he with lZ iZ
  subst lZ iZ;have hi:=J7 (k:=2) (n:=n) (s:=s1) (hN 0 []) ag e2;have lu:=lG (tk:=tk) (s:=s1) (w:=[123]) ag e2;obtain⟨K',hc,b,hJ,_⟩:=H7 (YD (n:=n) (tl:=H.length+1) (base:=H.length+3) (c0:=c0N nm 7 []) (K0:=aJ tk pl s (nH pl H nm 7 [])) hn (tS s 7 []) (gcv s 7 []) gW ah ah ah) U' (fin:=[125]) ag ⟨rX h lu,rfl⟩ dq hl;simp(disch:=omega)only[aO,aa,simprocAttr,jJ,nY,bU,ab,q1,q3,q4,tS,JL,vX,i1,hi,hc,ax];refine jW ah hJ ?_ ?_<;>exact Lm q2 q3
 | false =>
 have i2:=J6 (k:=2) (n:=n) (s:=s1) (hN 0 []) l1 e2;rw[e2,cond_false] at he;cases e3:(pk (aq tk) s1==[58]) with
 | true =>
  rw[e3,cond_true] at he;have hi:=J7 (k:=2) (n:=n) (s:=s1) (hN 0 []) ag e3;have lu:=lG (tk:=tk) (s:=s1) (w:=[58]) ag e3;have tw:=GA (k:=2) (n:=n) (s:=s1.up) (hN 0 []) lu;have ln:=jY (tk:=tk) lu;unfold pX at he;generalize aF (aq tk) s1.up=q at *;obtain⟨fd,s2⟩:=q;simp only at he tw ln;cases e4:(pk (aq tk) s2==[91]) with
  | true =>
   rw[e4,cond_true] at he;simp only[au2] at he;obtain⟨⟨t1,s3⟩,hx,he⟩:=he;injection he with lZ iZ
   subst lZ iZ;have Bp:=J7 (k:=2) (n:=n) (s:=s2) (hN 9 fd) ag e4;have lu2:=lG (tk:=tk) (s:=s2) (w:=[91]) ag e4;have HE:=rX (s1:=s) (nm:=nm) (k:=8) (f:=fd) h lu2;obtain⟨K',ha,hJ⟩:=HE.QG hn ag hx;have hk:=YC (k:=2) ah (xW.mk (tl:=H.length+1) HE.p hn ah hx ha);have hw:=zx (k:=2) (n:=n) hJ.p (w:=[93]) ag;have Lf:=hJ.set (s':=aQ (aq tk) [93] s3) (gy ag hJ.p.le);have Fu:=hJ.bk;have hgp:K'[H.length]?=some (.box 97 [.ref pl 0]):=by rw[hJ.old _ ah ah ah];exact tS s 8 fd
   simp(disch:=omega)only[aO,aa,simprocAttr,jJ,nY,bU,ab,q1,q3,q4,tS,JL,gcv,vX,i1,i2,hi,tw,Bp,hk,hw,hgp,ax];refine jW ah Lf ?_ ?_<;>exact Lm q2 q3
  | false =>
   rw[e4,cond_false] at he;simp only[au2] at he;obtain⟨⟨t1,s3⟩,hx,he⟩:=he;injection he with lZ iZ
   subst lZ iZ;have Bp:=J6 (k:=2) (n:=n) (s:=s2) (hN 9 fd) ln e4;have Gp:=Bh (k:=2) (n:=n) (s:=s2) (hN 9 fd) ln (w:=[40]) ag;have lw0:=gy (tk:=tk) (w:=[40]) ag ln;have HE:=rX (s1:=s) (nm:=nm) (k:=9) (f:=fd) h lw0;obtain⟨K',ha,hJ⟩:=HE.QG hn ag hx;have hk:=YC (k:=2) ah (xW.mk (tl:=H.length+1) HE.p hn ah hx ha);have hw:=zx (k:=2) (n:=n) hJ.p (w:=[41]) ag;have Lf:=hJ.set (s':=aQ (aq tk) [41] s3) (gy ag hJ.p.le);have Fu:=hJ.bk;have hgp:K'[H.length]?=some (.box 97 [.ref pl 0]):=by rw[hJ.old _ ah ah ah];exact tS s 9 fd
   simp(disch:=omega)only[aO,aa,simprocAttr,jJ,nY,bU,ab,q1,q3,q4,tS,JL,gcv,vX,i1,i2,hi,tw,Bp,Gp,hk,hw,hgp,ax];refine jW ah Lf ?_ ?_<;>exact Lm q2 q3
 | false =>
 have i3:=J6 (k:=2) (n:=n) (s:=s1) (hN 0 []) l1 e3;rw[e3,cond_false] at he;have uQ:nm.length<=2000001:=by
  have:=Nb h.b (s:=s)
  rwa [hqq] at this
 have hct:∀ H,aj (PA 2 n) 104 [.str nm,.str [46]] H=some (.bool (decide (0<=dp 46 0 nm)),none):=fun H=>cP rfl (AL nm 46 H ah)
 have h0:=Xj (s:=s1) (hN 0 []);cases e4:decide (0<=dp 46 0 nm) with
 | true =>
  rw[e4,cond_true] at he;injection he with he
  injection he with lZ iZ
  subst lZ iZ;rw[e4] at hct;have hJ:=rX (s1:=s) (nm:=nm) (k:=0) (f:=[]) (s':=s1.xe) h l1;have qu:∀ i (b:Bool),(aJ tk pl s1 (nH pl H nm 0 [])).set pl (.box 99 [.slice (tk.map gN) false,.int .i64 (i:Nat),.bool b])=aJ tk pl ⟨i,b⟩ (nH pl H nm 0 []):=fun i b=>ve
  unfold PS.xe at hJ ⊢;simp(disch:=omega)only[aO,aa,simprocAttr,jJ,bU,ab,q1,q3,tS,JL,i1,i2,i3,hct,h0,qu,ax];refine jW ah hJ ?_ ?_<;>exact Lm q2 q3
 | false =>
  rw[e4,cond_false] at he;injection he with he
  injection he with lZ iZ
  subst lZ iZ;rw[e4] at hct;have hJ:=rX (s1:=s) (nm:=nm) (k:=2) (f:=[]) (s':=s1) h l1;simp(disch:=omega)only[aO,aa,simprocAttr,jJ,nY,bU,ab,q1,q3,tS,JL,vX,i1,i2,i3,hct,ax];refine jW ah hJ ?_ ?_<;>exact Lm q2 q3
end
section
def Oc{H:List α}{a:α} : (H++[a])[H.length]?=some a:=by rw[List.getElem?_append_right (Nat.le_refl _)];simp
def ab5{H:List α}{a x:α} : (H++[a]).set H.length x=H++[x]:=by rw[List.set_append_right _ _ (Nat.le_refl _)];simp
section
variable {n:Nat}{tk:List Tk}{pl:Nat}{s s' : PS}{H:ae}
theorem RU(h:jx tk pl s H)(hc:∀ x∈cs,∀ b,AV.bw b x=true)(hl:s'.i<=tk.length):jx tk pl s' (aJ tk pl s' (H++[.bZ cs])):=by
 have gW:=h.q.lt;have hq:PQ pl (H++[.bZ cs]):=h.q.push fun cs' e=>by
  grind
 exact⟨hq.aJ,nu hq,h.b,hl⟩
theorem alO(h:jx tk pl s H)(hc:∀ x∈cs,∀ b,AV.bw b x=true):jx tk pl s (H++[.bZ cs]):=by
 have gW:=h.q.lt;have hq:PQ pl (H++[.bZ cs]):=h.q.push fun cs' e=>by
  grind
 exact⟨hq,by rw[avd gW];exact h.at',h.b,h.le⟩
def RV : (aJ tk pl s' (H++[.bZ cs])).length=H.length+1:=by rw[bF,OF]
def aaE(h:jx tk pl s H) : (aJ tk pl s' (H++[.bZ cs]))[H.length]?=some (.bZ cs):=by rw[ke h.q.lt,Oc]
def acp(h:jx tk pl s H){cs':List AV} : (aJ tk pl s' (H++[.bZ cs])).set H.length (.bZ cs')=aJ tk pl s' (H++[.bZ cs']):=by rw[qc h.q.lt,ab5]
def RW(h:jx tk pl s H)(hl:s'.i<=tk.length)(h6:c0.length=6)(hp:∀ x∈c0,∀ b,AV.bw b x=true){s1:PS} :
  JT tk pl (H.length+1) H.length c0 (aJ tk pl s1 (H++[.bZ (c0++[.ar,.ar])])) false [] [] s' (aJ tk pl s' (H++[.bZ (c0++[.ar,.ar])])):=by
 have gW:=h.q.lt;have hc:∀ x∈c0++[.ar,.ar],∀ b,AV.bw b x=true:=fun x hx b=>by
  rcases au'.1 hx with hx|hx
  ·exact hp x hx b
  ·simp only[avs,avQ,aww,or_self] at hx
   subst hx;rfl
 refine⟨RU h hc hl,⟨⟨.ar,.ar,aaE h,.inl ⟨rfl,rfl⟩,.inl ⟨rfl,rfl⟩⟩,h6⟩,gW,ah,by rw[RV];exact Nat.le_refl _,(fun h=>absurd h ag),fun j h1 h2 h3=>by rw[dH (fun e=>h3 e.symm),dH (fun e=>h3 e.symm)]⟩
def alV{t:Tm} : ∀ x∈aM t,∀ b,AV.bw b x=true:=by
 intro x hx b;rw[ai] at hx;simp only[avs,avQ,aww] at hx
 rcases hx with rfl|rfl|rfl|rfl|rfl|rfl|rfl|rfl<;>rfl
def alW:∀ x∈ZT,∀ b,AV.bw b x=true:=by
 intro x hx b;simp only[avs,avQ,aww] at hx
 rcases hx with rfl|rfl|rfl|rfl|rfl|rfl|rfl|rfl<;>rfl
def vK(hr:fn.results=[.cell ra true 8])(h7:fn.muts.elem 777777=true)(h8:fn.muts.elem 888888=false)(h:jx tk pl s H){t:Tm}(hT:T ra=.lbox g (aM t)) :
  finish H.length fn ⟨T,aJ tk pl s' (H++M),pl,gen⟩=some (.agg (aM t),some ⟨aJ tk pl s' H,pl⟩):=by
 rw[ai] at hT;have:=rY (tl:=0) hr h7 h8 h (K:=aJ tk pl s' (H++M)) (gen:=gen) hT (.inr rfl) (.inr rfl) (.inr rfl) (Ax h.q.lt)
 rw[this,ai];cases t;rfl
def M6(hr:fn.results=[.cell ra true 8])(h7:fn.muts.elem 777777=true)(h8:fn.muts.elem 888888=false)(h:jx tk pl s H){a:ay}(hT:T ra=.lbox g [.int .i64 kd,.int .i64 nn,.str a,.str [],.str [],.ar,.ar,.ar]) :
  finish H.length fn ⟨T,aJ tk pl s' (H++M),pl,gen⟩=some (.agg (aM (.mk kd nn a [] [] [] [] [])),some ⟨aJ tk pl s' H,pl⟩) :=
 rY (tl:=0) hr h7 h8 h (K:=aJ tk pl s' (H++M)) (gen:=gen) hT (.inl ⟨rfl,rfl⟩) (.inl (.inl ⟨rfl,rfl⟩)) (.inl (.inl ⟨rfl,rfl⟩)) (Ax h.q.lt)
end
theorem Ks(s:ay):dD s<=1099511627776:=by
 unfold dD
 grind
def Vg{tk:List Tk}{least:Int}{s:PS}(h:0<=least):0<=(gR (aq tk) least s).1/\(gR (aq tk) least s).1<=1099511627776:=by
 unfold gR;cases e:decide (dD (pk (aq tk) s)<least) with
 | true=>simp only[cond_true];omega
 | false =>
  simp only[cond_false];simp only[avp] at e;have:=Ks (pk (aq tk) s)
  omega
def acA{n:Nat}{tk:List Tk}{pl:Nat}{s s':PS}{H:ae}{t:Tm}(h:jx tk pl s H)(hn:n<=1000000)(he:mS (aq tk) n (pE (aq tk) n 0) s=some (t,s')) :
  aj (PA 2 n) 158 [.ref pl 0] H=some (.agg (aM t),some ⟨aJ tk pl s' H,pl⟩):=by
 refine Cr (fn:=oh) rfl rfl rfl ?_;have gW:=h.q.lt;have rz:=fun (t:Nat) (os:List aV) (T:aD) (H:ae) (lo gen:Nat) (K:AS->Prop)=>Ik (A:=PA 2 n) (t:=t) (os:=os) (T:=T) (H:=H) (lo:=lo) (gen:=gen) (K:=K) (cs:=ZT) rfl rfl
 have hG:=alO h alW;have BW:=OQ (k:=2) (n:=n) hG;have hnu:=fun H=>Vi (k:=2) (n:=n) (H:=H) (h.b.pkl s)
 have vX:=fun s' cs cs'=>acp (s':=s') (cs:=cs) (cs':=cs') h
 have JL:=fun s' cs=>aaE (s':=s') (cs:=cs) h
 have Oi:=fun (T:aD) (s' : PS) (M:ae) (kd nn:Int) (a:ay) (hT:T 2=.lbox 0 [.int .i64 kd,.int .i64 nn,.str a,.str [],.str [],.ar,.ar,.ar])=>M6 (fn:=oh) (ra:=2) (s':=s') (M:=M) (gen:=1) rfl rfl rfl h hT
 have JW:=fun (T:aD) (s' : PS) (M:ae) (t:Tm) (hT:T 2=.lbox 0 (aM t))=>vK (fn:=oh) (ra:=2) (s':=s') (M:=M) (gen:=1) rfl rfl rfl h hT
 have nY:decide (H.length<pl)=false:=dq;have hle:=h.le;unfold mS at he;have ex:dn oh H.length (.agg (aM t),some ⟨aJ tk pl s' H,pl⟩)=dn oh H.length (.agg (aM t),some ⟨aJ tk pl s' H,pl⟩):=rfl;generalize Qe:dn oh H.length (.agg (aM t),some ⟨aJ tk pl s' H,pl⟩)=DN;have done:∀ st,finish H.length oh st=some (.agg (aM t),some ⟨aJ tk pl s' H,pl⟩)->DN .ret st:=fun st h=>by rw[<- Qe];exact h
 cases e1:decide (0<=dD (pk (aq tk) s)) with
 | true =>
  rw[e1,cond_true] at he;injection he with he
  injection he with lZ iZ
  have fg:=ae2 (k:=2) (n:=n) hG (least:=0) ah ah;generalize gR (aq tk) 0 s=q at *;obtain⟨v,s1⟩:=q;subst lZ iZ;simp only at fg Qe done;unfold oh;refine nK6 rz BW hnu e1 fg @ax.eq_1 ?_;exact done _ (Oi _ _ _ _ _ _ (uj))
 | false =>
 rw[e1,cond_false] at he;cases e2:(pk (aq tk) s==[45]) with
 | true =>
  rw[e2,cond_true] at he;injection he with he
  injection he with lZ iZ
  have hi:=HX (k:=2) (n:=n) hG ag e2;have lu:=lG (tk:=tk) (s:=s) (w:=[45]) ag e2;have fg:=ae2 (k:=2) (n:=n) (hG.to lu) (least:=1) ah ah;have hrg:=Vg (tk:=tk) (least:=1) (s:=s.up) ah;rw[fG] at fg;generalize gR (aq tk) 1 s.up=q at *;obtain⟨v,s1⟩:=q;subst lZ iZ;simp only at fg Qe done hrg;have hv:(0:Int)-v=-v:=ah;unfold oh;refine nK6 rz BW hnu e1 hi (j3 fg hv @ax.eq_1) ?_;exact done _ (Oi _ _ _ _ _ _ (uj))
 | false =>
 have i2:=HW (k:=2) (n:=n) hG e2;rw[e2,cond_false] at he;cases e3:(pk (aq tk) s==wT) with
 | true =>
  rw[e3,cond_true] at he;injection he with he
  injection he with lZ iZ
  subst lZ iZ;have hi:=HX (k:=2) (n:=n) hG aI e3;unfold wT at hi;unfold oh;refine nK6 rz BW hnu e1 i2 (j2 hi @ax.eq_1) ?_;exact done _ (Oi _ _ _ _ _ _ (uj))
 | false =>
 have i3:=HW (k:=2) (n:=n) hG e3;unfold wT at i3;rw[e3,cond_false] at he;cases e4:(pk (aq tk) s==sI) with
 | true =>
  rw[e4,cond_true] at he;injection he with he
  injection he with lZ iZ
  subst lZ iZ;have hi:=HX (k:=2) (n:=n) hG aI e4;unfold sI at hi;unfold oh;refine nK6 rz BW hnu e1 i2 (j3 i3 hi @ax.eq_1) ?_;exact done _ (Oi _ _ _ _ _ _ (uj))
 | false =>
 have i4:=HW (k:=2) (n:=n) hG e4;unfold sI at i4;rw[e4,cond_false] at he;cases e5:(pk (aq tk) s==[40]) with
 | true =>
  rw[e5,cond_true] at he;simp only[au2] at he;obtain⟨⟨t1,s1⟩,hx,he⟩:=he;injection he with lZ iZ
  have hi:=HX (k:=2) (n:=n) hG ag e5;have lu:=lG (tk:=tk) (s:=s) (w:=[40]) ag e5;have hex:=N1 (k:=2) hG hn lu hx;have l1:=(iO n 0 _ _ hx).le lu;have hw:=fun cs (hc:∀ x∈cs,∀ b,AV.bw b x=true)=>zx (k:=2) (n:=n) (RU h hc l1) (w:=[41]) ag
  have hwT:=hw (aM t1) alV;rw[fG] at hwT;simp only at iZ lZ;generalize aQ (aq tk) [41] s1=s2 at *;subst lZ iZ;rw[ai] at hex hwT;unfold oh;refine nL6 rz BW hnu (j2 e1 i2) (j5 i3 i4 hi hex hwT) (j5 JL vX nY @bU.eq_1 @ax.eq_1) ?_;exact done _ (JW _ _ _ _ (nD ai))
 | false =>
 have i5:=HW (k:=2) (n:=n) hG e5;rw[e5,cond_false] at he;cases e6:(pk (aq tk) s==iN) with
 | true =>
  rw[e6,cond_true] at he;simp only[au3,au2] at he;obtain⟨⟨w,s1⟩,Gg,⟨ks,s3⟩,hl,he⟩:=he;injection he with lZ iZ
  have hi:=HX (k:=2) (n:=n) hG aI e6;have lu:=lG (tk:=tk) (s:=s) (w:=iN) aI e6;have IK:=SS (k:=2) (n:=n) (hG.to lu) Gg;rw[fG] at IK;have l1:=(xB Gg).le lu;simp only at hl l1;have hwn:=fun cs (hc:∀ x∈cs,∀ b,AV.bw b x=true)=>zx (k:=2) (n:=n) (RU h hc l1) (w:=[91]) ag
  have l2:=gy (tk:=tk) (w:=[91]) ag l1;have Ty:∀ x∈([.int .i64 11,.int .i64 0,.str [],.str [],.str w.name,.slice (aH w.kids) false]:List AV),∀ b,AV.bw b x=true:=by
   intro x hx b;simp only[avs,avQ,aww] at hx
   rcases hx with rfl|rfl|rfl|rfl|rfl|rfl<;>rfl
  have hwT:=hwn ([.int .i64 11,.int .i64 0,.str [],.str [],.str w.name,.slice (aH w.kids) false,.ar,.ar]) (by
   intro x hx b;simp only[avs,avQ,aww] at hx
   rcases hx with rfl|rfl|rfl|rfl|rfl|rfl|rfl|rfl<;>rfl)
  rw[fG] at hwT;have HE:=RW (s1:=s) h l2 (c0:=[.int .i64 11,.int .i64 0,.str [],.str [],.str w.name,.slice (aH w.kids) false]) rfl Ty;obtain⟨K',hc,b,hJ⟩:=H7 (UP (n:=n) (tl:=H.length) (base:=H.length+1) hn) RV (fin:=[93]) ag HE dq hl;simp only[avK,avO] at hc;obtain⟨⟨kc,nc,t1,t2,t3⟩,t6⟩:=hJ.t;obtain⟨d1,f1⟩:=t2.facts;obtain⟨d2,f2⟩:=t3.facts;simp only[avK,avO] at t1;have e:=hJ.take gW (Nat.le_refl _) ah;simp only at iZ lZ e t2;have jW:=fun T' (Fq:T' 2=.lbox 0 [.int .i64 11,.int .i64 0,.str [],.str [],.str w.name,.slice (aH w.kids) false,kc,nc])=>rY (fn:=oh) (ra:=2) (tl:=H.length) (gen:=1) rfl rfl rfl h (T:=T') Fq (.inr rfl) (.inl (lR.base t2 ah)) (.inl (lR.base t3 ah)) e
  generalize aQ (aq tk) [91] s1=s2 at *;subst lZ iZ;rw[iA] at IK;unfold iN at hi;unfold oh;simp(disch:=omega)only[aO,aa,simprocAttr,rz,BW,hnu,e1,i2,i3,i4,i5,hi,IK,hwT,hc,JL,vX,t1,d1,d2,f1,f2,jJ,bU,ab,ax,nY,axh];exact done _ (jW _ (uj))
 | false =>
 have i6:=HW (k:=2) (n:=n) hG e6;unfold iN at i6;rw[e6,cond_false] at he;cases e7:(pk (aq tk) s==nV) with
 | true =>
  rw[e7,cond_true] at he;have hi:=HX (k:=2) (n:=n) hG aI e7;have lu:=lG (tk:=tk) (s:=s) (w:=nV) aI e7;have hm:=YQ (hG.to lu) hn he;rw[fG,ai] at hm;unfold nV at hi;unfold oh;refine nK6 rz BW hnu e1 (j3 i2 i3 i4) (j5 i5 i6 hi hm @ax.eq_1) ?_;exact done _ (JW _ _ _ _ (nD ai))
 | false =>
  have i7:=HW (k:=2) (n:=n) hG e7;unfold nV at i7;rw[e7,cond_false] at he;have hm:=Y0 hG hn he;rw[ai] at hm;unfold oh;refine nK6 rz BW hnu e1 (j3 i2 i3 i4) (j5 i5 i6 i7 hm @ax.eq_1) ?_;exact done _ (JW _ _ _ _ (nD ai))
end
def YO(w:ay)(H:ae):y4 H true 1 false true [.s] [.int .i64 0,.int .i64 0] (.mz 1 false true mO) (.str w)=some (match By w with|some (o,l)=>.tuple [.agg [.int .i64 o,.int .i64 l],.bool true]|none=>.tuple [.agg [.int .i64 0,.int .i64 0],.bool false]):=by
 have ap:ux mO=true:=aI;have e:y4 H true 1 false true [.s] [.int .i64 0,.int .i64 0] (.mz 1 false true mO) (.str w)=(dK [.s] [.str w] mO).map (pW true true [.int .i64 0,.int .i64 0] 1 mO):=by
  simp[y4,UN,AV.drop,AV.cells,AV.isAgg,ap,UK]
 rw[e]
 by_cases h1:w=[37]
 ·subst h1;rfl
 by_cases h2:w=[42]
 ·subst h2;rfl
 by_cases h3:w=[43]
 ·subst h3;rfl
 by_cases h4:w=[45]
 ·subst h4;rfl
 by_cases h5:w=[47]
 ·subst h5;rfl
 by_cases h6:w=[60]
 ·subst h6;rfl
 by_cases h7:w=[61,61]
 ·subst h7;rfl
 by_cases h8:w=[97,110,100]
 ·subst h8;rfl
 by_cases h9:w=[106,111,105,110]
 ·subst h9;rfl
 by_cases h10:w=[111,114]
 ·subst h10;rfl
 have f:∀ {a b:ay},a≠b->(a==b)=false:=fun h=>cY h
 have o:By w=none:=by
  unfold By mO;simp only[List.find?_cons,List.find?_nil,f (awr h1),f (awr h2),f (awr h3),f (awr h4),f (awr h5),f (awr h6),f (awr h7),f (awr h8),f (awr h9),f (awr h10)];rfl
 rw[o];unfold mO;simp only[dK,cD,f h1,f h2,f h3,f h4,f h5,f h6,f h7,f h8,f h9,f h10,ave,avt,au9,cond_false,awf,pW,A6,cond_true,avm,avN,AV.drop]
def BK{kz:Nat}{ka va:Bool}{es:List (List AV)} : AV.drop (.mz kz ka va es)=.mz kz ka va es:=rfl
def BH{s kz:Nat}{ka va:Bool}{es:List (List AV)} : mE s (.mz kz ka va es)=.mz kz ka va es:=rfl
def Vl{w:ay}{o l:Int}(h:By w=some (o,l)):w≠[]:=fun e=>by subst e;rw[Ku] at h;cases h
theorem Sk{n:Nat}{tk:List Tk}{pl:Nat}{s s1:PS}{H:ae}(h:jx tk pl s H)(hn:n<=1000000)(h1:1<=lv)(h6:lv<=6)(qK:s1.i<=tk.length){t1:Tm}{r:Tm × PS}(hb:uz (aq tk) (pE (aq tk) n (lv+1)) lv n t1 s1=some r)
  {T0:aD} {g7 gen:Nat} (q0:T0 0=.ref pl 0) (q1:T0 1=.int .i64 lv) (q4:T0 4=.lbox 0 ZT) (q7:T0 7=.lbox g7 (aM t1)) :
  W (PA 2 n) (jG.body.sub [true,true,true]) ⟨T0,aJ tk pl s1 H,pl,gen⟩ (dn jG H.length (.agg (aM r.1),some ⟨aJ tk pl r.2 H,pl⟩)):=by
 have gW:=h.q.lt;have hl:=h.b.len;have hgl:(PA 2 n).aY 4=[.mz 1 false true mO]:=rfl;have jW:∀ (T:aD) (g gen:Nat),T 4=.lbox g (aM r.1)->finish H.length jG ⟨T,aJ tk pl r.2 H,pl,gen⟩=some (.agg (aM r.1),some ⟨aJ tk pl r.2 H,pl⟩):=fun T g gen hT=>by
  have:=vK (fn:=jG) (ra:=4) (s':=r.2) (M:=[]) (gen:=gen) rfl rfl rfl h hT
  grind
 generalize Qe:dn jG H.length (.agg (aM r.1),some ⟨aJ tk pl r.2 H,pl⟩)=DN;have done:∀ st,finish H.length jG st=some (.agg (aM r.1),some ⟨aJ tk pl r.2 H,pl⟩)->DN .ret st:=fun st h=>by rw[<- Qe];exact h
 unfold jG;simp only[aK.sub];refine (show W (PA 2 n) (.seq (.block 2 (.loop _)) (.seq (.region _) .ret)) _ DN from ?_)
 rw[FJ,He];refine oQ 2 (fun k st=>∃ T t s2 g gen,st=⟨T,aJ tk pl s2 H,pl,gen⟩/\T 0=.ref pl 0/\T 1=.int .i64 lv/\T 4=.lbox 0 ZT/\(∃ b1 b2 b3,T 7=.lbox g [.int .i64 t.kind,.int .i64 t.n,.str t.name,.str t.field,.str t.wn,.slice (aH t.wk) b1,.slice (aC t.kids) b2,.slice (strs t.names) b3])/\s2.i<=tk.length/\uz (aq tk) (pE (aq tk) n (lv+1)) lv k t s2=some r)
  (fun st=>∃ T g gen,st=⟨T,aJ tk pl r.2 H,pl,gen⟩/\T 4=.lbox 0 ZT/\(∃ b1 b2 b3,T 7=.lbox g [.int .i64 r.1.kind,.int .i64 r.1.n,.str r.1.name,.str r.1.field,.str r.1.wn,.slice (aH r.1.wk) b1,.slice (aC r.1.kids) b2,.slice (strs r.1.names) b3])) (fun _=>False) ?_ ?_ (fun _ h=>h.elim) n _ ⟨T0,t1,s1,g7,gen,rfl,q0,q1,q4,⟨false,false,false,by rw[q7,ai]⟩,qK,hb⟩
 ·rintro k st ⟨T,t,s2,g,gen,rfl,q0,q1,q4,⟨b1,b2,b3,q7⟩,xp,hb⟩
  cases k with
  | zero=>cases hb
  | succ k =>
  have h0:=Xj (s:=s2) h;have uc:((lv:Int)+1)=((lv+1:Nat):Int):=ah;obtain⟨i2,bd⟩:=s2;simp only at h0 xp;unfold uz at hb;simp only at hb;cases bd with
  | true =>
   rw[cond_true] at hb;injection hb with hb
   subst hb;refine nK2 q0 h0 ?_;exact⟨_,g,gen,rfl,nD q4,⟨b1,b2,b3,nD q7⟩⟩
  | false =>
   rw[cond_false] at hb;have BW:=OQ (k:=2) (n:=n) (s:=⟨i2,false⟩) (h.to (s':=⟨i2,false⟩) xp);have W0:=fun H=>YO (pk (aq tk) ⟨i2,false⟩) H
   cases ho:By (pk (aq tk) ⟨i2,false⟩) with
   | none =>
    rw[ho] at hb W0;injection hb with hb
    subst hb;simp only at W0;refine nK6 q0 @BK @BH h0 @hgl (j2 BW W0) ?_;exact⟨_,g,_,rfl,nD q4,⟨b1,b2,b3,nD q7⟩⟩
   | some x =>
    obtain⟨o,l⟩:=x;rw[ho] at hb W0;simp only at hb W0;have aZ:=tY (tk:=tk) (s:=⟨i2,false⟩) (Vl ho);simp only at aZ;cases Fv:decide (l=(lv:Int)) with
    | false =>
     rw[Fv,cond_false] at hb;injection hb with hb
     subst hb;have dk:(l != (lv:Int))=true:=by simp only[avp] at Fv;simpa using Fv
     refine nK6 q0 q1 @BK @BH h0 (j4 @hgl BW W0 dk) ?_;exact⟨_,g,_,rfl,nD q4,⟨b1,b2,b3,nD q7⟩⟩
    | true =>
     rw[Fv,cond_true] at hb;simp only[avf] at Fv;subst Fv;simp only[au3] at hb;obtain⟨⟨t2,s3⟩,hx,hb⟩:=hb;simp only at hb;have Ov:(PS.up ⟨i2,false⟩).i<=tk.length:=aZ;have Of:=Xm (k:=2) (h.to Ov) hn (lv:=lv+1) ah ah hx;have l3:=(iO n _ _ _ hx).le Ov;rw[fG,ai,<- uc] at Of;unfold PS.up at Of;have qu:∀ i (b:Bool),(aJ tk pl ⟨i2,false⟩ H).set pl (.box 99 [.slice (tk.map gN) false,.int .i64 ((i:Nat)+1),.bool b])=aJ tk pl ⟨i+1,b⟩ H:=fun i b=>sk
     have dk:((lv:Int) != (lv:Int))=false:=ag;have h3:((lv:Int)==3)=decide ((lv:Int)=3):=rfl;cases h33:decide ((lv:Int)=3) with
     | true =>
      rw[h33,cond_true] at hb;injection hb with hb
      subst hb;rw[h33] at h3;refine nL6 q0 q1 q7 (j2 @BK @BH) (j5 h0 @hgl BW W0 dk) (j5 qu Of h3 @gr.eq_1 @ax.eq_1) ?_;exact⟨_,g,_,rfl,nD q4,⟨_,_,_,by simp(disch:=omega)only[aO,aa,simprocAttr,ai,aC,aH,strs,Tm.kind,Tm.n,Tm.name,Tm.field,Tm.wn,Tm.wk,Tm.kids,Tm.names];rfl⟩⟩
     | false =>
      rw[h33,cond_false] at hb;rw[h33] at h3;refine nL6 q0 q1 q7 (j2 @BK @BH) (j5 h0 @hgl BW W0 dk) (j5 qu Of h3 @gr.eq_1 @ax.eq_1) ?_;exact⟨k,ah,_,_,s3,g,_,rfl,nD q0,nD q1,nD q4,⟨_,_,_,by simp(disch:=omega)only[aO,aa,simprocAttr,ai,aC,aH,strs,Tm.kind,Tm.n,Tm.name,Tm.field,Tm.wn,Tm.wk,Tm.kids,Tm.names];rfl⟩,l3,hb⟩
 ·rintro st ⟨T,g,gen,rfl,q4,b1,b2,b3,q7⟩
  refine nL3 q4 q7 @ax.eq_1 ?_;exact done _ (jW _ 0 _ (nD ai))
section
def afd{n:Nat}{s:PS}(h1:1<=lv)(h6:lv<=6):pE L (n+1) lv s=(pE L n (lv+1) s).bind fun r=>uz L (pE L n (lv+1)) lv n r.1 r.2:=by
 have h:lv=1\/lv=2\/lv=3\/lv=4\/lv=5\/lv=6:=ah
 rcases h with rfl|rfl|rfl|rfl|rfl|rfl<;>rfl
def ajG{n:Nat}{s:PS} : pE L (n+1) 7 s=bif pk L s==tP then (pE L n 7 s.up).map fun r=>(.mk 4 9 [] [] [] [] [r.1] [],r.2)
   else bif pk L s==uq then (pE L n 7 s.up).map fun r=>(.mk 4 11 [] [] [] [] [r.1] [],r.2)
   else mS L n (pE L n 0) s:=rfl
def IC:List (List AV):=[[.int .i64 9,.str [110,111,116]],[.int .i64 11,.str [108,101,110]]]
def acM{A:AP}{kz:Nat}{ka va:Bool}{cur:List AV}{todo:List (List AV)}{H:ae}{t d:Nat}{r:List aV}(h:T t=.iter g kz ka va cur todo)
  (h1:todo=[]->WO A r ⟨T.put d (.tuple [.bool false]),H,lo,gen⟩ (Q .normal))
  (h2:∀ q rest,todo.Perm (q :: rest)->WO A r ⟨(T.put t (.iter g kz ka va q rest)).put d (.tuple [.bool true,qY ka (q.take kz),qY va (q.drop kz)]),H,lo,gen⟩ (Q .normal)) :
  D A (.region (⟨some d,none,.next (.tmp t)⟩ :: r)) ⟨T,H,lo,gen⟩ Q:=by
 have key:∀ s,WO A r s (Q .normal)->qh A.aY (aj A) r s (Q .normal):=fun s ⟨s',h1,h2⟩=>vk r s s' h1 h2
 exact⟨g,kz,ka,va,cur,todo,h,fun e=>key _ (h1 e),fun q rest hp=>key _ (h2 q rest hp)⟩
section
variable {n:Nat}{tk:List Tk}{pl:Nat}{s s' : PS}{H:ae}{t:Tm}
def Xn(h:jx tk pl s H)(hn:n<=1000000)(h1:1<=lv)(h6:lv<=6)(he:pE (aq tk) (n+1) lv s=some (t,s')) :
  D (PA 2 n) jG.body ⟨fi [.ref pl 0,.int .i64 lv],H,H.length,0⟩ (dn jG H.length (.agg (aM t),some ⟨aJ tk pl s' H,pl⟩)):=by
 rw[afd h1 h6] at he;simp only[au3] at he;obtain⟨⟨t1,s1⟩,hx,hb⟩:=he;simp only at hb;have hl1:=(iO n _ _ _ hx).le h.le;have Of:=Xm (k:=2) h hn (lv:=lv+1) ah ah hx;have uc:(((lv+1:Nat)):Int)=(lv:Int)+1:=ah;rw[uc] at Of;have h7:((lv:Int)==7)=false:=dq;have gW:=h.q.lt;have abj:=fun T0 g7 gen q0 q1 q4 q7=>Sk (r:=(t,s')) h hn h1 h6 hl1 hb (T0:=T0) (g7:=g7) (gen:=gen) q0 q1 q4 q7
 generalize hX:jG.body.sub [true,true,true]=X;rw[hX] at abj;refine (show D (PA 2 n) (.seq (.region _) (.seq (.seq (.region _) (.cond _ (jG.body.sub [true,false,true,false]) .skip)) (.seq (.region _) (jG.body.sub [true,true,true])))) _ _ from ?_)
 rw[hX];rw[fh,cq rfl];refine nK0 ?_;rw[fh,fh,cq rfl];refine nK3 h7 @iY @sZ ?_;rw[fh,cq rfl];rw[ai] at Of;refine nK2 Of @ax.eq_1 ?_;refine PB (abj _ 1 _ ?_ ?_ ?_ ?_)<;>exact nD ai
def Tf(hr:fn.results=[.cell ra true 8]){s:AS}{base:Nat}(hT:s.T ra=.lbox g cs):finish base fn s=finish base fn (s.cx ra (.lbox g (cs.map AV.drop))):=by
 have dd:∀ v:AV,v.drop.drop=v.drop:=fun v=>by cases v<;>rfl
 have e:iW (s.cx ra (.lbox g (cs.map AV.drop))) (.cell ra true 8)=iW s (.cell ra true 8):=by
  have h2:(s.cx ra (.lbox g (cs.map AV.drop))).T ra=.lbox g (cs.map AV.drop):=by
   show cond (Nat.beq ra ra) _ _=_
   rw[awZ];rfl
  simp only[iW,h2,hT,ab,cond_true,List.length_map,List.drop_zero,<- List.map_take,awh]
  congr 3
  refine List.map_congr_left fun x _=>dd x
 have er:oG (s.cx ra (.lbox g (cs.map AV.drop))) (.cell ra true 8)=oG s (.cell ra true 8):=rfl;have eo:kB base (s.cx ra (.lbox g (cs.map AV.drop)))=kB base s:=rfl;unfold finish ml qI oR tj iQ qZ tq BM xf;rw[hr,eo];simp only[mC,rr,vQ,lY,e,er];rfl
theorem Xp(h:jx tk pl s H)(hn:n<=1000000)(he:pE (aq tk) (n+1) 7 s=some (t,s')) :
  D (PA 2 n) jG.body ⟨fi [.ref pl 0,.int .i64 (7:Nat)],H,H.length,0⟩ (dn jG H.length (.agg (aM t),some ⟨aJ tk pl s' H,pl⟩)):=by
 rw[ajG] at he;have gW:=h.q.lt;have jW:∀ (T:aD) (g gen:Nat) (s1:PS) (t1:Tm) (b1 b2 b3:Bool) (M:ae),T 4=.lbox g [.int .i64 t1.kind,.int .i64 t1.n,.str t1.name,.str t1.field,.str t1.wn,.slice (aH t1.wk) b1,.slice (aC t1.kids) b2,.slice (strs t1.names) b3] ->
   finish H.length jG ⟨T,aJ tk pl s1 (H++M),pl,gen⟩=some (.agg (aM t1),some ⟨aJ tk pl s1 H,pl⟩):=by
  intro T g gen s1 t1 b1 b2 b3 M hT;rw[Tf (ra:=4) rfl hT];refine vK (fn:=jG) (ra:=4) (s':=s1) (M:=M) (gen:=gen) (g:=g) rfl rfl rfl h ?_;rw[ai];rfl
 generalize Qe:dn jG H.length (.agg (aM t),some ⟨aJ tk pl s' H,pl⟩)=DN;have done:∀ st,finish H.length jG st=some (.agg (aM t),some ⟨aJ tk pl s' H,pl⟩)->DN .ret st:=fun st h=>by rw[<- Qe];exact h
 have hGl:pl<(H++[bS.je 1 false false IC]).length:=dq;have hG:jx tk pl s (H++[.je 1 false false IC]):=⟨h.q.push fun cs e=>(by cases e),by rw[avd gW];exact h.at',h.b,h.le⟩
 have D6:∀ x:bS,(H++[x])[H.length]?=some x:=fun x=>Oc
 have qK:∀ x y:bS,(H++[x]).set H.length y=H++[y]:=fun x y=>ab5
 have fe9:dK [.i] [.int .i64 9] []=some none:=rfl;have Te:dK [.i] [.int .i64 11] [[.int .i64 9,.str [110,111,116]]]=some none:=rfl;have RX:∀ (k:IntKind) (n:Int),(AV.int k n).isAgg=false:=fun _ _=>rfl
 have RY:∀ (s:List UInt8),(AV.str s).isAgg=false:=fun _=>rfl
 have ahu:(false==false)=true:=rfl;have sn:∀ (es:List (List AV)) (r:List AV),wj es none r=es++[r]:=fun _ _=>rfl
 have v8:decide (H.length<H.length)=false:=ag;have dQ:dM IC=true:=rfl;refine (show D (PA 2 n) (.seq (.region _) (.seq (.seq (.region _) (.cond _ (.seq (.seq (.region _) (.block 0 (.loop (.seq (.region _) (.seq (.cond _ .skip (.exit 0)) (.block 1 (.seq (.region _) (.seq (.region _) (.cond _ (.seq (.region _) .ret) .skip))))))))) (.seq (.region _) .ret)) .skip)) (jG.body.sub [true,true]))) _ DN from ?_)
 generalize jG.body.sub [true,true]=X;rw[fh,cq rfl];refine nK0 ?_;rw[fh,fh,cq rfl];refine nK1 @iY ?_;rw[fh,fh,cq rfl];refine nM (j2 (j5 D6 qK @fe9 @Te @RX) (j4 @RY @sn v8 @tf.eq_1)) ?_;have hr:∀ (T:aD) (K:AS->Prop),T 13=.mref H.length->WO (PA 2 n) [⟨some 14,none,.rng 1 false false (.tmp 13)⟩] ⟨T,H++[.map 1 false false IC],H.length,1⟩ K=K ⟨T.put 14 (.iter 1 1 false false [] IC),H++[.je 1 false false IC],H.length,2⟩:=fun T K h=>by
  rw[fZ];have yH:Nat.blt H.length H.length=false:=by
   cases hb:Nat.blt H.length H.length with
   | true=>have:=av6 hb;omega
   | false=>rfl
  have:aS (PA 2 n).aY (aj (PA 2 n)) ⟨T,H++[.map 1 false false IC],H.length,1⟩ ⟨some 14,none,.rng 1 false false (.tmp 13)⟩=some ⟨T.put 14 (.iter 1 1 false false [] IC),H++[.je 1 false false IC],H.length,2⟩:=by
   simp only[aS,aR,aE.addr,h,D6,awZ,aw6,dQ,Bool.and_self,cond_true,au9,avt,cond_false,AS.ca,AS.cx,AS.iK,qK,yH]
  rw[this,aW,Hc]
 refine (show WO (PA 2 n) [⟨some 14,none,.rng 1 false false (.tmp 13)⟩] ⟨_,H++[.map 1 false false IC],H.length,1⟩ _ from ?_)
 rw[hr _ _ (uj)];refine nK0 ?_;rw[Hq];have gn:=fun (t1:Tm) (s1:PS) (hx:mS (aq tk) n (pE (aq tk) n 0) s=some (t1,s1))=>acA hG hn hx
 have nY:decide (H.length<pl)=false:=dq;refine⟨_,O8 (fun k st=>∃ T cur todo gen,st=⟨T,H++[.je 1 false false IC],H.length,gen⟩/\T 0=.ref pl 0/\T 4=.lbox 0 ZT/\T 14=.iter 1 1 false false cur todo/\todo.length=k/\(∀ q∈todo,q∈IC) /\
   ∀ q∈IC,q∈todo\/∀ i w,q=[.int .i64 i,.str w]->(pk (aq tk) s==w)=false) ?_ 2 _ ⟨_,[],IC,2,rfl,uj,uj,uj,rfl,fun q h=>h,fun q h=>.inl h⟩⟩
 rintro k st ⟨T,cur,todo,gen,rfl,q0,q4,q14,hk,X6,ft⟩
 refine (show D (PA 2 n) (.seq (.region _) _) _ _ from ?_)
 rw[fh];refine acM q14 ?_ ?_
 ·intro e
  subst e;have mJ:(pk (aq tk) s==tP)=false:=((ft [.int .i64 9,.str [110,111,116]] (by simp[IC])).resolve_left ag) 9 _ rfl
  have hle:(pk (aq tk) s==uq)=false:=((ft [.int .i64 11,.str [108,101,110]] (by simp[IC])).resolve_left ag) 11 _ rfl
  rw[mJ,hle,cond_false,cond_false] at he;have hm:=gn _ _ he;rw[ai] at hm;refine nK0 ?_;rw[fh];refine nK2 @iY @acK ?_;rw[fh,cq rfl];refine nK5 q0 q4 hm @aaT @ax.eq_1 ?_;exact done _ (jW _ 0 _ _ t false false false _ (uj))
 ·intro q rest hp
  have hq:q∈IC:=X6 _ (hp.mem_iff.2 (List.mem_cons_self));obtain⟨i,w,rfl,hw,hi⟩:∃ i w,q=[.int .i64 i,.str w]/\w≠[]/\(w=tP/\i=9\/w=uq/\i=11):=by
   simp only[IC,avs,avQ,aww] at hq
   rcases hq with rfl|rfl
   ·exact⟨9,tP,rfl,aI,.inl ⟨rfl,rfl⟩⟩
   ·exact⟨11,uq,rfl,aI,.inr ⟨rfl,rfl⟩⟩
  have X4:∀ (T:aD) (H:ae) (lo gen t u:Nat) (os:List aV) (K:AS->Prop),T u=.iter 1 1 false false [AV.int .i64 i,AV.str w] rest->WO (PA 2 n) (⟨some t,none,.ent (.tmp u)⟩ :: os) ⟨T,H,lo,gen⟩ K=jK (PA 2 n) (some (.tuple [.int .i64 i,.str w])) t os T H lo gen K:=fun T H lo gen t u os K h=>ik (by simp only[aR,h];rfl)
  have ah7:∀ (t:Nat) (os:List aV) (T0:aD) (v0 v1 v2:AV) (K:AS->Prop) (lo gen:Nat) (H:ae),WO (PA 2 n) (⟨some t,none,.ent (.tmp 14)⟩ :: os) ⟨((T0.put 14 (.iter 1 1 false false [AV.int .i64 i,AV.str w] rest)).put 15 v1).put 16 v2,H,lo,gen⟩ K=jK (PA 2 n) (some (.tuple [.int .i64 i,.str w])) t os (((T0.put 14 (.iter 1 1 false false [AV.int .i64 i,AV.str w] rest)).put 15 v1).put 16 v2) H lo gen K:=fun t os T0 v0 v1 v2 K lo gen H=>X4 _ _ _ _ _ _ _ _ rfl
  refine nK0 ?_;rw[fh];refine nK2 @iY @sZ ?_;rw[Hq,fh,cq rfl];simp only[ah7 _ _ _ .undef];refine nK0 ?_;rw[fh,cq rfl];cases e:(pk (aq tk) s==w) with
  | true =>
   have RC:=HX (k:=2) (n:=n) hG hw e;have lu:=lG (tk:=tk) (s:=s) hw e;have e':=avM.1 e;obtain⟨t1,hx,rfl⟩:∃ t1,pE (aq tk) n 7 s.up=some (t1,s')/\t=.mk 4 i [] [] [] [] [t1] []:=by
    rcases hi with ⟨rfl,rfl⟩|⟨rfl,rfl⟩
    ·rw[e,cond_true] at he
     simp only[au2] at he
     grind
    ·have en:(pk (aq tk) s==tP)=false:=by rw[e'];rfl
     rw[en,e,cond_false,cond_true] at he;simp only[au2] at he
     grind
   have Of:=Xm (k:=2) (hG.to lu) hn (lv:=7) ah ah hx;rw[fG,ai] at Of;have adm:aj (PA 2 n) 135 [.ref pl 0,.int .i64 7] (aJ tk pl s.up (H++[.je 1 false false IC]))=_:=Of;refine nK3 q0 RC @iY ?_;rw[fh,cq rfl];refine nK5 q0 q4 adm @aaT @ax.eq_1 ?_;refine done _ (jW _ 0 _ _ (.mk 4 i [] [] [] [] [t1] []) true false true _ ?_);exact nT1 @ai tv
  | false =>
   have RC:=HW (k:=2) (n:=n) hG e;refine nK4 q0 RC @iY @sZ ?_;have hl:=hp.length_eq;rw[List.length_cons] at hl;refine⟨rest.length,ah,_,[AV.int .i64 i,.str w],rest,_,rfl,nD q0,nD q4,uj,rfl,fun q hq=>X6 q (hp.mem_iff.2 (awc _ hq)),fun q hq=>?_⟩
   grind
end
end
section
def aaF:aK:=mN.body.sub [true,true,true,false,false,true,false,true,false]
def aaG:aK:=mN.body.sub [true,true,true,false,false,true,true,true,true,true,false,true,false,true,true,false]
def aaH:aK:=mN.body.sub [true,true,true,false,false,true,true,true,true,true,false,true,true,true,true,true,true,false]
def lt5{P:Nat->Prop}(h0:P 0)(h1:P 1)(h2:P 2)(h3:P 3)(h4:P 4):∀ t,t<5->P t
 | 0,_=>h0|1,_=>h1|2,_=>h2|3,_=>h3|4,_=>h4
section
variable {n:Nat}{tk:List Tk}{pl pv tl:Nat}{s s' : PS}{H:ae}{t:Tm}{nm:ay}
def aji(aZ:pl<tl)(hle:pl<H.length)(uc:pl<pv/\pv<tl)(hv:H[pv]?=some (.box 97 [.ref pl 0]))(kD:aj (PA 2 n) 91 [.ref pl 0] H=some (.agg (aM t),some ⟨aJ tk pl s' H,pl⟩))
  {kc:AV} {m:Nat} {es:List AV} {Hd:ae} {cs:List AV} (hA:rA (aJ tk pl s' H) tl 6 8 kc m es Hd cs) {T0:aD} {g:Nat} (CT:T0 1=.ref pv 0) (hT3:T0 3=.ref tl 0) {Q:bH->AS->Prop}
  (hQ:∀ T,(∀ t,t<5->T t=T0 t)->Q .normal ⟨T,(sO Hd es (aM t)).set tl (.bZ (cs.set 6 (.sref H.length 0 (m+1) 8))),pl,g⟩) :
  D (PA 2 n) aaF ⟨T0,H,pl,g⟩ Q:=by
 have pM:H[tl]?=some (.bZ cs):=by have:=hA.obj;rwa [dH ah] at this
 have ru:(aJ tk pl s' H).length=H.length:=bF;have T1:=hv;have uK:=fun (T:aD) (o:Bool) (os:List aV) (K:AS->Prop)=>hA.ao (A:=PA 2 n) (row:=nz) (o:=o) (bytes:=136) (d:=18) (os:=os) (T:=T) (lo:=pl) (gen:=g) (K:=K) ah ah rfl rfl
 rw[ru] at uK;have h7:decide (7<=cs.length)=true:=by have:=hA.cl;simp;omega
 have nA:=fun v=>hA.tk (v:=v)
 have IQ:decide (tl<pl)=false:=dq;have Mm:decide (pl<pl)=false:=ag;have TO:decide (H.length<pl)=false:=dq;have asm:asNat (.int .i64 (m:Int))=some m:=by rw[bA ah];rfl
 have BV:decide (m<m+1)=true:=ag;have hn:=fun row o=>hA.n (row:=row) (o:=o)
 have hn0:=fun row=>hA.n0 (row:=row)
 have qu:=fun o=>hA.set (row:=nz) (row':=aM t) (o:=o)
 have J3:=hA.akh (row:=nz) (row':=aM t);rw[ru] at hn hn0 qu J3;have J2:=hA.put (row:=nz) (row':=aM t) rfl jk;have Bu:List.take (m*8) (es++nz)++aM t++List.drop (m*8+8) (es++nz)=es++aM t:=by
  have:=J2;unfold putAt at this;rwa [jk] at this
 have Gg:(es++nz).length=(m+1)*8:=by rw[List.length_append,hA.el];simp[nz];omega
 have h88:decide (m*8+8<=(m+1)*8)=true:=dq;have ft:(aM t).all (bf H.length)=true:=by rw[ai];rfl
 unfold aaF mN;simp only[aK.sub];refine aaS 7 [] rfl (by conv=>lhs;cbv) rfl (by conv=>lhs;cbv) ?_
 simp(disch:=omega)only[oy,da,cj,cE,cr,gK,aS,aR,bt,aE.eval,AS.ca,↓reduceIte,Nat.reduceEqDiff,Option.isSome,Option.isNone,cond_true,cond_false,Nat.reduceBEq,Nat.reduceAdd,Nat.reduceMul,aa,cz,eq_self,reduceCtorEq,gF,de,cn,bL,bound,dj,AS.bG,aP,bN,bz,Nat.reduceLeDiff,cA,putAt,Int.reduceEq,Int.reduceLT,Int.reduceLE,Int.reduceBEq,Int.reduceBNe,Int.reduceAdd,Int.reduceNeg,Int.reduceSub,Int.reduceMul,dX,dW,dV,dU,dS,dR,dZ,dY,ax,bA,avH,avG,Fa,hT3,CT,hA.obj,pM,hA.bc,hA.hc,T1,kD,Mm,hA.adr,hA.lv,uK,asm,BV,jk,hn,hn0,Gg,h88,ft,Bu,qu,J3,TO,hA.t,h7,nA,IQ,WM,WK,Ny,IH,WL]
 and_intros<;>exact hQ _ (lt5 rfl rfl rfl rfl rfl)
def aeZ(aZ:pl<tl)(hle:pl<H.length)(uc:pl<pv/\pv<tl)(hv:H[pv]?=some (.box 97 [.ref pl 0]))(kD:aj (PA 2 n) 39 [.ref pl 0] H=some (.str nm,some ⟨aJ tk pl s' H,pl⟩))
  {kc:AV} {m:Nat} {es:List AV} {Hd:ae} {cs:List AV} (hA:rA (aJ tk pl s' H) tl 7 1 kc m es Hd cs) {T0:aD} {g:Nat} (CT:T0 1=.ref pv 0) (hT3:T0 3=.ref tl 0) {Q:bH->AS->Prop}
  (hQ:∀ T,(∀ t,t<5->T t=T0 t)->Q .normal ⟨T,(sO Hd es [.str nm]).set tl (.bZ (cs.set 7 (.sref H.length 0 (m+1) 1))),pl,g⟩) :
  D (PA 2 n) aaG ⟨T0,H,pl,g⟩ Q:=by
 have pM:H[tl]?=some (.bZ cs):=by have:=hA.obj;rwa [dH ah] at this
 have ru:(aJ tk pl s' H).length=H.length:=bF;have T1:=hv;have uK:=fun (T:aD) (o:Bool) (os:List aV) (K:AS->Prop)=>hA.ao (A:=PA 2 n) (row:=[.str nm]) (o:=o) (bytes:=16) (d:=57) (os:=os) (T:=T) (lo:=pl) (gen:=g) (K:=K) ah ah rfl rfl
 rw[ru] at uK;have h7:decide (8<=cs.length)=true:=by have:=hA.cl;simp;omega
 have nA:=fun v=>hA.tk (v:=v)
 have IQ:decide (tl<pl)=false:=dq;have Mm:decide (pl<pl)=false:=ag;unfold aaG mN;simp only[aK.sub];refine PB ?_;simp(disch:=omega)only[oy,da,cj,cE,cr,gK,aS,aR,bt,aE.eval,AS.ca,↓reduceIte,Nat.reduceEqDiff,Option.isSome,Option.isNone,cond_true,cond_false,Nat.reduceBEq,Nat.reduceAdd,Nat.reduceMul,aa,cz,eq_self,reduceCtorEq,gF,de,cn,bL,bound,dj,AS.bG,aP,bN,bz,Nat.reduceLeDiff,cA,putAt,Int.reduceEq,Int.reduceLT,Int.reduceLE,Int.reduceBEq,Int.reduceBNe,Int.reduceAdd,Int.reduceNeg,Int.reduceSub,Int.reduceMul,dX,dW,dV,dU,dS,dR,dZ,dY,ax,bA,avH,avG,hT3,CT,hA.obj,pM,hA.bc,hA.hc,T1,kD,Mm,hA.adr,hA.lv,uK,hA.t,h7,nA,IQ];exact hQ _ (lt5 rfl rfl rfl rfl rfl)
def af3{l:Nat}{a b c:Tm}(aZ:pl<tl)(ql:tl<l)(pM:H[tl]?=some (.bZ cs))(hc6:cs[6]?=some (.sref l 0 3 8))(Qh:H[l]?=some (.box bD (aM a++(aM b++aM c)))){T0:aD}(hT3:T0 3=.ref tl 0)
  (hQ:∀ T,(∀ t,t<5->T t=T0 t)->Q .normal ⟨T,H.set l (.box bD (aM b++(aM a++aM c))),pl,g⟩) :
  D (PA 2 n) aaH ⟨T0,H,pl,g⟩ Q:=by
 have ru:=(au7.1 Qh).1;have anc:(H.set l (.box bD (aM b++(aM b++aM c))))[tl]?=some (.bZ cs):=by rw[List.getElem?_set_ne ah];exact pM
 have hbt:bU (some (.bZ cs)) false 1 6=some (.sref l 0 3 8):=by simp only[bU,ab,cond_false,hc6,ave,AV.drop]
 have h03:decide (0<3)=true:=rfl;have h13:decide (1<3)=true:=rfl;have ta:=jk (t:=a);have tb:=jk (t:=b);have tc:=jk (t:=c);have dT:∀ t:Tm,(aM t).map AV.drop=aM t:=fun t=>by rw[ai];rfl
 have Ft:bU (some (.box bD (aM a++(aM b++aM c)))) true 8 8=some (.agg (aM b)):=by
  have h24:Nat.ble (8+8) (aM a++(aM b++aM c)).length=true:=by simp[ta,tb,tc]
  simp only[bU,ab,cond_true,h24];rw[awE ta,awy tb,dT]
 have hb0:bU (some (.box bD (aM a++(aM b++aM c)))) true 8 0=some (.agg (aM a)):=by
  have h24:Nat.ble (0+8) (aM a++(aM b++aM c)).length=true:=by simp[ta,tb,tc]
  simp only[bU,ab,cond_true,h24];rw[List.drop_zero,awy ta,dT]
 have ahY:(H.set l (.box bD (aM b++(aM b++aM c))))[l]?=some (.box bD (aM b++(aM b++aM c))):=List.getElem?_set_self ru;have h24:∀ x:Tm,(aM x++(aM b++aM c)).length=24:=fun x=>by simp[jk]
 have ft:∀ x:Tm,(aM x).all (bf l)=true:=fun x=>by rw[ai];rfl
 have Lj:List.take 0 (aM a++(aM b++aM c))++aM b++List.drop 8 (aM a++(aM b++aM c))=aM b++(aM b++aM c):=by
  rw[awE ta];rfl
 have D6:List.take 8 (aM b++(aM b++aM c))++aM a++List.drop 16 (aM b++(aM b++aM c))=aM b++(aM a++aM c):=by
  rw[awy tb,show (16:Nat)=8+8 from rfl,<- av7,awE tb,awE tb,avj]
 have IQ:decide (l<pl)=false:=dq;have hd0:List.drop 8 (aM a++(aM b++aM c))=aM b++aM c:=awE ta;unfold aaH mN;simp only[aK.sub];refine PB ?_;simp(disch:=omega)only[oy,da,cj,cE,cr,gK,aS,aR,bt,aE.eval,AS.ca,↓reduceIte,Nat.reduceEqDiff,Option.isSome,Option.isNone,cond_true,cond_false,Nat.reduceBEq,Nat.reduceAdd,Nat.reduceMul,aa,cz,eq_self,reduceCtorEq,gF,de,cn,bL,bound,dj,AS.bG,aP,bN,bz,Nat.reduceLeDiff,cA,putAt,Int.reduceEq,Int.reduceLT,Int.reduceLE,Int.reduceBEq,Int.reduceBNe,Int.reduceAdd,Int.reduceNeg,Int.reduceSub,Int.reduceMul,dX,dW,dV,dU,dS,dR,dZ,dY,ax,bA,avH,avG,hT3,pM,hbt,anc,h13,Qh,Ft,h03,hb0,jk,h24,ft,hd0,Lj,IQ,ahY,D6,List.set_set];exact hQ _ (lt5 rfl rfl rfl rfl rfl)
end
end
section
abbrev c0E(k:Int):List AV:=[.int .i64 k,.int .i64 0,.str [],.str [],.str [],.ar]
def eH(pl:Nat)(H:ae)(k:Int):ae:=H++[.box 97 [.ref pl 0],.bZ [.int .i64 k,.int .i64 0,.str [],.str [],.str [],.ar,.ar,.ar]]
section
variable {n:Nat}{tk:List Tk}{pl:Nat}{s s' : PS}{H:ae}{k:Int}
def aaU(h:jx tk pl s H):jx tk pl s (eH pl H k):=by
 have gW:=h.q.lt;unfold eH;refine⟨?_,by rw[avd gW];exact h.at',h.b,h.le⟩
 rw[<- tQ];refine (h.q.box).push fun cs hc=>?_
 cases hc;rfl
def mU:(aJ tk pl s' (eH pl H k)).length=H.length+2:=by rw[bF];unfold eH;rw[UY]
def ahq(h:jx tk pl s H):(aJ tk pl s' (eH pl H k))[H.length]?=some (.box 97 [.ref pl 0]):=by
 rw[ke h.q.lt];unfold eH;rw[List.getElem?_append_right (Nat.le_refl _)];simp
def aaV(h:jx tk pl s H):(aJ tk pl s' (eH pl H k))[H.length+1]?=some (.bZ [.int .i64 k,.int .i64 0,.str [],.str [],.str [],.ar,.ar,.ar]):=by
 have:=h.q.lt
 rw[ke ah];unfold eH;rw[List.getElem?_append_right ah];simp
def acR(h:jx tk pl s H) : (aJ tk pl s' (eH pl H k)).set (H.length+1) (.bZ [.int .i64 k',.int .i64 0,.str [],.str [],.str [],.ar,.ar,.ar])=aJ tk pl s' (eH pl H k'):=by
 have:=h.q.lt
 rw[qc ah];unfold eH;rw[List.set_append_right _ _ ah];simp
def CA{s1:PS}(h:jx tk pl s H)(hl:s'.i<=tk.length):JT tk pl (H.length+2) (H.length+1) (c0E k) (aJ tk pl s1 (eH pl H k)) false [] [] s' (aJ tk pl s' (eH pl H k)):=by
 have gW:=h.q.lt;refine⟨(aaU h).to hl,⟨⟨.ar,.ar,aaV h,.inl ⟨rfl,rfl⟩,.inl ⟨rfl,rfl⟩⟩,rfl⟩,ah,ah,by rw[mU];exact Nat.le_refl _,(fun h=>absurd h ag),fun j h1 h2 h3=>by rw[dH (fun e=>h3 e.symm),dH (fun e=>h3 e.symm)]⟩
def JT.nG{base tl pv:Nat}{ns:List ay}{w:ay}{r:List Tm × PS}(hJ:JT tk pl base tl c0 K0 b ns ks s K)(hn:n<=1000000)(hw:w≠[])(hv:K0[pv]?=some (.box 97 [.ref pl 0]))(h1:pl<pv)(h2:pv<tl)
  (gD:ks.length<=1000) (he:Go.Proofs.YtbadnagdfefbnaaGreatDoor.nG (aq tk) (pE (aq tk) n 0) w ks s=some r) :
  ∃ K',aj (PA 2 n) 134 [.str w,.ref pv 0,.ref tl 0] K=some (.tuple [],some ⟨K',pl⟩)/\(∃ b',JT tk pl base tl c0 K0 b' ns r.1 r.2 K')/\r.1.length<=ks.length+1/\(r.2.bad=false->r.1.length=ks.length+1):=by
 have htb:=hJ.tb;have oT:K[pv]?=some (.box 97 [.ref pl 0]):=by rw[hJ.old pv ah ah ah];exact hv
 unfold Go.Proofs.YtbadnagdfefbnaaGreatDoor.nG at he;cases e:(aQ (aq tk) w s).bad with
 | true =>
  rw[e,cond_true] at he;injection he with he
  subst he;refine⟨_,S5 (k:=2) ah (zL.no (tl:=tl) hJ.p hn oT h1 h2 hw e),⟨b,hJ.set (gy hw hJ.p.le)⟩,ag,fun h=>?_⟩
  rw[e] at h;cases h
 | false =>
  rw[e,cond_false] at he;unfold rm at he;simp only[au2] at he;obtain⟨⟨t,s2⟩,hx,rfl⟩:=he;obtain⟨K',ha,hJ'⟩:=(hJ.set (s':=aQ (aq tk) w s) (gy hw hJ.p.le)).QG hn ah hx;rw[fG] at ha;refine⟨K',S5 (k:=2) ah (zL.mk (tl:=tl) hJ.p hn oT h1 h2 hw e hx ha),⟨true,hJ'⟩,ag,fun _=>ag⟩
def JT.swap{base tl:Nat}{ns:List ay}(hJ:JT tk pl base tl c0 K0 b ns ks s K)(h3:ks.length=3)(h6:c0.length=6) :
  ∃ l x y z cs,ks=[x,y,z]/\tl<l/\K[tl]?=some (.bZ cs)/\cs[6]?=some (.sref l 0 3 8)/\K[l]?=some (.box bD (aM x++(aM y++aM z)))/\JT tk pl base tl c0 K0 b ns [y,x,z] s (K.set l (.box bD (aM y++(aM x++aM z)))):=by
 obtain⟨x,y,z,rfl⟩:∃ x y z,ks=[x,y,z]:=by
  match ks,h3 with
  | [x,y,z],_=>exact⟨x,y,z,rfl⟩
 obtain⟨⟨kc,nc,t1,t2,t3⟩,t6⟩:=hJ.t
 rcases t2 with ⟨_,h⟩|⟨l,rfl,q1,q2,q3,q4⟩
 ·cases h
 ·have yK:(aC [x,y,z]).flatten=aM x++(aM y++aM z):=by simp[aC]
  have adA:(aC [y,x,z]).flatten=aM y++(aM x++aM z):=by simp[aC]
  have hl3:(aC [x,y,z]).length=3:=by simp[aC]
  rw[yK] at q3;rw[hl3] at t1;have ru:=(au7.1 q3).1;have aZ:=hJ.lt;have htb:=hJ.tb;have hbk:=hJ.bk;refine⟨l,x,y,z,_,rfl,q1,t1,by rw[List.getElem?_append_right ah,h6];rfl,q3,⟨?_,?_,hJ.lt,hJ.tb,by rw[List.length_set];exact hJ.bk,fun _=>ag,fun j a1 a2 a3=>by rw[List.getElem?_set_ne ah];exact hJ.old j a1 a2 a3⟩⟩
  ·refine⟨⟨by rw[List.length_set];exact hJ.p.q.lt,fun j cs hj hc=>?_⟩,by rw[List.getElem?_set_ne ah];exact hJ.p.at',hJ.p.b,hJ.p.le⟩
   rw[List.length_set]
   by_cases e:l=j
   ·subst e;rw[List.getElem?_set_self ru] at hc;cases hc
   ·rw[List.getElem?_set_ne e] at hc;exact hJ.p.q.ob j cs hj hc
  ·refine⟨⟨_,nc,by rw[List.getElem?_set_ne ah];exact t1,.inr ⟨l,rfl,q1,q2,by rw[List.getElem?_set_self ru,adA],by simp[aC]⟩,t3.Af fun l' n' hv=>?_⟩,t6⟩
   subst hv;refine List.getElem?_set_ne fun e=>?_
   subst e;exact LA (ks:=[x,y,z]) (m:=3) (.inr ⟨l,by rw[hl3],q1,q2,by rw[yK];exact q3,q4⟩) t3
end
end
section
section
variable {n:Nat}{tk:List Tk}{pl:Nat}{s s' : PS}{H:ae}{t:Tm}
def acQ(h:jx tk pl s H){base:Nat}{ns:List ay}{k:Int}(hb:H.length<=base)(hJ:JT tk pl base (H.length+1) (c0E k) (aJ tk pl s (H++M)) b ns ks s' K)(q2:T 2=.lbox 0 ZT)(q3:T 3=.ref (H.length+1) 0) :
  W (PA 2 n) (mN.body.sub [true,true,true,true]) ⟨T,K,pl,1⟩ (dn mN H.length (.agg (aM (.mk k 0 [] [] [] [] ks ns)),some ⟨aJ tk pl s' H,pl⟩)):=by
 obtain⟨⟨kc,nc,t1,t2,t3⟩,t6⟩:=hJ.t;obtain⟨d1,f1⟩:=t2.facts;obtain⟨d2,f2⟩:=t3.facts;have gW:=h.q.lt;simp only[c0E,avK,avO] at t1;have e:=hJ.take gW ah hb;have jW:=fun T' gen (Fq:T' 2=.lbox 0 [.int .i64 k,.int .i64 0,.str [],.str [],.str [],.ar,kc,nc])=>rY (fn:=mN) (ra:=2) (tl:=H.length+1) (gen:=gen) rfl rfl rfl h (T:=T') Fq (.inl ⟨rfl,rfl⟩) (.inl (lR.base t2 ah)) (.inl (lR.base t3 ah)) e
 refine (show W (PA 2 n) (.seq (.region _) .ret) _ _ from ?_)
 simp(disch:=omega)only[aO,aa,simprocAttr,q2,q3,t1,d1,d2,f1,f2,ax,bU,ab,axh];exact jW _ _ (uj)
def S6{args:List AV}{H:ae}{x:AV × Option fP}(hR:zK (n+1) args H x):args.length=mN.np/\D (PA 2 n) mN.body ⟨fi args,H,H.length,0⟩ (dn mN H.length x):=by
 cases hR with
 | @mk tk pl s H t s' h HM he =>
 refine⟨rfl,?_⟩;have hn:n<=1000000:=ah;have he:qG (aq tk) (pE (aq tk) n 0) (pE (aq tk) n 1) s=some (t,s'):=he;have gW:=h.q.lt;have hG:=aaU (k:=0) h;have rz:=fun (t:Nat) (os:List aV) (T:aD) (H:ae) (lo gen:Nat) (K:AS->Prop)=>Ik (A:=PA 2 n) (t:=t) (os:=os) (T:=T) (H:=H) (lo:=lo) (gen:=gen) (K:=K) (cs:=ZT) rfl rfl
 have g0:(H++[bS.box 97 [.ref pl 0]])[H.length]?=some (.box 97 [.ref pl 0]):=ag;have JV:∀ {M:ae} {K:ae} {base:Nat} {b:Bool} {ns:List ay} {ks:List Tm} {k:Int} {s' : PS} (hb:H.length<=base) (hJ:JT tk pl base (H.length+1) (c0E k) (aJ tk pl s (H++M)) b ns ks s' K) {T:aD} (q2:T 2=.lbox 0 ZT) (q3:T 3=.ref (H.length+1) 0),
   D (PA 2 n) (mN.body.sub [true,true,true,true]) ⟨T,K,pl,1⟩ (dn mN H.length (.agg (aM (.mk k 0 [] [] [] [] ks ns)),some ⟨aJ tk pl s' H,pl⟩)):=fun hb hJ T q2 q3=>PB (acQ h hb hJ q2 q3)
 have JW:=fun (T:aD) (s' : PS) (M:ae) (t:Tm) (hT:T 2=.lbox 0 (aM t))=>vK (fn:=mN) (ra:=2) (s':=s') (M:=M) (gen:=1) rfl rfl rfl h hT
 generalize Qe:dn mN H.length (.agg (aM t),some ⟨aJ tk pl s' H,pl⟩)=DN;have done:∀ st,finish H.length mN st=some (.agg (aM t),some ⟨aJ tk pl s' H,pl⟩)->DN .ret st:=fun st h=>by rw[<- Qe];exact h
 refine (show D (PA 2 n) (.seq (.region _) (.seq (.region _) (.seq (.region _) (.seq (.block 0 (mN.body.sub [true,true,true,false,false])) (mN.body.sub [true,true,true,true]))))) _ DN from ?_)
 generalize hF:mN.body.sub [true,true,true,true]=F;rw[hF] at JV;rw[fh,cq rfl];refine nK1 @wW ?_;rw[fh,cq rfl];refine nK2 rz @OF ?_;rw[fh,cq rfl];refine nK0 ?_;rw[fh,Hq];have q:∀ (T:aD),T 1=.ref H.length 0->T 2=.lbox 0 ZT->T 3=.ref (H.length+1) 0->T 4=.func (.func 134) [] [.ref H.length 0,.ref (H.length+1) 0] ->
   D (PA 2 n) (mN.body.sub [true,true,true,false,false]) ⟨T,eH pl H 0,H.length,1⟩ (leave 0 (andThen (fun s'=>D (PA 2 n) F s' DN) DN)):=by
  intro T q1 q2 q3 q4;rw[hG.eq];have tS:=fun s' k=>ahq (s':=s') (k:=k) h
  have JL:=fun s' k=>aaV (s':=s') (k:=k) h
  have vX:=fun s' k k'=>acR (s':=s') (k:=k) (k':=k') h
  have nY:decide (H.length+1<pl)=false:=dq;have D8:decide (H.length<pl)=false:=dq;have hxx:decide (pl<pl)=false:=ag;have D9:decide (H.length+2<pl)=false:=dq;have abp:∀ w:ay,dM [[.str w]]=true:=fun _=>rfl
  unfold qG at he;unfold mN;simp only[aK.sub];cases e1:(pk (aq tk) s==Hf) with
  | true =>
   rw[e1,cond_true] at he;unfold rm at he;simp only[au3,au2] at he;obtain⟨_,⟨⟨t1,sA⟩,Qv,rfl⟩,⟨YG,sB⟩,Yq,⟨ks3,sC⟩,Yr,he⟩:=he;injection he with lZ iZ
   simp only at lZ iZ Yq Yr;subst lZ iZ;have hi:=J7 (k:=2) (n:=n) (s:=s) hG aI e1;have lu:=lG (tk:=tk) (s:=s) (w:=Hf) aI e1;have HE:=CA (s1:=s) (k:=5) h lu;obtain⟨K1,ha,Bo⟩:=HE.QG hn ag Qv;obtain⟨kc,m,es,Hd,cs,hA,hH⟩:=mQ jk ha;have mA:=N2 (k:=2) HE.p hn Qv;obtain⟨K2,gV,⟨b2,Lf⟩,z2,_⟩:=Bo.nG hn (w:=Ch) aI (pv:=H.length) (tS s 5) gW ah ag Yq;have zz2:YG.length<=1000:=by
    have:YG.length<=0+1+1:=cY z2
    omega
   obtain⟨K3,pg,⟨b3,Ts⟩,z3,_⟩:=Lf.nG hn (w:=Cf) aI (pv:=H.length) (tS s 5) gW ah zz2 Yr;unfold Hf at hi;unfold Ch at gV;unfold Cf at pg;have hl5:(aJ tk pl s.up (eH pl H 5)).length=H.length+2:=mU;rw[fh,cq rfl];refine nK4 q1 tS hi @iY ?_;rw[fh,cq rfl];simp(disch:=omega)only[aO,aa,simprocAttr,q3,JL,vX,ax,jJ,nY];rw[fh];refine aji (n:=n) (pv:=H.length) ah (by rw[hl5];omega) ⟨gW,ah⟩ (tS s.up 5) mA hA (nD q1) (nD q3) fun T' Fq=>?_
   have p1:=Fq 1 ah;have p2:=Fq 2 ah;have p3:=Fq 3 ah;have p4:=Fq 4 ah;simp(disch:=omega)only[aO,aa,simprocAttr,q1,q2,q3,q4] at p1 p2 p3 p4;rw[bF] at hH
   replace hH:K1=(sO Hd es (aM t1)).set (H.length+1) (.bZ (cs.set 6 (.sref (aJ tk pl s.up (eH pl H 5)).length 0 (m+1) 8))):=hH
   rw[<- hH,kQ];refine PB ?_;refine nK3 p4 gV pg ?_;rw[<- Qe];refine JV ah Ts ?_ ?_<;>exact Lm p2 p3
  | false =>
  have i1:=J6 (k:=2) (n:=n) (s:=s) hG h.le e1;unfold Hf at i1;rw[e1,cond_false] at he;cases e2:(pk (aq tk) s==xZ) with
  | true =>
   rw[e2,cond_true] at he;simp only[au3,au2] at he;obtain⟨⟨YG,sB⟩,Yq,⟨ks3,sC⟩,Yr,he⟩:=he;injection he with lZ iZ
   simp only at lZ iZ Yr;have hi:=J7 (k:=2) (n:=n) (s:=s) hG aI e2;have lu:=lG (tk:=tk) (s:=s) (w:=xZ) aI e2;have tw:=GA (k:=2) (n:=n) (s:=s.up) hG lu;have ln:=jY (tk:=tk) lu;generalize aF (aq tk) s.up=q at *;obtain⟨nm,sN⟩:=q;simp only at tw ln Yq lZ;subst lZ iZ;have HE:=(CA (s1:=s) (k:=6) h ln).nam nm ag;obtain⟨K0,ha,HE⟩:=HE;obtain⟨K2,gV,⟨b2,Lf⟩,z2,_⟩:=HE.nG hn (w:=[61]) ag (pv:=H.length) (tS s 6) gW ah ag Yq;have zz2:YG.length<=1000:=by
    have:YG.length<=0+1:=cY z2
    omega
   obtain⟨K3,pg,⟨b3,Ts⟩,z3,_⟩:=Lf.nG hn (w:=RR) aI (pv:=H.length) (tS s 6) gW ah zz2 Yr;unfold xZ at hi;unfold RR at pg;have hK0:K0=(aJ tk pl sN (eH pl H 6)++[bS.box bD [.str nm]]).set (H.length+1) (.bZ [.int .i64 6,.int .i64 0,.str [],.str [],.str [],.ar,.ar,.sref (H.length+2) 0 1 1]):=by
    have:=ha
    unfold uw at this;rw[JL] at this;simp only[avI,avk] at this;injection this with this
    rw[<- this,List.set_append_left _ _ (by rw[mU];omega),mU]
    rfl
   have g1:(aJ tk pl sN (eH pl H 0)++[bS.box bD [.str nm]])[H.length+1]?=some (.bZ [.int .i64 0,.int .i64 0,.str [],.str [],.str [],.ar,.ar,.ar]):=by
    rw[avd (by rw[mU];omega)];exact JL sN 0
   have g2:∀ cs,(aJ tk pl sN (eH pl H 0)++[bS.box bD [.str nm]]).set (H.length+1) (.bZ cs)=(aJ tk pl sN (eH pl H 0)).set (H.length+1) (.bZ cs)++[bS.box bD [.str nm]]:=fun cs=>List.set_append_left _ _ (by rw[mU];omega)
   have g3:(aJ tk pl sN (eH pl H 6)++[bS.box bD [.str nm]])[H.length+1]?=some (.bZ [.int .i64 6,.int .i64 0,.str [],.str [],.str [],.ar,.ar,.ar]):=by
    rw[avd (by rw[mU];omega)];exact JL sN 6
   have i1' : aj (PA 2 n) 40 [.ref pl 0,.str [105,102]] (aJ tk pl s (eH pl H 0))=some (.bool false,none):=i1;rw[fh,cq rfl];refine nK4 q1 tS i1 @iY ?_;rw[fh,cq rfl];refine nK4 q1 tS hi @iY ?_;refine PB ?_;simp(disch:=omega)only[aO,aa,simprocAttr,abp,avy,awl,q1,q3,q4,tS,tw,mU,g1,g2,vX,g3,ax,jJ,nY,D9,<- hK0,gV,pg];rw[<- Qe];refine JV ah Ts ?_ ?_<;>exact Lm q2 q3
  | false =>
  have i2:=J6 (k:=2) (n:=n) (s:=s) hG h.le e2;unfold xZ at i2;rw[e2,cond_false] at he;cases e3:(pk (aq tk) s==sJ) with
  | true =>
   rw[e3,cond_true] at he;simp only[au3,au2] at he;obtain⟨⟨OE,sA⟩,Qv,⟨YG,sB⟩,Yq,⟨ks3,sC⟩,Yr,he⟩:=he;injection he with lZ iZ
   simp only at lZ iZ Yq Yr;have hi:=J7 (k:=2) (n:=n) (s:=s) hG aI e3;have lu:=lG (tk:=tk) (s:=s) (w:=sJ) aI e3;have tw:=GA (k:=2) (n:=n) (s:=s.up) hG lu;have ln:=jY (tk:=tk) lu;unfold oe at Qv lZ;generalize aF (aq tk) s.up=q at *;obtain⟨nm,sN⟩:=q;simp only at tw ln Qv lZ;obtain⟨K0,ha,HE⟩:=(CA (s1:=s) (k:=12) h ln).nam nm ag;unfold sJ at hi;have hK0:K0=(aJ tk pl sN (eH pl H 12)++[bS.box bD [.str nm]]).set (H.length+1) (.bZ [.int .i64 12,.int .i64 0,.str [],.str [],.str [],.ar,.ar,.sref (H.length+2) 0 1 1]):=by
    have:=ha
    unfold uw at this;rw[JL] at this;simp only[avI,avk] at this;injection this with this
    rw[<- this,List.set_append_left _ _ (by rw[mU];omega),mU]
    rfl
   have g1:(aJ tk pl sN (eH pl H 0)++[bS.box bD [.str nm]])[H.length+1]?=some (.bZ [.int .i64 0,.int .i64 0,.str [],.str [],.str [],.ar,.ar,.ar]):=by
    rw[avd (by rw[mU];omega)];exact JL sN 0
   have g2:∀ cs,(aJ tk pl sN (eH pl H 0)++[bS.box bD [.str nm]]).set (H.length+1) (.bZ cs)=(aJ tk pl sN (eH pl H 0)).set (H.length+1) (.bZ cs)++[bS.box bD [.str nm]]:=fun cs=>List.set_append_left _ _ (by rw[mU];omega)
   have g3:(aJ tk pl sN (eH pl H 12)++[bS.box bD [.str nm]])[H.length+1]?=some (.bZ [.int .i64 12,.int .i64 0,.str [],.str [],.str [],.ar,.ar,.ar]):=by
    rw[avd (by rw[mU];omega)];exact JL sN 12
   have ank:K0[H.length]?=some (.box 97 [.ref pl 0]):=by rw[HE.old _ ah ah ah];exact tS s 12
   have hwc:=zx (k:=2) (n:=n) HE.p (w:=[44]) ag;have Bo:=HE.set (s':=aQ (aq tk) [44] sN) (gy ag HE.p.le);have tail:∀ (ns:List ay) (sM:PS) (K:ae) (T' : aD) (b:Bool),JT tk pl (H.length+2) (H.length+1) (c0E 12) (aJ tk pl s (eH pl H 12)) b ns [] sM K->nG (aq tk) (pE (aq tk) n 0) [61] [] sM=some (OE,sA) ->
     T' 1=.ref H.length 0->T' 2=.lbox 0 ZT->T' 3=.ref (H.length+1) 0->T' 4=.func (.func 134) [] [.ref H.length 0,.ref (H.length+1) 0]->t=.mk 12 0 [] [] [] [] (bif sC.bad then ks3 else xM ks3) ns ->
     D (PA 2 n) (mN.body.sub [true,true,true,false,false,true,true,true,true,true,false,true,true]) ⟨T',K,pl,1⟩ (leave 0 (andThen (fun s'=>D (PA 2 n) F s' DN) DN)):=by
    intro ns sM K T' b hJ Qv p1 p2 p3 p4 ht;obtain⟨K1,hc1,⟨b1,Bo⟩,z1,w1⟩:=hJ.nG hn (w:=[61]) ag (pv:=H.length) (tS s 12) gW ah ag Qv;have zz1:OE.length<=1:=cY z1;obtain⟨K2,gV,⟨b2,Lf⟩,z2,w2⟩:=Bo.nG hn (w:=Cg) aI (pv:=H.length) (tS s 12) gW ah (by show OE.length<=1000;omega) Yq
    have zz2:YG.length<=2:=by have:YG.length<=OE.length+1:=z2;omega
    obtain⟨K3,pg,⟨b3,Ts⟩,z3,w3⟩:=Lf.nG hn (w:=RQ) aI (pv:=H.length) (tS s 12) gW ah (by show YG.length<=1000;omega) Yr
    have lB:=gG (iO n 0) aI Yr;have lA:=gG (iO n 0) aI Yq;have aiC:K3[H.length]?=some (.box 97 [.ref pl 0]):=by rw[Ts.old _ ah ah ah];exact tS s 12
    have gn:=Ts.p.at';unfold nK at gn;simp only at gn lB lA w1 w2 w3 Ts;unfold Cg at gV;unfold RQ at pg;unfold mN;simp only[aK.sub];rw[fh,cq rfl];refine nK2 p4 hc1 ?_;rw[fh,cq rfl];refine nK2 p4 gV ?_;rw[fh,cq rfl];refine nK2 p4 pg ?_;rw[fh,cq rfl];cases hb:sC.bad with
    | true =>
     rw[hb] at gn ht;rw[cond_true] at ht;refine nK5 p1 aiC gn @iY @sZ ?_;rw[<- Qe,ht,<- iZ];refine JV ah Ts ?_ ?_<;>exact Lm p2 p3
    | false =>
     rw[hb] at gn ht;rw[cond_false] at ht;have hB:sB.bad=false:=by
      cases h:sB.bad with
      | false=>rfl
      | true=>have:=lB.bad h;rw[hb] at this;cases this
     have hA:sA.bad=false:=by
      cases h:sA.bad with
      | false=>rfl
      | true=>have:=lA.bad h;rw[hB] at this;cases this
     have e1':=w1 hA;have e2':=w2 hB;have e3':=w3 hb;simp only[List.length_nil] at e1';obtain⟨l,x,y,z,cs,gD,k1,k2,k3,k4,hJ4⟩:=Ts.swap ah rfl;refine nK5 p1 aiC gn @iY @sZ ?_;refine af3 ah k1 k2 k3 k4 (nD p3) fun T2 hT2=>?_
     have r2:=hT2 2 ah;have r3:=hT2 3 ah;simp(disch:=omega)only[aO,aa,simprocAttr,p2,p3] at r2 r3;have hsw:xM ks3=[y,x,z]:=by rw[gD];rfl
     rw[hsw] at ht
     show D (PA 2 n) F _ DN
     rw[<- Qe,ht,<- iZ];exact JV ah hJ4 r2 r3
   have HH:=Bo.p.at';unfold nK at HH;have Mo:(aJ tk pl (aQ (aq tk) [44] sN) K0)[H.length]?=some (.box 97 [.ref pl 0]):=by rw[Bo.old _ ah ah ah];exact tS s 12
   generalize hTL:mN.body.sub [true,true,true,false,false,true,true,true,true,true,false,true,true]=TL at tail;have aq4:TL=TL:=rfl;unfold mN at hTL;simp only[aK.sub] at hTL;rw[hTL];rw[fh,cq rfl];refine nK4 q1 tS i1 @iY ?_;rw[fh,cq rfl];refine nK4 q1 tS i2 @iY ?_;rw[fh,cq rfl];refine nK4 q1 tS hi @iY ?_;rw[fh,cq rfl];simp(disch:=omega)only[aO,aa,simprocAttr,abp,avy,awl,q1,q3,tS,tw,mU,g1,g2,vX,g3,ax,jJ,nY,D9,<- hK0];rw[fh,fh,cq rfl];refine nK3 q1 ank hwc ?_;rw[fh,cq rfl];cases hbW:(aQ (aq tk) [44] sN).bad with
   | true =>
    rw[hbW] at HH Qv lZ;rw[cond_true] at Qv lZ;refine nK5 q1 Mo HH @iY @sZ ?_;refine tail _ _ _ _ _ Bo Qv ?_ ?_ ?_ ?_ lZ.symm<;>exact vK4 q1 q2 q3 q4
   | false =>
    rw[hbW] at HH Qv lZ;rw[cond_false] at Qv lZ;refine nK5 q1 Mo HH @iY @sZ ?_;have Lf:=Bo.set (s':=(aF (aq tk) (aQ (aq tk) [44] sN)).2) (jY Bo.p.le);obtain⟨K4,ha4,hJ4⟩:=Lf.nam (aF (aq tk) (aQ (aq tk) [44] sN)).1 ag;have hcn:=Va (k:=2) (n:=n) Bo.p;obtain⟨kc,m,es,Hd,cs,hA,hH⟩:=mQ (z:=1) (row:=[.str (aF (aq tk) (aQ (aq tk) [44] sN)).1]) rfl ha4;have hbk:=Bo.bk;refine aeZ (n:=n) (pv:=H.length) ah Bo.p.q.lt ⟨gW,ah⟩ Mo hcn hA (nD q1) (nD q3) fun T' Fq=>?_
    have p1:=Fq 1 ah;have p2:=Fq 2 ah;have p3:=Fq 3 ah;have p4:=Fq 4 ah;simp(disch:=omega)only[aO,aa,simprocAttr,q1,q2,q3,q4] at p1 p2 p3 p4;rw[bF] at hH
    replace hH:K4=(sO Hd es [.str (aF (aq tk) (aQ (aq tk) [44] sN)).1]).set (H.length+1) (.bZ (cs.set 7 (.sref (aJ tk pl (aQ (aq tk) [44] sN) K0).length 0 (m+1) 1))):=hH
    rw[<- hH];exact tail _ _ _ _ _ hJ4 Qv p1 p2 p3 p4 lZ.symm
  | false =>
  have i3:=J6 (k:=2) (n:=n) (s:=s) hG h.le e3;unfold sJ at i3;rw[e3,cond_false] at he;have Of:=Xm (k:=2) hG hn (lv:=1) ah ah he;rw[hG.eq,fG,ai] at Of;have adm:aj (PA 2 n) 135 [.ref pl 0,.int .i64 1] (aJ tk pl s (eH pl H 0))=_:=Of;rw[fh,cq rfl];refine nK4 q1 tS i1 @iY ?_;rw[fh,cq rfl];refine nK4 q1 tS i2 @iY ?_;rw[fh,cq rfl];refine nK4 q1 tS i3 @iY ?_;refine PB ?_;simp(disch:=omega)only[aO,aa,simprocAttr,q1,q2,tS,adm,ax];unfold eH;refine done _ (JW _ _ _ _ ?_);exact nD ai
 refine q _ ?_ ?_ ?_ ?_<;>exact uj
end
end
section
section
variable {n:Nat}{tk:List Tk}{pl pv fl:Nat}{s s1 s2:PS}{H:ae}{nm:ay}{w:Wd}
def akk(aZ:pl<pv)(hle:pl<H.length)(hv:H[pv]?=some (.box 97 [.ref pl 0]))(ads:aj (PA 2 n) 39 [.ref pl 0] H=some (.str nm,some ⟨aJ tk pl s1 H,pl⟩))(adt:aj (PA 2 n) 89 [.ref pl 0] (aJ tk pl s1 H)=some (.agg [.str w.name,.slice (aH w.kids) false],some ⟨aJ tk pl s2 H,pl⟩))
  {T0:aD} (oS:T0 0=.ref pv 0) {Q:bH->AS->Prop}
  (hQ:∀ T,T 0=T0 0->T 1=T0 1->T 2=.lbox 0 [.str nm,.str w.name,.slice (aH w.kids) false,.int .i64 0]->Q .normal ⟨T,aJ tk pl s2 H,pl,1⟩) :
  D (PA 2 n) (C6.body.sub [false]) ⟨T0,H,H.length,0⟩ Q:=by
 have T1:H[pv]?=some (.box 97 [.ref pl 0]):=hv;have Mo:(aJ tk pl s1 H)[pv]?=some (.box 97 [.ref pl 0]):=by rw[dH ah];exact hv
 have Mm:decide (pl<pl)=false:=ag;unfold C6;simp only[aK.sub];refine PB ?_;refine nM (j2 (j5 oS T1 ads Mo adt) (j2 Mm @ax.eq_1)) ?_;exact hQ _ rfl rfl rfl
end
end
end Go.Proofs.YtbadnagdfefbnaaGreatDoor
end
