/-
  A part of the proof of SyntaxLossless: UQ33, UQ34, UQ35, UQ36, UQ37, UQ38, UQ39, UQ40, UQ41, UQ42, UQ43.
-/
import Derived.Test.YtkoebdjmmgckdaaGreatDoorQ12
set_option linter.unusedSimpArgs false
set_option linter.unusedVariables false
set_option linter.defProp false
set_option maxHeartbeats 4000000
set_option maxRecDepth 100000
noncomputable section
namespace Go.Proofs.YtkoebdjmmgckdaaGreatDoor
open Go Go.Abs Go.Proofs
variable {st:AS}{least:Int}{ks:List Tm}{r:List Tm × PS}{L jo l tx:List av}{d f g i k:Nat}{s':PS}{β:Type}{Hx:aa}{w:av}
def DC(nm:av)(us:List av)(x y z:AV)(tD:nm.length<=1100000)(PN:us.length<=1100000)(hub:∀ u∈us,u.length<=1100000)(H:aa)(hhx:aV H.length x=true)(hhy:aV H.length y=true)(hhz:aV H.length z=true)(hdx:x.drop=x)(hdy:y.drop=y)(hdz:z.drop=z):ai A 29 [.agg [.str nm,.slice (strs us) false,x,y,z]] H=some (.slice (strs (de ⟨nm,us,[],[],[]⟩)) true,none):=by
 obtain⟨K,hK⟩:∃ K,K=H++[.box 32 [.str nm,.slice (strs us) false,x,y,z],.box 125 [.al,.bool false]]:=⟨_,rfl⟩;obtain⟨mm,BB⟩:∃ mm,mm=H.length+1:=⟨_,rfl⟩;have hKl:K.length=H.length+2:=by rw[hK];simp
 have hP:PW mm K:=⟨af,fun j cs hj=>by
  rw[hK,BB] at *;intro e;rw[List.getElem?_append_right af] at e
  match uY:j-H.length with
  | 0=>omega
  | 1=>rw[uY] at e;cases e
  | n+2=>rw[uY] at e;simp at e⟩
 have h0:K[mm]?=some (.box 125 [.al,.bool false]):=by rw[hK,BB];exact h2b
 have ef:=Ou hP [[109,111,100,117,108,101]] ae h0;rw[uz] at ef;obtain⟨l1,e1,t1,n1⟩:=tJ hP nm (by have:=tD;omega) [[109,111,100,117,108,101]] false ae
 simp only[List.length_cons,List.length_nil,ax2] at e1 t1 n1;have fm:∀ l b,(ct mm l b K)[H.length]?=some (.box 32 [.str nm,.slice (strs us) false,x,y,z]):=fun l b=>by rw[hK,BB];exact Jz
 have qN:∀ l b,(ct mm l b K).take H.length=H:=fun l b=>by rw[hK,BB];exact Bb
 have DI:∀ l b x,((ct mm l b K).set mm x).take H.length=H:=fun l b x=>by rw[hK,BB];exact yl
 have wF:decide (H.length+1<H.length)=false:=ae;have rf:decide (mm<H.length)=false:=df;have hus:∀ i,i<=us.length->(us.take i).all isWord=(us.take i).all isWord:=fun _ _=>rfl
 have Gl:=fun l b=>fu (l:=l) (b:=b) hP
 unfold nJ at Gl;refine cy (fn:=IQ) rfl rfl rfl ?_;refine iC 3 (fun st=>∃ T,st=⟨T,ct mm l1 (!isWord nm) K,H.length,0⟩/\T 1=.ref H.length 0/\T 3=.ref mm 0) ?_ ?_
 ·unfold IQ
  simp only[aG.pre];have hKs:H++[bG.box 32 [.str nm,.slice (strs us) false,x,y,z],.box 125 [.al,.bool false]]=K:=hK.symm;have Vc:H.length+1=mm:=BB.symm;generalize (!isWord nm)=b1 at *;refine l9 hhx hhy hhz hdx (j5 hdy hdz @Bool.and_self Vc hKs) (j5 ef e1 fm rf @Nat.lt_irrefl) ?_;exact⟨_,rfl,dS,dS⟩
 ·rintro st ⟨T,rfl,q1,q3⟩
  refine iC 0 (fun st=>∃ T l',st=⟨T,ct mm l' (!(isWord nm&&us.all isWord)) K,H.length,0⟩/\T 3=.ref mm 0/\((isWord nm&&us.all isWord)=true->l'=heads ⟨nm,us,[],[],[]⟩)) ?_ ?_
  ·unfold IQ
   simp only[aG.post,aG.pre];refine nL3 q1 fm @bu ?_;refine bK us.length 0 (fun i st=>∃ T l',st=⟨T,ct mm l' (!(isWord nm&&(us.take i).all isWord)) K,H.length,0⟩/\T 3=.ref mm 0/\T 16=.slice (strs us) false/\T 17=.int .i64 us.length/\T 18=.int .i64 i/\((isWord nm&&(us.take i).all isWord)=true->l'=[[109,111,100,117,108,101],nm]++((us.take i).map fun u=>[[117,115,101],u]).flatten)/\l'.length<=2+2*i)
    (fun st=>∃ T l',st=⟨T,ct mm l' (!(isWord nm&&us.all isWord)) K,H.length,0⟩/\T 3=.ref mm 0/\((isWord nm&&us.all isWord)=true->l'=heads ⟨nm,us,[],[],[]⟩)) (fun _=>False) ?_ (fun st h=>h) (fun _ h=>h.elim) 0 _ af ?_
   ·rintro i st hi ⟨T,l',rfl,q3,q16,q17,q18,ht,Gg⟩
    by_cases aP:i<us.length
    ·have hx:=aw3 aP
     have hm:=axn aP;have mD:=jD hx;generalize us[i]=u at hx hm mD;have ft:=gY hx;have au6:=hub u hm;obtain⟨l2,e2,t2,n2⟩:=BN hP [[117,115,101]] ae l' (!(isWord nm&&(us.take i).all isWord)) iA;simp only[List.length_cons,List.length_nil] at n2;rw[orT,uz] at e2;rw[orT] at t2;obtain⟨l3,e3,t3,n3⟩:=tJ hP u af l2 (!(isWord nm&&(us.take i).all isWord)) af;have eo:(!(isWord nm&&(us.take i).all isWord) || !isWord u)=!(isWord nm&&(us.take (i+1)).all isWord):=by
      rw[mD,ayS];simp only[List.all_cons,List.all_nil,axX];cases isWord nm<;>cases (us.take i).all isWord<;>cases isWord u<;>rfl
     rw[eo] at e3 t3;have ri:(isWord nm&&(us.take (i+1)).all isWord)=true->(isWord nm&&(us.take i).all isWord)=true:=by
      rw[mD,ayS];cases isWord nm<;>cases (us.take i).all isWord<;>simp
     generalize (isWord nm&&(us.take (i+1)).all isWord)=ok1 at *;generalize (isWord nm&&(us.take i).all isWord)=ok0 at *;refine l9 q3 q16 q17 q18 ft (j3 e2 e3 rf) ?_;refine⟨aP,_,l3,rfl,?_,?_,?_,?_,fun h=>?_,af⟩
     all_goals first|exact nO3 q3 q16 q17 tv|skip
     have h1:=ri h;rw[t3 (yd h),t2 (yd h1),ht h1,mD];simp
    ·obtain rfl:i=us.length:=af
     rw[axz] at ht ⊢;generalize (isWord nm&&us.all isWord)=ok0 at *;refine ry q17 q18 @Nat.lt_irrefl ?_;exact⟨_,l',rfl,cV q3,fun h=>by rw[ht h];rfl⟩
   ·have e0:ct mm l1 (!isWord nm) K=ct mm l1 (!(isWord nm&&(us.take 0).all isWord)) K:=by rw[axQ,List.all_nil,axX]
    refine⟨_,l1,ayj (fun x=>AS.mk _ x _ _) e0,?_,?_,?_,?_,fun h=>?_,af⟩
    all_goals first|exact Lx q3 tv|skip
    simp only[axQ,List.all_nil,axX] at h;rw[t1 (yd h)];simp
  ·rintro st ⟨T,l',rfl,q3,ht⟩
   unfold IQ;simp only[aG.post];unfold de;cases ri:(isWord nm&&us.all isWord) with
   | true =>
    have h2:=ht ri;simp only[aw4] at ri;rw[if_pos ri,h2];simp(disch:=omega)only[dJ,ab,simprocAttr,q3,Gl,DI,rf,cH,cA,axr,ah]
   | false =>
    rw[if_neg (by intro h;rw[h.1,h.2] at ri;cases ri)]
    exact nL4 q3 Gl qN @mh tv
def U7(nm:av)(x y z:AV)(tD:nm.length<=1100000)(H:aa)(hhx:aV H.length x=true)(hhy:aV H.length y=true)(hhz:aV H.length z=true)(hdx:x.drop=x)(hdy:y.drop=y)(hdz:z.drop=z):ai A 29 [.agg [.str nm,.al,x,y,z]] H=some (.slice (strs (de ⟨nm,[],[],[],[]⟩)) true,none):=by
 obtain⟨K,hK⟩:∃ K,K=H++[.box 32 [.str nm,.al,x,y,z],.box 125 [.al,.bool false]]:=⟨_,rfl⟩;obtain⟨mm,BB⟩:∃ mm,mm=H.length+1:=⟨_,rfl⟩;have hKl:K.length=H.length+2:=by rw[hK];simp
 have hP:PW mm K:=⟨af,fun j cs hj=>by
  rw[hK,BB] at *;intro e;rw[List.getElem?_append_right af] at e
  match uY:j-H.length with
  | 0=>omega
  | 1=>rw[uY] at e;cases e
  | n+2=>rw[uY] at e;simp at e⟩
 have h0:K[mm]?=some (.box 125 [.al,.bool false]):=by rw[hK,BB];exact h2b
 have ef:=Ou hP [[109,111,100,117,108,101]] ae h0;rw[uz] at ef;obtain⟨l1,e1,t1,n1⟩:=tJ hP nm (by have:=tD;omega) [[109,111,100,117,108,101]] false ae
 simp only[List.length_cons,List.length_nil,ax2] at e1 t1 n1;have fm:∀ l b,(ct mm l b K)[H.length]?=some (.box 32 [.str nm,.al,x,y,z]):=fun l b=>by rw[hK,BB];exact Jz
 have qN:∀ l b,(ct mm l b K).take H.length=H:=fun l b=>by rw[hK,BB];exact Bb
 have DI:∀ l b x,((ct mm l b K).set mm x).take H.length=H:=fun l b x=>by rw[hK,BB];exact yl
 have wF:decide (H.length+1<H.length)=false:=ae;have rf:decide (mm<H.length)=false:=df;have Gl:=fun l b=>fu (l:=l) (b:=b) hP
 unfold nJ at Gl;refine cy (fn:=IQ) rfl rfl rfl ?_;refine iC 3 (fun st=>∃ T,st=⟨T,ct mm l1 (!isWord nm) K,H.length,0⟩/\T 1=.ref H.length 0/\T 3=.ref mm 0) ?_ ?_
 ·unfold IQ
  simp only[aG.pre];have hKs:H++[bG.box 32 [.str nm,.al,x,y,z],.box 125 [.al,.bool false]]=K:=hK.symm;have Vc:H.length+1=mm:=BB.symm;generalize (!isWord nm)=b1 at *;refine l9 hhx hhy hhz hdx (j5 hdy hdz @Bool.and_self Vc hKs) (j5 ef e1 fm rf @Nat.lt_irrefl) ?_;exact⟨_,rfl,dS,dS⟩
 ·rintro st ⟨T,rfl,q1,q3⟩
  refine iC 0 (fun st=>∃ T l',st=⟨T,ct mm l' (!isWord nm) K,H.length,0⟩/\T 3=.ref mm 0/\(isWord nm=true->l'=heads ⟨nm,[],[],[],[]⟩)) ?_ ?_
  ·unfold IQ
   simp only[aG.post,aG.pre];refine nL2 q1 fm ?_;have ht:isWord nm=true->l1=heads ⟨nm,[],[],[],[]⟩:=fun h=>by
    rw[t1 (yd h)];rfl
   generalize isWord nm=ok0 at *;refine bK 0 0 (fun i st=>∃ T,st=⟨T,ct mm l1 (!ok0) K,H.length,0⟩/\T 3=.ref mm 0/\T 16=.al/\T 17=.int .i64 0/\T 18=.int .i64 0)
    (fun st=>∃ T l',st=⟨T,ct mm l' (!ok0) K,H.length,0⟩/\T 3=.ref mm 0/\(ok0=true->l'=heads ⟨nm,[],[],[],[]⟩)) (fun _=>False) ?_ (fun st h=>h) (fun _ h=>h.elim) 0 _ af ?_
   ·rintro i st hi ⟨T,rfl,q3,q16,q17,q18⟩
    refine qx q17 q18 ?_;exact⟨_,l1,rfl,cV q3,ht⟩
   ·refine⟨_,rfl,?_,?_,?_,?_⟩
    all_goals exact cV q3
  ·rintro st ⟨T,l',rfl,q3,ht⟩
   unfold IQ;simp only[aG.post];unfold de;cases ri:isWord nm with
   | true =>
    have h2:=ht ri;rw[if_pos ⟨rfl,rfl⟩,h2];simp(disch:=omega)only[dJ,ab,simprocAttr,q3,Gl,DI,rf,cH,cA,axr,ah]
   | false =>
    rw[if_neg (by intro h;have:=h.1;cases this)]
    exact nL4 q3 Gl qN @mh tv
section
structure Yw (f:Fm):Prop where
 w:∀ H,ai A 30 [.agg (bJ f)] H=some (.slice (strs (mf f)) true,none)
 l:(mf f).length<=1000000
def RtE(tk:List Tk)(H:aa)(i:Nat)(st:AS):Prop:=∃ T s1 D g,st=⟨T,pP tk H s1 D,H.length,g⟩/\T 2=.lbox 0 z5/\T 3=.int .i64 (i:Int)
section
variable {n:Nat}{H:aa}{s fin nm:av}{us:List av}{tk:List Tk}{fs:List Fm}{es:List Nat}{s1:PS}{Q:bB->AS->Prop}
def ajm(hb:Cj tk)(RN:gu tk<=4611686018427387904)(mD:tk.length<=100000)(hs:s.length<=4611686018427387904)(pH:s1.i<=tk.length)(gP:Fs s fin nm us tk H fs es s1 st)(hT:s1.bad=true->∀ xg,RtE tk H (nE tk s1.i s.length) xg->Q .ret xg)
  (hF:s1.bad=false->∀ xg,Fs s fin nm us tk H fs es s1 xg->W (PL n) rq xg Q):W (PL n) qD st Q:=by
 obtain⟨T,rfl,o8,e8,e9⟩:=gP;have a0:=o8.t0;have a2:=o8.t2;have a3:=o8.t3;have a4:=o8.t4;have a5:=o8.t5;have a7:=o8.t7;have ft:=Hy (tk:=tk) (H:=H) (s:=s1) (D:=fs.map bJ);unfold nS at ft;have JQ:qD=.seq (pF qD) rq:=rfl;rw[JQ];have gI:∀ K,ai (PL n) 28 [.slice (tk.map gp) false,.int .i64 s1.i,.int .i64 s.length] K=some (.int .i64 (nE tk s1.i s.length),none):=fun K=>cL rfl (Ql tk s1.i s.length K hb RN (by omega) (by omega) hs)
 have hz:z5=[.str [],.al,.al,.al,.str []]:=rfl;cases jl:s1.bad with
 | true =>
  rw[jl] at ft;simp(disch:=omega)only[lI,ab,simprocAttr,w5,rq,qD,oC,Cf,w9,Ag,Af,Ae,Ad,zH,yr,yq,vo,pF,pS,a0,a2,a4,a7,ft,bN,ah,gI,hz];exact hT jl _ ⟨_,_,_,_,rfl,by simp(disch:=omega)only[lI,ab,simprocAttr];rfl,xn⟩
 | false =>
  rw[jl] at ft;simp(disch:=omega)only[lI,ab,simprocAttr,w5,qD,oC,Cf,w9,Ag,Af,Ae,Ad,zH,yr,yq,vo,pF,pS,a7,ft,bN,ah];exact hF jl _ ⟨_,rfl,⟨cd a0,cd a2,cd a3,cd a4,cd a5,cd a7⟩,cd e8,cd e9⟩
def Gs(s fin nm:av)(us:List av)(tk:List Tk)(H:aa)(fs:List Fm)(es:List Nat)(s1:PS)(P:az->Prop)(st:AS):Prop:=∃ T g,st=⟨T,pP tk H s1 (fs.map bJ),H.length,g⟩/\PT s fin tk H T/\T 8=.lbox 1 [.str nm,uC us,aA H.length 14 (fs.map bJ),.al,.str []]/\T 9=.slice (ints (eI es)) true/\P T
def ZA(tD:nm.length<=1100000)(PN:us.length<=1100000)(hub:∀ u∈us,u.length<=1100000)(gP:Fs s fin nm us tk H fs es s1 st) :
  W (PL n) (pF rq) st (D9 (Gs s fin nm us tk H fs es s1 fun T=>T 10=.slice (strs (de ⟨nm,us,[],[],[]⟩)) true)):=by
 obtain⟨T,rfl,o8,e8,e9⟩:=gP;have a0:=o8.t0;have a2:=o8.t2;have a3:=o8.t3;have a4:=o8.t4;have a5:=o8.t5;have a7:=o8.t7;have hlen:=Oi (tk:=tk) (H:=H) (s:=s1) (D:=fs.map bJ);have hA:aA H.length 14 (fs.map bJ)=.al\/(aA H.length 14 (fs.map bJ)=.sref (H.length+(fs.map bJ).length) 0 (fs.map bJ).length 14):=by
  cases fs with
  | nil=>exact .inl rfl
  | cons d ds=>exact .inr rfl
 have od:aV (pP tk H s1 (fs.map bJ)).length (aA H.length 14 (fs.map bJ))=true:=by
  rcases hA with h|h<;>rw[h]
  ·rfl
  ·show Nat.ble _ _=true
   rw[axv,hlen];omega
 have F0:(aA H.length 14 (fs.map bJ)).drop=aA H.length 14 (fs.map bJ):=by rcases hA with h|h<;>rw[h]<;>rfl
 have hX:=DC nm us (aA H.length 14 (fs.map bJ)) .al (.str []) tD PN hub (pP tk H s1 (fs.map bJ)) od rfl rfl F0 rfl rfl;have hN:=U7 nm (aA H.length 14 (fs.map bJ)) .al (.str []) tD (pP tk H s1 (fs.map bJ)) od rfl rfl F0 rfl rfl;have hd5:∀ u:AV,u.drop=u->ah false true 5 0 [.str nm,u,aA H.length 14 (fs.map bJ),.al,.str []]=some (.agg [.str nm,u,aA H.length 14 (fs.map bJ),.al,.str []]):=fun u hu=>by
  show some (AV.agg [AV.str nm,u.drop,(aA H.length 14 (fs.map bJ)).drop,.al,.str []])=_
  rw[hu,F0]
 cases us with
 | nil =>
  have hu:uC []=.al:=rfl;rw[hu] at e8;have hc:=cL (n:=n) (f:=29) rfl hN rfl;have hd:=hd5 .al rfl;simp(disch:=omega)only[lI,ab,simprocAttr,w5,rq,qD,oC,Cf,w9,Ag,Af,Ae,Ad,zH,yr,yq,vo,pF,pS,e8,hd,hc,F0];exact⟨_,_,rfl,⟨cd a0,cd a2,cd a3,cd a4,cd a5,cd a7⟩,by simp(disch:=omega)only[lI,ab,simprocAttr,e8];rfl,cd e9,xn⟩
 | cons u0 ur =>
  have hu:uC (u0 :: ur)=.slice (strs (u0 :: ur)) true:=rfl;rw[hu] at e8;have hc:=cL (n:=n) (f:=29) rfl hX rfl;have hd:ah false true 5 0 [.str nm,.slice (strs (u0 :: ur)) true,aA H.length 14 (fs.map bJ),.al,.str []]=some (.agg [.str nm,.slice (strs (u0 :: ur)) false,aA H.length 14 (fs.map bJ),.al,.str []]):=by
   show some (AV.agg [AV.str nm,.slice (strs (u0 :: ur)) false,(aA H.length 14 (fs.map bJ)).drop,.al,.str []])=_
   rw[F0]
  simp(disch:=omega)only[lI,ab,simprocAttr,w5,rq,qD,oC,Cf,w9,Ag,Af,Ae,Ad,zH,yr,yq,vo,pF,pS,e8,hd,hc,F0];exact⟨_,_,rfl,⟨cd a0,cd a2,cd a3,cd a4,cd a5,cd a7⟩,by simp(disch:=omega)only[lI,ab,simprocAttr,e8];rfl,cd e9,xn⟩
end
end
section
def lk(nm:av)(us:List av)(fs:List Fm):List av:=de ⟨nm,us,[],[],[]⟩++(fs.map mf).flatten
def GA{m:List av}{o:Bool}(h:l.length+m.length<=1099511627776):aC false 1 16 (.slice (strs l) true) (.slice (strs m) o)=some (.slice (strs (l++m)) true):=ca h
section
variable {n:Nat}{H:aa}{s fin nm:av}{us:List av}{tk:List Tk}{fs:List Fm}{es:List Nat}{s1:PS}{Q:bB->AS->Prop}
theorem Nk(hw:∀ f∈fs,Yw f):((fs.map mf).flatten).length<=fs.length*1000000:=by
 induction fs with
 | nil=>simp
 | cons f r ih =>
  have h1:=(hw f ae).l
  grind
def ain(hw:∀ f∈fs,Yw f)(xN:fs.length<=100000)(hhl:(de ⟨nm,us,[],[],[]⟩).length<=3000000)(gP:Gs s fin nm us tk H fs es s1 (fun T=>T 10=.slice (strs (de ⟨nm,us,[],[],[]⟩)) true) st) :
  W (PL n) (pF qE) st (D9 (Gs s fin nm us tk H fs es s1 fun T=>T 10=.slice (strs (lk nm us fs)) true)):=by
 obtain⟨T,g,rfl,o8,e8,e9,zY⟩:=gP;have a0:=o8.t0;have a2:=o8.t2;have a3:=o8.t3;have a4:=o8.t4;have a5:=o8.t5;have a7:=o8.t7;have Nw:=Nk hw;have JQ:pF qE=.seq (pF (pF qE)) (pS (pF qE)):=rfl;have hb:pS (pF qE)=.block 4 (.loop (pB (pB (pS (pF qE))))):=rfl;rw[JQ,hb];have hD:aA H.length 14 (fs.map bJ)=.al/\fs=[]\/aA H.length 14 (fs.map bJ)=.sref (H.length+fs.length) 0 fs.length 14/\fs≠[]:=by
  cases fs with
  | nil=>exact .inl ⟨rfl,rfl⟩
  | cons d ds=>exact .inr ⟨by rw[Ck ae,List.length_map],ae⟩
 rcases hD with ⟨hD,rfl⟩|⟨hD,da⟩
 ·rw[hD] at e8
  simp(disch:=omega)only[lI,ab,simprocAttr,w5,qE,rq,qD,oC,Cf,w9,Ag,Af,Ae,Ad,zH,yr,yq,vo,pF,pS,pB,e8,ah];refine bK 0 4 (fun i=>fun st=>i=0/\∃ T g,st=⟨T,pP tk H s1 ([].map bJ),H.length,g⟩/\PT s fin tk H T/\T 8=.lbox 1 [.str nm,uC us,.al,.al,.str []]/\T 9=.slice (ints (eI es)) true/\T 10=.slice (strs (de ⟨nm,us,[],[],[]⟩)) true/\T 107=.al/\T 108=.int .i64 0/\T 109=.int .i64 0)
   (Gs s fin nm us tk H [] es s1 fun T=>T 10=.slice (strs (lk nm us [])) true) (fun _=>False) ?_ (fun st h=>h) (fun _ h=>h.elim) 0 _ af ?_
  ·rintro i st hi ⟨rfl,T,g,rfl,hT,e8,e9,zY,aeB,Uj,YW⟩
   have a0:=hT.t0;have a2:=hT.t2;have a3:=hT.t3;have a4:=hT.t4;have a5:=hT.t5;have a7:=hT.t7;refine Yp Uj YW ?_;exact⟨_,_,rfl,⟨cd a0,cd a2,cd a3,cd a4,cd a5,cd a7⟩,by simp(disch:=omega)only[lI,ab,simprocAttr,e8];rfl,cd e9,by simp(disch:=omega)only[lI,ab,simprocAttr,zY];simp[lk]⟩
  ·exact⟨rfl,_,_,rfl,⟨cd a0,cd a2,cd a3,cd a4,cd a5,cd a7⟩,cd e8,cd e9,cd zY,xn,xn,xn⟩
 ·rw[hD] at e8
  have ZH:=Qh (tk:=tk) (H:=H) (s:=s1) (D:=fs.map bJ) (cJ da);rw[List.length_map] at ZH;simp(disch:=omega)only[lI,ab,simprocAttr,w5,qE,rq,qD,oC,Cf,w9,Ag,Af,Ae,Ad,zH,yr,yq,vo,pF,pS,pB,e8,ah];refine bK fs.length 4 (fun i=>fun st=>∃ T g,st=⟨T,pP tk H s1 (fs.map bJ),H.length,g⟩/\PT s fin tk H T/\T 8=.lbox 1 [.str nm,uC us,.sref (H.length+fs.length) 0 fs.length 14,.al,.str []]/\T 9=.slice (ints (eI es)) true/\T 10=.slice (strs (lk nm us (fs.take i))) true/\T 107=.sref (H.length+fs.length) 0 fs.length 14/\T 108=.int .i64 fs.length/\T 109=.int .i64 i)
   (Gs s fin nm us tk H fs es s1 fun T=>T 10=.slice (strs (lk nm us fs)) true) (fun _=>False) ?_ (fun st h=>h) (fun _ h=>h.elim) 0 _ af ?_
  ·rintro i st hi ⟨T,g,rfl,hT,e8,e9,zY,aeB,Uj,YW⟩
   have a0:=hT.t0;have a2:=hT.t2;have a3:=hT.t3;have a4:=hT.t4;have a5:=hT.t5;have a7:=hT.t7
   by_cases j6:i<fs.length
   ·have ID:=aw3 j6
    have hdm:fs[i]∈fs:=axn j6;have ak5:=jD ID;generalize fs[i]=f at ID hdm ak5;have bQ:ah false true 14 (i*14) (fs.map bJ).flatten=some (.agg (bJ f)):=by
     have h1:=Rv (agg:=true) (i:=i) (j:=0) (sz:=14) (r:=bJ f) (z:=14) yS (by rw[List.getElem?_map,ID];rfl) af af af
     rw[axZ] at h1;rw[h1];rfl
    have hwf:=hw f hdm;have kj:∀ K,ai (PL n) 30 [.agg (bJ f)] K=some (.slice (strs (mf f)) true,none):=fun K=>cL rfl (hwf.w K)
    have hl3:=Nk (fs:=fs.take i) (fun x hx=>hw x (axV hx))
    have ZC:(fs.take i).length=i:=by rw[axO];omega
    have qO:(lk nm us (fs.take i)).length<=3000000+i*1000000:=by unfold lk;rw[List.length_append];rw[ZC] at hl3;omega
    have hfw:=hwf.l;have wD:=GA (l:=lk nm us (fs.take i)) (m:=mf f) (o:=true) af;have ao3:=GA (l:=lk nm us (fs.take i)) (m:=mf f) (o:=false) af;have htn:lk nm us (fs.take i)++mf f=lk nm us (fs.take (i+1)):=by unfold lk;rw[ak5];simp
    rw[htn] at wD ao3;have hbc:bN (some (.box bz (fs.map bJ).flatten)) true 14 (i*14)=some (.agg (bJ f)):=by simp only[bN,bQ]
    rw[bJ] at hbc kj;refine Yp (j4 zY aeB Uj YW) (j5 ZH hbc kj wD @ah.eq_1) ?_;refine⟨j6,_,_,rfl,⟨cd a0,cd a2,cd a3,cd a4,cd a5,cd a7⟩,cd e8,cd e9,xn,cd aeB,cd Uj,by simp(disch:=omega)only[lI,ab,simprocAttr];try rfl⟩
   ·have:i=fs.length:=af
    subst this;rw[axz] at zY;refine Yp Uj YW ?_;exact⟨_,_,rfl,⟨cd a0,cd a2,cd a3,cd a4,cd a5,cd a7⟩,vS2 e8 hD,cd e9,cd zY⟩
  ·refine⟨_,_,rfl,⟨cd a0,cd a2,cd a3,cd a4,cd a5,cd a7⟩,cd e8,cd e9,?_,xn,xn,by simp(disch:=omega)only[lI,ab,simprocAttr];try rfl⟩
   refine nS1 zY ?_;simp[lk]
end
end
section
section
variable {n:Nat}{H:aa}{s fin nm:av}{us:List av}{tk:List Tk}{fs:List Fm}{es:List Nat}{s1:PS}{Q:bB->AS->Prop}
def ajE(hb:Cj tk)(RN:gu tk<=4611686018427387904)(mD:tk.length<=100000)(hs:s.length<=4611686018427387904)(qO:jo.length<=4611686018427387904)(gP:Gs s fin nm us tk H fs es s1 (fun T=>T 10=.slice (strs jo) true) st)
  (hN:(∀ j,j<tk.length->jo[j]?=(aq tk)[j]?)->∀ xg,Gs s fin nm us tk H fs es s1 (fun _=>True) xg->W (PL n) wM xg Q)
  (hR:∀ i,i<tk.length->(∀ j,j<i->jo[j]?=(aq tk)[j]?)->jo[i]?≠(aq tk)[i]?->∀ xg,RtE tk H (nE tk i s.length) xg->Q .ret xg):W (PL n) vp st Q:=by
 obtain⟨T,g,rfl,o8,e8,e9,zY⟩:=gP;have a0:=o8.t0;have a2:=o8.t2;have a3:=o8.t3;have a4:=o8.t4;have a5:=o8.t5;have a7:=o8.t7;have JQ:vp=.seq (.seq (pF (pF vp)) (.block 6 (.loop (pB (pB (pS (pF vp))))))) wM:=rfl;rw[JQ];have IL:(tk.map gp).length=tk.length:=ae;have qu:(strs jo).length=jo.length:=vA;have hz:z5=[.str [],.al,.al,.al,.str []]:=rfl;simp(disch:=omega)only[lI,ab,simprocAttr,w5,vp,qE,rq,qD,oC,Cf,w9,Ag,Af,Ae,Ad,zH,yr,yq,vo,pF,pS,pB,a4,IL];refine bK tk.length 6 (fun i=>fun st=>(∀ j,j<i->jo[j]?=(aq tk)[j]?)/\∃ T g,st=⟨T,pP tk H s1 (fs.map bJ),H.length,g⟩/\PT s fin tk H T/\T 8=.lbox 1 [.str nm,uC us,aA H.length 14 (fs.map bJ),.al,.str []]/\T 9=.slice (ints (eI es)) true/\T 10=.slice (strs jo) true/\T 118=.slice (tk.map gp) false/\T 119=.int .i64 tk.length/\T 120=.int .i64 i)
  (fun st=>(∀ j,j<tk.length->jo[j]?=(aq tk)[j]?)/\Gs s fin nm us tk H fs es s1 (fun _=>True) st) (fun st=>∃ i,i<tk.length/\(∀ j,j<i->jo[j]?=(aq tk)[j]?)/\jo[i]?≠(aq tk)[i]?/\RtE tk H (nE tk i s.length) st) ?_ (fun st h=>hN h.1 st h.2) (fun st ⟨i,h1,h2,h3,h4⟩=>hR i h1 h2 h3 st h4) 0 _ af ?_
 ·rintro i st hi ⟨dQ,T,g,rfl,hT,e8,e9,zY,YX,Uk,YY⟩
  have a0:=hT.t0;have a2:=hT.t2;have a3:=hT.t3;have a4:=hT.t4;have a5:=hT.t5;have a7:=hT.t7
  by_cases j6:i<tk.length
  ·have ID:=aw3 j6
   generalize tk[i]=t at ID;have bQ:(tk.map gp)[i]?=some [.str t.1,.str t.2]:=by rw[List.getElem?_map,ID];rfl
   have ZR:(aq tk)[i]?=some t.1:=by unfold aq;rw[List.getElem?_map,ID];rfl
   have gI:∀ K,ai (PL n) 28 [.slice (tk.map gp) false,.int .i64 i,.int .i64 s.length] K=some (.int .i64 (nE tk i s.length),none):=fun K=>cL rfl (Ql tk i s.length K hb RN af af hs)
   by_cases aP:i<jo.length
   ·have PM:=aw3 aP
    generalize jo[i]=w at PM;have hsr:(strs jo)[i]?=some [.str w]:=gY PM;have RI:¬ jo.length<=i:=af;cases da:(t.1==w) with
    | false =>
     simp(disch:=omega)only[lI,ab,simprocAttr,a0,a2,a4,zY,YX,Uk,YY,bQ,hsr,qu,da,ah,gI,hz];exact⟨i,j6,dQ,by rw[PM,ZR];intro h;rw[axS h] at da;simp at da,_,_,_,_,rfl,by simp(disch:=omega)only[lI,ab,simprocAttr];rfl,xn⟩
    | true =>
     have hww:w=t.1:=(eq_of_beq da).symm;have UZ:∀ j,j<i+1->jo[j]?=(aq tk)[j]?:=fun j hj=>by
      by_cases e:j=i
      ·rw[e,PM,ZR,hww]
      ·exact dQ j af
     refine Yp (j4 zY YX Uk YY) (j5 bQ hsr qu da @ah.eq_1) ?_;exact⟨j6,UZ,_,_,rfl,⟨cd a0,cd a2,cd a3,cd a4,cd a5,cd a7⟩,cd e8,cd e9,cd zY,cd YX,cd Uk,xn⟩
   ·have PM:jo[i]?=none:=List.getElem?_eq_none af
    simp(disch:=omega)only[lI,ab,simprocAttr,a0,a2,a4,zY,YX,Uk,YY,bQ,qu,ah,gI,hz];exact⟨i,j6,dQ,by rw[PM,ZR];simp,_,_,_,_,rfl,by simp(disch:=omega)only[lI,ab,simprocAttr];rfl,xn⟩
  ·have:i=tk.length:=af
   subst this;refine Yp Uk YY ?_;exact⟨dQ,_,_,rfl,⟨cd a0,cd a2,cd a3,cd a4,cd a5,cd a7⟩,cd e8,cd e9,trivial⟩
 ·exact⟨fun j hj=>absurd hj af,_,_,rfl,⟨cd a0,cd a2,cd a3,cd a4,cd a5,cd a7⟩,cd e8,cd e9,cd zY,xn,xn,by simp(disch:=omega)only[lI,ab,simprocAttr];try rfl⟩
end
end
section
def bg:aG:=pB (pF (pS (pS (pB (pB (pS (pF zG)))))))
def S1:aG:=pS (pS (pS bg))
def bg3:aG:=pS (pS (pS S1))
def lC(g:Nat)(l:List av):AV:=match l with|[]=>.al|_=>.lsl g (strs l)
def aai{a:av} : lC g (l++[a])=.lsl g (strs (l++[a])):=by
 unfold lC
 simp_all
def tB{a:av}(h:l.length<=1000000):cn 1 16 (strs l) [[.str a]]=true:=by
 have h1:(strs l).length=l.length:=vA;have h2:fZ 1 (strs l)=true:=by cases l<;>rfl
 have h3:fZ 1 [[AV.str a]]=true:=rfl;unfold cn;rw[h1,h2,h3];simp only[aya,axX,aw4,axv];omega
def D3:∀ l:List av,nb (strs l)=true
 | []=>rfl
 | a :: l=>D3 l
def oo(tk:List Tk)(f k:Nat):List av:=((tk.take k).drop f).map (·.2)
def YM{tk:List Tk} : oo tk f f=[]:=by unfold oo;rw[List.drop_eq_nil_of_le df];rfl
def TS{tk:List Tk}{t:Tk}(h:f<=k)(hk:tk[k]?=some t):oo tk f (k+1)=oo tk f k++[t.2]:=by
 have aP:=(aw5.1 hk).1;unfold oo;rw[jD hk,ayW df];simp
def O'{tk:List Tk} : (oo tk f k).length<=tk.length:=by unfold oo;simp;omega
def KP(T T' : az):Prop:=T' 0=T 0/\T' 2=T 2/\T' 3=T 3/\T' 4=T 4/\T' 5=T 5/\T' 7=T 7/\T' 8=T 8/\T' 16=T 16/\T' 17=T 17/\T' 18=T 18/\T' 145=T 145/\T' 146=T 146/\T' 147=T 147
section
variable {n:Nat}{H:aa}{tk:List Tk}{Q:bB->AS->Prop}
def Z0{T:az}{K:aa}{lo e:Nat}(mD:tk.length<=100000)(hfe:f<=e)(he:e<=tk.length)(e4:T 4=.slice (tk.map gp) false)(Yb:T 15=.int .i64 f)(e18:T 18=.int .i64 e)(JE:T 19=.al) :
  W (PL n) (pF (pS (pS bg))) ⟨T,K,lo,g⟩ (D9 fun xg=>∃ T' g' k,xg=⟨T',K,lo,g'⟩/\KP T T'/\T' 19=lC k (oo tk f e)):=by
 have JQ:pF (pS (pS bg))=.seq (pF (pF (pS (pS bg)))) (.block 10 (.loop (pB (pB (pS (pF (pS (pS bg)))))))):=rfl;rw[JQ];have IL:(tk.map gp).length=tk.length:=ae;simp(disch:=omega)only[lI,ab,simprocAttr,w5,zG,wM,vp,qE,rq,qD,oC,Cf,w9,Ag,Af,Ae,Ad,zH,yr,yq,vo,pF,pS,pB,bg,Yb];refine bK e 10 (fun i=>fun st=>f<=i/\∃ T' g' k,st=⟨T',K,lo,g'⟩/\KP T T'/\T' 19=lC k (oo tk f i)/\T' 20=.int .i64 i)
  (fun xg=>∃ T' g' k,xg=⟨T',K,lo,g'⟩/\KP T T'/\T' 19=lC k (oo tk f e)) (fun _=>False) ?_ (fun st h=>h) (fun _ h=>h.elim) f _ hfe ?_
 ·rintro i st hi ⟨S4,T',g',k,rfl,hK,JE,e20⟩
  unfold KP at hK;obtain⟨k0,k2,k3,k4,k5,k7,k8,k16,Ym,P0,Gn,Gp,Gq⟩:=hK;rw[e4] at k4;rw[e18] at P0
  by_cases j6:i<e
  ·have ID:=aw3 (show i<tk.length by omega)
   generalize tk[i]=t at ID;have bQ:(tk.map gp)[i]?=some [.str t.1,.str t.2]:=by rw[List.getElem?_map,ID];rfl
   have yZ:=O' (tk:=tk) (f:=f) (k:=i);have hbs:=TS S4 ID;have gH:=tB (l:=oo tk f i) (a:=t.2) af;have BD:=n7 (l:=oo tk f i) (a:=t.2);have RN:∀ k,lC k (oo tk f (i+1))=.lsl k (strs (oo tk f (i+1))):=fun k=>by rw[hbs];exact aai
   rw[<- hbs] at BD;have iz:lC k (oo tk f i)=.lsl k (strs (oo tk f i))\/lC k (oo tk f i)=.al/\strs (oo tk f i)=[]:=by
    cases oo tk f i with
    | nil=>exact .inr ⟨rfl,rfl⟩
    | cons a l=>exact .inl rfl
   rcases iz with hc|⟨hc,gC⟩
   ·rw[hc] at JE
    refine Yp (j3 k4 P0 JE) (j5 e20 bQ gH BD RN) ?_;exact⟨j6,af,_,_,_,rfl,by unfold KP;simp(disch:=omega)only[lI,ab,simprocAttr,k0,k2,k3,k4,e4,k5,k7,k8,k16,Ym,P0,e18,Gn,Gp,Gq],by simp(disch:=omega)only[lI,ab,simprocAttr];rfl,xn⟩
   ·rw[hc] at JE
    rw[gC] at gH BD;rw[axM] at BD;refine Yp k4 (j5 P0 JE e20 bQ gH) ?_;exact⟨j6,af,_,_,_,rfl,by unfold KP;simp(disch:=omega)only[lI,ab,simprocAttr,k0,k2,k3,k4,e4,k5,k7,k8,k16,Ym,P0,e18,Gn,Gp,Gq],by simp(disch:=omega)only[lI,ab,simprocAttr];rw[RN,<- BD],xn⟩
  ·have:i=e:=af
   subst this;refine Yp P0 e20 ?_;exact⟨_,_,k,rfl,by unfold KP;simp(disch:=omega)only[lI,ab,simprocAttr,k0,k2,k3,k4,e4,k5,k7,k8,k16,Ym,P0,e18,Gn,Gp,Gq],cd JE⟩
 ·exact⟨Nat.le_refl _,_,_,0,rfl,by unfold KP;simp(disch:=omega)only[lI,ab,simprocAttr],by simp(disch:=omega)only[lI,ab,simprocAttr,JE];rw[YM];rfl,xn⟩
end
end
section
def gT(tk:List Tk)(fin:av)(i:Nat):av:=match tk[i]? with|some t=>t.2|none=>fin
def iM(es:List Nat)(i:Nat):Nat:=if i=0 then 0 else es.getD (i-1) 0
def nL(tk:List Tk)(fin:av)(es:List Nat)(i:Nat):av:=if i=0 then [] else (bW (gT tk fin (es.getD (i-1) 0))).2
def gD(tk:List Tk)(fin:av)(es:List Nat)(i:Nat):List av:=(if i=0 then oo tk (iM es i) (es.getD i 0) else (oo tk (iM es i) (es.getD i 0)).set 0 (nL tk fin es i))++[(bW (gT tk fin (es.getD i 0))).1]
def L3(f:Fm)(L:List av):List AV:=(bJ f).set 13 (.slice (strs L) true)
def fE(tk:List Tk)(fin:av)(es:List Nat)(fs:List Fm):Nat->List (List AV)
 | 0=>fs.map bJ
 | 1=>fs.map bJ
 | i+2=>match fs[i]? with|some f=>(fE tk fin es fs (i+1)).set i (L3 f (gD tk fin es (i+1)))|none=>fE tk fin es fs (i+1)
def hdC(tk:List Tk)(fin:av)(es:List Nat)(i:Nat):AV:=match i with|0=>.al|_=>.slice (strs (gD tk fin es 0)) true
structure uB (tk:List Tk) (es:List Nat):Prop where
 ok:∀ i,i<es.length->iM es i<=es.getD i 0/\es.getD i 0<=tk.length/\(0<i->iM es i<es.getD i 0)
section
variable {tk:List Tk}{fin:av}{es:List Nat}{fs:List Fm}
theorem nW:∀ i,(fE tk fin es fs i).length=fs.length
 | 0=>by simp[fE]
 | 1=>by simp[fE]
 | i+2=>by
  rw[fE];split
  ·rw[List.length_set];exact nW (i+1)
  ·exact nW (i+1)
def Xh{f:Fm} : (L3 f L).length=14:=by rw[L3,List.length_set];exact Cu
def tO:∀ i,∀ q∈fE tk fin es fs i,q.length=14
 | 0=>yS
 | 1=>yS
 | i+2=>by
  intro q hq;rw[fE] at hq;split at hq
  ·rcases ayM hq with h|h
   ·exact tO (i+1) q h
   ·rw[h];exact Xh
  ·exact tO (i+1) q hq
def Ft:∀ i j,i<=j->(fE tk fin es fs (i+1))[j]?=(fs.map bJ)[j]?
 | 0,j,_=>rfl
 | i+1,j,h=>by
  rw[fE];split
  ·rw[List.getElem?_set_ne af];exact Ft i j af
  ·exact Ft i j af
end
section
variable {n:Nat}{H:aa}{s fin nm:av}{us:List av}{tk:List Tk}{fs:List Fm}{es:List Nat}{s1:PS}{Q:bB->AS->Prop}
def Bs(s fin nm:av)(us:List av)(tk:List Tk)(H:aa)(fs:List Fm)(es:List Nat)(s1:PS)(i:Nat)(st:AS):Prop:=∃ T g,st=⟨T,pP tk H s1 (fE tk fin es fs i),H.length,g⟩/\PT s fin tk H T/\T 8=.lbox 1 [.str nm,uC us,aA H.length 14 (fs.map bJ),hdC tk fin es i,.str []]/\T 15=.int .i64 (iM es i)/\T 16=.str (nL tk fin es i)/\T 145=.slice (ints (eI es)) false/\T 146=.int .i64 es.length/\T 147=.int .i64 i
def bi:aG:=pF (pS (pS bg))
def bl1:aG:=pB (pB (pS (pF zG)))
def ah4(mD:tk.length<=100000)(nN:fin.length<=1000000)(vK:∀ t∈tk,t.2.length<=1000000)(JI:es.length=fs.length+1)(hef:es.length<=200000)(hE:uB tk es)(hi:i<es.length)(gP:Bs s fin nm us tk H fs es s1 i st) :
  W (PL n) bl1 st (andThen (fun s'=>i<es.length/\Bs s fin nm us tk H fs es s1 (i+1) s') Q):=by
 obtain⟨T,g,rfl,hT,e8,Yb,S2,Ul,Rc,Rd⟩:=gP;have a0:=hT.t0;have a2:=hT.t2;have a3:=hT.t3;have a4:=hT.t4;have a5:=hT.t5;have a7:=hT.t7;obtain⟨Iz,Bz,hE3⟩:=hE.ok i hi;have JQ:bl1=.seq (pF bl1) (.seq (pF (pS bl1)) (.seq (.block 9 (.seq (pF bg) (.seq (pF (pS bg)) (.seq bi S1)))) (pS (pS (pS bl1))))):=rfl;rw[JQ];obtain⟨e,JG⟩:∃ e,e=es.getD i 0:=⟨_,rfl⟩;have api:es[i]?=some e:=by rw[JG,List.getD_eq_getElem?_getD,aw3 hi];rfl
 have bQ:(ints (eI es))[i]?=some [.int .i64 (e:Int)]:=by
  unfold ints eI;rw[List.getElem?_map,List.getElem?_map,api];rfl
 have RJ:(ints (eI es)).length=es.length:=M5;rw[<- JG] at Iz Bz hE3;simp(disch:=omega)only[lI,ab,simprocAttr,w5,zG,wM,vp,qE,rq,qD,oC,Cf,w9,Ag,Af,Ae,Ad,zH,yr,yq,vo,pF,pS,pB,bl1,bg,Ul,Rc,Rd,bQ];refine uH (Z0 (f:=iM es i) (e:=e) mD Iz Bz ?_ ?_ ?_ ?_) ?_
 ·exact cd a4
 ·exact cd Yb
 ·exact xn
 ·exact xn
 intro ex xg hx;cases ex with
 | exit j=>exact hx.elim
 | ret=>exact hx.elim
 | normal =>
  obtain⟨T',g',k,rfl,hK,JE⟩:=hx;unfold KP at hK;simp(disch:=omega)only[lI,ab,simprocAttr,a0,a2,a3,a4,a5,a7,e8,S2,Ul,Rc,Rd] at hK;obtain⟨k0,k2,k3,k4,k5,k7,k8,k16,Ym,P0,Gn,Gp,Gq⟩:=hK;have yZ:=O' (tk:=tk) (f:=iM es i) (k:=e);have aqg:S1=.seq (pF S1) (.seq (pF (pS S1)) (.seq (pF (pS (pS S1))) bg3)):=rfl
  show W _ _ _ _
  rw[aqg];have IL:(tk.map gp).length=tk.length:=ae;have wX:gT tk fin e=(match tk[e]? with|some t=>t.2|none=>fin):=rfl
  have BD:=fun l a=>n7 (l:=l) (a:=a)
  have ZP:∀ r:av,r.length<=1000000->∀ K,ai (PL n) 31 [.str r] K=some (.tuple [.str (bW r).1,.str (bW r).2],none):=fun r hr K=>cL rfl (abI r K af)
  cases i with
  | zero =>
   by_cases he:e<tk.length
   ·have ID:=aw3 he
    have hdm:tk[e]∈tk:=axn he;generalize tk[e]=t at ID hdm;have DH:(tk.map gp)[e]?=some [.str t.1,.str t.2]:=by rw[List.getElem?_map,ID];rfl
    have xP:=ZP t.2 (vK t hdm);have ND:gT tk fin e=t.2:=by rw[wX,ID]
    have hL:strs (gD tk fin es 0)=strs (oo tk (iM es 0) e)++[[.str (bW t.2).1]]:=by
     unfold gD;rw[if_pos rfl,<- JG,ND,n7]
    have ZD:iM es 1=e:=by unfold iM;rw[if_neg af];exact JG.symm
    have Zw:nL tk fin es 1=(bW t.2).2:=by unfold nL;rw[if_neg af];show (bW (gT tk fin (es.getD 0 0))).2=_;rw[<- JG,ND]
    cases hB:oo tk (iM es 0) e with
    | nil =>
     rw[hB] at JE hL;have Gb:T' 19=.al:=JE;have gH:=tB (l:=[]) (a:=(bW t.2).1) ae;have lY:cn 1 16 [] [[.str (bW t.2).1]]=true:=gH;have Vi:=fun (A:AP) i g t9 os T H lo gen K=>vU (A:=A) (i:=i) (g:=g) (e:=[[.str (bW t.2).1]]) (t:=t9) (os:=os) (T:=T) (H:=H) (lo:=lo) (gen:=gen) (K:=K) rfl
     simp(disch:=omega)only[lI,ab,simprocAttr,w5,zG,wM,vp,qE,rq,qD,oC,Cf,w9,Ag,Af,Ae,Ad,zH,yr,yq,vo,pF,pS,pB,bg,S1,bg3,k4,k5,k8,Ym,P0,Gq,Gb,DH,IL,xP,lY,Vi];exact⟨hi,_,_,rfl,⟨cd k0,cd k2,cd k3,cd k4,cd k5,cd k7⟩,by simp(disch:=omega)only[lI,ab,simprocAttr];show AV.lbox 1 [_,_,_,.slice [[.str (bW t.2).1]] true,_]=AV.lbox 1 [_,_,_,.slice (strs (gD tk fin es 0)) true,_];rw[hL];rfl,cd ZD,cd Zw,cd Gn,cd Gp,xn⟩
    | cons x0 xl =>
     rw[hB] at JE hL;have Gb:T' 19=.lsl k (strs (x0 :: xl)):=JE;have gH:=tB (l:=x0 :: xl) (a:=(bW t.2).1) (by rw[<- hB];omega)
     have Vi:=fun (A:AP) i g t9 os T H lo gen K=>vU (A:=A) (i:=i) (g:=g) (e:=strs (gD tk fin es 0)) (t:=t9) (os:=os) (T:=T) (H:=H) (lo:=lo) (gen:=gen) (K:=K) (by rw[D2];exact D3 _)
     simp(disch:=omega)only[lI,ab,simprocAttr,w5,zG,wM,vp,qE,rq,qD,oC,Cf,w9,Ag,Af,Ae,Ad,zH,yr,yq,vo,pF,pS,pB,bg,S1,bg3,k4,k5,k8,Ym,P0,Gq,Gb,DH,IL,xP,gH,<- hL,Vi];exact⟨hi,_,_,rfl,⟨cd k0,cd k2,cd k3,cd k4,cd k5,cd k7⟩,by simp(disch:=omega)only[lI,ab,simprocAttr];rfl,cd ZD,cd Zw,cd Gn,cd Gp,xn⟩
   ·have xP:=ZP fin nN
    have ND:gT tk fin e=fin:=by rw[wX,List.getElem?_eq_none af]
    have hL:strs (gD tk fin es 0)=strs (oo tk (iM es 0) e)++[[.str (bW fin).1]]:=by
     unfold gD;rw[if_pos rfl,<- JG,ND,n7]
    have ZD:iM es 1=e:=by unfold iM;rw[if_neg af];exact JG.symm
    have Zw:nL tk fin es 1=(bW fin).2:=by unfold nL;rw[if_neg af];show (bW (gT tk fin (es.getD 0 0))).2=_;rw[<- JG,ND]
    cases hB:oo tk (iM es 0) e with
    | nil =>
     rw[hB] at JE hL;have Gb:T' 19=.al:=JE;have gH:=tB (l:=[]) (a:=(bW fin).1) ae;have lY:cn 1 16 [] [[.str (bW fin).1]]=true:=gH;have Vi:=fun (A:AP) i g t9 os T H lo gen K=>vU (A:=A) (i:=i) (g:=g) (e:=[[.str (bW fin).1]]) (t:=t9) (os:=os) (T:=T) (H:=H) (lo:=lo) (gen:=gen) (K:=K) rfl
     simp(disch:=omega)only[lI,ab,simprocAttr,w5,zG,wM,vp,qE,rq,qD,oC,Cf,w9,Ag,Af,Ae,Ad,zH,yr,yq,vo,pF,pS,pB,bg,S1,bg3,k4,k5,k8,Ym,P0,Gq,Gb, IL,xP,lY,Vi];exact⟨hi,_,_,rfl,⟨cd k0,cd k2,cd k3,cd k4,cd k5,cd k7⟩,by simp(disch:=omega)only[lI,ab,simprocAttr];show AV.lbox 1 [_,_,_,.slice [[.str (bW fin).1]] true,_]=AV.lbox 1 [_,_,_,.slice (strs (gD tk fin es 0)) true,_];rw[hL];rfl,cd ZD,cd Zw,cd Gn,cd Gp,xn⟩
    | cons x0 xl =>
     rw[hB] at JE hL;have Gb:T' 19=.lsl k (strs (x0 :: xl)):=JE;have gH:=tB (l:=x0 :: xl) (a:=(bW fin).1) (by rw[<- hB];omega)
     have Vi:=fun (A:AP) i g t9 os T H lo gen K=>vU (A:=A) (i:=i) (g:=g) (e:=strs (gD tk fin es 0)) (t:=t9) (os:=os) (T:=T) (H:=H) (lo:=lo) (gen:=gen) (K:=K) (by rw[D2];exact D3 _)
     simp(disch:=omega)only[lI,ab,simprocAttr,w5,zG,wM,vp,qE,rq,qD,oC,Cf,w9,Ag,Af,Ae,Ad,zH,yr,yq,vo,pF,pS,pB,bg,S1,bg3,k4,k5,k8,Ym,P0,Gq,Gb, IL,xP,gH,<- hL,Vi];exact⟨hi,_,_,rfl,⟨cd k0,cd k2,cd k3,cd k4,cd k5,cd k7⟩,by simp(disch:=omega)only[lI,ab,simprocAttr];rfl,cd ZD,cd Zw,cd Gn,cd Gp,xn⟩
  | succ m =>
   have hm:m<fs.length:=af;obtain⟨f,hf⟩:∃ f,fs[m]?=some f:=⟨_,aw3 hm⟩;have da:fs≠[]:=by intro h;rw[h] at hm;simp at hm
   have hA:aA H.length 14 (fs.map bJ)=.sref (H.length+fs.length) 0 fs.length 14:=by rw[Ck (cJ da),List.length_map]
   rw[hA] at k8;have aP:=hE3 af;obtain⟨b,ae7⟩:∃ b,b=nL tk fin es (m+1):=⟨_,rfl⟩;rw[<- ae7] at k16;have CB:((m:Nat):Int)+1-1=(m:Int):=af;have RU:IntKind.i64.wrap (m:Int)=(m:Int):=wrap64 af;have B9:=nW (tk:=tk) (fin:=fin) (es:=es) (fs:=fs) (m+1);have aqa:=nW (tk:=tk) (fin:=fin) (es:=es) (fs:=fs) (m+1+1);have hrw:=tO (tk:=tk) (fin:=fin) (es:=es) (fs:=fs) (m+1);have xN:(fE tk fin es fs (m+1)).flatten.length=fs.length*14:=by rw[ox hrw,B9]
   have ZH:=Qh (tk:=tk) (H:=H) (s:=s1) (D:=fE tk fin es fs (m+1)) (by intro h;rw[h] at B9;simp at B9;omega)
   rw[B9] at ZH;have hra:(fE tk fin es fs (m+1))[m]?=some (bJ f):=by rw[Ft m m (Nat.le_refl _),List.getElem?_map,hf];rfl
   have B7:putAt (fE tk fin es fs (m+1)).flatten (m*14+13) [.slice (strs (gD tk fin es (m+1))) true]=(fE tk fin es fs (m+1+1)).flatten:=by
    rw[KH (cs:=[.slice (strs (gD tk fin es (m+1))) true]) hrw hra ae];have:fE tk fin es fs (m+1+1)=(fE tk fin es fs (m+1)).set m (L3 f (gD tk fin es (m+1))):=by rw[fE,hf]
    rw[this];rfl
   replace B7:List.take (m*14+13) (fE tk fin es fs (m+1)).flatten++[.slice (strs (gD tk fin es (m+1))) true]++List.drop (m*14+13+1) (fE tk fin es fs (m+1)).flatten=(fE tk fin es fs (m+1+1)).flatten:=B7
   have qz:(pP tk H s1 (fE tk fin es fs (m+1))).set (H.length+fs.length) (.box bz (fE tk fin es fs (m+1+1)).flatten)=pP tk H s1 (fE tk fin es fs (m+1+1)):=by
    have:=aaJ (tk:=tk) (H:=H) (s:=s1) (D:=fE tk fin es fs (m+1)) (D':=fE tk fin es fs (m+1+1)) (by intro h;rw[h] at B9;simp at B9;omega) (by rw[B9,aqa])
    rw[B9] at this;exact this
   cases hB:oo tk (iM es (m+1)) e with
   | nil =>
    exfalso;have:(oo tk (iM es (m+1)) e).length=0:=by rw[hB];rfl
    unfold oo at this;simp at this;omega
   | cons x0 xl =>
   rw[hB] at JE;have Gb:T' 19=.lsl k ([.str x0] :: strs xl):=JE
   by_cases he:e<tk.length
   ·have ID:=aw3 he
    have hdm:tk[e]∈tk:=axn he;generalize tk[e]=t at ID hdm;have DH:(tk.map gp)[e]?=some [.str t.1,.str t.2]:=by rw[List.getElem?_map,ID];rfl
    have xP:=ZP t.2 (vK t hdm);have ND:gT tk fin e=t.2:=by rw[wX,ID]
    have hL:strs (gD tk fin es (m+1))=([.str b] :: strs xl)++[[.str (bW t.2).1]]:=by
     unfold gD;rw[if_neg af,<- JG,ND,hB,<- ae7]
     show strs ((b :: xl)++[_])=_
     rw[<- n7];rfl
    have ZD:iM es (m+1+1)=e:=by unfold iM;rw[if_neg af];exact JG.symm
    have Zw:nL tk fin es (m+1+1)=(bW t.2).2:=by unfold nL;rw[if_neg af];show (bW (gT tk fin (es.getD (m+1) 0))).2=_;rw[<- JG,ND]
    have ZY:(x0 :: xl).length<=tk.length:=by rw[<- hB];exact yZ
    have gH:cn 1 16 ([.str b] :: strs xl) [[.str (bW t.2).1]]=true:=tB (l:=b :: xl) (a:=(bW t.2).1) (by simp only[List.length_cons] at ZY ⊢;omega)
    have Vi:=fun (A:AP) i g t9 os T H lo gen K=>vU (A:=A) (i:=i) (g:=g) (e:=strs (gD tk fin es (m+1))) (t:=t9) (os:=os) (T:=T) (H:=H) (lo:=lo) (gen:=gen) (K:=K) (by rw[D2];exact D3 _)
    simp(disch:=omega)only[lI,ab,simprocAttr,w5,zG,wM,vp,qE,rq,qD,oC,Cf,w9,Ag,Af,Ae,Ad,zH,yr,yq,vo,pF,pS,pB,bg,S1,bg3,k4,k5,k8,k16,Ym,P0,Gq,Gb,DH,IL,xP,gH,<- hL,Vi,CB,RU,ZH,xN,B7,qz,ah];exact⟨hi,_,_,rfl,⟨cd k0,cd k2,cd k3,cd k4,cd k5,cd k7⟩,by simp(disch:=omega)only[lI,ab,simprocAttr,k8];rw[hA];rfl,cd ZD,cd Zw,cd Gn,cd Gp,xn⟩
   ·have xP:=ZP fin nN
    have ND:gT tk fin e=fin:=by rw[wX,List.getElem?_eq_none af]
    have hL:strs (gD tk fin es (m+1))=([.str b] :: strs xl)++[[.str (bW fin).1]]:=by
     unfold gD;rw[if_neg af,<- JG,ND,hB,<- ae7]
     show strs ((b :: xl)++[_])=_
     rw[<- n7];rfl
    have ZD:iM es (m+1+1)=e:=by unfold iM;rw[if_neg af];exact JG.symm
    have Zw:nL tk fin es (m+1+1)=(bW fin).2:=by unfold nL;rw[if_neg af];show (bW (gT tk fin (es.getD (m+1) 0))).2=_;rw[<- JG,ND]
    have ZY:(x0 :: xl).length<=tk.length:=by rw[<- hB];exact yZ
    have gH:cn 1 16 ([.str b] :: strs xl) [[.str (bW fin).1]]=true:=tB (l:=b :: xl) (a:=(bW fin).1) (by simp only[List.length_cons] at ZY ⊢;omega)
    have Vi:=fun (A:AP) i g t9 os T H lo gen K=>vU (A:=A) (i:=i) (g:=g) (e:=strs (gD tk fin es (m+1))) (t:=t9) (os:=os) (T:=T) (H:=H) (lo:=lo) (gen:=gen) (K:=K) (by rw[D2];exact D3 _)
    simp(disch:=omega)only[lI,ab,simprocAttr,w5,zG,wM,vp,qE,rq,qD,oC,Cf,w9,Ag,Af,Ae,Ad,zH,yr,yq,vo,pF,pS,pB,bg,S1,bg3,k4,k5,k8,k16,Ym,P0,Gq,Gb, IL,xP,gH,<- hL,Vi,CB,RU,ZH,xN,B7,qz,ah];exact⟨hi,_,_,rfl,⟨cd k0,cd k2,cd k3,cd k4,cd k5,cd k7⟩,by simp(disch:=omega)only[lI,ab,simprocAttr,k8];rw[hA];rfl,cd ZD,cd Zw,cd Gn,cd Gp,xn⟩
end
end
section
def oA(tk:List Tk)(fin:av)(es:List Nat)(fs:List Fm):List Fm:=fs.mapIdx fun j f=>{ f with layout:=gD tk fin es (j+1) }
theorem Fu{tk:List Tk}{fin:av}{es:List Nat}{fs:List Fm} : ∀ (i j:Nat) (f:Fm),j<i->i<=fs.length->fs[j]?=some f->(fE tk fin es fs (i+1))[j]?=some (L3 f (gD tk fin es (j+1)))
 | 0,j,f,h,_,_=>af
 | i+1,j,f,h,hi,hf=>by
  obtain⟨g,hg⟩:∃ g,fs[i]?=some g:=⟨_,aw3 af⟩;have e:fE tk fin es fs (i+1+1)=(fE tk fin es fs (i+1)).set i (L3 g (gD tk fin es (i+1))):=by rw[fE,hg]
  rw[e]
  by_cases hj:j=i
  ·grind [nW]
  ·rw[List.getElem?_set_ne (fun h=>hj h.symm)]
   exact Fu i j f af af hf
def Xg{base:Nat}{f:Fm} : ((L3 f L).map fun x=>fP Hx base k x.drop)=bJ { f with layout:=L }:=by
 cases k<;>rfl
theorem Xk{tk:List Tk}{fin:av}{es:List Nat}{fs:List Fm}{base:Nat} : ((fE tk fin es fs (fs.length+1)).map fun r=>r.map fun x=>fP Hx base k x.drop)=(oA tk fin es fs).map bJ:=by
 refine ayq fun j=>?_
 rw[List.getElem?_map,List.getElem?_map,oA,azK];cases hf:fs[j]? with
 | none =>
  grind [nW]
 | some f =>
  rw[Fu fs.length j f (aw5.1 hf).1 (Nat.le_refl _) hf];simp only[axa,Xg]
def aaj{tk:List Tk}{fin:av}{es:List Nat}{fs:List Fm} : (((oA tk fin es fs).map bJ).map fun r=>r.map n1)=(oA tk fin es fs).map bJ:=by
 rw[List.map_map];rfl
theorem UR{base l z:Nat}{o:bG}{R F:List (List AV)}(hb:base<=l)(hl:Hx[l]?=some o)(ho:qe o=some R.flatten)(hR:∀ r∈R,r.length=z)(hF:(R.map fun r=>r.map fun x=>fP Hx base k x.drop)=F)(ri:∀ r∈F,r.length=z/\r.all AV.plain=true)(hz:0<z)
  (DE:∀ r∈R,∀ x∈r,kD x=true):fP Hx base (k+1) (.sref l 0 R.length z)=.slice F false:=by
 have h1:(R.flatten.all fun x=>(fP Hx base k x.drop).plain&&kD x)=true:=by
  rw[aw8];intro x hx;obtain⟨r,hr,hx⟩:=ay2.1 hx;have hm:(r.map fun x=>fP Hx base k x.drop)∈F:=by rw[<- hF];exact ay6 (f:=fun r=>r.map fun x=>fP Hx base k x.drop) hr
  grind
 have h2:(R.flatten.map fun x=>fP Hx base k x.drop)=F.flatten:=by rw[<- hF,List.map_flatten]
 have h4:R.flatten.length=R.length*z:=ox hR;have h5:F.length=R.length:=by rw[<- hF,List.length_map]
 rw[fP];simp only[axH hb,cond_true,hl,aw7,ho,h1,h2,h4,axC,List.drop_zero,axH (Nat.le_refl _),axX];rw[show Nat.blt 0 z=true by simpa [axp] using hz,cond_true,<- h5,Br (fun r hr=>(ri r hr).1)]
def Ji{tk:List Tk}{fin:av}{es:List Nat}{fs:List Fm} : ∀ i,∀ r∈fE tk fin es fs i,∀ x∈r,kD x=true
 | 0,r,hr,x,hx=>by
  obtain⟨f,_,rfl⟩:=List.mem_map.1 hr;exact aw8.1 (show (bJ f).all kD=true from rfl) x hx
 | 1,r,hr,x,hx=>by
  obtain⟨f,_,rfl⟩:=List.mem_map.1 hr;exact aw8.1 (show (bJ f).all kD=true from rfl) x hx
 | i+2,r,hr,x,hx=>by
  rw[fE] at hr;split at hr
  ·rcases ayM hr with h|h
   ·exact Ji (i+1) r h x hx
   ·rw[h] at hx
    exact aw8.1 (show (L3 _ _).all kD=true from rfl) x hx
  ·exact Ji (i+1) r hr x hx
section
variable {n:Nat}{H:aa}{s fin nm:av}{us:List av}{tk:List Tk}{fs:List Fm}{es:List Nat}{s1:PS}{Q:bB->AS->Prop}
def Jr(tk:List Tk)(fin nm:av)(us:List av)(fs:List Fm)(es:List Nat):So:=⟨nm,us,oA tk fin es fs,gD tk fin es 0,nL tk fin es es.length⟩
def agF(mD:tk.length<=100000)(nN:fin.length<=1000000)(vK:∀ t∈tk,t.2.length<=1000000)(JI:es.length=fs.length+1)(hef:es.length<=200000)(hE:uB tk es)(gP:Gs s fin nm us tk H fs es s1 (fun _=>True) st)
  (hQ:∀ xg,(∃ r,finish H.length w5 xg=some r/\r=(.tuple [.agg (mz (Jr tk fin nm us fs es)),.int .i64 (-1)],none))->Q .ret xg):W (PL n) wM st Q:=by
 obtain⟨T,g,rfl,o8,e8,e9, -⟩:=gP;have a0:=o8.t0;have a2:=o8.t2;have a3:=o8.t3;have a4:=o8.t4;have a5:=o8.t5;have a7:=o8.t7;have JQ:wM=.seq (pF wM) (.seq (.seq (pF (pF zG)) (.block 8 (.loop bl1))) (.seq (pF ahk) (.seq (pF ahl) amq))):=rfl;rw[JQ];have RJ:(ints (eI es)).length=es.length:=M5;simp(disch:=omega)only[lI,ab,simprocAttr,w5,amq,ahl,ahk,zG,wM,vp,qE,rq,qD,oC,Cf,w9,Ag,Af,Ae,Ad,zH,yr,yq,vo,pF,pS,e9,RJ];refine bK es.length 8 (Bs s fin nm us tk H fs es s1) (Bs s fin nm us tk H fs es s1 es.length) (fun _=>False) ?_ ?_ (fun _ h=>h.elim) 0 _ af ?_
 ·intro i st hi gP
  by_cases j6:i<es.length
  ·exact ah4 mD nN vK JI hef hE j6 gP
  ·have:i=es.length:=af
   subst this;have Vz:=gP;obtain⟨T,g,rfl,hT,e8,Yb,S2,Ul,Rc,Rd⟩:=gP;have a0:=hT.t0;have a2:=hT.t2;have a3:=hT.t3;have a4:=hT.t4;have a5:=hT.t5;have a7:=hT.t7;simp(disch:=omega)only[lI,ab,simprocAttr,w5,zG,wM,vp,qE,rq,qD,oC,Cf,w9,Ag,Af,Ae,Ad,zH,yr,yq,vo,pF,pS,pB,bl1,Rc,Rd];exact⟨_,_,rfl,⟨cd a0,cd a2,cd a3,cd a4,cd a5,cd a7⟩,cd e8,cd Yb,cd S2,cd Ul,cd Rc,cd Rd⟩
 ·rintro st ⟨T,g,rfl,hT,e8,Yb,S2,Ul,Rc,Rd⟩
  have a0:=hT.t0;have a2:=hT.t2;have a3:=hT.t3;have a4:=hT.t4;have a5:=hT.t5;have a7:=hT.t7;have hz:z5=[.str [],.al,.al,.al,.str []]:=rfl;rw[hz] at a2;obtain⟨m,hm⟩:∃ m,es.length=m+1:=⟨fs.length,JI⟩;have hd:hdC tk fin es es.length=.slice (strs (gD tk fin es 0)) true:=by rw[hm];rfl
  rw[hd] at e8;have hA:aA H.length 14 (fs.map bJ)=.al/\fs=[]\/aA H.length 14 (fs.map bJ)=.sref (H.length+fs.length) 0 fs.length 14/\fs≠[]:=by
   cases fs with
   | nil=>exact .inl ⟨rfl,rfl⟩
   | cons d ds=>exact .inr ⟨by rw[Ck ae,List.length_map],ae⟩
  have hX:(aA H.length 14 (fs.map bJ)).drop=aA H.length 14 (fs.map bJ):=by rcases hA with ⟨h,_⟩|⟨h,_⟩<;>rw[h]<;>rfl
  have hF:∀ k,n2 (fP (pP tk H s1 (fE tk fin es fs es.length)) H.length (k+1) (aA H.length 14 (fs.map bJ)))=.slice ((oA tk fin es fs).map bJ) false/\(fP (pP tk H s1 (fE tk fin es fs es.length)) H.length (k+1) (aA H.length 14 (fs.map bJ))).plain=true:=by
   intro k
   rcases hA with ⟨h,rfl⟩|⟨h,da⟩
   ·rw[h];exact⟨rfl,rfl⟩
   ·rw[h]
    have B9:=nW (tk:=tk) (fin:=fin) (es:=es) (fs:=fs) es.length;have ZH:=Qh (tk:=tk) (H:=H) (s:=s1) (D:=fE tk fin es fs es.length) (by intro h;rw[h] at B9;exact da (axm.1 B9.symm))
    rw[B9] at ZH;have KY:((fE tk fin es fs es.length).map fun r=>r.map fun x=>fP (pP tk H s1 (fE tk fin es fs es.length)) H.length k x.drop)=(oA tk fin es fs).map bJ:=by
     have:=Xk (tk:=tk) (fin:=fin) (es:=es) (fs:=fs) (Hx:=pP tk H s1 (fE tk fin es fs es.length)) (base:=H.length) (k:=k)
     rw[<- JI] at this;exact this
    have:=UR (k:=k) (z:=14) (base:=H.length) (l:=H.length+fs.length) (R:=fE tk fin es fs es.length) af ZH rfl (tO _) KY (fun r hr=>by obtain⟨f,_,rfl⟩:=List.mem_map.1 hr;exact⟨Cu,rfl⟩) af (Ji _)
    rw[B9] at this;rw[this];refine⟨?_,rfl⟩;rw[dR,aaj]
  have akn:(us=[]/\uC us=.al)\/(us≠[]/\uC us=.slice (strs us) true):=by
   cases us with
   | nil=>exact .inl ⟨rfl,rfl⟩
   | cons u r=>exact .inr ⟨ae,rfl⟩
  have hfc:aO (aA H.length 14 (fs.map bJ))=true:=by rcases hA with ⟨h,_⟩|⟨h,_⟩<;>rw[h]<;>rfl
  rcases akn with ⟨rfl,hu⟩|⟨au7,hu⟩
  ·rw[hu] at e8
   have hd5:ah false true 5 0 [.str nm,.al,aA H.length 14 (fs.map bJ),.slice (strs (gD tk fin es 0)) true,.str (nL tk fin es es.length)]=some (.agg [.str nm,.al,aA H.length 14 (fs.map bJ),.slice (strs (gD tk fin es 0)) false,.str (nL tk fin es es.length)]):=by
    show some (AV.agg [AV.str nm,.al,(aA H.length 14 (fs.map bJ)).drop,.slice (strs (gD tk fin es 0)) false,.str (nL tk fin es es.length)])=_
    rw[hX]
   refine Yp a2 (j4 e8 S2 hfc hd5) ?_;refine hQ _ ⟨_,Cr (tc:=2) (tr:=3) (n:=5) (g:=0) (cs:=[.str nm,.al,aA H.length 14 (fs.map bJ),.slice (strs (gD tk fin es 0)) false,.str (nL tk fin es es.length)]) (out:=mz (Jr tk fin nm [] fs es)) (r:=-1) rfl aB aB (xn) (xn) rfl rfl ?_ ?_,rfl⟩
   ·obtain⟨h1,h2⟩:=hF 2
    show (List.all [.str nm,fP _ H.length 3 (AV.drop .al),fP _ H.length 3 (aA H.length 14 (fs.map bJ)).drop,fP _ H.length 3 (AV.slice (strs (gD tk fin es 0)) false),.str (nL tk fin es es.length)] AV.plain)=true
    rw[hX];simp only[List.all_cons,List.all_nil,h2];rfl
   ·obtain⟨h1,h2⟩:=hF 2
    show [n2 _,n2 (fP _ H.length 3 (AV.drop .al)),n2 (fP _ H.length 3 (aA H.length 14 (fs.map bJ)).drop),n2 (AV.slice (strs (gD tk fin es 0)) false),n2 _]=_
    rw[hX,h1,dR,D6];rfl
  ·rw[hu] at e8
   have hd5:ah false true 5 0 [.str nm,.slice (strs us) true,aA H.length 14 (fs.map bJ),.slice (strs (gD tk fin es 0)) true,.str (nL tk fin es es.length)]=some (.agg [.str nm,.slice (strs us) false,aA H.length 14 (fs.map bJ),.slice (strs (gD tk fin es 0)) false,.str (nL tk fin es es.length)]):=by
    show some (AV.agg [AV.str nm,.slice (strs us) false,(aA H.length 14 (fs.map bJ)).drop,.slice (strs (gD tk fin es 0)) false,.str (nL tk fin es es.length)])=_
    rw[hX]
   refine Yp a2 (j4 e8 S2 hfc hd5) ?_;refine hQ _ ⟨_,Cr (tc:=2) (tr:=3) (n:=5) (g:=0) (cs:=[.str nm,(.slice (strs us) false),aA H.length 14 (fs.map bJ),.slice (strs (gD tk fin es 0)) false,.str (nL tk fin es es.length)]) (out:=mz (Jr tk fin nm us fs es)) (r:=-1) rfl aB aB (xn) (xn) rfl rfl ?_ ?_,rfl⟩
   ·obtain⟨h1,h2⟩:=hF 2
    show (List.all [.str nm,fP _ H.length 3 (AV.drop (.slice (strs us) false)),fP _ H.length 3 (aA H.length 14 (fs.map bJ)).drop,fP _ H.length 3 (AV.slice (strs (gD tk fin es 0)) false),.str (nL tk fin es es.length)] AV.plain)=true
    rw[hX];simp only[List.all_cons,List.all_nil,h2];rfl
   ·obtain⟨h1,h2⟩:=hF 2
    show [n2 _,n2 (fP _ H.length 3 (AV.drop (.slice (strs us) false))),n2 (fP _ H.length 3 (aA H.length 14 (fs.map bJ)).drop),n2 (AV.slice (strs (gD tk fin es 0)) false),n2 _]=_
    rw[hX,h1,dR,D6]
    show [_,n2 (AV.slice (strs us) false),_,_,_]=_
    rw[dR,D6];rfl
 ·exact⟨_,_,rfl,⟨cd a0,cd a2,cd a3,cd a4,cd a5,cd a7⟩,by simp(disch:=omega)only[lI,ab,simprocAttr,e8];rfl,by simp(disch:=omega)only[lI,ab,simprocAttr];rfl,by simp(disch:=omega)only[lI,ab,simprocAttr];rfl,xn,xn,by simp(disch:=omega)only[lI,ab,simprocAttr];try rfl⟩
end
end
def SL:∀ (m:Nat) (r:av) (off:Nat),r.length<=m->(dK r off).2.2=-1->(((dK r off).1.map fun t=>t.before++t.text).flatten++(dK r off).2.1=r)/\∀ t∈(dK r off).1,1<=t.text.length:=by
 intro m
 induction m with
 | zero =>
  intro r off hm h;have:r=[]:=axm.1 af
  subst this;rw[dK,if_pos (by rfl)] at h ⊢
  exact⟨ae,ae⟩
 | succ m ih =>
  intro r off hm h
  by_cases h1:bt false r=r.length
  ·rw[dK,if_pos h1] at h ⊢
   exact⟨ae,ae⟩
  ·by_cases h2:fW (r.drop (bt false r))=0
   ·rw[dK,if_neg h1,dif_pos h2] at h
    simp only at h;omega
   ·rw[dK,if_neg h1,dif_neg h2] at h ⊢
    simp only at h ⊢;have hle:=wz (r.drop (bt false r));have Gj:=mg false r;rw[axD] at hle
    by_cases hx:(dK (r.drop (bt false r+fW (r.drop (bt false r)))) (off+(bt false r+fW (r.drop (bt false r))))).2.2=-1
    ·rw[if_pos hx]
     obtain⟨k1,k2⟩:=ih _ _ (by rw[axD];omega) hx
     refine⟨?_,fun t ht=>?_⟩
     ·simp only[axe,axw,axf]
      rw[k1,<- ax6,axW,axW]
     ·rcases axs.1 ht with rfl|ht
      ·simp only[axO,axD]
       omega
      ·exact k2 t ht
    ·rw[if_neg hx] at h
     exact absurd h hx
def Xu(r:av)(off:Nat)(h:(dK r off).2.2=-1):(((dK r off).1.map fun t=>t.before++t.text).flatten++(dK r off).2.1=r)/\∀ t∈(dK r off).1,1<=t.text.length:=SL r.length r off (Nat.le_refl _) h
def A3{s:av}(h:(bO s).2.2=-1):s.length<=8192/\((bO s).1.map fun t=>t.before++t.text).flatten++(bO s).2.1=s/\∀ t∈(bO s).1,1<=t.text.length:=by
 unfold bO at h ⊢;split at h
 ·simp at h
 ·rename_i hs
  rw[if_neg hs];obtain⟨h1,h2⟩:=Xu s 0 h;exact⟨af,h1,h2⟩
def AM:∀ l:List Tok,gu (iv l)=(l.map fun t=>t.before++t.text).flatten.length
 | []=>rfl
 | t :: l=>by
  show t.before.length+t.text.length+gu (iv l)=_
  rw[AM l];simp only[axe,axw,List.length_append]
def zM{s:av}(h:(bO s).2.2=-1):Cj (iv (bO s).1)/\gu (iv (bO s).1)<=8192/\(iv (bO s).1).length<=8192/\(bO s).2.1.length<=8192/\(∀ t∈iv (bO s).1,t.2.length<=8192):=by
 obtain⟨h1,h2,h3⟩:=A3 h;have h4:gu (iv (bO s).1)+(bO s).2.1.length=s.length:=by rw[AM,<- List.length_append,h2]
 have key:∀ l:List Tok,(∀ t∈l,1<=t.text.length)->l.length<=gu (iv l)/\∀ t∈iv l,t.1.length<=gu (iv l)/\t.2.length<=gu (iv l):=by
  intro l
  induction l with
  | nil=>intro _;exact⟨axh _,by simp[iv]⟩
  | cons t l ih =>
   intro hl;obtain⟨k1,k2⟩:=ih fun x hx=>hl x (yd hx)
   have k3:=hl t ae;have e:gu (iv (t :: l))=t.before.length+t.text.length+gu (iv l):=rfl;rw[e];refine⟨iA,fun x hx=>?_⟩
   rcases axs.1 (show x∈(t.text,t.before) :: iv l from hx) with rfl|hx
   ·exact⟨by simp only;omega,by simp only;omega⟩
   ·have:=k2 x hx;exact⟨af,af⟩
 obtain⟨k1,k2⟩:=key _ h3;have hl:(iv (bO s).1).length=(bO s).1.length:=by simp[iv]
 exact⟨⟨af,fun x hx=>by have:=(k2 x hx).1;omega⟩,af,af,af,fun t ht=>by have:=(k2 t ht).2;omega⟩
def Iy{tk:List Tk}{n m:Nat}{s:PS}{r:Fm × PS}(h:lW (aq tk) n (pE (aq tk) m 0) s=some r)(hb:r.2.bad=false):s.i<r.2.i:=by
 unfold lW at h;simp only at h;cases hk:decide (kR (pk (aq tk) s) cG 0<0) with
 | true =>
  rw[hk,cond_true,aw2] at h;subst h;cases hb
 | false =>
  rw[hk,cond_false] at h;have hE:=iN (tk:=tk) m 0;simp only[aw1] at h;obtain⟨sl,h1,h⟩:=h;have l1:Lq tk s.up sl.2:=dv.tr ((bH ae).tr (nz ae (fun a s r he=>pd he) h1))
  have NI:s.up.i=s.i+1:=rfl;cases h2:(decide (kR (pk (aq tk) s) cG 0=0) || decide (kR (pk (aq tk) s) cG 0=1)) with
  | true =>
   rw[h2,cond_true,aw2] at h;subst h;have:=l1.i
   simp only;omega
  | false =>
   rw[h2,cond_false,aw1] at h;obtain⟨w,h3,h⟩:=h;rw[aw0] at h;obtain⟨b,h4,rfl⟩:=h;have:=(l1.tr ((iY _ _ _ h3).tr ((bH ae).tr (hE _ _ h4)))).i
   simp only;omega
def Rf{tk:List Tk}{es:List Nat}{x:Nat}(hE:uB tk es)(hl:es.getLast?=some i)(hx:i<x)(ZY:x<=tk.length):uB tk (es++[x]):=by
 refine⟨fun j hj=>?_⟩
 have da:es≠[]:=by intro h;rw[h] at hl;cases hl
 have y5:es.getD (es.length-1) 0=i:=by
  rw[List.getLast?_eq_getElem?] at hl;rw[List.getD_eq_getElem?_getD,hl];rfl
 have DF:0<es.length:=ayn.2 da;have gd:∀ k,k<es.length->(es++[x]).getD k 0=es.getD k 0:=fun k hk=>by
  rw[List.getD_eq_getElem?_getD,List.getD_eq_getElem?_getD,axd hk]
 by_cases B4:j<es.length
 ·have:=hE.ok j B4
  have hf:iM (es++[x]) j=iM es j:=by
   unfold iM;split
   ·rfl
   ·exact gd _ af
  rw[hf,gd j B4];exact this
 ·have:j=es.length:=by simp at hj;omega
  subst this;have hf:iM (es++[x]) es.length=i:=by
   unfold iM;rw[if_neg af,gd _ af,y5]
  have hg:(es++[x]).getD es.length 0=x:=by
   rw[List.getD_eq_getElem?_getD,List.getElem?_append_right (Nat.le_refl _)];simp
  rw[hf,hg];exact⟨af,ZY,fun _=>hx⟩
def Av{tk:List Tk}{n:Nat} : ∀ (k:Nat) (fs:List Fm) (es:List Nat) (s1:PS) (r:(List Fm × List Nat) × PS),lU (aq tk) n k (fs,es) s1=some r->r.2.bad=false->uB tk es->es.getLast?=some s1.i->s1.i<=tk.length->uB tk r.1.2
 | 0,_,_,_,_,h,_,_,_,_=>by cases h
 | k+1,fs,es,s1,r,h,hb,hE,hl,hs=>by
  unfold lU at h;cases hc:(!s1.bad&&Nat.blt s1.i (aq tk).length) with
  | false =>
   rw[hc,cond_false,aw2] at h;subst h;exact hE
  | true =>
   rw[hc,cond_true,aw1] at h;obtain⟨⟨f,s2⟩,hf,h⟩:=h;have xP:s2.i<=tk.length:=(CG (iN _ _) hf).le hs;have kG:s2.bad=false:=by
    cases vK:s2.bad with
    | false=>rfl
    | true =>
     have:r.2.bad=true:=by
      clear hE hl
      match k with
      | 0=>cases h
      | k+1 =>
       unfold lU at h;simp only[vK,ax7,axt,cond_false,aw2] at h;subst h;exact vK
     rw[this] at hb;cases hb
   exact Av k _ _ _ r h hb (Rf hE hl (Iy hf kG) xP) ae xP
section
def so0:So:=⟨[],[],[],[],[]⟩
def Cd(tx jo:List av):Option Nat:=(List.range tx.length).find? fun i=>jo[i]? != tx[i]?
def vm(tk:List Tk)(fin:av)(en:Nat)(q:(av × List av × List Fm × List Nat) × PS):So × Int :=
 bif q.2.bad then (so0,nE tk q.2.i en) else
 match Cd (aq tk) (lk q.1.1 q.1.2.1 q.1.2.2.1) with
 | some i=>(so0,nE tk i en)
 | none=>(Jr tk fin q.1.1 q.1.2.1 q.1.2.2.1 q.1.2.2.2, -1)
def qg(n:Nat)(s:av):Option (So × Int) :=
 if (bO s).2.2=-1 then (qS (aq (iv (bO s).1)) n).map (vm (iv (bO s).1) (bO s).2.1 s.length) else some (so0,(bO s).2.2)
def Lt(h:∀ j,j<tx.length->jo[j]?=tx[j]?):Cd tx jo=none:=by
 unfold Cd;rw[List.find?_eq_none];intro j hj;have:=h j (ayB.1 hj)
 simp[this]
def Wl(hi:i<tx.length)(h:∀ j,j<i->jo[j]?=tx[j]?)(hn:jo[i]?≠tx[i]?):Cd tx jo=some i:=by
 unfold Cd;rw[List.find?_range_eq_some];refine⟨cJ hn,ayB.2 hi,fun j hj=>?_⟩
 simp[h j hj]
def Pn{tk:List Tk}{H:aa}(h:RtE tk H i st):finish H.length w5 st=some (.tuple [.agg (mz so0),.int .i64 (i:Int)],none):=by
 obtain⟨T,s1,D,g,rfl,h2,h3⟩:=h;exact Cr (tc:=2) (tr:=3) (n:=5) (g:=0) (cs:=z5) (out:=mz so0) (r:=(i:Int)) rfl aB aB h2 h3 rfl rfl rfl rfl
section
variable {n:Nat}{H:aa}{s:av}
def XV{tk:List Tk}(hb:Cj tk):∀ (k:Nat) (us:List av) (s1:PS) (r:List av × PS),o5 (aq tk) k us s1=some r->(∀ u∈us,u.length<=1000000)->∀ u∈r.1,u.length<=1000000
 | 0,_,_,_,h,_=>by cases h
 | k+1,us,s1,r,h,hu=>by
  unfold o5 at h;cases hc:(!s1.bad&&(pk (aq tk) s1==Bl)) with
  | false =>
   rw[hc,cond_false,aw2] at h;subst h;exact hu
  | true =>
   rw[hc,cond_true] at h;refine XV hb k _ _ r h fun u hm=>?_
   rcases aw9.1 hm with h1|h1
   ·exact hu u h1
   ·rw[axi.1 h1];exact vj hb
def G0{nm:av}{us:List av}(h:us.length<=1000000):(de ⟨nm,us,[],[],[]⟩).length<=3000000:=by
 have key:∀ l:List av,((l.map fun u=>[[117,115,101],u]).flatten).length=2*l.length:=by
  intro l
  induction l with
  | nil=>rfl
  | cons a l ih=>simp only[axe,axw,List.length_append,List.length_cons,List.length_nil,ih];omega
 unfold de;split
 ·unfold heads
  simp only[List.length_append,List.length_cons,List.length_nil,key];omega
 ·simp
def amh{Q:bB->AS->Prop}(hs:s.length<=4611686018427387904)(mC:¬ (bO s).2.2=-1)(hQ:∀ T g,T 2=.lbox 0 z5->T 3=.int .i64 (bO s).2.2->Q .ret ⟨T,H,H.length,g⟩):W (PL n) vo ⟨dO [.str s],H,H.length,0⟩ Q:=by
 have NH:vo=.seq (pF vo) (.seq (pF yq) (.seq (pF yr) zH)):=rfl;rw[NH];have Vx:∀ K,ai (PL n) 23 [.str s] K=some (.tuple [.slice (fA (bO s).1) false,.str (bO s).2.1,.int .i64 (bO s).2.2],none):=fun K=>cL rfl (Qq s K hs)
 have da:((bO s).2.2 != -1)=true:=cJ mC;have Vk:((bO s).2.2==-1)=false:=cJ mC;simp(disch:=omega)only[lI,ab,simprocAttr,w5,yr,yq,vo,pF,pS,Vx,da];exact hQ _ _ (by simp(disch:=omega)only[lI,ab,simprocAttr];rfl) (nS0 tv)
def aaK(hn:n<=100000)(hs:s.length<=4611686018427387904)(hw:(bO s).2.2=-1->∀ q,qS (aq (iv (bO s).1)) n=some q->q.2.bad=false->∀ f∈q.1.2.2.1,Yw f){r:So × Int}(h:qg n s=some r) :
  ai (PL n) 7 [.str s] H=some (.tuple [.agg (mz r.1),.int .i64 r.2],none):=by
 have key:∃ x,ai (PL n) 7 [.str s] H=some x/\x=(.tuple [.agg (mz r.1),.int .i64 r.2],none):=by
  refine GH (fn:=w5) rfl rfl rfl ?_
  show W (PL n) vo _ _
  by_cases mC:(bO s).2.2=-1
  ·unfold qg at h
   rw[if_pos mC,aw0] at h;obtain⟨q,hq,rfl⟩:=h;obtain⟨tk,mD⟩:∃ tk,tk=iv (bO s).1:=⟨_,rfl⟩;obtain⟨fin,nN⟩:∃ fin,fin=(bO s).2.1:=⟨_,rfl⟩;obtain⟨hb,RN,qO,xN,yZ⟩:=zM mC;have hw:=hw mC;rw[<- mD] at hb RN qO yZ hq hw ⊢;rw[<- nN] at xN ⊢;have hw':=hw q hq;unfold qS at hq;simp only[aw1,aw0] at hq;obtain⟨u,hu,d,hd,rfl⟩:=hq;simp only at hw';have Vw:bO s=((bO s).1,fin, -1):=by rw[nN,<- mC]
   refine amr (tk:=tk) hs Vw mD hb ?_;intro T e0 e2 e3 e4 e5 e7 e8 e9;have Mw:(psN tk).i<=tk.length:=jS (fT aB (axh _));have hU:=aiB (n:=n) (H:=H) (s:=s) (fin:=fin) (nm:=nmN tk) (k:=n) (us:=[]) (s1:=psN tk) (r:=u) hb df Mw hu (st:=⟨T,pP tk H (psN tk) [],H.length,2⟩) ⟨T,rfl,⟨e0,e2,e3,e4,e5,e7⟩,e8,e9⟩;have hub:=XV hb n [] (psN tk) u hu ae
   show W (PL n) (.seq (pF w9) Cf) _ _
   refine yu hU ?_
   rintro XH ⟨aqh,JR,ZS⟩
   show W (PL n) (.seq (pF Cf) oC) _ _
   refine yu (aeG JR af aqh) ?_;intro A6 Vz
   show W (PL n) (.seq (pF oC) qD) _ _
   refine yu (Zr hb af af (k:=n) df ae JR hd Vz) ?_
   rintro st3 ⟨aqi,AD,hd2,hd3⟩
   have kE:(aq tk).length=tk.length:=by simp[aq]
   refine ajm hb af af hs AD aqi ?_ ?_
   ·intro jl st4 afQ
    refine⟨_,Pn afQ,?_⟩;unfold vm;simp only[jl,cond_true]
   ·intro jl st4 afQ
    have RU:=hw' jl;have u9:(nmN tk).length<=1000000:=vj hb
    show W (PL n) (.seq (pF rq) qE) _ _
    refine yu (ZA af af (fun x hx=>by have:=hub x hx;omega) afQ) ?_
    intro st5 aqj
    show W (PL n) (.seq (pF qE) vp) _ _
    refine yu (ain RU hd2 (G0 ZS) aqj) ?_;intro st6 aqk;have Nw:=Nk RU;have hhl:=G0 (nm:=nmN tk) ZS;refine ajE hb af af hs (by unfold lk;rw[List.length_append];omega) aqk ?_ ?_
    ·intro dQ st7 afR
     have Mq:uB tk [u.2.i]:=⟨fun i hi=>by
      have:i=0:=by simp at hi;omega
      subst this;exact⟨axh _,JR,fun h=>absurd h af⟩⟩
     have hE:=Av n [] [u.2.i] u.2 d hd jl Mq rfl JR;refine agF af af (fun t ht=>by have:=yZ t ht;omega) hd3 af hE afR ?_
     rintro st8 ⟨x,od,F0⟩
     refine⟨x,od,?_⟩;rw[F0];unfold vm;have hm:Cd (aq tk) (lk (nmN tk) u.1 d.1.1)=none:=Lt (fun j hj=>dQ j (by rw[kE] at hj;exact hj))
     have S8:Cd (aq tk) (lk (aE (aq tk) (aN (aq tk) js ⟨0,false⟩)).1 u.1 d.1.1)=none:=hm;simp only[jl,cond_false,S8];rfl
    ·intro i hi dQ da st7 afR
     refine⟨_,Pn afR,?_⟩;unfold vm;have S8:Cd (aq tk) (lk (aE (aq tk) (aN (aq tk) js ⟨0,false⟩)).1 u.1 d.1.1)=some i:=Wl (by rw[kE];exact hi) dQ da
     simp only[jl,cond_false,S8]
  ·unfold qg at h
   rw[if_neg mC,aw2] at h;subst h;refine amh hs mC fun T g h2 h3=>?_
   exact⟨_,Cr (tc:=2) (tr:=3) (n:=5) (g:=0) (cs:=z5) (out:=mz so0) (r:=(bO s).2.2) rfl aB aB h2 h3 rfl rfl rfl rfl,rfl⟩
 obtain⟨x,h1,rfl⟩:=key;exact h1
end
end
section
section
variable {tk:List Tk}
def mu(tk:List Tk)(s:PS):Nat:=bif s.bad then 0 else tk.length-s.i
def iO{s:PS}(h:Lq tk s s'):mu tk s'<=mu tk s:=by
 unfold mu;cases hb:s.bad with
 | true=>rw[h.bad hb];exact Nat.le_refl _
 | false =>
  cases iG:s'.bad with
  | true=>exact axh _
  | false=>have:=h.i;simp only[cond_false];omega
theorem l7{s:PS}(hw:w≠[])(e:(pk (aq tk) s==w)=true):mu tk s.up+1<=mu tk s:=by
 have hp:pk (aq tk) s≠[]:=by rw[eq_of_beq e];exact hw
 have hl:=um hp;have hb:s.bad=false:=by
  cases h:s.bad with
  | false=>rfl
  | true=>unfold pk at hp;rw[h,cond_true] at hp;exact absurd rfl hp
 unfold mu PS.up
 grind
def uE(tk:List Tk)(E:EP)(M:Nat):Prop:=∀ s,mu tk s<=M->∃ r,E s=some r
def cX{α:Type}{b:Bool}{x y:Option α}(h1:b=true->∃ r,x=some r)(h2:b=false->∃ r,y=some r):∃ r,(bif b then x else y)=some r:=by
 cases b with
 | true=>exact h1 rfl
 | false=>exact h2 rfl
theorem jO{α:Type}{x:Option α}{f:α->Option β}(h1:∃ a,x=some a)(h2:∀ a,x=some a->∃ r,f a=some r):∃ r,x.bind f=some r:=by
 grind
def jz{α:Type}{x:Option α}{f:α->β}(h1:∃ a,x=some a):∃ r,x.map f=some r:=by
 obtain⟨a,ha⟩:=h1;rw[ha];exact⟨_,rfl⟩
def wB:∀ (n:Nat) (s:PS),mu tk s+1<=n->∃ r,mi (aq tk) n s=some r
 | 0,s,h=>af
 | n+1,s,h=>by
  unfold mi;refine cX (fun _=>⟨_,rfl⟩) fun _=>cX (fun _=>⟨_,rfl⟩) fun _=>cX (fun e=>jz ?_) fun _=>⟨_,rfl⟩
  have h1:=l7 aB e;have h2:=iO (bH (tk:=tk) (s:=s.up) (w:=[40]) ae);exact wB n _ af
def DU{α:Type}{elem:α->PS->Option (α × PS)}{fin:av}{M:Nat}(he:∀ a s,mu tk s<=M->∃ r,elem a s=some r)(hq:∀ a s r,elem a s=some r->Lq tk s r.2) :
  ∀ (k:Nat) (a:α) (s:PS),mu tk s<=M->mu tk s+1<=k->∃ r,oB (aq tk) elem fin k a s=some r
 | 0,a,s,_,h=>af
 | k+1,a,s,hM,h=>by
  unfold oB;refine jO (he a s hM) fun r hr=>cX (fun e=>?_) fun _=>⟨_,rfl⟩
  simp only[aw4] at e;have h1:=l7 (s:=r.2) (w:=[44]) ae e.2;have h2:=iO (hq a s r hr);exact DU he hq k _ _ af af
def vO{α:Type}{elem:α->PS->Option (α × PS)}{fin:av}{M:Nat}(he:∀ a s,mu tk s<=M->∃ r,elem a s=some r)(hq:∀ a s r,elem a s=some r->Lq tk s r.2){a:α}{s:PS}(hM:mu tk s<=M)(hk:mu tk s+1<=k) :
  ∃ r,nP (aq tk) elem fin k a s=some r:=by
 unfold nP;exact cX (fun _=>⟨_,rfl⟩) fun _=>DU he hq k a s hM hk
section
variable {E B:EP}{M:Nat}
def rV(hE:uE tk E M){s:PS}(h:mu tk s<=M):∃ r,qB E ks s=some r:=jz (hE s h)
def nR(hE:uE tk E M)(hw:w≠[]){s:PS}(h:mu tk s<=M):∃ r,mY (aq tk) E w ks s=some r:=by
 unfold mY;refine cX (fun _=>⟨_,rfl⟩) fun _=>rV hE ?_
 have:=iO (bH (tk:=tk) (s:=s) hw)
 omega
def R'(hE:uE tk E M){a:List av × List Tm}{s:PS}(h:mu tk s<=M):∃ r,wH (aq tk) E a s=some r:=by
 unfold wH;refine jz (rV hE ?_);have:=iO ((dv (tk:=tk) (s:=s)).tr (bH (w:=[61]) ae))
 omega
def Rp(hE:uE tk E M)(gE:gR tk E){s:PS}(hB:∃ r,B s=some r)(hM:mu tk s<=M+1):∃ r,ow (aq tk) E B s=some r:=by
 unfold ow;refine cX (fun e=>?_) fun _=>cX (fun e=>?_) fun _=>cX (fun e=>?_) fun _=>hB
 ·have h1:=l7 aB e
  refine jO (rV hE af) fun a ha=>jO (nR hE aB ?_) fun b hb=>jz (nR hE aB ?_)
  ·have:=iO (iH gE ha);omega
  ·have:=iO ((iH gE ha).tr (ga gE aB hb));omega
 ·have h1:=l7 aB e
  have h2:=iO (dv (tk:=tk) (s:=s.up));refine jO (nR hE ae af) fun a ha=>jz (nR hE aB ?_)
  have:=iO (ga gE ae ha);omega
 ·have h1:=l7 aB e
  have h2:=iO (Lp (tk:=tk) (s:=s.up));refine jO (nR hE ae af) fun a ha=>jO (nR hE aB ?_) fun b hb=>jz (nR hE aB ?_)
  ·have:=iO (ga gE ae ha);omega
  ·have:=iO ((ga gE ae ha).tr (ga gE aB hb));omega
def BJ(hE:uE tk E M)(gE:gR tk E):∀ (k:Nat) (a:List av × List Tm) (s:PS),mu tk s<=M->mu tk s+1<=k->∃ r,lR (aq tk) E k a s=some r
 | 0,a,s,_,h=>af
 | k+1,a,s,hM,h=>by
  unfold lR;have hl:=(dv (tk:=tk) (s:=s)).tr (dv.tr (bH (w:=[45,62]) ae));have h0:=iO hl;refine jO (hE _ af) fun r hr=>cX (fun e=>?_) fun _=>⟨_,rfl⟩
  simp only[aw4] at e;have h1:=l7 (s:=r.2) (w:=[44]) ae e.2;have h2:=iO (gE _ _ hr);exact BJ hE gE k _ _ af af
def N4(hE:uE tk E M)(gE:gR tk E){n:Nat}{s:PS}(hM:mu tk s<=M)(hn:mu tk s+1<=n):∃ r,mG (aq tk) n E s=some r:=by
 unfold mG;have hl:=(jW (tk:=tk) (s:=s)).tr (bH (w:=[40]) ae);have h0:=iO hl;refine jO (hE _ af) fun r hr=>jz (BJ hE gE n _ _ ?_ ?_)
 all_goals
  have:=iO ((gE _ _ hr).tr ((bH (w:=[41]) ae).tr (bH (w:=[123]) ae)))
  omega
def Lz(hE:uE tk E M){nm:av}{s:PS}(hM:mu tk s<=M):∃ r,oP (aq tk) E nm s=some r:=by
 unfold oP;have h0:=iO (dv (tk:=tk) (s:=s));refine cX (fun e=>jz (hE _ ?_)) fun _=>jz (hE _ ?_)
 ·have:=l7 (s:=(aE (aq tk) s).2) (w:=[91]) ae e;omega
 ·have:=iO (bH (tk:=tk) (s:=(aE (aq tk) s).2) (w:=[40]) ae);omega
def N9(hE:uE tk E M)(gE:gR tk E){n:Nat}{s:PS}(hM:mu tk s<=M+1)(hn:mu tk s<=n):∃ r,kW (aq tk) n E s=some r:=by
 unfold kW;have h0:=iO (jW (tk:=tk) (s:=s));simp only;refine cX (fun e=>?_) fun _=>cX (fun e=>?_) fun _=>cX (fun e=>?_) fun _=>cX (fun _=>⟨_,rfl⟩) fun _=>⟨_,rfl⟩
 ·have h1:=l7 (s:=(aJ (aq tk) s).2) (w:=[40]) ae e
  exact jz (vO (M:=M) (fun a s' h=>rV hE h) (fun a s' r h=>iH gE h) af af)
 ·have h1:=l7 (s:=(aJ (aq tk) s).2) (w:=[123]) ae e
  exact jz (vO (M:=M) (fun a s' h=>R' hE h) (fun a s' r h=>vR gE h) af af)
 ·have h1:=l7 (s:=(aJ (aq tk) s).2) (w:=[58]) ae e
  exact Lz hE af
def QX(hE:uE tk E M)(gE:gR tk E){n:Nat}{s:PS}(hM:mu tk s<=M+1)(hn:mu tk s<=n):∃ r,lN (aq tk) n E s=some r:=by
 unfold lN;refine cX (fun _=>⟨_,rfl⟩) fun _=>cX (fun _=>⟨_,rfl⟩) fun _=>cX (fun _=>⟨_,rfl⟩) fun _=>cX (fun _=>⟨_,rfl⟩) fun _=>cX (fun e=>?_) fun _=>cX (fun e=>?_) fun _=>cX (fun e=>?_) fun _=>N9 hE gE hM hn
 ·have h1:=l7 (s:=s) (w:=[40]) ae e
  exact jz (hE _ af)
 ·have h1:=l7 aB e
  have h2:=iO (bH (tk:=tk) (s:=s.up) (w:=[40]) ae);refine jO (jz (wB n _ af)) fun w hw=>jz (vO (M:=M) (fun a s' h=>rV hE h) (fun a s' r h=>iH gE h) ?_ ?_)
  all_goals
   have:=iO ((xX hw).tr (bH (w:=[91]) ae))
   omega
 ·have h1:=l7 aB e
  exact N4 hE gE af af
def GC(hB:uE tk B M)(gB:gR tk B){lv:Int} : ∀ (k:Nat) (t:Tm) (s:PS),mu tk s<=M+1->mu tk s+1<=k->∃ r,rJ (aq tk) B lv k t s=some r
 | 0,t,s,_,h=>af
 | k+1,t,s,hM,h=>by
  unfold rJ;refine cX (fun _=>⟨_,rfl⟩) fun hb=>?_
  split
  ·exact⟨_,rfl⟩
  ·rename_i o l ho
   refine cX (fun _=>?_) fun _=>⟨_,rfl⟩
   have da:pk (aq tk) s≠[]:=by
    intro e;rw[e] at ho;have:wL []=none:=aB
    rw[this] at ho;cases ho
   have h1:=l7 (tk:=tk) (s:=s) (w:=pk (aq tk) s) da ae;refine jO (hB _ af) fun r hr=>cX (fun _=>⟨_,rfl⟩) fun _=>?_
   have h2:=iO (gB _ _ hr);exact GC hB gB k _ _ af af
end
def Oh{n l:Nat}{s:PS}(h1:1<=l)(h6:l<=6):pE L (n+1) l s=(pE L n (l+1) s).bind fun r=>rJ L (pE L n (l+1)) l n r.1 r.2:=by
 have:l=1\/l=2\/l=3\/l=4\/l=5\/l=6:=af
 rcases this with rfl|rfl|rfl|rfl|rfl|rfl<;>rfl
def tL:∀ (n l:Nat) (s:PS),l<=7->9*mu tk s+(8-l)+1<=n->∃ r,pE (aq tk) n l s=some r
 | 0,l,s,_,h=>af
 | n+1,l,s,hl,h=>by
  have g0:=iN (tk:=tk) n 0;have ad1:∀ M,9*M+9<=n->uE tk (pE (aq tk) n 0) M:=fun M hM s hs=>tL n 0 s af af
  by_cases hl0:l=0
  ·subst hl0
   show ∃ r,ow (aq tk) (pE (aq tk) n 0) (pE (aq tk) n 1) s=some r
   have hB:=tL n 1 s af af
   by_cases hz:mu tk s=0
   ·unfold ow
    refine cX (fun e=>?_) fun _=>cX (fun e=>?_) fun _=>cX (fun e=>?_) fun _=>hB
    all_goals
     have:=l7 aB e
     omega
   ·exact Rp (ad1 (mu tk s-1) af) g0 hB af
  by_cases hl7:l=7
  ·subst hl7
   show ∃ r,(bif pk (aq tk) s==rC then (pE (aq tk) n 7 s.up).map fun r=>(.mk 4 9 [] [] [] [] [r.1] [],r.2)
    else bif pk (aq tk) s==ua then (pE (aq tk) n 7 s.up).map fun r=>(.mk 4 11 [] [] [] [] [r.1] [],r.2)
    else lN (aq tk) n (pE (aq tk) n 0) s)=some r
   refine cX (fun e=>?_) fun _=>cX (fun e=>?_) fun _=>?_
   ·have:=l7 aB e
    exact jz (tL n 7 _ af af)
   ·have:=l7 aB e
    exact jz (tL n 7 _ af af)
   ·by_cases hz:mu tk s=0
    ·have mS:∀ s',mu tk s'=0->∀ w,w≠[]->(pk (aq tk) s'==w)=true->False:=fun s' h0 w hw e=>by
      have:=l7 hw e;omega
     unfold lN;refine cX (fun _=>⟨_,rfl⟩) fun _=>cX (fun _=>⟨_,rfl⟩) fun _=>cX (fun _=>⟨_,rfl⟩) fun _=>cX (fun _=>⟨_,rfl⟩) fun _=>cX (fun e=>(mS s hz _ ae e).elim) fun _=>cX (fun e=>(mS s hz _ aB e).elim) fun _=>cX (fun e=>(mS s hz _ aB e).elim) fun _=>?_
     unfold kW;simp only;have hq:mu tk (aJ (aq tk) s).2=0:=by have:=iO (jW (tk:=tk) (s:=s));omega
     exact cX (fun e=>(mS _ hq _ ae e).elim) fun _=>cX (fun e=>(mS _ hq _ ae e).elim) fun _=>cX (fun e=>(mS _ hq _ ae e).elim) fun _=>cX (fun _=>⟨_,rfl⟩) fun _=>⟨_,rfl⟩
    ·exact QX (ad1 (mu tk s-1) af) g0 af af
  rw[Oh af af];have hB:=tL n (l+1) s af af;refine jO hB fun r hr=>?_
  have h2:=iO (iN (tk:=tk) n (l+1) _ _ hr)
  by_cases hz:mu tk s=0
  ·match n,h with
   | 0,h=>omega
   | n+1,h =>
    unfold rJ;refine cX (fun _=>⟨_,rfl⟩) fun hb=>?_
    split
    ·exact⟨_,rfl⟩
    ·rename_i o q ho
     exfalso;have da:pk (aq tk) r.2≠[]:=by
      intro e;rw[e] at ho;have:wL []=none:=aB
      rw[this] at ho;cases ho
     have h1:=l7 (tk:=tk) (s:=r.2) (w:=pk (aq tk) r.2) da ae;omega
  ·exact GC (M:=mu tk s-1) (fun s' wY=>tL n (l+1) s' af af) (iN (tk:=tk) n (l+1)) n _ _ af af
def SO{n:Nat}{kd:Int}{a:List Fd}{s:PS}(h:mu tk s+1<=n):∃ r,mV (aq tk) n kd a s=some r:=by
 unfold mV;refine jz (wB n _ ?_);have:=iO (dv (tk:=tk) (s:=s))
 omega
def Ry{n:Nat}{s:PS}(h:9*mu tk s+10<=n):∃ r,lW (aq tk) n (pE (aq tk) n 0) s=some r:=by
 unfold lW;simp only;refine cX (fun _=>⟨_,rfl⟩) fun hk=>?_
 have CA:pk (aq tk) s≠[]:=by
  intro e;rw[e] at hk;revert hk;decide
 have h1:=l7 (tk:=tk) (s:=s) (w:=pk (aq tk) s) CA ae;have h2:=iO ((dv (tk:=tk) (s:=s.up)).tr (bH (w:=[40]) ae));refine jO (vO (M:=mu tk s) (fun a s' h'=>SO af) (fun a s' r h'=>pd h') af af) fun sl qu=>cX (fun _=>⟨_,rfl⟩) fun _=>?_
 have h3:=iO (nz (tk:=tk) ae (fun a s' r h'=>pd h') qu)
 refine jO (wB n _ af) fun w hw=>jz (tL n 0 _ af ?_)
 have h4:=iO ((iY _ _ _ hw).tr (bH (w:=[61]) ae));omega
def HU:∀ (k:Nat) (us:List av) (s:PS),mu tk s+1<=k->∃ r,o5 (aq tk) k us s=some r
 | 0,_,s,h=>af
 | k+1,us,s,h=>by
  unfold o5;refine cX (fun e=>?_) fun _=>⟨_,rfl⟩
  simp only[aw4] at e;have h1:=l7 aB e.2;have h2:=iO (dv (tk:=tk) (s:=s.up));exact HU k _ _ af
def GP{n:Nat} : ∀ (k:Nat) (a:List Fm × List Nat) (s:PS),mu tk s+1<=k->9*mu tk s+10<=n->∃ r,lU (aq tk) n k a s=some r
 | 0,_,s,h,_=>af
 | k+1,a,s,h,hn=>by
  unfold lU;refine cX (fun e=>jO (Ry hn) fun r hr=>?_) fun _=>⟨_,rfl⟩
  simp only[aw4,axq] at e;have kE:(aq tk).length=tk.length:=by simp[aq]
  have aP:s.i<tk.length:=by have:=e.2;rw[kE,axp] at this;exact this
  have hm:mu tk r.2+1<=mu tk s:=by
   unfold mu;rw[e.1];cases hb:r.2.bad with
   | true=>simp only[cond_true,cond_false];omega
   | false=>have:=Iy hr hb;simp only[cond_false];omega
  exact GP k _ _ af af
theorem qQ:∀ (k:Nat) (us:List av) (s:PS) (r:List av × PS),o5 (aq tk) k us s=some r->Lq tk s r.2
 | 0,_,_,_,h=>by cases h
 | k+1,us,s,r,h=>by
  unfold o5 at h;cases hc:(!s.bad&&(pk (aq tk) s==Bl)) with
  | false =>
   grind [Lq.abr]
  | true =>
   rw[hc,cond_true] at h;simp only[aw4] at hc;exact (kA aB hc.2).tr (dv.tr (qQ k _ _ r h))
def Sx{n:Nat}(h:9*tk.length+10<=n):∃ r,qS (aq tk) n=some r:=by
 unfold qS;have h0:=iO ((bH (tk:=tk) (s:=⟨0,false⟩) (w:=js) aB).tr dv);have h1:mu tk ⟨0,false⟩=tk.length:=rfl;refine jO (HU n _ _ af) fun u hu=>jz (GP n _ _ ?_ ?_)
 all_goals
  have:Lq tk (aE (aq tk) (aN (aq tk) js ⟨0,false⟩)).2 u.2:=qQ _ _ _ _ hu
  have:=iO this
  omega
def Ok{n:Nat}{s:av}(h:73738<=n):∃ r,qg n s=some r:=by
 unfold qg;split
 ·rename_i mC
  obtain⟨_,_,h2,_⟩:=zM mC;exact jz (Sx af)
 ·exact⟨_,rfl⟩
end
end
section
theorem HJ(k:Int):∀ r:av,cS k r=r.length->∀ b∈r,b.toNat≠46
 | [],_,b,hb=>by cases hb
 | c :: r,h,b,hb=>by
  have hle:=qs k r;simp only[cS,List.length_cons] at h;split at h
  ·rename_i hc
   rcases axs.1 hb with rfl|hb
   ·intro e
    have e2:b=46:=UInt8.toNat_inj.1 e;subst e2;revert hc;rw[show kindOf 46=0 from by decide]
    omega
   ·exact HJ k r af b hb
  ·omega
theorem tX(h:isWord w=true):∀ b∈w,b.toNat≠46:=by
 cases w with
 | nil=>intro b hb;cases hb
 | cons a r =>
  simp only[isWord,aw4,aw'] at h;obtain⟨⟨h1,_⟩,h2⟩:=h;have e:fW (a :: r)=if 0<kindOf a then (if 16<1+cS (kindOf a) r then 0 else 1+cS (kindOf a) r) else if 1<=r.length/\kU ((a :: r).take 2)=true then 2 else if kU [a]=true then 1 else 0:=rfl
  rw[e,if_pos af] at h2;split at h2
  ·simp at h2
  ·intro b hb
   rcases axs.1 hb with rfl|hb
   ·intro e
    have e2:b=46:=UInt8.toNat_inj.1 e;subst e2;rw[show kindOf 46=0 from by decide] at h1
    omega
   ·grind [HJ]
def uU:∀ {w:av},(∀ b∈w,b.toNat≠46)->aU w=(w,[],false)
 | [],_=>rfl
 | b :: r,h=>by
  have h1:=uU (w:=r) fun x hx=>h x (yd hx)
  rw[aU,if_neg (h b ae),h1]
theorem Az:∀ {w v:av},(∀ b∈w,b.toNat≠46)->aU (w++46 :: v)=(w,v,true)
 | [],v,_=>by rw[axM,aU,if_pos aB]
 | b :: r,v,h=>by
  have h1:=Az (w:=r) (v:=v) fun x hx=>h x (yd hx)
  rw[axN,aU,if_neg (h b ae),h1]
def Sv(h:isWord w=true):gK w=true:=by
 unfold gK;rw[uU (tX h)];simp[h]
theorem WW{v:av}(h:isWord w=true)(h2:isWord v=true):gK (w++46 :: v)=true:=by
 unfold gK
 grind [Az,tX]
section
variable {tk:List Tk}
theorem dV{s:PS}(h:(aN (aq tk) w s).bad=false):s.bad=false/\(pk (aq tk) s==w)=true:=by
 unfold aN at h;cases hc:(pk (aq tk) s==w) with
 | true=>rw[hc,cond_true] at h;exact⟨h,rfl⟩
 | false=>rw[hc,cond_false] at h;cases h
theorem QF{s:PS}(h:(aN (aq tk) w s).bad=false):aN (aq tk) w s=s.up:=by
 have:=(dV h).2
 unfold aN;rw[this,cond_true]
theorem jF{s:PS}(h:(aN (aq tk) w s).bad=false):(aN (aq tk) w s).i=s.i+1:=by rw[QF h];rfl
def mH{s:PS}(h:(aE (aq tk) s).2.bad=false):(aE (aq tk) s).2.i=s.i+1:=by
 unfold aE at h ⊢;cases hc:isWord (pk (aq tk) s) with
 | true=>rfl
 | false=>rw[hc,cond_false] at h;cases h
def WC{s:PS}(h:(iE (aq tk) least s).2.bad=false):(iE (aq tk) least s).2.i=s.i+1:=by
 unfold iE at h ⊢;cases hc:decide (dE (pk (aq tk) s)<least) with
 | true=>rw[hc,cond_true] at h;cases h
 | false=>rfl
def iJ{s:PS}(h:(aE (aq tk) s).2.bad=false):s.bad=false/\isWord (aE (aq tk) s).1=true/\(aE (aq tk) s).1=pk (aq tk) s:=by
 unfold aE at h ⊢;cases hc:isWord (pk (aq tk) s) with
 | true=>rw[hc,cond_true] at h;exact⟨h,hc,rfl⟩
 | false=>rw[hc,cond_false] at h;cases h
theorem Od{s:PS}(h1:0<=least)(h:(iE (aq tk) least s).2.bad=false):least<=(iE (aq tk) least s).1/\(iE (aq tk) least s).1<=1099511627776:=by
 unfold iE at h ⊢;cases hc:decide (dE (pk (aq tk) s)<least) with
 | true=>rw[hc,cond_true] at h;cases h
 | false =>
  simp only[cond_false];refine⟨cJ hc,?_⟩;unfold dE
  grind
def zJ{s:PS}(h:(aJ (aq tk) s).2.bad=false):gK (aJ (aq tk) s).1=true:=by
 unfold aJ at h ⊢;cases hc:(!(aE (aq tk) s).2.bad&&(pk (aq tk) (aE (aq tk) s).2==[46])) with
 | false =>
  rw[hc,cond_false] at h;simp only[cond_false];exact Sv (iJ h).2.1
 | true =>
  rw[hc,cond_true] at h;simp only[cond_true];simp only at h;simp only[aw4,axq] at hc;exact WW (iJ hc.1).2.1 (iJ h).2.1
theorem tM{s:PS}(h:(aJ (aq tk) s).2.bad=false):(aL (aJ (aq tk) s).1).length+s.i<=(aJ (aq tk) s).2.i:=by
 unfold aJ at h ⊢;cases hc:(!(aE (aq tk) s).2.bad&&(pk (aq tk) (aE (aq tk) s).2==[46])) with
 | false =>
  rw[hc,cond_false] at h;simp only[cond_false];unfold aL;rw[uU (tX (iJ h).2.1),mH h]
  grind
 | true =>
  rw[hc,cond_true] at h;simp only[cond_true];simp only at h;simp only[aw4,axq] at hc;unfold aL;rw[Az (tX (iJ hc.1).2.1),mH h];have:=mH hc.1
  simp only[ayE,List.length_cons,List.length_nil,PS.up];omega
theorem JA:∀ (n:Nat) (s:PS) (r:Wd × PS),mi (aq tk) n s=some r->r.2.bad=false->(bM r.1).length+s.i<=r.2.i
 | 0,_,_,h,_=>by cases h
 | n+1,s,r,h,hb=>by
  unfold mi at h;cases h1:(pk (aq tk) s==tZ) with
  | true =>
   rw[h1,cond_true,aw2] at h;subst h
   show (bM (.mk tZ [])).length+s.i<=s.i+1
   rw[show (bM (.mk tZ [])).length=1 by decide];omega
  | false =>
   rw[h1,cond_false] at h;cases h2:(pk (aq tk) s==oJ) with
   | true =>
    rw[h2,cond_true,aw2] at h;subst h
    show (bM (.mk oJ [])).length+s.i<=s.i+1
    rw[show (bM (.mk oJ [])).length=1 by decide];omega
   | false =>
    rw[h2,cond_false] at h;cases h3:(pk (aq tk) s==jr) with
    | true =>
     rw[h3,cond_true,aw0] at h;obtain⟨q,hq,rfl⟩:=h;have DG:=(dV hb).1;have ih:=JA n _ q hq DG;have e1:=jF hb;have Gl:(aN (aq tk) [40] s.up).bad=false:=by
      cases hx:(aN (aq tk) [40] s.up).bad with
      | false=>rfl
      | true=>rw[(iY _ _ _ hq).bad hx] at DG;cases DG
     have e2:=jF Gl;have e3:s.up.i=s.i+1:=rfl;have ew:bM (.mk jr [q.1])=[cz,[40]]++bM q.1++[[41]]:=by rw[bM,if_pos aB]
     grind
    | false =>
     rw[h3,cond_false,aw2] at h;subst h;have hq:=zJ hb;have hi:=tM hb;have hl:(aJ (aq tk) s).1≠cz:=by
      intro e;rw[e] at hq;revert hq;decide
     have ew:(bM (.mk (aJ (aq tk) s).1 [])).length<=(aL (aJ (aq tk) s).1).length:=by
      rw[bM]
      ·split
       ·unfold aL;split<;>simp
       ·exact Nat.le_refl _
      ·simp
     grind
theorem Re{n:Nat}{s:PS}{r:Wd × PS}(h:gS (aq tk) n s=some r)(hb:r.2.bad=false):(bM r.1).length+2+s.i<=r.2.i:=by
 unfold gS at h;rw[aw0] at h;obtain⟨q,hq,rfl⟩:=h;have DG:=(dV hb).1;have ih:=JA n _ q hq DG;have e1:=jF hb;have Gl:(aN (aq tk) [40] s).bad=false:=by
  cases hx:(aN (aq tk) [40] s).bad with
  | false=>rfl
  | true=>rw[(iY _ _ _ hq).bad hx] at DG;cases DG
 grind [jF]
theorem CQ:∀ (n:Nat) (s:PS) (r:Wd × PS),mi (aq tk) n s=some r->r.2.bad=false->bD r.1=true
 | 0,_,_,h,_=>by cases h
 | n+1,s,r,h,hb=>by
  unfold mi at h;cases h1:(pk (aq tk) s==tZ) with
  | true=>rw[h1,cond_true,aw2] at h;subst h;exact (by decide:bD (.mk tZ [])=true)
  | false =>
   rw[h1,cond_false] at h;cases h2:(pk (aq tk) s==oJ) with
   | true=>rw[h2,cond_true,aw2] at h;subst h;exact (by decide:bD (.mk oJ [])=true)
   | false =>
    rw[h2,cond_false] at h;cases h3:(pk (aq tk) s==jr) with
    | true =>
     rw[h3,cond_true,aw0] at h;obtain⟨q,hq,rfl⟩:=h;have:=CQ n _ q hq (dV hb).1
     show (if jr=cz then bD q.1 else false)=true
     rw[if_pos aB];exact this
    | false =>
     rw[h3,cond_false,aw2] at h;subst h;have hq:=zJ hb;have hl:(aJ (aq tk) s).1≠cz:=by
      intro e;rw[e] at hq;revert hq;decide
     show (if (aJ (aq tk) s).1=cz then false else _)=true
     grind
theorem M8{n:Nat}{s:PS}{r:Wd × PS}(h:gS (aq tk) n s=some r)(hb:r.2.bad=false):bD r.1=true:=by
 unfold gS at h;rw[aw0] at h;obtain⟨q,hq,rfl⟩:=h
 grind [CQ,dV]
section
variable {α:Type}{elem:α->PS->Option (α × PS)}{fin:av}{P Q F:α->PS->Prop}(he:∀ a s r,elem a s=some r->r.2.bad=false->P a s->Q r.1 r.2)(NI:∀ a s,Q a s->P a s.up)(hF:∀ a s,Q a s->F a s.up)(jl:∀ a s r,elem a s=some r->s.bad=true->r.2.bad=true)
include he NI hF jl
theorem Lm:∀ (k:Nat) (a:α) (s:PS) (r:α × PS),oB (aq tk) elem fin k a s=some r->r.2.bad=false->P a s->F r.1 r.2/\s.bad=false
 | 0,_,_,_,h,_,_=>by cases h
 | k+1,a,s,r,h,hb,hP=>by
  unfold oB at h;rw[aw1] at h;obtain⟨q,hq,h⟩:=h;have hs:q.2.bad=false->s.bad=false:=fun h=>by
   grind
  cases hc:(!q.2.bad&&(pk (aq tk) q.2==[44])) with
  | true =>
   rw[hc,cond_true] at h;simp only[aw4,axq] at hc;exact⟨(Lm k _ _ r h hb (NI _ _ (he a s q hq hc.1 hP))).1,hs hc.1⟩
  | false =>
   grind [QF]
def CD{a:α}{s:PS}{r:α × PS}(h:nP (aq tk) elem fin k a s=some r)(hb:r.2.bad=false)(hP:P a s)(h0:F a s.up):F r.1 r.2/\s.bad=false:=by
 unfold nP at h;cases hc:(pk (aq tk) s==fin) with
 | true =>
  rw[hc,cond_true,aw2] at h;subst h;exact⟨h0,hb⟩
 | false =>
  rw[hc,cond_false] at h;exact Lm he NI hF jl k a s r h hb hP
end
def wS(ks:List Tm):Nat:=(ks.map fun t=>(ag t).length+1).sum
def Bc:wS []=0:=rfl
theorem QE{t:Tm} : wS (ks++[t])=wS ks+((ag t).length+1):=by unfold wS;simp
theorem CO{t:Tm} : wS (t :: ks)=((ag t).length+1)+wS ks:=by unfold wS;simp
theorem aaa(p:List av × Int)(k:Int):p.1.length<=(fV p k).length:=by
 unfold fV
 grind
theorem AL(p:List av × Int){k l:Int}(h:k<=l):(fV p k).length<=(fV p l).length:=by
 unfold fV
 grind
def Z9(p:List av × Int){k:Int}(h:k<=p.2):fV p k=p.1:=by unfold fV;rw[if_neg af]
def Mp(tk:List Tk)(l:Int)(E:EP):Prop:=∀ s r,E s=some r->r.2.bad=false->ax r.1=true/\(fV (ag r.1,bo r.1) l).length+s.i<=r.2.i
def Mp.ge{l:Int}{E:EP}(h:Mp tk l E){s:PS}{r:Tm × PS}(hr:E s=some r)(hb:r.2.bad=false):ax r.1=true/\(ag r.1).length+s.i<=r.2.i :=
 ⟨(h s r hr hb).1,axx (ay3 (aaa (ag r.1,bo r.1) l) _) (h s r hr hb).2⟩
section
variable {E B:EP}
theorem zq(hE:Mp tk 0 E){s:PS}(h:qB E ks s=some r)(hb:r.2.bad=false):∃ t,r.1=ks++[t]/\(ax t=true/\(ag t).length+s.i<=r.2.i):=by
 unfold qB at h;rw[aw0] at h;obtain⟨q,hq,rfl⟩:=h;exact⟨q.1,rfl,hE.ge hq hb⟩
theorem tE(hE:Mp tk 0 E){s:PS}(h:mY (aq tk) E w ks s=some r)(hb:r.2.bad=false):(∃ t,r.1=ks++[t]/\(ax t=true/\(ag t).length+1+s.i<=r.2.i))/\s.bad=false:=by
 unfold mY at h
 grind [zq,jF,dV]
end
def PK(d:Nat)(c:Nat)(ks:List Tm)(s:PS):Prop:=ks.all ax=true/\wS ks+d*ks.length+c<=s.i
def QK(d:Nat)(c:Nat)(ks:List Tm)(s:PS):Prop:=ks.all ax=true/\wS ks+d*ks.length+c<=s.i+1
def FK(d:Nat)(c:Nat)(ks:List Tm)(s:PS):Prop:=ks.all ax=true/\wS ks+d*ks.length-1+1+c<=s.i
theorem PK.snoc{c:Nat}{t:Tm}{s:PS}(h:PK d c ks s)(ht:ax t=true/\(ag t).length+d+s.i<=s'.i):QK d c (ks++[t]) s':=by
 unfold PK QK at *;refine⟨?_,?_⟩
 ·grind
 ·rw[QE,List.length_append,List.length_cons,List.length_nil,Nat.mul_add];omega
def QK.up{c:Nat}{s:PS}(h:QK d c ks s):PK d c ks s.up:=by
 unfold PK QK at *;exact⟨h.1,by have:s.up.i=s.i+1:=rfl;omega⟩
def QK.fin{c:Nat}{s:PS}(h:QK d c ks s)(h0:c<=s.i):FK d c ks s.up:=by
 unfold FK QK at *;exact⟨h.1,by have:s.up.i=s.i+1:=rfl;omega⟩
def DV:∀ (xs:List (List av)),(ar xs).length<=(xs.map fun x=>x.length+1).sum-1
 | []=>by simp[ar]
 | [a]=>by simp[ar]
 | a :: b :: r=>by
  have ih:=DV (b :: r);simp only[ar,axe,ayK,List.length_append,List.length_cons,List.length_nil] at ih ⊢;omega
def rX{xs:List (List av)}{n:Nat}(h:(xs.map fun x=>x.length+1).sum<=n):(ar xs).length<=n-1:=by have:=DV xs;omega
def Hf(ks:List Tm):(ar (ks.map ag)).length<=wS ks-1:=by
 refine rX ?_
 induction ks with
 | nil=>simp[wS]
 | cons t ks ih=>rw[CO];simp only[axe,ayK] at ih ⊢;omega
def aiN(ns:List av)(ks:List Tm):(ar (List.zipWith (fun s (x:List av × Int)=>[s,[61]]++x.1) ns (ks.map fun t=>(ag t,bo t)))).length<=wS ks+2*ks.length-1:=by
 refine rX ?_
 induction ks generalizing ns with
 | nil=>cases ns<;>simp
 | cons t ks ih =>
  cases ns with
  | nil=>simp
  | cons n ns =>
   have:=ih ns
   rw[CO];simp only[axe,ayU,ayK,List.length_append,List.length_cons,List.length_nil] at this ⊢;omega
def YD(ks:List Tm)(ns:List av):(ar (ig ns (ks.map fun t=>(ag t,bo t)))).length<=wS ks+3*ks.length-1:=by
 refine rX ?_
 induction ks generalizing ns with
 | nil=>match ns with
  | []=>simp[ig]
  | [_]=>simp[ig]
  | _ :: _ :: _=>simp[ig]
 | cons t ks ih =>
  match ns with
  | []=>simp[ig]
  | [_]=>simp[ig]
  | p :: q :: ns =>
   have:=ih ns
   rw[CO];simp only[axe,ig,ayK,List.length_append,List.length_cons,List.length_nil] at this ⊢;omega
theorem aaf(p:List av × Int)(k:Int):(fV p k).length<=p.1.length+2:=by
 unfold fV
 grind
end
end
end Go.Proofs.YtkoebdjmmgckdaaGreatDoor
end
