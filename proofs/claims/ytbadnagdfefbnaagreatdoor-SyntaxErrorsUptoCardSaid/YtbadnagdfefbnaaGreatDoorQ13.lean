/-
  A part of the proof of SyntaxErrors: U59, U60, UQ33, UQ34, UQ35, UQ36, UQ37, UQ38, UQ39, UQ40, UQ41, UQ42, UQ43, UR43.
-/
import Derived.Test.YtbadnagdfefbnaaGreatDoorQ12
set_option linter.unusedSimpArgs false
set_option linter.unusedVariables false
set_option linter.defProp false
set_option maxHeartbeats 4000000
set_option maxRecDepth 100000
noncomputable section
namespace Go.Proofs.YtbadnagdfefbnaaGreatDoor
open Go Go.Abs Go.Proofs
variable {st:AS}{least:Int}{ks:List Tm}{L a b jy tx:List ay}{f g i j k:Nat}{β:Type}{Hx:ae}{q w:ay}
def zero_eq(n:ay)(ks:List Wd)(t:Tm):(qk n ks&&im t)=((n==[])&&(((ks.length:Int)==0)&&((t.kind==0)&&(cu t&&(t.n==0))))):=by
 have h1:((ks.length:Int)==0)=ks.isEmpty:=by cases ks<;>simp;omega
 rw[h1];unfold qk im;cases hk:(t.kind==0) with
 | false=>simp
 | true =>
  have e:t.kind=0:=cY hk;have hu:cu t=((t.name==[])&&((t.field==[])&&(qk t.wn t.wk&&((t.names==[])&&t.kids.isEmpty)))):=by
   unfold cu;rw[e,show fD 0=[110] from rfl]
   simp only[po,show cC [110] 110=false from rfl,show cC [110] 97=true from rfl,show cC [110] 102=true from rfl,show cC [110] 116=true from rfl,show cC [110] 107=true from rfl,show cC [110] 115=true from rfl,qk]
   cases t.name==[]<;>cases t.field==[]<;>cases t.wn==[]<;>cases t.wk<;>cases t.names<;>cases t.kids<;>simp
  rw[hu];cases (n==[])<;>cases ks.isEmpty<;>cases (t.n==0)<;>simp
def ahF:A.aY 0=[.slice (strs dJ) false]:=rfl
def TG(nm:ay)(us:List ay)(x y z:AV)(tw:nm.length<=1100000)(T9:us.length<=1100000)(hub:∀ u∈us,u.length<=1100000)(H:ae)(hhx:bf H.length x=true)(hhy:bf H.length y=true)(hhz:bf H.length z=true)(hdx:x.drop=x)(hdy:y.drop=y)(hdz:z.drop=z):aj A 19 [.agg [.str nm,.slice (strs us) false,x,y,z]] H=some (.slice (strs (aam ⟨nm,us,[],[],[]⟩)) true,none):=by
 obtain⟨K,hK⟩:∃ K,K=H++[.box 32 [.str nm,.slice (strs us) false,x,y,z],.box 124 [.ar,.bool false]]:=⟨_,rfl⟩;obtain⟨mm,AZ⟩:∃ mm,mm=H.length+1:=⟨_,rfl⟩;have hKl:K.length=H.length+2:=by rw[hK];simp
 have hP:PW mm K:=⟨ah,fun j cs hj=>by
  rw[hK,AZ] at *;intro e;rw[List.getElem?_append_right ah] at e
  match wz:j-H.length with
  | 0=>omega
  | 1=>rw[wz] at e;cases e
  | n+2=>rw[wz] at e;simp at e⟩
 have h0:K[mm]?=some (.box 124 [.ar,.bool false]):=by rw[hK,AZ];exact h2b
 have ef:=Na hP [[109,111,100,117,108,101]] ag h0;rw[ug] at ef;obtain⟨l1,e1,t1,n1⟩:=tC hP nm (by have:=tw;omega) [[109,111,100,117,108,101]] false ag
 simp only[List.length_cons,List.length_nil,av3] at e1 t1 n1;have fK:∀ l b,(cI mm l b K)[H.length]?=some (.box 32 [.str nm,.slice (strs us) false,x,y,z]):=fun l b=>by rw[hK,AZ];exact ID
 have yP:∀ l b,(cI mm l b K).take H.length=H:=fun l b=>by rw[hK,AZ];exact Ay
 have CZ:∀ l b x,((cI mm l b K).set mm x).take H.length=H:=fun l b x=>by rw[hK,AZ];exact xO
 have v8:decide (H.length+1<H.length)=false:=ag;have rf:decide (mm<H.length)=false:=dq;have hus:∀ i,i<=us.length->(us.take i).all isWord=(us.take i).all isWord:=fun _ _=>rfl
 have Gp:=fun l b=>fO (l:=l) (b:=b) hP
 unfold nx at Gp;refine cJ (fn:=HT) rfl rfl rfl ?_;refine iX 3 (fun st=>∃ T,st=⟨T,cI mm l1 (!isWord nm) K,H.length,0⟩/\T 1=.ref H.length 0/\T 3=.ref mm 0) ?_ ?_
 ·unfold HT
  simp only[aK.pre];have hKs:H++[bS.box 32 [.str nm,.slice (strs us) false,x,y,z],.box 124 [.ar,.bool false]]=K:=hK.symm;have TM:H.length+1=mm:=AZ.symm;generalize (!isWord nm)=b1 at *;refine nL6 hhx hhy hhz hdx (j5 hdy hdz @Bool.and_self TM hKs) (j5 ef e1 fK rf @Nat.lt_irrefl) ?_;exact⟨_,rfl,iJ,iJ⟩
 ·rintro st ⟨T,rfl,q1,q3⟩
  refine iX 0 (fun st=>∃ T l',st=⟨T,cI mm l' (!(isWord nm&&us.all isWord)) K,H.length,0⟩/\T 3=.ref mm 0/\((isWord nm&&us.all isWord)=true->l'=heads ⟨nm,us,[],[],[]⟩)) ?_ ?_
  ·unfold HT
   simp only[aK.post,aK.pre];refine nL3 q1 fK @bV ?_;refine cg us.length 0 (fun i st=>∃ T l',st=⟨T,cI mm l' (!(isWord nm&&(us.take i).all isWord)) K,H.length,0⟩/\T 3=.ref mm 0/\T 16=.slice (strs us) false/\T 17=.int .i64 us.length/\T 18=.int .i64 i/\((isWord nm&&(us.take i).all isWord)=true->l'=[[109,111,100,117,108,101],nm]++((us.take i).map fun u=>[[117,115,101],u]).flatten)/\l'.length<=2+2*i)
    (fun st=>∃ T l',st=⟨T,cI mm l' (!(isWord nm&&us.all isWord)) K,H.length,0⟩/\T 3=.ref mm 0/\((isWord nm&&us.all isWord)=true->l'=heads ⟨nm,us,[],[],[]⟩)) (fun _=>False) ?_ (fun st h=>h) (fun _ h=>h.elim) 0 _ ah ?_
   ·rintro i st hi ⟨T,l',rfl,q3,q16,q17,q18,ht,Fv⟩
    by_cases aZ:i<us.length
    ·have hx:=au5 aZ
     have hm:=avx aZ;have nA:=lQ hx;generalize us[i]=u at hx hm nA;have gn:=iD hx;have asf:=hub u hm;obtain⟨l2,e2,t2,n2⟩:=Bb hP [[117,115,101]] ag l' (!(isWord nm&&(us.take i).all isWord)) kq;simp only[List.length_cons,List.length_nil] at n2;rw[orT,ug] at e2;rw[orT] at t2;obtain⟨l3,e3,t3,n3⟩:=tC hP u ah l2 (!(isWord nm&&(us.take i).all isWord)) ah;have eo:(!(isWord nm&&(us.take i).all isWord) || !isWord u)=!(isWord nm&&(us.take (i+1)).all isWord):=by
      rw[nA,aw'];simp only[List.all_cons,List.all_nil,awb];cases isWord nm<;>cases (us.take i).all isWord<;>cases isWord u<;>rfl
     rw[eo] at e3 t3;have ri:(isWord nm&&(us.take (i+1)).all isWord)=true->(isWord nm&&(us.take i).all isWord)=true:=by
      rw[nA,aw'];cases isWord nm<;>cases (us.take i).all isWord<;>simp
     generalize (isWord nm&&(us.take (i+1)).all isWord)=ok1 at *;generalize (isWord nm&&(us.take i).all isWord)=ok0 at *;refine nL6 q3 q16 q17 q18 gn (j3 e2 e3 rf) ?_;refine⟨aZ,_,l3,rfl,?_,?_,?_,?_,fun h=>?_,ah⟩
     all_goals first|exact nO3 q3 q16 q17 tv|skip
     have h1:=ri h;rw[t3 (zo h),t2 (zo h1),ht h1,nA];simp
    ·obtain rfl:i=us.length:=ah
     rw[avL] at ht ⊢;generalize (isWord nm&&us.all isWord)=ok0 at *;refine nK3 q17 q18 @Nat.lt_irrefl ?_;exact⟨_,l',rfl,fj q3,fun h=>by rw[ht h];rfl⟩
   ·have e0:cI mm l1 (!isWord nm) K=cI mm l1 (!(isWord nm&&(us.take 0).all isWord)) K:=by rw[avY,List.all_nil,awb]
    refine⟨_,l1,awt (fun x=>AS.mk _ x _ _) e0,?_,?_,?_,?_,fun h=>?_,ah⟩
    all_goals first|exact nO1 q3 tv|skip
    simp only[avY,List.all_nil,awb] at h;rw[t1 (zo h)];simp
  ·rintro st ⟨T,l',rfl,q3,ht⟩
   unfold HT;simp only[aK.post];unfold aam;cases ri:(isWord nm&&us.all isWord) with
   | true =>
    have h2:=ht ri;simp only[au6] at ri;rw[if_pos ri,h2];simp(disch:=omega)only[aO,aa,simprocAttr,q3,Gp,CZ,rf,cS,cM,avq,ab]
   | false =>
    rw[if_neg (by intro h;rw[h.1,h.2] at ri;cases ri)]
    exact nL4 q3 Gp yP @mj tv
def TF(nm:ay)(x y z:AV)(tw:nm.length<=1100000)(H:ae)(hhx:bf H.length x=true)(hhy:bf H.length y=true)(hhz:bf H.length z=true)(hdx:x.drop=x)(hdy:y.drop=y)(hdz:z.drop=z):aj A 19 [.agg [.str nm,.ar,x,y,z]] H=some (.slice (strs (aam ⟨nm,[],[],[],[]⟩)) true,none):=by
 obtain⟨K,hK⟩:∃ K,K=H++[.box 32 [.str nm,.ar,x,y,z],.box 124 [.ar,.bool false]]:=⟨_,rfl⟩;obtain⟨mm,AZ⟩:∃ mm,mm=H.length+1:=⟨_,rfl⟩;have hKl:K.length=H.length+2:=by rw[hK];simp
 have hP:PW mm K:=⟨ah,fun j cs hj=>by
  rw[hK,AZ] at *;intro e;rw[List.getElem?_append_right ah] at e
  match wz:j-H.length with
  | 0=>omega
  | 1=>rw[wz] at e;cases e
  | n+2=>rw[wz] at e;simp at e⟩
 have h0:K[mm]?=some (.box 124 [.ar,.bool false]):=by rw[hK,AZ];exact h2b
 have ef:=Na hP [[109,111,100,117,108,101]] ag h0;rw[ug] at ef;obtain⟨l1,e1,t1,n1⟩:=tC hP nm (by have:=tw;omega) [[109,111,100,117,108,101]] false ag
 simp only[List.length_cons,List.length_nil,av3] at e1 t1 n1;have fK:∀ l b,(cI mm l b K)[H.length]?=some (.box 32 [.str nm,.ar,x,y,z]):=fun l b=>by rw[hK,AZ];exact ID
 have yP:∀ l b,(cI mm l b K).take H.length=H:=fun l b=>by rw[hK,AZ];exact Ay
 have CZ:∀ l b x,((cI mm l b K).set mm x).take H.length=H:=fun l b x=>by rw[hK,AZ];exact xO
 have v8:decide (H.length+1<H.length)=false:=ag;have rf:decide (mm<H.length)=false:=dq;have Gp:=fun l b=>fO (l:=l) (b:=b) hP
 unfold nx at Gp;refine cJ (fn:=HT) rfl rfl rfl ?_;refine iX 3 (fun st=>∃ T,st=⟨T,cI mm l1 (!isWord nm) K,H.length,0⟩/\T 1=.ref H.length 0/\T 3=.ref mm 0) ?_ ?_
 ·unfold HT
  simp only[aK.pre];have hKs:H++[bS.box 32 [.str nm,.ar,x,y,z],.box 124 [.ar,.bool false]]=K:=hK.symm;have TM:H.length+1=mm:=AZ.symm;generalize (!isWord nm)=b1 at *;refine nL6 hhx hhy hhz hdx (j5 hdy hdz @Bool.and_self TM hKs) (j5 ef e1 fK rf @Nat.lt_irrefl) ?_;exact⟨_,rfl,iJ,iJ⟩
 ·rintro st ⟨T,rfl,q1,q3⟩
  refine iX 0 (fun st=>∃ T l',st=⟨T,cI mm l' (!isWord nm) K,H.length,0⟩/\T 3=.ref mm 0/\(isWord nm=true->l'=heads ⟨nm,[],[],[],[]⟩)) ?_ ?_
  ·unfold HT
   simp only[aK.post,aK.pre];refine nL2 q1 fK ?_;have ht:isWord nm=true->l1=heads ⟨nm,[],[],[],[]⟩:=fun h=>by
    rw[t1 (zo h)];rfl
   generalize isWord nm=ok0 at *;refine cg 0 0 (fun i st=>∃ T,st=⟨T,cI mm l1 (!ok0) K,H.length,0⟩/\T 3=.ref mm 0/\T 16=.ar/\T 17=.int .i64 0/\T 18=.int .i64 0)
    (fun st=>∃ T l',st=⟨T,cI mm l' (!ok0) K,H.length,0⟩/\T 3=.ref mm 0/\(ok0=true->l'=heads ⟨nm,[],[],[],[]⟩)) (fun _=>False) ?_ (fun st h=>h) (fun _ h=>h.elim) 0 _ ah ?_
   ·rintro i st hi ⟨T,rfl,q3,q16,q17,q18⟩
    refine nK2 q17 q18 ?_;exact⟨_,l1,rfl,fj q3,ht⟩
   ·refine⟨_,rfl,?_,?_,?_,?_⟩
    all_goals exact fj q3
  ·rintro st ⟨T,l',rfl,q3,ht⟩
   unfold HT;simp only[aK.post];unfold aam;cases ri:isWord nm with
   | true =>
    have h2:=ht ri;rw[if_pos ⟨rfl,rfl⟩,h2];simp(disch:=omega)only[aO,aa,simprocAttr,q3,Gp,CZ,rf,cS,cM,avq,ab]
   | false =>
    rw[if_neg (by intro h;have:=h.1;cases this)]
    exact nL4 q3 Gp yP @mj tv
section
structure Xb (f:Fm):Prop where
 w:∀ H,aj A 20 [.agg (cm f)] H=some (.slice (strs (mi f)) true,none)
 l:(mi f).length<=1000000
def RtE(tk:List Tk)(H:ae)(i:Nat)(st:AS):Prop:=∃ T s1 D g,st=⟨T,pP tk H s1 D,H.length,g⟩/\T 2=.lbox 0 z5/\T 3=.int .i64 (i:Int)
section
variable {n:Nat}{H:ae}{s fin nm:ay}{us:List ay}{tk:List Tk}{fs:List Fm}{es:List Nat}{s1:PS}{Q:bH->AS->Prop}
def ag8(hb:BF tk)(Qm:iF tk<=4611686018427387904)(nA:tk.length<=100000)(hs:s.length<=4611686018427387904)(qK:s1.i<=tk.length)(iz:Fs s fin nm us tk H fs es s1 st)(hT:s1.bad=true->∀ wK,RtE tk H (nj tk s1.i s.length) wK->Q .ret wK)
  (hF:s1.bad=false->∀ wK,Fs s fin nm us tk H fs es s1 wK->W (PL n) rq wK Q):W (PL n) qy st Q:=by
 obtain⟨T,rfl,oS,e8,e9⟩:=iz;have a0:=oS.t0;have a2:=oS.t2;have a3:=oS.t3;have a4:=oS.t4;have a5:=oS.t5;have a7:=oS.t7;have gn:=GL (tk:=tk) (H:=H) (s:=s1) (D:=fs.map cm);unfold nK at gn;have T7:qy=.seq (pF qy) rq:=rfl;rw[T7];have gW:∀ K,aj (PL n) 42 [.slice (tk.map gN) false,.int .i64 s1.i,.int .i64 s.length] K=some (.int .i64 (nj tk s1.i s.length),none):=fun K=>cL rfl (OT tk s1.i s.length K hb Qm (by omega) (by omega) hs)
 have hz:z5=[.str [],.ar,.ar,.ar,.str []]:=rfl;cases iS:s1.bad with
 | true =>
  rw[iS] at gn;simp(disch:=omega)only[j7,aa,simprocAttr,mc,rq,qy,om,Bz,wF,zF,zE,zD,zC,zg,xV,xU,u6,pF,pS,a0,a2,a4,a7,gn,bU,ab,gW,hz];exact hT iS _ ⟨_,_,_,_,rfl,by simp(disch:=omega)only[j7,aa,simprocAttr];rfl,wO⟩
 | false =>
  rw[iS] at gn;simp(disch:=omega)only[j7,aa,simprocAttr,mc,qy,om,Bz,wF,zF,zE,zD,zC,zg,xV,xU,u6,pF,pS,a7,gn,bU,ab];exact hF iS _ ⟨_,rfl,⟨cy a0,cy a2,cy a3,cy a4,cy a5,cy a7⟩,cy e8,cy e9⟩
def Gs(s fin nm:ay)(us:List ay)(tk:List Tk)(H:ae)(fs:List Fm)(es:List Nat)(s1:PS)(P:aD->Prop)(st:AS):Prop:=∃ T g,st=⟨T,pP tk H s1 (fs.map cm),H.length,g⟩/\PT s fin tk H T/\T 8=.lbox 1 [.str nm,uC us,aA H.length 14 (fs.map cm),.ar,.str []]/\T 9=.slice (ints (eI es)) true/\P T
def X3(tw:nm.length<=1100000)(T9:us.length<=1100000)(hub:∀ u∈us,u.length<=1100000)(iz:Fs s fin nm us tk H fs es s1 st) :
  W (PL n) (pF rq) st (Dr (Gs s fin nm us tk H fs es s1 fun T=>T 10=.slice (strs (aam ⟨nm,us,[],[],[]⟩)) true)):=by
 obtain⟨T,rfl,oS,e8,e9⟩:=iz;have a0:=oS.t0;have a2:=oS.t2;have a3:=oS.t3;have a4:=oS.t4;have a5:=oS.t5;have a7:=oS.t7;have hlen:=M1 (tk:=tk) (H:=H) (s:=s1) (D:=fs.map cm);have hA:aA H.length 14 (fs.map cm)=.ar\/(aA H.length 14 (fs.map cm)=.sref (H.length+(fs.map cm).length) 0 (fs.map cm).length 14):=by
  cases fs with
  | nil=>exact .inl rfl
  | cons d ds=>exact .inr rfl
 have nY:bf (pP tk H s1 (fs.map cm)).length (aA H.length 14 (fs.map cm))=true:=by
  rcases hA with h|h<;>rw[h]
  ·rfl
  ·show Nat.ble _ _=true
   rw[avv,hlen];omega
 have D9:(aA H.length 14 (fs.map cm)).drop=aA H.length 14 (fs.map cm):=by rcases hA with h|h<;>rw[h]<;>rfl
 have hX:=TG nm us (aA H.length 14 (fs.map cm)) .ar (.str []) tw T9 hub (pP tk H s1 (fs.map cm)) nY rfl rfl D9 rfl rfl;have hN:=TF nm (aA H.length 14 (fs.map cm)) .ar (.str []) tw (pP tk H s1 (fs.map cm)) nY rfl rfl D9 rfl rfl;have hd5:∀ u:AV,u.drop=u->ab false true 5 0 [.str nm,u,aA H.length 14 (fs.map cm),.ar,.str []]=some (.agg [.str nm,u,aA H.length 14 (fs.map cm),.ar,.str []]):=fun u hu=>by
  show some (AV.agg [AV.str nm,u.drop,(aA H.length 14 (fs.map cm)).drop,.ar,.str []])=_
  rw[hu,D9]
 cases us with
 | nil =>
  have hu:uC []=.ar:=rfl;rw[hu] at e8;have hc:=cL (n:=n) (f:=19) rfl hN rfl;have hd:=hd5 .ar rfl;simp(disch:=omega)only[j7,aa,simprocAttr,mc,rq,qy,om,Bz,wF,zF,zE,zD,zC,zg,xV,xU,u6,pF,pS,e8,hd,hc,D9];exact⟨_,_,rfl,⟨cy a0,cy a2,cy a3,cy a4,cy a5,cy a7⟩,by simp(disch:=omega)only[j7,aa,simprocAttr,e8];rfl,cy e9,wO⟩
 | cons u0 ur =>
  have hu:uC (u0 :: ur)=.slice (strs (u0 :: ur)) true:=rfl;rw[hu] at e8;have hc:=cL (n:=n) (f:=19) rfl hX rfl;have hd:ab false true 5 0 [.str nm,.slice (strs (u0 :: ur)) true,aA H.length 14 (fs.map cm),.ar,.str []]=some (.agg [.str nm,.slice (strs (u0 :: ur)) false,aA H.length 14 (fs.map cm),.ar,.str []]):=by
   show some (AV.agg [AV.str nm,.slice (strs (u0 :: ur)) false,(aA H.length 14 (fs.map cm)).drop,.ar,.str []])=_
   rw[D9]
  simp(disch:=omega)only[j7,aa,simprocAttr,mc,rq,qy,om,Bz,wF,zF,zE,zD,zC,zg,xV,xU,u6,pF,pS,e8,hd,hc,D9];exact⟨_,_,rfl,⟨cy a0,cy a2,cy a3,cy a4,cy a5,cy a7⟩,by simp(disch:=omega)only[j7,aa,simprocAttr,e8];rfl,cy e9,wO⟩
end
end
section
def lT(nm:ay)(us:List ay)(fs:List Fm):List ay:=aam ⟨nm,us,[],[],[]⟩++(fs.map mi).flatten
def FN{l m:List ay}{o:Bool}(h:l.length+m.length<=1099511627776):aG false 1 16 (.slice (strs l) true) (.slice (strs m) o)=some (.slice (strs (l++m)) true):=cw h
section
variable {n:Nat}{H:ae}{s fin nm:ay}{us:List ay}{tk:List Tk}{fs:List Fm}{es:List Nat}{s1:PS}{Q:bH->AS->Prop}
theorem Mb(hw:∀ f∈fs,Xb f):((fs.map mi).flatten).length<=fs.length*1000000:=by
 induction fs with
 | nil=>simp
 | cons f r ih =>
  have h1:=(hw f ag).l
  grind
def agl(hw:∀ f∈fs,Xb f)(yK:fs.length<=100000)(hhl:(aam ⟨nm,us,[],[],[]⟩).length<=3000000)(iz:Gs s fin nm us tk H fs es s1 (fun T=>T 10=.slice (strs (aam ⟨nm,us,[],[],[]⟩)) true) st) :
  W (PL n) (pF qz) st (Dr (Gs s fin nm us tk H fs es s1 fun T=>T 10=.slice (strs (lT nm us fs)) true)):=by
 obtain⟨T,g,rfl,oS,e8,e9,zA⟩:=iz;have a0:=oS.t0;have a2:=oS.t2;have a3:=oS.t3;have a4:=oS.t4;have a5:=oS.t5;have a7:=oS.t7;have Mk:=Mb hw;have T7:pF qz=.seq (pF (pF qz)) (pS (pF qz)):=rfl;have hb:pS (pF qz)=.block 4 (.loop (pB (pB (pS (pF qz))))):=rfl;rw[T7,hb];have hD:aA H.length 14 (fs.map cm)=.ar/\fs=[]\/aA H.length 14 (fs.map cm)=.sref (H.length+fs.length) 0 fs.length 14/\fs≠[]:=by
  cases fs with
  | nil=>exact .inl ⟨rfl,rfl⟩
  | cons d ds=>exact .inr ⟨by rw[BG ag,List.length_map],ag⟩
 rcases hD with ⟨hD,rfl⟩|⟨hD,dk⟩
 ·rw[hD] at e8
  simp(disch:=omega)only[j7,aa,simprocAttr,mc,qz,rq,qy,om,Bz,wF,zF,zE,zD,zC,zg,xV,xU,u6,pF,pS,pB,e8,ab];refine cg 0 4 (fun i=>fun st=>i=0/\∃ T g,st=⟨T,pP tk H s1 ([].map cm),H.length,g⟩/\PT s fin tk H T/\T 8=.lbox 1 [.str nm,uC us,.ar,.ar,.str []]/\T 9=.slice (ints (eI es)) true/\T 10=.slice (strs (aam ⟨nm,us,[],[],[]⟩)) true/\T 107=.ar/\T 108=.int .i64 0/\T 109=.int .i64 0)
   (Gs s fin nm us tk H [] es s1 fun T=>T 10=.slice (strs (lT nm us [])) true) (fun _=>False) ?_ (fun st h=>h) (fun _ h=>h.elim) 0 _ ah ?_
  ·rintro i st hi ⟨rfl,T,g,rfl,hT,e8,e9,zA,acO,SM,Xv⟩
   have a0:=hT.t0;have a2:=hT.t2;have a3:=hT.t3;have a4:=hT.t4;have a5:=hT.t5;have a7:=hT.t7;refine nS2 SM Xv ?_;exact⟨_,_,rfl,⟨cy a0,cy a2,cy a3,cy a4,cy a5,cy a7⟩,by simp(disch:=omega)only[j7,aa,simprocAttr,e8];rfl,cy e9,by simp(disch:=omega)only[j7,aa,simprocAttr,zA];simp[lT]⟩
  ·exact⟨rfl,_,_,rfl,⟨cy a0,cy a2,cy a3,cy a4,cy a5,cy a7⟩,cy e8,cy e9,cy zA,wO,wO,wO⟩
 ·rw[hD] at e8
  have X9:=OP (tk:=tk) (H:=H) (s:=s1) (D:=fs.map cm) (cY dk);rw[List.length_map] at X9;simp(disch:=omega)only[j7,aa,simprocAttr,mc,qz,rq,qy,om,Bz,wF,zF,zE,zD,zC,zg,xV,xU,u6,pF,pS,pB,e8,ab];refine cg fs.length 4 (fun i=>fun st=>∃ T g,st=⟨T,pP tk H s1 (fs.map cm),H.length,g⟩/\PT s fin tk H T/\T 8=.lbox 1 [.str nm,uC us,.sref (H.length+fs.length) 0 fs.length 14,.ar,.str []]/\T 9=.slice (ints (eI es)) true/\T 10=.slice (strs (lT nm us (fs.take i))) true/\T 107=.sref (H.length+fs.length) 0 fs.length 14/\T 108=.int .i64 fs.length/\T 109=.int .i64 i)
   (Gs s fin nm us tk H fs es s1 fun T=>T 10=.slice (strs (lT nm us fs)) true) (fun _=>False) ?_ (fun st h=>h) (fun _ h=>h.elim) 0 _ ah ?_
  ·rintro i st hi ⟨T,g,rfl,hT,e8,e9,zA,acO,SM,Xv⟩
   have a0:=hT.t0;have a2:=hT.t2;have a3:=hT.t3;have a4:=hT.t4;have a5:=hT.t5;have a7:=hT.t7
   by_cases kP:i<fs.length
   ·have HI:=au5 kP
    have hdm:fs[i]∈fs:=avx kP;have aiN:=lQ HI;generalize fs[i]=f at HI hdm aiN;have bX:ab false true 14 (i*14) (fs.map cm).flatten=some (.agg (cm f)):=by
     have h1:=P8 (agg:=true) (i:=i) (j:=0) (sz:=14) (r:=cm f) (z:=14) yA (by rw[List.getElem?_map,HI];rfl) ah ah ah
     rw[avG] at h1;rw[h1];rfl
    have hwf:=hw f hdm;have kD:∀ K,aj (PL n) 20 [.agg (cm f)] K=some (.slice (strs (mi f)) true,none):=fun K=>cL rfl (hwf.w K)
    have hl3:=Mb (fs:=fs.take i) (fun x hx=>hw x (awm hx))
    have adA:(fs.take i).length=i:=by rw[avU];omega
    have ql:(lT nm us (fs.take i)).length<=3000000+i*1000000:=by unfold lT;rw[List.length_append];rw[adA] at hl3;omega
    have hfw:=hwf.l;have vY:=FN (l:=lT nm us (fs.take i)) (m:=mi f) (o:=true) ah;have amk:=FN (l:=lT nm us (fs.take i)) (m:=mi f) (o:=false) ah;have htn:lT nm us (fs.take i)++mi f=lT nm us (fs.take (i+1)):=by unfold lT;rw[aiN];simp
    rw[htn] at vY amk;have hbc:bU (some (.box bD (fs.map cm).flatten)) true 14 (i*14)=some (.agg (cm f)):=by simp only[bU,bX]
    rw[cm] at hbc kD;refine nS2 (j4 zA acO SM Xv) (j5 X9 hbc kD vY @ab.eq_1) ?_;refine⟨kP,_,_,rfl,⟨cy a0,cy a2,cy a3,cy a4,cy a5,cy a7⟩,cy e8,cy e9,wO,cy acO,cy SM,by simp(disch:=omega)only[j7,aa,simprocAttr];try rfl⟩
   ·have:i=fs.length:=ah
    subst this;rw[avL] at zA;refine nS2 SM Xv ?_;exact⟨_,_,rfl,⟨cy a0,cy a2,cy a3,cy a4,cy a5,cy a7⟩,vS2 e8 hD,cy e9,cy zA⟩
  ·refine⟨_,_,rfl,⟨cy a0,cy a2,cy a3,cy a4,cy a5,cy a7⟩,cy e8,cy e9,?_,wO,wO,by simp(disch:=omega)only[j7,aa,simprocAttr];try rfl⟩
   refine nS1 zA ?_;simp[lT]
end
end
section
section
variable {n:Nat}{H:ae}{s fin nm:ay}{us:List ay}{tk:List Tk}{fs:List Fm}{es:List Nat}{s1:PS}{Q:bH->AS->Prop}
def aho(hb:BF tk)(Qm:iF tk<=4611686018427387904)(nA:tk.length<=100000)(hs:s.length<=4611686018427387904)(ql:jy.length<=4611686018427387904)(iz:Gs s fin nm us tk H fs es s1 (fun T=>T 10=.slice (strs jy) true) st)
  (hN:(∀ j,j<tk.length->jy[j]?=(aq tk)[j]?)->∀ wK,Gs s fin nm us tk H fs es s1 (fun _=>True) wK->W (PL n) wi wK Q)
  (hR:∀ i,i<tk.length->(∀ j,j<i->jy[j]?=(aq tk)[j]?)->jy[i]?≠(aq tk)[i]?->∀ wK,RtE tk H (nj tk i s.length) wK->Q .ret wK):W (PL n) u7 st Q:=by
 obtain⟨T,g,rfl,oS,e8,e9,zA⟩:=iz;have a0:=oS.t0;have a2:=oS.t2;have a3:=oS.t3;have a4:=oS.t4;have a5:=oS.t5;have a7:=oS.t7;have T7:u7=.seq (.seq (pF (pF u7)) (.block 6 (.loop (pB (pB (pS (pF u7))))))) wi:=rfl;rw[T7];have HP:(tk.map gN).length=tk.length:=ag;have qv:(strs jy).length=jy.length:=vj;have hz:z5=[.str [],.ar,.ar,.ar,.str []]:=rfl;simp(disch:=omega)only[j7,aa,simprocAttr,mc,u7,qz,rq,qy,om,Bz,wF,zF,zE,zD,zC,zg,xV,xU,u6,pF,pS,pB,a4,HP];refine cg tk.length 6 (fun i=>fun st=>(∀ j,j<i->jy[j]?=(aq tk)[j]?)/\∃ T g,st=⟨T,pP tk H s1 (fs.map cm),H.length,g⟩/\PT s fin tk H T/\T 8=.lbox 1 [.str nm,uC us,aA H.length 14 (fs.map cm),.ar,.str []]/\T 9=.slice (ints (eI es)) true/\T 10=.slice (strs jy) true/\T 118=.slice (tk.map gN) false/\T 119=.int .i64 tk.length/\T 120=.int .i64 i)
  (fun st=>(∀ j,j<tk.length->jy[j]?=(aq tk)[j]?)/\Gs s fin nm us tk H fs es s1 (fun _=>True) st) (fun st=>∃ i,i<tk.length/\(∀ j,j<i->jy[j]?=(aq tk)[j]?)/\jy[i]?≠(aq tk)[i]?/\RtE tk H (nj tk i s.length) st) ?_ (fun st h=>hN h.1 st h.2) (fun st ⟨i,h1,h2,h3,h4⟩=>hR i h1 h2 h3 st h4) 0 _ ah ?_
 ·rintro i st hi ⟨ft,T,g,rfl,hT,e8,e9,zA,Xw,SN,Xx⟩
  have a0:=hT.t0;have a2:=hT.t2;have a3:=hT.t3;have a4:=hT.t4;have a5:=hT.t5;have a7:=hT.t7
  by_cases kP:i<tk.length
  ·have HI:=au5 kP
   generalize tk[i]=t at HI;have bX:(tk.map gN)[i]?=some [.str t.1,.str t.2]:=by rw[List.getElem?_map,HI];rfl
   have htx:(aq tk)[i]?=some t.1:=by unfold aq;rw[List.getElem?_map,HI];rfl
   have gW:∀ K,aj (PL n) 42 [.slice (tk.map gN) false,.int .i64 i,.int .i64 s.length] K=some (.int .i64 (nj tk i s.length),none):=fun K=>cL rfl (OT tk i s.length K hb Qm ah ah hs)
   by_cases aZ:i<jy.length
   ·have Ou:=au5 aZ
    generalize jy[i]=w at Ou;have hsr:(strs jy)[i]?=some [.str w]:=iD Ou;have JY:¬ jy.length<=i:=ah;cases dk:(t.1==w) with
    | false =>
     simp(disch:=omega)only[j7,aa,simprocAttr,a0,a2,a4,zA,Xw,SN,Xx,bX,hsr,qv,dk,ab,gW,hz];exact⟨i,kP,ft,by rw[Ou,htx];intro h;rw[avS h] at dk;simp at dk,_,_,_,_,rfl,by simp(disch:=omega)only[j7,aa,simprocAttr];rfl,wO⟩
    | true =>
     have hww:w=t.1:=(eq_of_beq dk).symm;have Tv:∀ j,j<i+1->jy[j]?=(aq tk)[j]?:=fun j hj=>by
      by_cases e:j=i
      ·rw[e,Ou,htx,hww]
      ·exact ft j ah
     refine nS2 (j4 zA Xw SN Xx) (j5 bX hsr qv dk @ab.eq_1) ?_;exact⟨kP,Tv,_,_,rfl,⟨cy a0,cy a2,cy a3,cy a4,cy a5,cy a7⟩,cy e8,cy e9,cy zA,cy Xw,cy SN,wO⟩
   ·have Ou:jy[i]?=none:=List.getElem?_eq_none ah
    simp(disch:=omega)only[j7,aa,simprocAttr,a0,a2,a4,zA,Xw,SN,Xx,bX,qv,ab,gW,hz];exact⟨i,kP,ft,by rw[Ou,htx];simp,_,_,_,_,rfl,by simp(disch:=omega)only[j7,aa,simprocAttr];rfl,wO⟩
  ·have:i=tk.length:=ah
   subst this;refine nS2 SN Xx ?_;exact⟨ft,_,_,rfl,⟨cy a0,cy a2,cy a3,cy a4,cy a5,cy a7⟩,cy e8,cy e9,trivial⟩
 ·exact⟨fun j hj=>absurd hj ah,_,_,rfl,⟨cy a0,cy a2,cy a3,cy a4,cy a5,cy a7⟩,cy e8,cy e9,cy zA,wO,wO,by simp(disch:=omega)only[j7,aa,simprocAttr];try rfl⟩
end
end
section
def bg:aK:=pB (pF (pS (pS (pB (pB (pS (pF zf)))))))
def Rx:aK:=pS (pS (pS bg))
def bg3:aK:=pS (pS (pS Rx))
def lC(g:Nat)(l:List ay):AV:=match l with|[]=>.ar|_=>.lsl g (strs l)
def YH{l:List ay}{a:ay} : lC g (l++[a])=.lsl g (strs (l++[a])):=by
 unfold lC
 simp_all
def tu{l:List ay}{a:ay}(h:l.length<=1000000):cK 1 16 (strs l) [[.str a]]=true:=by
 have h1:(strs l).length=l.length:=vj;have h2:gC 1 (strs l)=true:=by cases l<;>rfl
 have h3:gC 1 [[AV.str a]]=true:=rfl;unfold cK;rw[h1,h2,h3];simp only[avX,awb,au6,avv];omega
def Dk:∀ l:List ay,nb (strs l)=true
 | []=>rfl
 | a :: l=>Dk l
def oH(tk:List Tk)(f k:Nat):List ay:=((tk.take k).drop f).map (·.2)
def Xq{tk:List Tk} : oH tk f f=[]:=by unfold oH;rw[List.drop_eq_nil_of_le dq];rfl
def Sn{tk:List Tk}{t:Tk}(h:f<=k)(hk:tk[k]?=some t):oH tk f (k+1)=oH tk f k++[t.2]:=by
 have aZ:=(au7.1 hk).1;unfold oH;rw[lQ hk,aws dq];simp
def NS{tk:List Tk} : (oH tk f k).length<=tk.length:=by unfold oH;simp;omega
def KP(T T' : aD):Prop:=T' 0=T 0/\T' 2=T 2/\T' 3=T 3/\T' 4=T 4/\T' 5=T 5/\T' 7=T 7/\T' 8=T 8/\T' 16=T 16/\T' 17=T 17/\T' 18=T 18/\T' 145=T 145/\T' 146=T 146/\T' 147=T 147
section
variable {n:Nat}{H:ae}{tk:List Tk}{Q:bH->AS->Prop}
def Yt{T:aD}{K:ae}{lo e:Nat}(nA:tk.length<=100000)(hfe:f<=e)(he:e<=tk.length)(e4:T 4=.slice (tk.map gN) false)(WU:T 15=.int .i64 f)(e18:T 18=.int .i64 e)(IJ:T 19=.ar) :
  W (PL n) (pF (pS (pS bg))) ⟨T,K,lo,g⟩ (Dr fun wK=>∃ T' g' k,wK=⟨T',K,lo,g'⟩/\KP T T'/\T' 19=lC k (oH tk f e)):=by
 have T7:pF (pS (pS bg))=.seq (pF (pF (pS (pS bg)))) (.block 10 (.loop (pB (pB (pS (pF (pS (pS bg)))))))):=rfl;rw[T7];have HP:(tk.map gN).length=tk.length:=ag;simp(disch:=omega)only[j7,aa,simprocAttr,mc,zf,wi,u7,qz,rq,qy,om,Bz,wF,zF,zE,zD,zC,zg,xV,xU,u6,pF,pS,pB,bg,WU];refine cg e 10 (fun i=>fun st=>f<=i/\∃ T' g' k,st=⟨T',K,lo,g'⟩/\KP T T'/\T' 19=lC k (oH tk f i)/\T' 20=.int .i64 i)
  (fun wK=>∃ T' g' k,wK=⟨T',K,lo,g'⟩/\KP T T'/\T' 19=lC k (oH tk f e)) (fun _=>False) ?_ (fun st h=>h) (fun _ h=>h.elim) f _ hfe ?_
 ·rintro i st hi ⟨RA,T',g',k,rfl,hK,IJ,e20⟩
  unfold KP at hK;obtain⟨k0,k2,k3,k4,k5,k7,k8,k16,W7,OB,FC,FD,FE⟩:=hK;rw[e4] at k4;rw[e18] at OB
  by_cases kP:i<e
  ·have HI:=au5 (show i<tk.length by omega)
   generalize tk[i]=t at HI;have bX:(tk.map gN)[i]?=some [.str t.1,.str t.2]:=by rw[List.getElem?_map,HI];rfl
   have yH:=NS (tk:=tk) (f:=f) (k:=i);have hbs:=Sn RA HI;have gY:=tu (l:=oH tk f i) (a:=t.2) ah;have xq:=nU (l:=oH tk f i) (a:=t.2);have Qm:∀ k,lC k (oH tk f (i+1))=.lsl k (strs (oH tk f (i+1))):=fun k=>by rw[hbs];exact YH
   rw[<- hbs] at xq;have iL:lC k (oH tk f i)=.lsl k (strs (oH tk f i))\/lC k (oH tk f i)=.ar/\strs (oH tk f i)=[]:=by
    cases oH tk f i with
    | nil=>exact .inr ⟨rfl,rfl⟩
    | cons a l=>exact .inl rfl
   rcases iL with hc|⟨hc,gV⟩
   ·rw[hc] at IJ
    refine nS2 (j3 k4 OB IJ) (j5 e20 bX gY xq Qm) ?_;exact⟨kP,ah,_,_,_,rfl,by unfold KP;simp(disch:=omega)only[j7,aa,simprocAttr,k0,k2,k3,k4,e4,k5,k7,k8,k16,W7,OB,e18,FC,FD,FE],by simp(disch:=omega)only[j7,aa,simprocAttr];rfl,wO⟩
   ·rw[hc] at IJ
    rw[gV] at gY xq;rw[avO] at xq;refine nS2 k4 (j5 OB IJ e20 bX gY) ?_;exact⟨kP,ah,_,_,_,rfl,by unfold KP;simp(disch:=omega)only[j7,aa,simprocAttr,k0,k2,k3,k4,e4,k5,k7,k8,k16,W7,OB,e18,FC,FD,FE],by simp(disch:=omega)only[j7,aa,simprocAttr];rw[Qm,<- xq],wO⟩
  ·have:i=e:=ah
   subst this;refine nS2 OB e20 ?_;exact⟨_,_,k,rfl,by unfold KP;simp(disch:=omega)only[j7,aa,simprocAttr,k0,k2,k3,k4,e4,k5,k7,k8,k16,W7,OB,e18,FC,FD,FE],cy IJ⟩
 ·exact⟨Nat.le_refl _,_,_,0,rfl,by unfold KP;simp(disch:=omega)only[j7,aa,simprocAttr],by simp(disch:=omega)only[j7,aa,simprocAttr,IJ];rw[Xq];rfl,wO⟩
end
end
section
def u9(tk:List Tk)(fin:ay)(i:Nat):ay:=match tk[i]? with|some t=>t.2|none=>fin
def jP(es:List Nat)(i:Nat):Nat:=if i=0 then 0 else es.getD (i-1) 0
def qs(tk:List Tk)(fin:ay)(es:List Nat)(i:Nat):ay:=if i=0 then [] else (fM (u9 tk fin (es.getD (i-1) 0))).2
def ku(tk:List Tk)(fin:ay)(es:List Nat)(i:Nat):List ay:=(if i=0 then oH tk (jP es i) (es.getD i 0) else (oH tk (jP es i) (es.getD i 0)).set 0 (qs tk fin es i))++[(fM (u9 tk fin (es.getD i 0))).1]
def KM(f:Fm)(L:List ay):List AV:=(cm f).set 13 (.slice (strs L) true)
def fX(tk:List Tk)(fin:ay)(es:List Nat)(fs:List Fm):Nat->List (List AV)
 | 0=>fs.map cm
 | 1=>fs.map cm
 | i+2=>match fs[i]? with|some f=>(fX tk fin es fs (i+1)).set i (KM f (ku tk fin es (i+1)))|none=>fX tk fin es fs (i+1)
def hdC(tk:List Tk)(fin:ay)(es:List Nat)(i:Nat):AV:=match i with|0=>.ar|_=>.slice (strs (ku tk fin es 0)) true
structure wQ (tk:List Tk) (es:List Nat):Prop where
 ok:∀ i,i<es.length->jP es i<=es.getD i 0/\es.getD i 0<=tk.length/\(0<i->jP es i<es.getD i 0)
section
variable {tk:List Tk}{fin:ay}{es:List Nat}{fs:List Fm}
theorem nO:∀ i,(fX tk fin es fs i).length=fs.length
 | 0=>by simp[fX]
 | 1=>by simp[fX]
 | i+2=>by
  rw[fX];split
  ·rw[List.length_set];exact nO (i+1)
  ·exact nO (i+1)
def VW{f:Fm} : (KM f L).length=14:=by rw[KM,List.length_set];exact BQ
def tH:∀ i,∀ q∈fX tk fin es fs i,q.length=14
 | 0=>yA
 | 1=>yA
 | i+2=>by
  intro q hq;rw[fX] at hq;split at hq
  ·rcases awO hq with h|h
   ·exact tH (i+1) q h
   ·rw[h];exact VW
  ·exact tH (i+1) q hq
def DE:∀ i j,i<=j->(fX tk fin es fs (i+1))[j]?=(fs.map cm)[j]?
 | 0,j,_=>rfl
 | i+1,j,h=>by
  rw[fX];split
  ·rw[List.getElem?_set_ne ah];exact DE i j ah
  ·exact DE i j ah
end
section
variable {n:Nat}{H:ae}{s fin nm:ay}{us:List ay}{tk:List Tk}{fs:List Fm}{es:List Nat}{s1:PS}{Q:bH->AS->Prop}
def Bs(s fin nm:ay)(us:List ay)(tk:List Tk)(H:ae)(fs:List Fm)(es:List Nat)(s1:PS)(i:Nat)(st:AS):Prop:=∃ T g,st=⟨T,pP tk H s1 (fX tk fin es fs i),H.length,g⟩/\PT s fin tk H T/\T 8=.lbox 1 [.str nm,uC us,aA H.length 14 (fs.map cm),hdC tk fin es i,.str []]/\T 15=.int .i64 (jP es i)/\T 16=.str (qs tk fin es i)/\T 145=.slice (ints (eI es)) false/\T 146=.int .i64 es.length/\T 147=.int .i64 i
def bi:aK:=pF (pS (pS bg))
def bl1:aK:=pB (pB (pS (pF zf)))
def af2(nA:tk.length<=100000)(jW:fin.length<=1000000)(xR:∀ t∈tk,t.2.length<=1000000)(IM:es.length=fs.length+1)(hef:es.length<=200000)(hE:wQ tk es)(hi:i<es.length)(iz:Bs s fin nm us tk H fs es s1 i st) :
  W (PL n) bl1 st (andThen (fun s'=>i<es.length/\Bs s fin nm us tk H fs es s1 (i+1) s') Q):=by
 obtain⟨T,g,rfl,hT,e8,WU,Ry,SO,PF,PG⟩:=iz;have a0:=hT.t0;have a2:=hT.t2;have a3:=hT.t3;have a4:=hT.t4;have a5:=hT.t5;have a7:=hT.t7;obtain⟨HD,AT,hE3⟩:=hE.ok i hi;have T7:bl1=.seq (pF bl1) (.seq (pF (pS bl1)) (.seq (.block 9 (.seq (pF bg) (.seq (pF (pS bg)) (.seq bi Rx)))) (pS (pS (pS bl1))))):=rfl;rw[T7];obtain⟨e,IK⟩:∃ e,e=es.getD i 0:=⟨_,rfl⟩;have amz:es[i]?=some e:=by rw[IK,List.getD_eq_getElem?_getD,au5 hi];rfl
 have bX:(ints (eI es))[i]?=some [.int .i64 (e:Int)]:=by
  unfold ints eI;rw[List.getElem?_map,List.getElem?_map,amz];rfl
 have Mi:(ints (eI es)).length=es.length:=LX;rw[<- IK] at HD AT hE3;simp(disch:=omega)only[j7,aa,simprocAttr,mc,zf,wi,u7,qz,rq,qy,om,Bz,wF,zF,zE,zD,zC,zg,xV,xU,u6,pF,pS,pB,bl1,bg,SO,PF,PG,bX];refine uu (Yt (f:=jP es i) (e:=e) nA HD AT ?_ ?_ ?_ ?_) ?_
 ·exact cy a4
 ·exact cy WU
 ·exact wO
 ·exact wO
 intro ex wK hx;cases ex with
 | exit j=>exact hx.elim
 | ret=>exact hx.elim
 | normal =>
  obtain⟨T',g',k,rfl,hK,IJ⟩:=hx;unfold KP at hK;simp(disch:=omega)only[j7,aa,simprocAttr,a0,a2,a3,a4,a5,a7,e8,Ry,SO,PF,PG] at hK;obtain⟨k0,k2,k3,k4,k5,k7,k8,k16,W7,OB,FC,FD,FE⟩:=hK;have yH:=NS (tk:=tk) (f:=jP es i) (k:=e);have anr:Rx=.seq (pF Rx) (.seq (pF (pS Rx)) (.seq (pF (pS (pS Rx))) bg3)):=rfl
  show W _ _ _ _
  rw[anr];have HP:(tk.map gN).length=tk.length:=ag;have A2:u9 tk fin e=(match tk[e]? with|some t=>t.2|none=>fin):=rfl
  have xq:=fun l a=>nU (l:=l) (a:=a)
  have Yj:∀ r:ay,r.length<=1000000->∀ K,aj (PL n) 43 [.str r] K=some (.tuple [.str (fM r).1,.str (fM r).2],none):=fun r hr K=>cL rfl (Z4 r K ah)
  cases i with
  | zero =>
   by_cases he:e<tk.length
   ·have HI:=au5 he
    have hdm:tk[e]∈tk:=avx he;generalize tk[e]=t at HI hdm;have CY:(tk.map gN)[e]?=some [.str t.1,.str t.2]:=by rw[List.getElem?_map,HI];rfl
    have xp:=Yj t.2 (xR t hdm);have Mp:u9 tk fin e=t.2:=by rw[A2,HI]
    have hL:strs (ku tk fin es 0)=strs (oH tk (jP es 0) e)++[[.str (fM t.2).1]]:=by
     unfold ku;rw[if_pos rfl,<- IK,Mp,nU]
    have X5:jP es 1=e:=by unfold jP;rw[if_neg ah];exact IK.symm
    have XZ:qs tk fin es 1=(fM t.2).2:=by unfold qs;rw[if_neg ah];show (fM (u9 tk fin (es.getD 0 0))).2=_;rw[<- IK,Mp]
    cases hB:oH tk (jP es 0) e with
    | nil =>
     rw[hB] at IJ hL;have Fl:T' 19=.ar:=IJ;have gY:=tu (l:=[]) (a:=(fM t.2).1) ag;have l9:cK 1 16 [] [[.str (fM t.2).1]]=true:=gY;have TR:=fun (A:AP) i g t9 os T H lo gen K=>vE (A:=A) (i:=i) (g:=g) (e:=[[.str (fM t.2).1]]) (t:=t9) (os:=os) (T:=T) (H:=H) (lo:=lo) (gen:=gen) (K:=K) rfl
     simp(disch:=omega)only[j7,aa,simprocAttr,mc,zf,wi,u7,qz,rq,qy,om,Bz,wF,zF,zE,zD,zC,zg,xV,xU,u6,pF,pS,pB,bg,Rx,bg3,k4,k5,k8,W7,OB,FE,Fl,CY,HP,xp,l9,TR];exact⟨hi,_,_,rfl,⟨cy k0,cy k2,cy k3,cy k4,cy k5,cy k7⟩,by simp(disch:=omega)only[j7,aa,simprocAttr];show AV.lbox 1 [_,_,_,.slice [[.str (fM t.2).1]] true,_]=AV.lbox 1 [_,_,_,.slice (strs (ku tk fin es 0)) true,_];rw[hL];rfl,cy X5,cy XZ,cy FC,cy FD,wO⟩
    | cons x0 xl =>
     rw[hB] at IJ hL;have Fl:T' 19=.lsl k (strs (x0 :: xl)):=IJ;have gY:=tu (l:=x0 :: xl) (a:=(fM t.2).1) (by rw[<- hB];omega)
     have TR:=fun (A:AP) i g t9 os T H lo gen K=>vE (A:=A) (i:=i) (g:=g) (e:=strs (ku tk fin es 0)) (t:=t9) (os:=os) (T:=T) (H:=H) (lo:=lo) (gen:=gen) (K:=K) (by rw[Dj];exact Dk _)
     simp(disch:=omega)only[j7,aa,simprocAttr,mc,zf,wi,u7,qz,rq,qy,om,Bz,wF,zF,zE,zD,zC,zg,xV,xU,u6,pF,pS,pB,bg,Rx,bg3,k4,k5,k8,W7,OB,FE,Fl,CY,HP,xp,gY,<- hL,TR];exact⟨hi,_,_,rfl,⟨cy k0,cy k2,cy k3,cy k4,cy k5,cy k7⟩,by simp(disch:=omega)only[j7,aa,simprocAttr];rfl,cy X5,cy XZ,cy FC,cy FD,wO⟩
   ·have xp:=Yj fin jW
    have Mp:u9 tk fin e=fin:=by rw[A2,List.getElem?_eq_none ah]
    have hL:strs (ku tk fin es 0)=strs (oH tk (jP es 0) e)++[[.str (fM fin).1]]:=by
     unfold ku;rw[if_pos rfl,<- IK,Mp,nU]
    have X5:jP es 1=e:=by unfold jP;rw[if_neg ah];exact IK.symm
    have XZ:qs tk fin es 1=(fM fin).2:=by unfold qs;rw[if_neg ah];show (fM (u9 tk fin (es.getD 0 0))).2=_;rw[<- IK,Mp]
    cases hB:oH tk (jP es 0) e with
    | nil =>
     rw[hB] at IJ hL;have Fl:T' 19=.ar:=IJ;have gY:=tu (l:=[]) (a:=(fM fin).1) ag;have l9:cK 1 16 [] [[.str (fM fin).1]]=true:=gY;have TR:=fun (A:AP) i g t9 os T H lo gen K=>vE (A:=A) (i:=i) (g:=g) (e:=[[.str (fM fin).1]]) (t:=t9) (os:=os) (T:=T) (H:=H) (lo:=lo) (gen:=gen) (K:=K) rfl
     simp(disch:=omega)only[j7,aa,simprocAttr,mc,zf,wi,u7,qz,rq,qy,om,Bz,wF,zF,zE,zD,zC,zg,xV,xU,u6,pF,pS,pB,bg,Rx,bg3,k4,k5,k8,W7,OB,FE,Fl, HP,xp,l9,TR];exact⟨hi,_,_,rfl,⟨cy k0,cy k2,cy k3,cy k4,cy k5,cy k7⟩,by simp(disch:=omega)only[j7,aa,simprocAttr];show AV.lbox 1 [_,_,_,.slice [[.str (fM fin).1]] true,_]=AV.lbox 1 [_,_,_,.slice (strs (ku tk fin es 0)) true,_];rw[hL];rfl,cy X5,cy XZ,cy FC,cy FD,wO⟩
    | cons x0 xl =>
     rw[hB] at IJ hL;have Fl:T' 19=.lsl k (strs (x0 :: xl)):=IJ;have gY:=tu (l:=x0 :: xl) (a:=(fM fin).1) (by rw[<- hB];omega)
     have TR:=fun (A:AP) i g t9 os T H lo gen K=>vE (A:=A) (i:=i) (g:=g) (e:=strs (ku tk fin es 0)) (t:=t9) (os:=os) (T:=T) (H:=H) (lo:=lo) (gen:=gen) (K:=K) (by rw[Dj];exact Dk _)
     simp(disch:=omega)only[j7,aa,simprocAttr,mc,zf,wi,u7,qz,rq,qy,om,Bz,wF,zF,zE,zD,zC,zg,xV,xU,u6,pF,pS,pB,bg,Rx,bg3,k4,k5,k8,W7,OB,FE,Fl, HP,xp,gY,<- hL,TR];exact⟨hi,_,_,rfl,⟨cy k0,cy k2,cy k3,cy k4,cy k5,cy k7⟩,by simp(disch:=omega)only[j7,aa,simprocAttr];rfl,cy X5,cy XZ,cy FC,cy FD,wO⟩
  | succ m =>
   have hm:m<fs.length:=ah;obtain⟨f,hf⟩:∃ f,fs[m]?=some f:=⟨_,au5 hm⟩;have dk:fs≠[]:=by intro h;rw[h] at hm;simp at hm
   have hA:aA H.length 14 (fs.map cm)=.sref (H.length+fs.length) 0 fs.length 14:=by rw[BG (cY dk),List.length_map]
   rw[hA] at k8;have aZ:=hE3 ah;obtain⟨b,adk⟩:∃ b,b=qs tk fin es (m+1):=⟨_,rfl⟩;rw[<- adk] at k16;have Gq:((m:Nat):Int)+1-1=(m:Int):=ah;have W4:IntKind.i64.wrap (m:Int)=(m:Int):=wrap64 ah;have Bv:=nO (tk:=tk) (fin:=fin) (es:=es) (fs:=fs) (m+1);have anm:=nO (tk:=tk) (fin:=fin) (es:=es) (fs:=fs) (m+1+1);have hrw:=tH (tk:=tk) (fin:=fin) (es:=es) (fs:=fs) (m+1);have yK:(fX tk fin es fs (m+1)).flatten.length=fs.length*14:=by rw[od hrw,Bv]
   have X9:=OP (tk:=tk) (H:=H) (s:=s1) (D:=fX tk fin es fs (m+1)) (by intro h;rw[h] at Bv;simp at Bv;omega)
   rw[Bv] at X9;have hra:(fX tk fin es fs (m+1))[m]?=some (cm f):=by rw[DE m m (Nat.le_refl _),List.getElem?_map,hf];rfl
   have Bu:putAt (fX tk fin es fs (m+1)).flatten (m*14+13) [.slice (strs (ku tk fin es (m+1))) true]=(fX tk fin es fs (m+1+1)).flatten:=by
    rw[JH (cs:=[.slice (strs (ku tk fin es (m+1))) true]) hrw hra ag];have:fX tk fin es fs (m+1+1)=(fX tk fin es fs (m+1)).set m (KM f (ku tk fin es (m+1))):=by rw[fX,hf]
    rw[this];rfl
   replace Bu:List.take (m*14+13) (fX tk fin es fs (m+1)).flatten++[.slice (strs (ku tk fin es (m+1))) true]++List.drop (m*14+13+1) (fX tk fin es fs (m+1)).flatten=(fX tk fin es fs (m+1+1)).flatten:=Bu
   have qu:(pP tk H s1 (fX tk fin es fs (m+1))).set (H.length+fs.length) (.box bD (fX tk fin es fs (m+1+1)).flatten)=pP tk H s1 (fX tk fin es fs (m+1+1)):=by
    have:=Y5 (tk:=tk) (H:=H) (s:=s1) (D:=fX tk fin es fs (m+1)) (D':=fX tk fin es fs (m+1+1)) (by intro h;rw[h] at Bv;simp at Bv;omega) (by rw[Bv,anm])
    rw[Bv] at this;exact this
   cases hB:oH tk (jP es (m+1)) e with
   | nil =>
    exfalso;have:(oH tk (jP es (m+1)) e).length=0:=by rw[hB];rfl
    unfold oH at this;simp at this;omega
   | cons x0 xl =>
   rw[hB] at IJ;have Fl:T' 19=.lsl k ([.str x0] :: strs xl):=IJ
   by_cases he:e<tk.length
   ·have HI:=au5 he
    have hdm:tk[e]∈tk:=avx he;generalize tk[e]=t at HI hdm;have CY:(tk.map gN)[e]?=some [.str t.1,.str t.2]:=by rw[List.getElem?_map,HI];rfl
    have xp:=Yj t.2 (xR t hdm);have Mp:u9 tk fin e=t.2:=by rw[A2,HI]
    have hL:strs (ku tk fin es (m+1))=([.str b] :: strs xl)++[[.str (fM t.2).1]]:=by
     unfold ku;rw[if_neg ah,<- IK,Mp,hB,<- adk]
     show strs ((b :: xl)++[_])=_
     rw[<- nU];rfl
    have X5:jP es (m+1+1)=e:=by unfold jP;rw[if_neg ah];exact IK.symm
    have XZ:qs tk fin es (m+1+1)=(fM t.2).2:=by unfold qs;rw[if_neg ah];show (fM (u9 tk fin (es.getD (m+1) 0))).2=_;rw[<- IK,Mp]
    have hxl:(x0 :: xl).length<=tk.length:=by rw[<- hB];exact yH
    have gY:cK 1 16 ([.str b] :: strs xl) [[.str (fM t.2).1]]=true:=tu (l:=b :: xl) (a:=(fM t.2).1) (by simp only[List.length_cons] at hxl ⊢;omega)
    have TR:=fun (A:AP) i g t9 os T H lo gen K=>vE (A:=A) (i:=i) (g:=g) (e:=strs (ku tk fin es (m+1))) (t:=t9) (os:=os) (T:=T) (H:=H) (lo:=lo) (gen:=gen) (K:=K) (by rw[Dj];exact Dk _)
    simp(disch:=omega)only[j7,aa,simprocAttr,mc,zf,wi,u7,qz,rq,qy,om,Bz,wF,zF,zE,zD,zC,zg,xV,xU,u6,pF,pS,pB,bg,Rx,bg3,k4,k5,k8,k16,W7,OB,FE,Fl,CY,HP,xp,gY,<- hL,TR,Gq,W4,X9,yK,Bu,qu,ab];exact⟨hi,_,_,rfl,⟨cy k0,cy k2,cy k3,cy k4,cy k5,cy k7⟩,by simp(disch:=omega)only[j7,aa,simprocAttr,k8];rw[hA];rfl,cy X5,cy XZ,cy FC,cy FD,wO⟩
   ·have xp:=Yj fin jW
    have Mp:u9 tk fin e=fin:=by rw[A2,List.getElem?_eq_none ah]
    have hL:strs (ku tk fin es (m+1))=([.str b] :: strs xl)++[[.str (fM fin).1]]:=by
     unfold ku;rw[if_neg ah,<- IK,Mp,hB,<- adk]
     show strs ((b :: xl)++[_])=_
     rw[<- nU];rfl
    have X5:jP es (m+1+1)=e:=by unfold jP;rw[if_neg ah];exact IK.symm
    have XZ:qs tk fin es (m+1+1)=(fM fin).2:=by unfold qs;rw[if_neg ah];show (fM (u9 tk fin (es.getD (m+1) 0))).2=_;rw[<- IK,Mp]
    have hxl:(x0 :: xl).length<=tk.length:=by rw[<- hB];exact yH
    have gY:cK 1 16 ([.str b] :: strs xl) [[.str (fM fin).1]]=true:=tu (l:=b :: xl) (a:=(fM fin).1) (by simp only[List.length_cons] at hxl ⊢;omega)
    have TR:=fun (A:AP) i g t9 os T H lo gen K=>vE (A:=A) (i:=i) (g:=g) (e:=strs (ku tk fin es (m+1))) (t:=t9) (os:=os) (T:=T) (H:=H) (lo:=lo) (gen:=gen) (K:=K) (by rw[Dj];exact Dk _)
    simp(disch:=omega)only[j7,aa,simprocAttr,mc,zf,wi,u7,qz,rq,qy,om,Bz,wF,zF,zE,zD,zC,zg,xV,xU,u6,pF,pS,pB,bg,Rx,bg3,k4,k5,k8,k16,W7,OB,FE,Fl, HP,xp,gY,<- hL,TR,Gq,W4,X9,yK,Bu,qu,ab];exact⟨hi,_,_,rfl,⟨cy k0,cy k2,cy k3,cy k4,cy k5,cy k7⟩,by simp(disch:=omega)only[j7,aa,simprocAttr,k8];rw[hA];rfl,cy X5,cy XZ,cy FC,cy FD,wO⟩
end
end
section
def Db(tk:List Tk)(fin:ay)(es:List Nat)(fs:List Fm):List Fm:=fs.mapIdx fun j f=>{ f with layout:=ku tk fin es (j+1) }
theorem DF{tk:List Tk}{fin:ay}{es:List Nat}{fs:List Fm} : ∀ (i j:Nat) (f:Fm),j<i->i<=fs.length->fs[j]?=some f->(fX tk fin es fs (i+1))[j]?=some (KM f (ku tk fin es (j+1)))
 | 0,j,f,h,_,_=>ah
 | i+1,j,f,h,hi,hf=>by
  obtain⟨g,hg⟩:∃ g,fs[i]?=some g:=⟨_,au5 ah⟩;have e:fX tk fin es fs (i+1+1)=(fX tk fin es fs (i+1)).set i (KM g (ku tk fin es (i+1))):=by rw[fX,hg]
  rw[e]
  by_cases hj:j=i
  ·grind [nO]
  ·rw[List.getElem?_set_ne (fun h=>hj h.symm)]
   exact DF i j f ah ah hf
def VV{base:Nat}{f:Fm} : ((KM f L).map fun x=>gu Hx base k x.drop)=cm { f with layout:=L }:=by
 cases k<;>rfl
theorem VZ{tk:List Tk}{fin:ay}{es:List Nat}{fs:List Fm}{base:Nat} : ((fX tk fin es fs (fs.length+1)).map fun r=>r.map fun x=>gu Hx base k x.drop)=(Db tk fin es fs).map cm:=by
 refine awH fun j=>?_
 rw[List.getElem?_map,List.getElem?_map,Db,List.getElem?_mapIdx];cases hf:fs[j]? with
 | none =>
  grind [nO]
 | some f =>
  rw[DF fs.length j f (au7.1 hf).1 (Nat.le_refl _) hf];simp only[ave,VV]
def YI{tk:List Tk}{fin:ay}{es:List Nat}{fs:List Fm} : (((Db tk fin es fs).map cm).map fun r=>r.map n1)=(Db tk fin es fs).map cm:=by
 rw[awh];rfl
theorem To{base l z:Nat}{o:bS}{R F:List (List AV)}(hb:base<=l)(hl:Hx[l]?=some o)(ho:pY o=some R.flatten)(hR:∀ r∈R,r.length=z)(hF:(R.map fun r=>r.map fun x=>gu Hx base k x.drop)=F)(ri:∀ r∈F,r.length=z/\r.all AV.plain=true)(hz:0<z)
  (Fw:∀ r∈R,∀ x∈r,kK x=true):gu Hx base (k+1) (.sref l 0 R.length z)=.slice F false:=by
 have h1:(R.flatten.all fun x=>(gu Hx base k x.drop).plain&&kK x)=true:=by
  rw[ava];intro x hx;obtain⟨r,hr,hx⟩:=aw4.1 hx;have hm:(r.map fun x=>gu Hx base k x.drop)∈F:=by rw[<- hF];exact aw9 (f:=fun r=>r.map fun x=>gu Hx base k x.drop) hr
  grind
 have h2:(R.flatten.map fun x=>gu Hx base k x.drop)=F.flatten:=by rw[<- hF,List.map_flatten]
 have h4:R.flatten.length=R.length*z:=od hR;have h5:F.length=R.length:=by rw[<- hF,List.length_map]
 rw[gu];simp only[avT hb,cond_true,hl,au9,ho,h1,h2,h4,avA,List.drop_zero,avT (Nat.le_refl _),awb];rw[show Nat.blt 0 z=true by simpa [avn] using hz,cond_true,<- h5,AK (fun r hr=>(ri r hr).1)]
def Im{tk:List Tk}{fin:ay}{es:List Nat}{fs:List Fm} : ∀ i,∀ r∈fX tk fin es fs i,∀ x∈r,kK x=true
 | 0,r,hr,x,hx=>by
  obtain⟨f,_,rfl⟩:=List.mem_map.1 hr;exact ava.1 (show (cm f).all kK=true from rfl) x hx
 | 1,r,hr,x,hx=>by
  obtain⟨f,_,rfl⟩:=List.mem_map.1 hr;exact ava.1 (show (cm f).all kK=true from rfl) x hx
 | i+2,r,hr,x,hx=>by
  rw[fX] at hr;split at hr
  ·rcases awO hr with h|h
   ·exact Im (i+1) r h x hx
   ·rw[h] at hx
    exact ava.1 (show (KM _ _).all kK=true from rfl) x hx
  ·exact Im (i+1) r hr x hx
section
variable {n:Nat}{H:ae}{s fin nm:ay}{us:List ay}{tk:List Tk}{fs:List Fm}{es:List Nat}{s1:PS}{Q:bH->AS->Prop}
def Wm(tk:List Tk)(fin nm:ay)(us:List ay)(fs:List Fm)(es:List Nat):So:=⟨nm,us,Db tk fin es fs,ku tk fin es 0,qs tk fin es es.length⟩
def aeJ(nA:tk.length<=100000)(jW:fin.length<=1000000)(xR:∀ t∈tk,t.2.length<=1000000)(IM:es.length=fs.length+1)(hef:es.length<=200000)(hE:wQ tk es)(iz:Gs s fin nm us tk H fs es s1 (fun _=>True) st)
  (hQ:∀ wK,(∃ r,finish H.length mc wK=some r/\r=(.tuple [.agg (qt (Wm tk fin nm us fs es)),.int .i64 (-1)],none))->Q .ret wK):W (PL n) wi st Q:=by
 obtain⟨T,g,rfl,oS,e8,e9, -⟩:=iz;have a0:=oS.t0;have a2:=oS.t2;have a3:=oS.t3;have a4:=oS.t4;have a5:=oS.t5;have a7:=oS.t7;have T7:wi=.seq (pF wi) (.seq (.seq (pF (pF zf)) (.block 8 (.loop bl1))) (.seq (pF afg) (.seq (pF afh) ajI))):=rfl;rw[T7];have Mi:(ints (eI es)).length=es.length:=LX;simp(disch:=omega)only[j7,aa,simprocAttr,mc,ajI,afh,afg,zf,wi,u7,qz,rq,qy,om,Bz,wF,zF,zE,zD,zC,zg,xV,xU,u6,pF,pS,e9,Mi];refine cg es.length 8 (Bs s fin nm us tk H fs es s1) (Bs s fin nm us tk H fs es s1 es.length) (fun _=>False) ?_ ?_ (fun _ h=>h.elim) 0 _ ah ?_
 ·intro i st hi iz
  by_cases kP:i<es.length
  ·exact af2 nA jW xR IM hef hE kP iz
  ·have:i=es.length:=ah
   subst this;have T8:=iz;obtain⟨T,g,rfl,hT,e8,WU,Ry,SO,PF,PG⟩:=iz;have a0:=hT.t0;have a2:=hT.t2;have a3:=hT.t3;have a4:=hT.t4;have a5:=hT.t5;have a7:=hT.t7;simp(disch:=omega)only[j7,aa,simprocAttr,mc,zf,wi,u7,qz,rq,qy,om,Bz,wF,zF,zE,zD,zC,zg,xV,xU,u6,pF,pS,pB,bl1,PF,PG];exact⟨_,_,rfl,⟨cy a0,cy a2,cy a3,cy a4,cy a5,cy a7⟩,cy e8,cy WU,cy Ry,cy SO,cy PF,cy PG⟩
 ·rintro st ⟨T,g,rfl,hT,e8,WU,Ry,SO,PF,PG⟩
  have a0:=hT.t0;have a2:=hT.t2;have a3:=hT.t3;have a4:=hT.t4;have a5:=hT.t5;have a7:=hT.t7;have hz:z5=[.str [],.ar,.ar,.ar,.str []]:=rfl;rw[hz] at a2;obtain⟨m,hm⟩:∃ m,es.length=m+1:=⟨fs.length,IM⟩;have hd:hdC tk fin es es.length=.slice (strs (ku tk fin es 0)) true:=by rw[hm];rfl
  rw[hd] at e8;have hA:aA H.length 14 (fs.map cm)=.ar/\fs=[]\/aA H.length 14 (fs.map cm)=.sref (H.length+fs.length) 0 fs.length 14/\fs≠[]:=by
   cases fs with
   | nil=>exact .inl ⟨rfl,rfl⟩
   | cons d ds=>exact .inr ⟨by rw[BG ag,List.length_map],ag⟩
  have hX:(aA H.length 14 (fs.map cm)).drop=aA H.length 14 (fs.map cm):=by rcases hA with ⟨h,_⟩|⟨h,_⟩<;>rw[h]<;>rfl
  have hF:∀ k,n2 (gu (pP tk H s1 (fX tk fin es fs es.length)) H.length (k+1) (aA H.length 14 (fs.map cm)))=.slice ((Db tk fin es fs).map cm) false/\(gu (pP tk H s1 (fX tk fin es fs es.length)) H.length (k+1) (aA H.length 14 (fs.map cm))).plain=true:=by
   intro k
   rcases hA with ⟨h,rfl⟩|⟨h,dk⟩
   ·rw[h];exact⟨rfl,rfl⟩
   ·rw[h]
    have Bv:=nO (tk:=tk) (fin:=fin) (es:=es) (fs:=fs) es.length;have X9:=OP (tk:=tk) (H:=H) (s:=s1) (D:=fX tk fin es fs es.length) (by intro h;rw[h] at Bv;exact dk (avl.1 Bv.symm))
    rw[Bv] at X9;have JX:((fX tk fin es fs es.length).map fun r=>r.map fun x=>gu (pP tk H s1 (fX tk fin es fs es.length)) H.length k x.drop)=(Db tk fin es fs).map cm:=by
     have:=VZ (tk:=tk) (fin:=fin) (es:=es) (fs:=fs) (Hx:=pP tk H s1 (fX tk fin es fs es.length)) (base:=H.length) (k:=k)
     rw[<- IM] at this;exact this
    have:=To (k:=k) (z:=14) (base:=H.length) (l:=H.length+fs.length) (R:=fX tk fin es fs es.length) ah X9 rfl (tH _) JX (fun r hr=>by obtain⟨f,_,rfl⟩:=List.mem_map.1 hr;exact⟨BQ,rfl⟩) ah (Im _)
    rw[Bv] at this;rw[this];refine⟨?_,rfl⟩;rw[fp,YI]
  have ah0:(us=[]/\uC us=.ar)\/(us≠[]/\uC us=.slice (strs us) true):=by
   cases us with
   | nil=>exact .inl ⟨rfl,rfl⟩
   | cons u r=>exact .inr ⟨ag,rfl⟩
  have hfc:aN (aA H.length 14 (fs.map cm))=true:=by rcases hA with ⟨h,_⟩|⟨h,_⟩<;>rw[h]<;>rfl
  rcases ah0 with ⟨rfl,hu⟩|⟨asg,hu⟩
  ·rw[hu] at e8
   have hd5:ab false true 5 0 [.str nm,.ar,aA H.length 14 (fs.map cm),.slice (strs (ku tk fin es 0)) true,.str (qs tk fin es es.length)]=some (.agg [.str nm,.ar,aA H.length 14 (fs.map cm),.slice (strs (ku tk fin es 0)) false,.str (qs tk fin es es.length)]):=by
    show some (AV.agg [AV.str nm,.ar,(aA H.length 14 (fs.map cm)).drop,.slice (strs (ku tk fin es 0)) false,.str (qs tk fin es es.length)])=_
    rw[hX]
   refine nS2 a2 (j4 e8 Ry hfc hd5) ?_;refine hQ _ ⟨_,BN (tc:=2) (tr:=3) (n:=5) (g:=0) (cs:=[.str nm,.ar,aA H.length 14 (fs.map cm),.slice (strs (ku tk fin es 0)) false,.str (qs tk fin es es.length)]) (out:=qt (Wm tk fin nm [] fs es)) (r:=-1) rfl aI aI (wO) (wO) rfl rfl ?_ ?_,rfl⟩
   ·obtain⟨h1,h2⟩:=hF 2
    show (List.all [.str nm,gu _ H.length 3 (AV.drop .ar),gu _ H.length 3 (aA H.length 14 (fs.map cm)).drop,gu _ H.length 3 (AV.slice (strs (ku tk fin es 0)) false),.str (qs tk fin es es.length)] AV.plain)=true
    rw[hX];simp only[List.all_cons,List.all_nil,h2];rfl
   ·obtain⟨h1,h2⟩:=hF 2
    show [n2 _,n2 (gu _ H.length 3 (AV.drop .ar)),n2 (gu _ H.length 3 (aA H.length 14 (fs.map cm)).drop),n2 (AV.slice (strs (ku tk fin es 0)) false),n2 _]=_
    rw[hX,h1,fp,Dn];rfl
  ·rw[hu] at e8
   have hd5:ab false true 5 0 [.str nm,.slice (strs us) true,aA H.length 14 (fs.map cm),.slice (strs (ku tk fin es 0)) true,.str (qs tk fin es es.length)]=some (.agg [.str nm,.slice (strs us) false,aA H.length 14 (fs.map cm),.slice (strs (ku tk fin es 0)) false,.str (qs tk fin es es.length)]):=by
    show some (AV.agg [AV.str nm,.slice (strs us) false,(aA H.length 14 (fs.map cm)).drop,.slice (strs (ku tk fin es 0)) false,.str (qs tk fin es es.length)])=_
    rw[hX]
   refine nS2 a2 (j4 e8 Ry hfc hd5) ?_;refine hQ _ ⟨_,BN (tc:=2) (tr:=3) (n:=5) (g:=0) (cs:=[.str nm,(.slice (strs us) false),aA H.length 14 (fs.map cm),.slice (strs (ku tk fin es 0)) false,.str (qs tk fin es es.length)]) (out:=qt (Wm tk fin nm us fs es)) (r:=-1) rfl aI aI (wO) (wO) rfl rfl ?_ ?_,rfl⟩
   ·obtain⟨h1,h2⟩:=hF 2
    show (List.all [.str nm,gu _ H.length 3 (AV.drop (.slice (strs us) false)),gu _ H.length 3 (aA H.length 14 (fs.map cm)).drop,gu _ H.length 3 (AV.slice (strs (ku tk fin es 0)) false),.str (qs tk fin es es.length)] AV.plain)=true
    rw[hX];simp only[List.all_cons,List.all_nil,h2];rfl
   ·obtain⟨h1,h2⟩:=hF 2
    show [n2 _,n2 (gu _ H.length 3 (AV.drop (.slice (strs us) false))),n2 (gu _ H.length 3 (aA H.length 14 (fs.map cm)).drop),n2 (AV.slice (strs (ku tk fin es 0)) false),n2 _]=_
    rw[hX,h1,fp,Dn]
    show [_,n2 (AV.slice (strs us) false),_,_,_]=_
    rw[fp,Dn];rfl
 ·exact⟨_,_,rfl,⟨cy a0,cy a2,cy a3,cy a4,cy a5,cy a7⟩,by simp(disch:=omega)only[j7,aa,simprocAttr,e8];rfl,by simp(disch:=omega)only[j7,aa,simprocAttr];rfl,by simp(disch:=omega)only[j7,aa,simprocAttr];rfl,wO,wO,by simp(disch:=omega)only[j7,aa,simprocAttr];try rfl⟩
end
end
def Rh:∀ (m:Nat) (r:ay) (off:Nat),r.length<=m->(fq r off).2.2=-1->(((fq r off).1.map fun t=>t.before++t.text).flatten++(fq r off).2.1=r)/\∀ t∈(fq r off).1,1<=t.text.length:=by
 intro m
 induction m with
 | zero =>
  intro r off hm h;have:r=[]:=avl.1 ah
  subst this;rw[fq,if_pos (by rfl)] at h ⊢
  exact⟨ag,ag⟩
 | succ m ih =>
  intro r off hm h
  by_cases h1:bI false r=r.length
  ·rw[fq,if_pos h1] at h ⊢
   exact⟨ag,ag⟩
  ·by_cases h2:gI (r.drop (bI false r))=0
   ·rw[fq,if_neg h1,dif_pos h2] at h
    simp only at h;omega
   ·rw[fq,if_neg h1,dif_neg h2] at h ⊢
    simp only at h ⊢;have hle:=zt (r.drop (bI false r));have Fy:=nw false r;rw[avF] at hle
    by_cases hx:(fq (r.drop (bI false r+gI (r.drop (bI false r)))) (off+(bI false r+gI (r.drop (bI false r))))).2.2=-1
    ·rw[if_pos hx]
     obtain⟨k1,k2⟩:=ih _ _ (by rw[avF];omega) hx
     refine⟨?_,fun t ht=>?_⟩
     ·simp only[avm,avy,avj]
      rw[k1,<- av7,awa,awa]
     ·rcases avs.1 ht with rfl|ht
      ·simp only[avU,avF]
       omega
      ·exact k2 t ht
    ·rw[if_neg hx] at h
     exact absurd h hx
def V9(r:ay)(off:Nat)(h:(fq r off).2.2=-1):(((fq r off).1.map fun t=>t.before++t.text).flatten++(fq r off).2.1=r)/\∀ t∈(fq r off).1,1<=t.text.length:=Rh r.length r off (Nat.le_refl _) h
def It{s:ay}(h:(bB s).2.2=-1):s.length<=8192/\((bB s).1.map fun t=>t.before++t.text).flatten++(bB s).2.1=s/\∀ t∈(bB s).1,1<=t.text.length:=by
 unfold bB at h ⊢;split at h
 ·simp at h
 ·rename_i hs
  rw[if_neg hs];obtain⟨h1,h2⟩:=V9 s 0 h;exact⟨ah,h1,h2⟩
def Ah:∀ l:List Tok,iF (iP l)=(l.map fun t=>t.before++t.text).flatten.length
 | []=>rfl
 | t :: l=>by
  show t.before.length+t.text.length+iF (iP l)=_
  rw[Ah l];simp only[avm,avy,List.length_append]
def vR{s:ay}(h:(bB s).2.2=-1):BF (iP (bB s).1)/\iF (iP (bB s).1)<=8192/\(iP (bB s).1).length<=8192/\(bB s).2.1.length<=8192/\(∀ t∈iP (bB s).1,t.2.length<=8192):=by
 obtain⟨h1,h2,h3⟩:=It h;have h4:iF (iP (bB s).1)+(bB s).2.1.length=s.length:=by rw[Ah,<- List.length_append,h2]
 have key:∀ l:List Tok,(∀ t∈l,1<=t.text.length)->l.length<=iF (iP l)/\∀ t∈iP l,t.1.length<=iF (iP l)/\t.2.length<=iF (iP l):=by
  intro l
  induction l with
  | nil=>intro _;exact⟨avB _,by simp[iP]⟩
  | cons t l ih =>
   intro hl;obtain⟨k1,k2⟩:=ih fun x hx=>hl x (zo hx)
   have k3:=hl t ag;have e:iF (iP (t :: l))=t.before.length+t.text.length+iF (iP l):=rfl;rw[e];refine⟨kq,fun x hx=>?_⟩
   rcases avs.1 (show x∈(t.text,t.before) :: iP l from hx) with rfl|hx
   ·exact⟨by simp only;omega,by simp only;omega⟩
   ·have:=k2 x hx;exact⟨ah,ah⟩
 obtain⟨k1,k2⟩:=key _ h3;have hl:(iP (bB s).1).length=(bB s).1.length:=by simp[iP]
 exact⟨⟨ah,fun x hx=>by have:=(k2 x hx).1;omega⟩,ah,ah,ah,fun t ht=>by have:=(k2 t ht).2;omega⟩
def N'{tk:List Tk}{n m:Nat}{s:PS}{r:Fm × PS}(h:pL (aq tk) n (pE (aq tk) m 0) s=some r)(hb:r.2.bad=false):s.i<r.2.i:=by
 unfold pL at h;simp only at h;cases hk:decide (kM (pk (aq tk) s) dJ 0<0) with
 | true =>
  rw[hk,cond_true,au4] at h;subst h;cases hb
 | false =>
  rw[hk,cond_false] at h;have hE:=iO (tk:=tk) m 0;simp only[au3] at h;obtain⟨sl,h1,h⟩:=h;have l1:Lq tk s.up sl.2:=dP.tr ((bP ag).tr (mX ag (fun a s r he=>qP he) h1))
  have Ov:s.up.i=s.i+1:=rfl;cases h2:(decide (kM (pk (aq tk) s) dJ 0=0) || decide (kM (pk (aq tk) s) dJ 0=1)) with
  | true =>
   rw[h2,cond_true,au4] at h;subst h;have:=l1.i
   simp only;omega
  | false =>
   rw[h2,cond_false,au3] at h;obtain⟨w,h3,h⟩:=h;rw[au2] at h;obtain⟨b,h4,rfl⟩:=h;have:=(l1.tr ((ji _ _ _ h3).tr ((bP ag).tr (hE _ _ h4)))).i
   simp only;omega
def PI{tk:List Tk}{es:List Nat}{x:Nat}(hE:wQ tk es)(hl:es.getLast?=some i)(hx:i<x)(hxl:x<=tk.length):wQ tk (es++[x]):=by
 refine⟨fun j hj=>?_⟩
 have dk:es≠[]:=by intro h;rw[h] at hl;cases hl
 have Ok:es.getD (es.length-1) 0=i:=by
  rw[List.getLast?_eq_getElem?] at hl;rw[List.getD_eq_getElem?_getD,hl];rfl
 have Ab:0<es.length:=awq.2 dk;have gd:∀ k,k<es.length->(es++[x]).getD k 0=es.getD k 0:=fun k hk=>by
  rw[List.getD_eq_getElem?_getD,List.getD_eq_getElem?_getD,avd hk]
 by_cases Bq:j<es.length
 ·have:=hE.ok j Bq
  have hf:jP (es++[x]) j=jP es j:=by
   unfold jP;split
   ·rfl
   ·exact gd _ ah
  rw[hf,gd j Bq];exact this
 ·have:j=es.length:=by simp at hj;omega
  subst this;have hf:jP (es++[x]) es.length=i:=by
   unfold jP;rw[if_neg ah,gd _ ah,Ok]
  have hg:(es++[x]).getD es.length 0=x:=by
   rw[List.getD_eq_getElem?_getD,List.getElem?_append_right (Nat.le_refl _)];simp
  rw[hf,hg];exact⟨ah,hxl,fun _=>hx⟩
def F2{tk:List Tk}{n:Nat} : ∀ (k:Nat) (fs:List Fm) (es:List Nat) (s1:PS) (r:(List Fm × List Nat) × PS),lS (aq tk) n k (fs,es) s1=some r->r.2.bad=false->wQ tk es->es.getLast?=some s1.i->s1.i<=tk.length->wQ tk r.1.2
 | 0,_,_,_,_,h,_,_,_,_=>by cases h
 | k+1,fs,es,s1,r,h,hb,hE,hl,hs=>by
  unfold lS at h;cases hc:(!s1.bad&&Nat.blt s1.i (aq tk).length) with
  | false =>
   rw[hc,cond_false,au4] at h;subst h;exact hE
  | true =>
   rw[hc,cond_true,au3] at h;obtain⟨⟨f,s2⟩,hf,h⟩:=h;have xp:s2.i<=tk.length:=(y5 (iO _ _) hf).le hs;have kO:s2.bad=false:=by
    cases xR:s2.bad with
    | false=>rfl
    | true =>
     have:r.2.bad=true:=by
      clear hE hl
      match k with
      | 0=>cases h
      | k+1 =>
       unfold lS at h;simp only[xR,av8,avt,cond_false,au4] at h;subst h;exact xR
     rw[this] at hb;cases hb
   exact F2 k _ _ _ r h hb (PI hE hl (N' hf kO) xp) ag xp
section
def so0:So:=⟨[],[],[],[],[]⟩
def Ak(tx jy:List ay):Option Nat:=(List.range tx.length).find? fun i=>jy[i]? != tx[i]?
def uY(tk:List Tk)(fin:ay)(en:Nat)(q:(ay × List ay × List Fm × List Nat) × PS):So × Int :=
 bif q.2.bad then (so0,nj tk q.2.i en) else
 match Ak (aq tk) (lT q.1.1 q.1.2.1 q.1.2.2.1) with
 | some i=>(so0,nj tk i en)
 | none=>(Wm tk fin q.1.1 q.1.2.1 q.1.2.2.1 q.1.2.2.2, -1)
def p7(n:Nat)(s:ay):Option (So × Int) :=
 if (bB s).2.2=-1 then (oo (aq (iP (bB s).1)) n).map (uY (iP (bB s).1) (bB s).2.1 s.length) else some (so0,(bB s).2.2)
def Kk(h:∀ j,j<tx.length->jy[j]?=tx[j]?):Ak tx jy=none:=by
 unfold Ak;rw[List.find?_eq_none];intro j hj;have:=h j (awL.1 hj)
 simp[this]
def Kl(hi:i<tx.length)(h:∀ j,j<i->jy[j]?=tx[j]?)(hn:jy[i]?≠tx[i]?):Ak tx jy=some i:=by
 unfold Ak;rw[List.find?_range_eq_some];refine⟨cY hn,awL.2 hi,fun j hj=>?_⟩
 simp[h j hj]
def N7{tk:List Tk}{H:ae}(h:RtE tk H i st):finish H.length mc st=some (.tuple [.agg (qt so0),.int .i64 (i:Int)],none):=by
 obtain⟨T,s1,D,g,rfl,h2,h3⟩:=h;exact BN (tc:=2) (tr:=3) (n:=5) (g:=0) (cs:=z5) (out:=qt so0) (r:=(i:Int)) rfl aI aI h2 h3 rfl rfl rfl rfl
section
variable {n:Nat}{H:ae}{s:ay}
def Wz{tk:List Tk}(hb:BF tk):∀ (k:Nat) (us:List ay) (s1:PS) (r:List ay × PS),nC (aq tk) k us s1=some r->(∀ u∈us,u.length<=1000000)->∀ u∈r.1,u.length<=1000000
 | 0,_,_,_,h,_=>by cases h
 | k+1,us,s1,r,h,hu=>by
  unfold nC at h;cases hc:(!s1.bad&&(pk (aq tk) s1==rC)) with
  | false =>
   rw[hc,cond_false,au4] at h;subst h;exact hu
  | true =>
   rw[hc,cond_true] at h;refine Wz hb k _ _ r h fun u hm=>?_
   rcases au'.1 hm with h1|h1
   ·exact hu u h1
   ·rw[avi.1 h1];exact uW hb
def Gf{nm:ay}{us:List ay}(h:us.length<=1000000):(aam ⟨nm,us,[],[],[]⟩).length<=3000000:=by
 have key:∀ l:List ay,((l.map fun u=>[[117,115,101],u]).flatten).length=2*l.length:=by
  intro l
  induction l with
  | nil=>rfl
  | cons a l ih=>simp only[avm,avy,List.length_append,List.length_cons,List.length_nil,ih];omega
 unfold aam;split
 ·unfold heads
  simp only[List.length_append,List.length_cons,List.length_nil,key];omega
 ·simp
def ajz{Q:bH->AS->Prop}(hs:s.length<=4611686018427387904)(og:¬ (bB s).2.2=-1)(hQ:∀ T g,T 2=.lbox 0 z5->T 3=.int .i64 (bB s).2.2->Q .ret ⟨T,H,H.length,g⟩):W (PL n) u6 ⟨fi [.str s],H,H.length,0⟩ Q:=by
 have Mr:u6=.seq (pF u6) (.seq (pF xU) (.seq (pF xV) zg)):=rfl;rw[Mr];have T5:∀ K,aj (PL n) 13 [.str s] K=some (.tuple [.slice (fN (bB s).1) false,.str (bB s).2.1,.int .i64 (bB s).2.2],none):=fun K=>cL rfl (Is s K hs)
 have dk:((bB s).2.2 != -1)=true:=cY og;have TU:((bB s).2.2==-1)=false:=cY og;simp(disch:=omega)only[j7,aa,simprocAttr,mc,xV,xU,u6,pF,pS,T5,dk];exact hQ _ _ (by simp(disch:=omega)only[j7,aa,simprocAttr];rfl) (nS0 tv)
def Y6(hn:n<=100000)(hs:s.length<=4611686018427387904)(hw:(bB s).2.2=-1->∀ q,oo (aq (iP (bB s).1)) n=some q->q.2.bad=false->∀ f∈q.1.2.2.1,Xb f){r:So × Int}(h:p7 n s=some r) :
  aj (PL n) 11 [.str s] H=some (.tuple [.agg (qt r.1),.int .i64 r.2],none):=by
 have key:∃ x,aj (PL n) 11 [.str s] H=some x/\x=(.tuple [.agg (qt r.1),.int .i64 r.2],none):=by
  refine FV (fn:=mc) rfl rfl rfl ?_
  show W (PL n) u6 _ _
  by_cases og:(bB s).2.2=-1
  ·unfold p7 at h
   rw[if_pos og,au2] at h;obtain⟨q,hq,rfl⟩:=h;obtain⟨tk,nA⟩:∃ tk,tk=iP (bB s).1:=⟨_,rfl⟩;obtain⟨fin,jW⟩:∃ fin,fin=(bB s).2.1:=⟨_,rfl⟩;obtain⟨hb,Qm,ql,yK,yH⟩:=vR og;have hw:=hw og;rw[<- nA] at hb Qm ql yH hq hw ⊢;rw[<- jW] at yK ⊢;have hw':=hw q hq;unfold oo at hq;simp only[au3,au2] at hq;obtain⟨u,hu,d,hd,rfl⟩:=hq;simp only at hw';have T4:bB s=((bB s).1,fin, -1):=by rw[jW,<- og]
   refine ajJ (tk:=tk) hs T4 nA hb ?_;intro T e0 e2 e3 e4 e5 e7 e8 e9;have Lj:(psN tk).i<=tk.length:=jY (gy aI (avB _));have hU:=agu (n:=n) (H:=H) (s:=s) (fin:=fin) (nm:=nmN tk) (k:=n) (us:=[]) (s1:=psN tk) (r:=u) hb dq Lj hu (st:=⟨T,pP tk H (psN tk) [],H.length,2⟩) ⟨T,rfl,⟨e0,e2,e3,e4,e5,e7⟩,e8,e9⟩;have hub:=Wz hb n [] (psN tk) u hu ag
   show W (PL n) (.seq (pF wF) Bz) _ _
   refine xY hU ?_
   rintro Wn ⟨ant,Ms,Yl⟩
   show W (PL n) (.seq (pF Bz) om) _ _
   refine xY (acT Ms ah ant) ?_;intro Au T8
   show W (PL n) (.seq (pF om) qy) _ _
   refine xY (XV hb ah ah (k:=n) dq ag Ms hd T8) ?_
   rintro st3 ⟨anu,z7,hd2,hd3⟩
   have kL:(aq tk).length=tk.length:=by simp[aq]
   refine ag8 hb ah ah hs z7 anu ?_ ?_
   ·intro iS st4 ad5
    refine⟨_,N7 ad5,?_⟩;unfold uY;simp only[iS,cond_true]
   ·intro iS st4 ad5
    have W4:=hw' iS;have uQ:(nmN tk).length<=1000000:=uW hb
    show W (PL n) (.seq (pF rq) qz) _ _
    refine xY (X3 ah ah (fun x hx=>by have:=hub x hx;omega) ad5) ?_
    intro st5 anv
    show W (PL n) (.seq (pF qz) u7) _ _
    refine xY (agl W4 hd2 (Gf Yl) anv) ?_;intro st6 anw;have Mk:=Mb W4;have hhl:=Gf (nm:=nmN tk) Yl;refine aho hb ah ah hs (by unfold lT;rw[List.length_append];omega) anw ?_ ?_
    ·intro ft st7 ad6
     have Od:wQ tk [u.2.i]:=⟨fun i hi=>by
      have:i=0:=by simp at hi;omega
      subst this;exact⟨avB _,Ms,fun h=>absurd h ah⟩⟩
     have hE:=F2 n [] [u.2.i] u.2 d hd iS Od rfl Ms;refine aeJ ah ah (fun t ht=>by have:=yH t ht;omega) hd3 ah hE ad6 ?_
     rintro st8 ⟨x,nY,D9⟩
     refine⟨x,nY,?_⟩;rw[D9];unfold uY;have hm:Ak (aq tk) (lT (nmN tk) u.1 d.1.1)=none:=Kk (fun j hj=>ft j (by rw[kL] at hj;exact hj))
     have RE:Ak (aq tk) (lT (aF (aq tk) (aQ (aq tk) gH ⟨0,false⟩)).1 u.1 d.1.1)=none:=hm;simp only[iS,cond_false,RE];rfl
    ·intro i hi ft dk st7 ad6
     refine⟨_,N7 ad6,?_⟩;unfold uY;have RE:Ak (aq tk) (lT (aF (aq tk) (aQ (aq tk) gH ⟨0,false⟩)).1 u.1 d.1.1)=some i:=Kl (by rw[kL];exact hi) ft dk
     simp only[iS,cond_false,RE]
  ·unfold p7 at h
   rw[if_neg og,au4] at h;subst h;refine ajz hs og fun T g h2 h3=>?_
   exact⟨_,BN (tc:=2) (tr:=3) (n:=5) (g:=0) (cs:=z5) (out:=qt so0) (r:=(bB s).2.2) rfl aI aI h2 h3 rfl rfl rfl rfl,rfl⟩
 obtain⟨x,h1,rfl⟩:=key;exact h1
end
end
section
section
variable {tk:List Tk}
def mu(tk:List Tk)(s:PS):Nat:=bif s.bad then 0 else tk.length-s.i
def iV{s s':PS}(h:Lq tk s s'):mu tk s'<=mu tk s:=by
 unfold mu;cases hb:s.bad with
 | true=>rw[h.bad hb];exact Nat.le_refl _
 | false =>
  cases iR:s'.bad with
  | true=>exact avB _
  | false=>have:=h.i;simp only[cond_false];omega
theorem me{s:PS}(hw:w≠[])(e:(pk (aq tk) s==w)=true):mu tk s.up+1<=mu tk s:=by
 have hp:pk (aq tk) s≠[]:=by rw[eq_of_beq e];exact hw
 have hl:=tY hp;have hb:s.bad=false:=by
  cases h:s.bad with
  | false=>rfl
  | true=>unfold pk at hp;rw[h,cond_true] at hp;exact absurd rfl hp
 unfold mu PS.up
 grind
def um(tk:List Tk)(E:EP)(M:Nat):Prop:=∀ s,mu tk s<=M->∃ r,E s=some r
def cZ{α:Type}{b:Bool}{x y:Option α}(h1:b=true->∃ r,x=some r)(h2:b=false->∃ r,y=some r):∃ r,(bif b then x else y)=some r:=by
 cases b with
 | true=>exact h1 rfl
 | false=>exact h2 rfl
theorem jS{α:Type}{x:Option α}{f:α->Option β}(h1:∃ a,x=some a)(h2:∀ a,x=some a->∃ r,f a=some r):∃ r,x.bind f=some r:=by
 grind
def jH{α:Type}{x:Option α}{f:α->β}(h1:∃ a,x=some a):∃ r,x.map f=some r:=by
 obtain⟨a,ha⟩:=h1;rw[ha];exact⟨_,rfl⟩
def vW:∀ (n:Nat) (s:PS),mu tk s+1<=n->∃ r,nE (aq tk) n s=some r
 | 0,s,h=>ah
 | n+1,s,h=>by
  unfold nE;refine cZ (fun _=>⟨_,rfl⟩) fun _=>cZ (fun _=>⟨_,rfl⟩) fun _=>cZ (fun e=>jH ?_) fun _=>⟨_,rfl⟩
  have h1:=me aI e;have h2:=iV (bP (tk:=tk) (s:=s.up) (w:=[40]) ag);exact vW n _ ah
def Dd{α:Type}{elem:α->PS->Option (α × PS)}{fin:ay}{M:Nat}(he:∀ a s,mu tk s<=M->∃ r,elem a s=some r)(hq:∀ a s r,elem a s=some r->Lq tk s r.2) :
  ∀ (k:Nat) (a:α) (s:PS),mu tk s<=M->mu tk s+1<=k->∃ r,qO (aq tk) elem fin k a s=some r
 | 0,a,s,_,h=>ah
 | k+1,a,s,hM,h=>by
  unfold qO;refine jS (he a s hM) fun r hr=>cZ (fun e=>?_) fun _=>⟨_,rfl⟩
  simp only[au6] at e;have h1:=me (s:=r.2) (w:=[44]) ag e.2;have h2:=iV (hq a s r hr);exact Dd he hq k _ _ ah ah
def vA{α:Type}{elem:α->PS->Option (α × PS)}{fin:ay}{M:Nat}(he:∀ a s,mu tk s<=M->∃ r,elem a s=some r)(hq:∀ a s r,elem a s=some r->Lq tk s r.2){a:α}{s:PS}(hM:mu tk s<=M)(hk:mu tk s+1<=k) :
  ∃ r,nB (aq tk) elem fin k a s=some r:=by
 unfold nB;exact cZ (fun _=>⟨_,rfl⟩) fun _=>Dd he hq k a s hM hk
section
variable {E B:EP}{M:Nat}
def rT(hE:um tk E M){s:PS}(h:mu tk s<=M):∃ r,rm E ks s=some r:=jH (hE s h)
def nI(hE:um tk E M)(hw:w≠[]){s:PS}(h:mu tk s<=M):∃ r,nG (aq tk) E w ks s=some r:=by
 unfold nG;refine cZ (fun _=>⟨_,rfl⟩) fun _=>rT hE ?_
 have:=iV (bP (tk:=tk) (s:=s) hw)
 omega
def QH(hE:um tk E M){a:List ay × List Tm}{s:PS}(h:mu tk s<=M):∃ r,Ag (aq tk) E a s=some r:=by
 unfold Ag;refine jH (rT hE ?_);have:=iV ((dP (tk:=tk) (s:=s)).tr (bP (w:=[61]) ag))
 omega
def PZ(hE:um tk E M)(gE:gZ tk E){s:PS}(hB:∃ r,B s=some r)(hM:mu tk s<=M+1):∃ r,qG (aq tk) E B s=some r:=by
 unfold qG;refine cZ (fun e=>?_) fun _=>cZ (fun e=>?_) fun _=>cZ (fun e=>?_) fun _=>hB
 ·have h1:=me aI e
  refine jS (rT hE ah) fun a ha=>jS (nI hE aI ?_) fun b hb=>jH (nI hE aI ?_)
  ·have:=iV (jh gE ha);omega
  ·have:=iV ((jh gE ha).tr (gG gE aI hb));omega
 ·have h1:=me aI e
  have h2:=iV (dP (tk:=tk) (s:=s.up));refine jS (nI hE ag ah) fun a ha=>jH (nI hE aI ?_)
  have:=iV (gG gE ag ha);omega
 ·have h1:=me aI e
  have h2:=iV (Kg (tk:=tk) (s:=s.up));refine jS (nI hE ag ah) fun a ha=>jS (nI hE aI ?_) fun b hb=>jH (nI hE aI ?_)
  ·have:=iV (gG gE ag ha);omega
  ·have:=iV ((gG gE ag ha).tr (gG gE aI hb));omega
def A7(hE:um tk E M)(gE:gZ tk E):∀ (k:Nat) (a:List ay × List Tm) (s:PS),mu tk s<=M->mu tk s+1<=k->∃ r,nJ (aq tk) E k a s=some r
 | 0,a,s,_,h=>ah
 | k+1,a,s,hM,h=>by
  unfold nJ;have hl:=(dP (tk:=tk) (s:=s)).tr (dP.tr (bP (w:=[45,62]) ag));have h0:=iV hl;refine jS (hE _ ah) fun r hr=>cZ (fun e=>?_) fun _=>⟨_,rfl⟩
  simp only[au6] at e;have h1:=me (s:=r.2) (w:=[44]) ag e.2;have h2:=iV (gE _ _ hr);exact A7 hE gE k _ _ ah ah
def MM(hE:um tk E M)(gE:gZ tk E){n:Nat}{s:PS}(hM:mu tk s<=M)(hn:mu tk s+1<=n):∃ r,oC (aq tk) n E s=some r:=by
 unfold oC;have hl:=(j9 (tk:=tk) (s:=s)).tr (bP (w:=[40]) ag);have h0:=iV hl;refine jS (hE _ ah) fun r hr=>jH (A7 hE gE n _ _ ?_ ?_)
 all_goals
  have:=iV ((gE _ _ hr).tr ((bP (w:=[41]) ag).tr (bP (w:=[123]) ag)))
  omega
def Ko(hE:um tk E M){nm:ay}{s:PS}(hM:mu tk s<=M):∃ r,pX (aq tk) E nm s=some r:=by
 unfold pX;have h0:=iV (dP (tk:=tk) (s:=s));refine cZ (fun e=>jH (hE _ ?_)) fun _=>jH (hE _ ?_)
 ·have:=me (s:=(aF (aq tk) s).2) (w:=[91]) ag e;omega
 ·have:=iV (bP (tk:=tk) (s:=(aF (aq tk) s).2) (w:=[40]) ag);omega
def MQ(hE:um tk E M)(gE:gZ tk E){n:Nat}{s:PS}(hM:mu tk s<=M+1)(hn:mu tk s<=n):∃ r,mZ (aq tk) n E s=some r:=by
 unfold mZ;have h0:=iV (j9 (tk:=tk) (s:=s));simp only;refine cZ (fun e=>?_) fun _=>cZ (fun e=>?_) fun _=>cZ (fun e=>?_) fun _=>cZ (fun _=>⟨_,rfl⟩) fun _=>⟨_,rfl⟩
 ·have h1:=me (s:=(aU (aq tk) s).2) (w:=[40]) ag e
  exact jH (vA (M:=M) (fun a s' h=>rT hE h) (fun a s' r h=>jh gE h) ah ah)
 ·have h1:=me (s:=(aU (aq tk) s).2) (w:=[123]) ag e
  exact jH (vA (M:=M) (fun a s' h=>QH hE h) (fun a s' r h=>y6 gE h) ah ah)
 ·have h1:=me (s:=(aU (aq tk) s).2) (w:=[58]) ag e
  exact Ko hE ah
def Po(hE:um tk E M)(gE:gZ tk E){n:Nat}{s:PS}(hM:mu tk s<=M+1)(hn:mu tk s<=n):∃ r,mS (aq tk) n E s=some r:=by
 unfold mS;refine cZ (fun _=>⟨_,rfl⟩) fun _=>cZ (fun _=>⟨_,rfl⟩) fun _=>cZ (fun _=>⟨_,rfl⟩) fun _=>cZ (fun _=>⟨_,rfl⟩) fun _=>cZ (fun e=>?_) fun _=>cZ (fun e=>?_) fun _=>cZ (fun e=>?_) fun _=>MQ hE gE hM hn
 ·have h1:=me (s:=s) (w:=[40]) ag e
  exact jH (hE _ ah)
 ·have h1:=me aI e
  have h2:=iV (bP (tk:=tk) (s:=s.up) (w:=[40]) ag);refine jS (jH (vW n _ ah)) fun w hw=>jH (vA (M:=M) (fun a s' h=>rT hE h) (fun a s' r h=>jh gE h) ?_ ?_)
  all_goals
   have:=iV ((xB hw).tr (bP (w:=[91]) ag))
   omega
 ·have h1:=me aI e
  exact MM hE gE ah ah
def FQ(hB:um tk B M)(gB:gZ tk B){lv:Int} : ∀ (k:Nat) (t:Tm) (s:PS),mu tk s<=M+1->mu tk s+1<=k->∃ r,uz (aq tk) B lv k t s=some r
 | 0,t,s,_,h=>ah
 | k+1,t,s,hM,h=>by
  unfold uz;refine cZ (fun _=>⟨_,rfl⟩) fun hb=>?_
  split
  ·exact⟨_,rfl⟩
  ·rename_i o l ho
   refine cZ (fun _=>?_) fun _=>⟨_,rfl⟩
   have dk:pk (aq tk) s≠[]:=by
    intro e;rw[e] at ho;have:By []=none:=aI
    rw[this] at ho;cases ho
   have h1:=me (tk:=tk) (s:=s) (w:=pk (aq tk) s) dk ag;refine jS (hB _ ah) fun r hr=>cZ (fun _=>⟨_,rfl⟩) fun _=>?_
   have h2:=iV (gB _ _ hr);exact FQ hB gB k _ _ ah ah
end
def M0{n l:Nat}{s:PS}(h1:1<=l)(h6:l<=6):pE L (n+1) l s=(pE L n (l+1) s).bind fun r=>uz L (pE L n (l+1)) l n r.1 r.2:=by
 have:l=1\/l=2\/l=3\/l=4\/l=5\/l=6:=ah
 rcases this with rfl|rfl|rfl|rfl|rfl|rfl<;>rfl
def tE:∀ (n l:Nat) (s:PS),l<=7->9*mu tk s+(8-l)+1<=n->∃ r,pE (aq tk) n l s=some r
 | 0,l,s,_,h=>ah
 | n+1,l,s,hl,h=>by
  have g0:=iO (tk:=tk) n 0;have ab' : ∀ M,9*M+9<=n->um tk (pE (aq tk) n 0) M:=fun M hM s hs=>tE n 0 s ah ah
  by_cases hl0:l=0
  ·subst hl0
   show ∃ r,qG (aq tk) (pE (aq tk) n 0) (pE (aq tk) n 1) s=some r
   have hB:=tE n 1 s ah ah
   by_cases hz:mu tk s=0
   ·unfold qG
    refine cZ (fun e=>?_) fun _=>cZ (fun e=>?_) fun _=>cZ (fun e=>?_) fun _=>hB
    all_goals
     have:=me aI e
     omega
   ·exact PZ (ab' (mu tk s-1) ah) g0 hB ah
  by_cases hl7:l=7
  ·subst hl7
   show ∃ r,(bif pk (aq tk) s==tP then (pE (aq tk) n 7 s.up).map fun r=>(.mk 4 9 [] [] [] [] [r.1] [],r.2)
    else bif pk (aq tk) s==uq then (pE (aq tk) n 7 s.up).map fun r=>(.mk 4 11 [] [] [] [] [r.1] [],r.2)
    else mS (aq tk) n (pE (aq tk) n 0) s)=some r
   refine cZ (fun e=>?_) fun _=>cZ (fun e=>?_) fun _=>?_
   ·have:=me aI e
    exact jH (tE n 7 _ ah ah)
   ·have:=me aI e
    exact jH (tE n 7 _ ah ah)
   ·by_cases hz:mu tk s=0
    ·have mJ:∀ s',mu tk s'=0->∀ w,w≠[]->(pk (aq tk) s'==w)=true->False:=fun s' h0 w hw e=>by
      have:=me hw e;omega
     unfold mS;refine cZ (fun _=>⟨_,rfl⟩) fun _=>cZ (fun _=>⟨_,rfl⟩) fun _=>cZ (fun _=>⟨_,rfl⟩) fun _=>cZ (fun _=>⟨_,rfl⟩) fun _=>cZ (fun e=>(mJ s hz _ ag e).elim) fun _=>cZ (fun e=>(mJ s hz _ aI e).elim) fun _=>cZ (fun e=>(mJ s hz _ aI e).elim) fun _=>?_
     unfold mZ;simp only;have hq:mu tk (aU (aq tk) s).2=0:=by have:=iV (j9 (tk:=tk) (s:=s));omega
     exact cZ (fun e=>(mJ _ hq _ ag e).elim) fun _=>cZ (fun e=>(mJ _ hq _ ag e).elim) fun _=>cZ (fun e=>(mJ _ hq _ ag e).elim) fun _=>cZ (fun _=>⟨_,rfl⟩) fun _=>⟨_,rfl⟩
    ·exact Po (ab' (mu tk s-1) ah) g0 ah ah
  rw[M0 ah ah];have hB:=tE n (l+1) s ah ah;refine jS hB fun r hr=>?_
  have h2:=iV (iO (tk:=tk) n (l+1) _ _ hr)
  by_cases hz:mu tk s=0
  ·match n,h with
   | 0,h=>omega
   | n+1,h =>
    unfold uz;refine cZ (fun _=>⟨_,rfl⟩) fun hb=>?_
    split
    ·exact⟨_,rfl⟩
    ·rename_i o q ho
     exfalso;have dk:pk (aq tk) r.2≠[]:=by
      intro e;rw[e] at ho;have:By []=none:=aI
      rw[this] at ho;cases ho
     have h1:=me (tk:=tk) (s:=r.2) (w:=pk (aq tk) r.2) dk ag;omega
  ·exact FQ (M:=mu tk s-1) (fun s' wA=>tE n (l+1) s' ah ah) (iO (tk:=tk) n (l+1)) n _ _ ah ah
def Rl{n:Nat}{kd:Int}{a:List Fd}{s:PS}(h:mu tk s+1<=n):∃ r,oP (aq tk) n kd a s=some r:=by
 unfold oP;refine jH (vW n _ ?_);have:=iV (dP (tk:=tk) (s:=s))
 omega
def Qa{n:Nat}{s:PS}(h:9*mu tk s+10<=n):∃ r,pL (aq tk) n (pE (aq tk) n 0) s=some r:=by
 unfold pL;simp only;refine cZ (fun _=>⟨_,rfl⟩) fun hk=>?_
 have BW:pk (aq tk) s≠[]:=by
  intro e;rw[e] at hk;revert hk;decide
 have h1:=me (tk:=tk) (s:=s) (w:=pk (aq tk) s) BW ag;have h2:=iV ((dP (tk:=tk) (s:=s.up)).tr (bP (w:=[40]) ag));refine jS (vA (M:=mu tk s) (fun a s' h'=>Rl ah) (fun a s' r h'=>qP h') ah ah) fun sl qv=>cZ (fun _=>⟨_,rfl⟩) fun _=>?_
 have h3:=iV (mX (tk:=tk) ag (fun a s' r h'=>qP h') qv)
 refine jS (vW n _ ah) fun w hw=>jH (tE n 0 _ ah ?_)
 have h4:=iV ((ji _ _ _ hw).tr (bP (w:=[61]) ag));omega
def G6:∀ (k:Nat) (us:List ay) (s:PS),mu tk s+1<=k->∃ r,nC (aq tk) k us s=some r
 | 0,_,s,h=>ah
 | k+1,us,s,h=>by
  unfold nC;refine cZ (fun e=>?_) fun _=>⟨_,rfl⟩
  simp only[au6] at e;have h1:=me aI e.2;have h2:=iV (dP (tk:=tk) (s:=s.up));exact G6 k _ _ ah
def F3{n:Nat} : ∀ (k:Nat) (a:List Fm × List Nat) (s:PS),mu tk s+1<=k->9*mu tk s+10<=n->∃ r,lS (aq tk) n k a s=some r
 | 0,_,s,h,_=>ah
 | k+1,a,s,h,hn=>by
  unfold lS;refine cZ (fun e=>jS (Qa hn) fun r hr=>?_) fun _=>⟨_,rfl⟩
  simp only[au6,avo] at e;have kL:(aq tk).length=tk.length:=by simp[aq]
  have aZ:s.i<tk.length:=by have:=e.2;rw[kL,avn] at this;exact this
  have hm:mu tk r.2+1<=mu tk s:=by
   unfold mu;rw[e.1];cases hb:r.2.bad with
   | true=>simp only[cond_true,cond_false];omega
   | false=>have:=N' hr hb;simp only[cond_false];omega
  exact F3 k _ _ ah ah
theorem tB:∀ (k:Nat) (us:List ay) (s:PS) (r:List ay × PS),nC (aq tk) k us s=some r->Lq tk s r.2
 | 0,_,_,_,h=>by cases h
 | k+1,us,s,r,h=>by
  unfold nC at h;cases hc:(!s.bad&&(pk (aq tk) s==rC)) with
  | false =>
   grind [Lq.ZO]
  | true =>
   rw[hc,cond_true] at h;simp only[au6] at hc;exact (kH aI hc.2).tr (dP.tr (tB k _ _ r h))
def Q3{n:Nat}(h:9*tk.length+10<=n):∃ r,oo (aq tk) n=some r:=by
 unfold oo;have h0:=iV ((bP (tk:=tk) (s:=⟨0,false⟩) (w:=gH) aI).tr dP);have h1:mu tk ⟨0,false⟩=tk.length:=rfl;refine jS (G6 n _ _ ah) fun u hu=>jH (F3 n _ _ ?_ ?_)
 all_goals
  have:Lq tk (aF (aq tk) (aQ (aq tk) gH ⟨0,false⟩)).2 u.2:=tB _ _ _ _ hu
  have:=iV this
  omega
def M4{n:Nat}{s:ay}(h:73738<=n):∃ r,p7 n s=some r:=by
 unfold p7;split
 ·rename_i og
  obtain⟨_,_,h2,_⟩:=vR og;exact jH (Q3 ah)
 ·exact⟨_,rfl⟩
end
end
section
theorem GW(k:Int):∀ r:ay,cV k r=r.length->∀ b∈r,b.toNat≠46
 | [],_,b,hb=>by cases hb
 | c :: r,h,b,hb=>by
  have hle:=qi k r;simp only[cV,List.length_cons] at h;split at h
  ·rename_i hc
   rcases avs.1 hb with rfl|hb
   ·intro e
    have e2:b=46:=UInt8.toNat_inj.1 e;subst e2;revert hc;rw[show kindOf 46=0 from by decide]
    omega
   ·exact GW k r ah b hb
  ·omega
theorem tN(h:isWord w=true):∀ b∈w,b.toNat≠46:=by
 cases w with
 | nil=>intro b hb;cases hb
 | cons a r =>
  simp only[isWord,au6,avf] at h;obtain⟨⟨h1,_⟩,h2⟩:=h;have e:gI (a :: r)=if 0<kindOf a then (if 16<1+cV (kindOf a) r then 0 else 1+cV (kindOf a) r) else if 1<=r.length/\lj ((a :: r).take 2)=true then 2 else if lj [a]=true then 1 else 0:=rfl
  rw[e,if_pos ah] at h2;split at h2
  ·simp at h2
  ·intro b hb
   rcases avs.1 hb with rfl|hb
   ·intro e
    have e2:b=46:=UInt8.toNat_inj.1 e;subst e2;rw[show kindOf 46=0 from by decide] at h1
    omega
   ·grind [GW]
def uJ:∀ {w:ay},(∀ b∈w,b.toNat≠46)->aX w=(w,[],false)
 | [],_=>rfl
 | b :: r,h=>by
  have h1:=uJ (w:=r) fun x hx=>h x (zo hx)
  rw[aX,if_neg (h b ag),h1]
theorem zX:∀ {w v:ay},(∀ b∈w,b.toNat≠46)->aX (w++46 :: v)=(w,v,true)
 | [],v,_=>by rw[avO,aX,if_pos aI]
 | b :: r,v,h=>by
  have h1:=zX (w:=r) (v:=v) fun x hx=>h x (zo hx)
  rw[avK,aX,if_neg (h b ag),h1]
def Q1(h:isWord w=true):gA w=true:=by
 unfold gA;rw[uJ (tN h)];simp[h]
theorem VB{v:ay}(h:isWord w=true)(h2:isWord v=true):gA (w++46 :: v)=true:=by
 unfold gA
 grind [zX,tN]
section
variable {tk:List Tk}
theorem ff{s:PS}(h:(aQ (aq tk) w s).bad=false):s.bad=false/\(pk (aq tk) s==w)=true:=by
 unfold aQ at h;cases hc:(pk (aq tk) s==w) with
 | true=>rw[hc,cond_true] at h;exact⟨h,rfl⟩
 | false=>rw[hc,cond_false] at h;cases h
def IE{s:PS}(h:(aQ (aq tk) w s).bad=false):aQ (aq tk) w s=s.up:=by
 have:=(ff h).2
 unfold aQ;rw[this,cond_true]
def WC{s:PS}(h:(aQ (aq tk) w s).bad=false):(aQ (aq tk) w s).i=s.i+1:=by rw[IE h];rfl
def Vb{s:PS}(h:(aF (aq tk) s).2.bad=false):(aF (aq tk) s).2.i=s.i+1:=by
 unfold aF at h ⊢;cases hc:isWord (pk (aq tk) s) with
 | true=>rfl
 | false=>rw[hc,cond_false] at h;cases h
def ajy{s:PS}(h:(gR (aq tk) least s).2.bad=false):(gR (aq tk) least s).2.i=s.i+1:=by
 unfold gR at h ⊢;cases hc:decide (dD (pk (aq tk) s)<least) with
 | true=>rw[hc,cond_true] at h;cases h
 | false=>rfl
def ig{s:PS}(h:(aF (aq tk) s).2.bad=false):s.bad=false/\isWord (aF (aq tk) s).1=true/\(aF (aq tk) s).1=pk (aq tk) s:=by
 unfold aF at h ⊢;cases hc:isWord (pk (aq tk) s) with
 | true=>rw[hc,cond_true] at h;exact⟨h,hc,rfl⟩
 | false=>rw[hc,cond_false] at h;cases h
theorem Ib{s:PS}(h1:0<=least)(h:(gR (aq tk) least s).2.bad=false):least<=(gR (aq tk) least s).1/\(gR (aq tk) least s).1<=1099511627776:=by
 unfold gR at h ⊢;cases hc:decide (dD (pk (aq tk) s)<least) with
 | true=>rw[hc,cond_true] at h;cases h
 | false =>
  simp only[cond_false];refine⟨cY hc,?_⟩;unfold dD
  grind
def zi{s:PS}(h:(aU (aq tk) s).2.bad=false):gA (aU (aq tk) s).1=true:=by
 unfold aU at h ⊢;cases hc:(!(aF (aq tk) s).2.bad&&(pk (aq tk) (aF (aq tk) s).2==[46])) with
 | false =>
  rw[hc,cond_false] at h;simp only[cond_false];exact Q1 (ig h).2.1
 | true =>
  rw[hc,cond_true] at h;simp only[cond_true];simp only at h;simp only[au6,avo] at hc;exact VB (ig hc.1).2.1 (ig h).2.1
theorem B8:∀ (n:Nat) (s:PS) (r:Wd × PS),nE (aq tk) n s=some r->r.2.bad=false->bY r.1=true
 | 0,_,_,h,_=>by cases h
 | n+1,s,r,h,hb=>by
  unfold nE at h;cases h1:(pk (aq tk) s==xX) with
  | true=>rw[h1,cond_true,au4] at h;subst h;exact (by decide:bY (.mk xX [])=true)
  | false =>
   rw[h1,cond_false] at h;cases h2:(pk (aq tk) s==sH) with
   | true=>rw[h2,cond_true,au4] at h;subst h;exact (by decide:bY (.mk sH [])=true)
   | false =>
    rw[h2,cond_false] at h;cases h3:(pk (aq tk) s==iN) with
    | true =>
     rw[h3,cond_true,au2] at h;obtain⟨q,hq,rfl⟩:=h;have:=B8 n _ q hq (ff hb).1
     show (if iN=cR then bY q.1 else false)=true
     rw[if_pos aI];exact this
    | false =>
     rw[h3,cond_false,au4] at h;subst h;have hq:=zi hb;have hl:(aU (aq tk) s).1≠cR:=by
      intro e;rw[e] at hq;revert hq;decide
     show (if (aU (aq tk) s).1=cR then false else _)=true
     grind
theorem L0{n:Nat}{s:PS}{r:Wd × PS}(h:jD (aq tk) n s=some r)(hb:r.2.bad=false):bY r.1=true:=by
 unfold jD at h;rw[au2] at h;obtain⟨q,hq,rfl⟩:=h
 grind [B8,ff]
section
variable {α:Type}{elem:α->PS->Option (α × PS)}{fin:ay}{P Q F:α->PS->Prop}(he:∀ a s r,elem a s=some r->r.2.bad=false->P a s->Q r.1 r.2)(Ov:∀ a s,Q a s->P a s.up)(hF:∀ a s,Q a s->F a s.up)(iS:∀ a s r,elem a s=some r->s.bad=true->r.2.bad=true)
include he Ov hF iS
end
def OC(p:List ay × Int){k:Int}(h:k<=p.2):fT p k=p.1:=by unfold fT;rw[if_neg ah]
section
variable {E B:EP}
end
end
end
section
abbrev lp:ay:=[40]
def FM(a w:List ay):Prop:=a=w\/∃ p x c y,a=p++lp :: x/\w=p++c :: y/\c≠lp
def FM.cons{w:List ay}(c:ay):FM a w->FM (c :: a) (c :: w)
 | .inl h=>.inl (by rw[h])
 | .inr ⟨p,x,d,y,h1,h2,h3⟩=>.inr ⟨c :: p,x,d,y,by rw[h1];rfl,by rw[h2];rfl,h3⟩
def FM.app{w v:List ay} : FM a w->FM b v->FM (a++b) (w++v)
 | .inl h,.inl k=>.inl (by rw[h,k])
 | .inl h,.inr ⟨p,x,d,y,h1,h2,h3⟩=>.inr ⟨a++p,x,d,y,by rw[h1,avj],by rw[h2,h,avj],h3⟩
 | .inr ⟨p,x,d,y,h1,h2,h3⟩,_=>.inr ⟨p,x++b,d,y++v,by rw[h1];simp,by rw[h2];simp,h3⟩
def FM.Wx{w:List ay} : FM a (lp :: w)->∃ b,a=lp :: b/\FM b w
 | .inl h=>⟨w,h,.inl rfl⟩
 | .inr ⟨[],x,d,y,h1,h2,h3⟩=>absurd (awS h2).1.symm h3
 | .inr ⟨q :: p,x,d,y,h1,h2,h3⟩=>⟨p++lp :: x,by rw[h1,<- (awS h2).1];rfl,.inr ⟨p,x,d,y,rfl,(awS h2).2,h3⟩⟩
def NP(w:List ay):Prop:=∃ d∈w,d≠lp
def FM.par:∀ {w u a:List ay},FM a (w++u)->NP w->FM (lp :: a) w
 | [],_,_,_,h=>by obtain⟨d,h,_⟩:=h;cases h
 | c :: w,u,a,h,hn=>by
  by_cases hc:c=lp
  ·subst hc
   obtain⟨b,rfl,hb⟩:=h.Wx;refine (hb.par ?_).cons _;obtain⟨d,hd,dk⟩:=hn
   rcases avs.1 hd with rfl|hd
   ·exact absurd rfl dk
   ·exact⟨d,hd,dk⟩
  ·exact .inr ⟨[],a,c,w,rfl,rfl,hc⟩
def NP.l(h:NP a):NP (a++b):=by obtain⟨d,h,k⟩:=h;exact⟨d,au'.2 (.inl h),k⟩
def NP.r(h:NP b):NP (a++b):=by obtain⟨d,h,k⟩:=h;exact⟨d,au'.2 (.inr h),k⟩
def NP.c{c:ay}(h:c≠lp):NP (c :: b):=⟨c,List.mem_cons_self,h⟩
section
variable {tk:List Tk}
def Wb(tk:List Tk)(i j:Nat):List ay:=((aq tk).take j).drop i
def OZ(h1:i<=j)(h2:j<=k):Wb tk i j++Wb tk j k=Wb tk i k:=by
 unfold Wb;rw[show (aq tk).take j=((aq tk).take k).take j by rw[axL,axo h2]]
 generalize (aq tk).take k=l
 rcases Nat.le_total j l.length with h|h
 ·rw[<- aws (by simp;omega),awa]
 ·rw[List.take_of_length_le h,List.drop_eq_nil_of_le h,List.append_nil]
def Wc : Wb tk i i=[]:=by unfold Wb;simp
structure Rd (tk:List Tk) (i:Nat) (w:List ay) (j:Nat):Prop where
 le:w.length+i<=j
 fm:FM (Wb tk i j) w
def Rd.nil : Rd tk i [] i:=⟨by simp,.inl Wc⟩
def Rd.app(h1:Rd tk i a j)(h2:Rd tk j b k):Rd tk i (a++b) k :=
 ⟨by have:=h1.le;have:=h2.le;rw[List.length_append];omega,by
  rw[<- OZ (j:=j) (by have:=h1.le;omega) (by have:=h2.le;omega)];exact h1.fm.app h2.fm⟩
def Rd.tok{s:PS}(hb:s.bad=false)(h:(pk (aq tk) s==w)=true)(hw:w≠[]):Rd tk s.i [w] (s.i+1):=by
 have h:pk (aq tk) s=w:=eq_of_beq h;unfold pk at h;rw[hb,cond_false] at h;refine⟨by simp;omega,.inl ?_⟩
 have hl:s.i<(aq tk).length:=by
  rcases awQ s.i (aq tk).length with k|k
  ·exact k
  ·rw[List.getD_eq_getElem?_getD,List.getElem?_eq_none k] at h
   exact absurd h.symm hw
 unfold Wb;rw[List.take_succ_eq_append_getElem hl,aws (by simp;omega),List.drop_eq_nil_of_le (by simp;omega),avO]
 rw[List.getD_eq_getElem?_getD,au5 hl] at h;rw[<- h];rfl
def Rd.want{s:PS}(hw:w≠[])(h:(aQ (aq tk) w s).bad=false):Rd tk s.i [w] (aQ (aq tk) w s).i:=by
 rw[WC h];exact Rd.tok (ff h).1 (ff h).2 hw
def aaq(h:isWord w=true):w≠[]:=fun e=>by subst e;exact absurd h (by decide)
def Rd.name{s:PS}(h:(aF (aq tk) s).2.bad=false):Rd tk s.i [(aF (aq tk) s).1] (aF (aq tk) s).2.i:=by
 obtain⟨h1,h2,h3⟩:=ig h;rw[Vb h];exact Rd.tok h1 (by rw[h3];simp) (aaq h2)
def Rd.par{w:List ay}{p:ay}(h1:Rd tk i [lp] (i+1))(h:Rd tk (i+1) w j)(h2:Rd tk j [p] (j+1))(hn:NP w):Rd tk i w (j+1):=by
 have h3:=h.app h2;refine⟨by have:=h.le;omega,?_⟩
 rw[<- OZ (j:=i+1) (by omega) (by have:=h3.le;omega)]
 have e:Wb tk i (i+1)=[lp]:=by
  rcases h1.fm with e|⟨p,x,c,y,e1,e2,e3⟩
  ·exact e
  ·match p with
   | []=>exact absurd (awS e2).1.symm e3
   | q :: p=>have:=awt List.length e2;simp at this
 rw[e];exact h3.fm.par hn
def Rd.akH{w:List ay}{p:ay}(h:Rd tk i ([lp]++w++[p]) j)(hn:NP w):Rd tk i w j:=by
 refine⟨by have:=h.le;simp only[List.length_append,List.length_cons,List.length_nil] at this;omega,?_⟩
 obtain⟨b,e,hb⟩:=FM.Wx (show FM (Wb tk i j) (lp :: (w++[p])) from by have:=h.fm;simpa using this)
 rw[e];exact hb.par hn
def Rd.QG{p:List ay × Int}{k l:Int}(h:Rd tk i (fT p l) j)(hk:k<=l)(hn:NP p.1):Rd tk i (fT p k) j:=by
 unfold fT at *
 by_cases h1:p.2<k
 ·rw[if_pos h1];rwa [if_pos (by omega)] at h
 ·rw[if_neg h1]
  by_cases h2:p.2<l
  ·rw[if_pos h2] at h;exact h.akH hn
  ·rwa [if_neg h2] at h
def tF{s:PS}(h:(aU (aq tk) s).2.bad=false):Rd tk s.i (aL (aU (aq tk) s).1) (aU (aq tk) s).2.i:=by
 unfold aU at h ⊢;cases hc:(!(aF (aq tk) s).2.bad&&(pk (aq tk) (aF (aq tk) s).2==[46])) with
 | false =>
  rw[hc,cond_false] at h;simp only[cond_false];unfold aL;rw[uJ (tN (ig h).2.1),if_neg (by simp)]
  exact Rd.name h
 | true =>
  rw[hc,cond_true] at h;simp only[cond_true];simp only at h;simp only[au6,avo] at hc;unfold aL;rw[zX (tN (ig hc.1).2.1)];exact (Rd.name hc.1).app ((Rd.tok (w:=[46]) hc.1 hc.2 (by simp)).app (Rd.name h))
def KH(h:gA q=true):NP (aL q):=by
 unfold gA at h;simp only[au6] at h;have:(aX q).1≠lp:=fun e=>by rw[e] at h;exact absurd h.1 (by decide)
 unfold aL;split<;>exact .c this
def aat(h:gA q=true):bW (.mk q [])=aL q:=by
 rw[bW]
 ·split
  ·rename_i e
   rcases e with rfl|rfl<;>decide
  ·rfl
 ·simp
def D1:∀ (n:Nat) (s:PS) (r:Wd × PS),nE (aq tk) n s=some r->r.2.bad=false->Rd tk s.i (bW r.1) r.2.i
 | 0,_,_,h,_=>by cases h
 | n+1,s,r,h,hb=>by
  unfold nE at h;cases h1:(pk (aq tk) s==xX) with
  | true =>
   rw[h1,cond_true,au4] at h;subst h;exact Rd.tok hb h1 aI
  | false =>
   rw[h1,cond_false] at h;cases h2:(pk (aq tk) s==sH) with
   | true =>
    rw[h2,cond_true,au4] at h;subst h;exact Rd.tok hb h2 aI
   | false =>
    rw[h2,cond_false] at h;cases h3:(pk (aq tk) s==iN) with
    | true =>
     rw[h3,cond_true,au2] at h;obtain⟨q,hq,rfl⟩:=h;have CW:=(ff hb).1;have Gp:(aQ (aq tk) [40] s.up).bad=false:=by
      cases hx:(aQ (aq tk) [40] s.up).bad with
      | false=>rfl
      | true=>rw[(ji _ _ _ hq).bad hx] at CW;cases CW
     have ew:bW (.mk iN [q.1])=([iN]++[[40]])++bW q.1++[[41]]:=by rw[bW,if_pos aI];rfl
     show Rd tk s.i (bW (.mk iN [q.1])) _
     rw[ew];exact (((Rd.tok (s:=s) (w:=iN) (ff Gp).1 h3 aI).app (Rd.want aI Gp)).app (D1 n _ q hq CW)).app (Rd.want aI hb)
    | false =>
     rw[h3,cond_false,au4] at h;subst h
     show Rd tk s.i (bW (.mk _ [])) _
     rw[aat (zi hb)];exact tF hb
def PH{n:Nat}{s:PS}{r:Wd × PS}(h:jD (aq tk) n s=some r)(hb:r.2.bad=false):Rd tk s.i ([[40]]++bW r.1++[[41]]) r.2.i:=by
 unfold jD at h;rw[au2] at h;obtain⟨q,hq,rfl⟩:=h;have CW:=(ff hb).1;have Gp:(aQ (aq tk) [40] s).bad=false:=by
  cases hx:(aQ (aq tk) [40] s).bad with
  | false=>rfl
  | true=>rw[(ji _ _ _ hq).bad hx] at CW;cases CW
 exact ((Rd.want aI Gp).app (D1 n _ q hq CW)).app (Rd.want aI hb)
section
variable {α:Type}{elem:α->PS->Option (α × PS)}{fin:ay}{P Q F:α->PS->Prop}(he:∀ a s r,elem a s=some r->r.2.bad=false->P a s->Q r.1 r.2)(Ov:∀ a s,Rd tk s.i [[44]] s.up.i->Q a s->P a s.up)(hF:∀ a s,Rd tk s.i [fin] s.up.i->Q a s->F a s.up)(iS:∀ a s r,elem a s=some r->s.bad=true->r.2.bad=true)(jW:fin≠[])
include he Ov hF iS jW
theorem OG:∀ (k:Nat) (a:α) (s:PS) (r:α × PS),qO (aq tk) elem fin k a s=some r->r.2.bad=false->P a s->F r.1 r.2/\s.bad=false
 | 0,_,_,_,h,_,_=>by cases h
 | k+1,a,s,r,h,hb,hP=>by
  unfold qO at h;rw[au3] at h;obtain⟨q,hq,h⟩:=h;have hs:q.2.bad=false->s.bad=false:=fun h=>by
   grind
  cases hc:(!q.2.bad&&(pk (aq tk) q.2==[44])) with
  | true =>
   rw[hc,cond_true] at h;simp only[au6,avo] at hc;exact⟨(OG k _ _ r h hb (Ov _ _ (Rd.tok hc.1 hc.2 aI) (he a s q hq hc.1 hP))).1,hs hc.1⟩
  | false =>
   rw[hc,cond_false,au4] at h;subst h;cases hq2:q.2.bad with
   | true=>rw[hq2] at hb;simp only[cond_true] at hb;rw[hq2] at hb;cases hb
   | false =>
    rw[hq2] at hb;simp only[cond_false] at hb ⊢;refine⟨?_,hs hq2⟩;rw[IE hb];exact hF _ _ (by have:=Rd.want (tk:=tk) jW hb;rwa [IE hb] at this) (he a s q hq hq2 hP)
def aeL{a:α}{s:PS}{r:α × PS}(h:nB (aq tk) elem fin k a s=some r)(hb:r.2.bad=false)(hP:P a s)(h0:Rd tk s.i [fin] s.up.i->F a s.up):F r.1 r.2/\s.bad=false:=by
 unfold nB at h;cases hc:(pk (aq tk) s==fin) with
 | true =>
  rw[hc,cond_true,au4] at h;subst h;exact⟨h0 (Rd.tok hb hc jW),hb⟩
 | false =>
  rw[hc,cond_false] at h;exact OG he Ov hF iS jW k a s r h hb hP
end
end
end
end Go.Proofs.YtbadnagdfefbnaaGreatDoor
end
