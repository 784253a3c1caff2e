/-
  A part of the proof of SyntaxTokens: T59, T60, AbsIr3, T61, T62, AbsOKT.
-/
import Derived.KernelRfl
import Derived.Test.YtbdhkgiakaegdaaGreatDoorP22
set_option linter.unusedSimpArgs false
set_option linter.unusedVariables false
set_option linter.defProp false
set_option maxHeartbeats 4000000
set_option maxRecDepth 100000
namespace Go.Proofs.YtbdhkgiakaegdaaGreatDoor
open Go Go.Abs Go.Proofs
theorem zero_eq(n:cd)(ks:List Wd)(t:Tm):(nM n ks&&gR t)=((n==[])&&(((ks.length:Int)==0)&&((t.kind==0)&&(bt t&&(t.n==0))))):=by
 have h1:((ks.length:Int)==0)=ks.isEmpty:=by cases ks<;>simp;omega
 rw[h1]
 unfold nM gR
 cases hk:(t.kind==0) with
 | false=>simp
 | true =>
  have e:t.kind=0:=by simpa using hk
  have hu:bt t=((t.name==[])&&((t.field==[])&&(nM t.wn t.wk&&((t.names==[])&&t.kids.isEmpty)))):=by
   unfold bt
   rw[e,show fA 0=[110] from rfl]
   simp only[mZ,show cC [110] 110=false from rfl,show cC [110] 97=true from rfl,show cC [110] 102=true from rfl,show cC [110] 116=true from rfl,show cC [110] 107=true from rfl,show cC [110] 115=true from rfl,nM]
   cases t.name==[]<;>cases t.field==[]<;>cases t.wn==[]<;>cases t.wk<;>cases t.names<;>cases t.kids<;>simp
  rw[hu]
  cases (n==[])<;>cases ks.isEmpty<;>cases (t.n==0)<;>simp
theorem ael:A.aZ 0=[.slice (strs pS) false]:=rfl
theorem NP{f:Fm}(hb:KN f)(H:ai):aE A 6 [.agg (gb f)] H=some (.slice (strs (vg f)) true,none):=by
 rw[gb]
 obtain⟨K,hK⟩:∃ K,K=H++[.box 47 [.int .i64 f.kind,.str f.name,.slice (f.aW.map fu) false,.str f.rn,.slice (ax f.rk) false,.int .i64 f.body.kind,.int .i64 f.body.n,.str f.body.name,.str f.body.field,.str f.body.wn,.slice (ax f.body.wk) false,.slice (ar f.body.kids) false,.slice (strs f.body.names) false,.slice (strs f.layout) false],.box 74 [.af,.bool false]]:=⟨_,rfl⟩
 obtain⟨mm,MX⟩:∃ mm,mm=H.length+1:=⟨_,rfl⟩
 have hKl:K.length=H.length+2:=by rw[hK];simp
 have hP:PW mm K:=⟨by omega,fun j cs hj=>by
  rw[hK,MX] at *
  intro e
  rw[aou (by omega)] at e
  match vS:j-H.length with
  | 0=>omega
  | 1=>rw[vS] at e;cases e
  | n+2=>rw[vS] at e;simp at e⟩
 have h0:K[mm]?=some (.box 74 [.af,.bool false]):=by rw[hK,MX];exact h2b
 obtain⟨k0,k5⟩:=hb.k
 obtain⟨kn,hkn⟩:∃ kn,kn=pS.getD f.kind.toNat []:=⟨_,rfl⟩
 have aaQ:(strs pS)[f.kind.toNat]?=some [.str kn]:=by rw[hkn];exact pt (by show f.kind.toNat<6;omega)
 have ef:=RZ hP [kn] (by simp) h0
 rw[tU] at ef
 obtain⟨l1,e1,t1,n1⟩:=jh hP f.name (by have:=hb.a;omega) [kn] false (by simp)
 simp only[an0,an1,aog] at e1 t1 n1
 obtain⟨l2,e2,t2,n2⟩:=fL hP [[40]] (by simp) l1 (!isWord f.name) (by simp only[an0,an1];omega)
 simp only[an0,an1] at n2
 rw[pg,tU] at e2
 rw[pg] at t2
 have dA:∀ l b,(cE mm l b K)[H.length]?=some (.box 47 [.int .i64 f.kind,.str f.name,.slice (f.aW.map fu) false,.str f.rn,.slice (ax f.rk) false,.int .i64 f.body.kind,.int .i64 f.body.n,.str f.body.name,.str f.body.field,.str f.body.wn,.slice (ax f.body.wk) false,.slice (ar f.body.kids) false,.slice (strs f.body.names) false,.slice (strs f.layout) false]):=fun l b=>by rw[hK,MX];exact LU
 have GL:∀ l b,(cE mm l b K).take H.length=H:=fun l b=>by rw[hK,MX];exact B8
 have JM:∀ l b x,((cE mm l b K).set mm x).take H.length=H:=fun l b x=>by rw[hK,MX];exact Ab
 have jL:decide (mm<H.length)=false:=by simp;omega
 have hw0:=fun l b=>fG (l:=l) (b:=b) hP
 unfold lq at hw0
 have tV:=hb.sl
 have sj:([kn,f.name,[40]]:List cd)=[kn]++[f.name]++[[40]]:=rfl
 have fta:qf f=[kn,f.name,[40]]++aR (f.aW.map (dk f.kind))++[[41]]++(if f.kind=0\/f.kind=1 then [] else fe (.mk f.rn f.rk)++[[61]]++av f.body):=by unfold qf;rw[hkn]
 refine aD (fn:=J0) rfl rfl rfl ?_
 refine iz 5 (fun st=>∃ T g,st=⟨T,cE mm l2 (!isWord f.name) K,H.length,g⟩/\T 1=.ref H.length 0/\T 3=.ref mm 0) ?_ ?_
 ·unfold J0
  simp only[bq.pre]
  have hKs:H++[cJ.box 47 [.int .i64 f.kind,.str f.name,.slice (f.aW.map fu) false,.str f.rn,.slice (ax f.rk) false,.int .i64 f.body.kind,.int .i64 f.body.n,.str f.body.name,.str f.body.field,.str f.body.wn,.slice (ax f.body.wk) false,.slice (ar f.body.kids) false,.slice (strs f.body.names) false,.slice (strs f.layout) false],.box 74 [.af,.bool false]]=K:=hK.symm
  have aaU:H.length+1=mm:=MX.symm
  have hab:=gy (H:=H) (o:=.box 47 [.int .i64 f.kind,.str f.name,.slice (f.aW.map fu) false,.str f.rn,.slice (ax f.rk) false,.int .i64 f.body.kind,.int .i64 f.body.n,.str f.body.name,.str f.body.field,.str f.body.wn,.slice (ax f.body.wk) false,.slice (ar f.body.kids) false,.slice (strs f.body.names) false,.slice (strs f.layout) false])
  generalize (!isWord f.name)=b1 at *
  simp(disch:=omega)only[aY,aa,simprocAttr,cF,hab,Hg,aaU,hKs,ael,aaQ,ef,e1,e2,dA,jL,az,an6,an5,anZ,cond_true,aB,ay,an,anW,anX,ab]
  exact⟨_,_,rfl,by simp(disch:=omega)only[aV,aa,simprocAttr],by simp(disch:=omega)only[aV,aa,simprocAttr]⟩
 rintro st ⟨T,g,rfl,q1,q3⟩
 refine iz 0 (fun st=>∃ T g l',st=⟨T,cE mm l' (!(isWord f.name&&f.aW.all (bJ f.kind))) K,H.length,g⟩/\T 1=.ref H.length 0/\T 3=.ref mm 0/\((isWord f.name&&f.aW.all (bJ f.kind))=true->l'=[kn,f.name,[40]]++aR (f.aW.map (dk f.kind)))/\l'.length<=100) ?_ ?_
 ·unfold J0
  simp only[bq.post,bq.pre]
  simp(disch:=omega)only[aY,aa,simprocAttr,q1,q3,dA,iA,az,an6,an5,anZ,cond_true,aB,ay,an,anW,anX,ab]
  refine cK f.aW.length 0 (fun i st=>∃ T g l',st=⟨T,cE mm l' (!(isWord f.name&&(f.aW.take i).all (bJ f.kind))) K,H.length,g⟩/\T 1=.ref H.length 0/\T 3=.ref mm 0/\T 32=.slice (f.aW.map fu) false/\T 33=.int .i64 f.aW.length/\T 34=.int .i64 i/\((isWord f.name&&(f.aW.take i).all (bJ f.kind))=true->l'=[kn,f.name,[40]]++aR ((f.aW.take i).map (dk f.kind)))/\l'.length<=3+16*i)
   (fun st=>∃ T g l',st=⟨T,cE mm l' (!(isWord f.name&&f.aW.all (bJ f.kind))) K,H.length,g⟩/\T 1=.ref H.length 0/\T 3=.ref mm 0/\((isWord f.name&&f.aW.all (bJ f.kind))=true->l'=[kn,f.name,[40]]++aR (f.aW.map (dk f.kind)))/\l'.length<=100) (fun _=>False) ?_ (fun st h=>h) (fun _ h=>h.elim) 0 _ (by omega) ?_
  ·rintro i st hi ⟨T,g,l',rfl,q1,q3,HE,HF,WE,ht,Ak⟩
   by_cases bA:i<f.aW.length
   ·have hx:=an3 bA
    have hm:=aoX bA
    have kU:=iV hx
    generalize f.aW[i]=u at hx hm kU
    have gq:=K' hx
    rw[fu] at gq
    have hu:=hb.sb u hm
    obtain⟨m0,m1⟩:=hu.m
    have lG:(f.aW.take (i+1)).map (dk f.kind)=(f.aW.take i).map (dk f.kind)++[dk f.kind u]:=by rw[kU];simp
    have Ah:∃ bi,bi=!(isWord f.name&&(f.aW.take i).all (bJ f.kind)):=⟨_,rfl⟩
    obtain⟨bi,Ah⟩:=Ah
    have comma:∃ la,(0<i->aE A 21 [.ref mm 0,.slice [[.str [44]]] false] (cE mm l' bi K)=some (.undef,some ⟨cE mm la bi K,mm⟩))/\(i=0->la=l')/\(bi=false->la++dk f.kind u=[kn,f.name,[40]]++aR ((f.aW.take (i+1)).map (dk f.kind)))/\la.length<=l'.length+1:=by
     rw[lG,jO]
     by_cases GJ:i=0
     ·subst GJ
      refine⟨l',fun h=>by omega,fun _=>rfl,fun gO=>?_,by omega⟩
      rw[ht (by rw[Ah] at gO;simpa using gO)]
      simp[aR]
     ·obtain⟨la,ea,ta,na⟩:=fL hP [[44]] (by simp) l' bi (by simp only[an0,an1];omega)
      simp only[an0,an1] at na
      rw[pg,tU] at ea
      rw[pg] at ta
      refine⟨la,fun _=>ea,fun h=>absurd h GJ,fun gO=>?_,na⟩
      rw[ta gO,ht (by rw[Ah] at gO;simpa using gO),if_neg (fun h=>by
       have:=apK List.length h
       rw[aoI,ao2,an1] at this
       omega)]
      simp
    obtain⟨la,ec,Yy,tc,nc⟩:=comma
    obtain⟨lb,eb,tb,nb⟩:=jh hP u.name (by have:=hu.a;omega) la bi (by omega)
    obtain⟨lc,ew,tw,nw⟩:=DZ 3 (.mk u.wn u.wk) (by omega) hu.w mm K hP lb (bi || !isWord u.name) (by omega)
    rw[hN] at ew
    have fq:=fun ok=>fO hP ok lc ((bi || !isWord u.name) || !bk (.mk u.wn u.wk))
    rw[<- Ah]
    have YW:(!(isWord f.name&&(f.aW.take (i+1)).all (bJ f.kind)))=(bi || !bJ f.kind u):=by
     rw[Ah,kU,List.all_append]
     simp only[aoV,ao5,Bool.and_true]
     cases isWord f.name<;>cases (f.aW.take i).all (bJ f.kind)<;>cases bJ f.kind u<;>rfl
    have aa2:(isWord f.name&&(f.aW.take (i+1)).all (bJ f.kind))=!(bi || !bJ f.kind u):=by rw[<- YW,Bool.not_not]
    rw[YW,aa2]
    have ae4:bJ f.kind u=(isWord u.name&&bk (.mk u.wn u.wk)&&(decide (0<=u.gU)&&decide (u.gU<=1099511627776)&&(decide (f.kind=4) || decide (u.gU=0)))):=by
     unfold bJ
     cases isWord u.name<;>cases bk (.mk u.wn u.wk)<;>cases decide (0<=u.gU)<;>cases decide (u.gU<=1099511627776)<;>simp
    have fin:∀ (T' : aU) (g' : Nat) (lz:List cd),T' 1=.ref H.length 0->T' 3=.ref mm 0->T' 32=.slice (f.aW.map fu) false->T' 33=.int .i64 f.aW.length->T' 34=.int .i64 ((i:Int)+1) ->
      ((bi || !bJ f.kind u)=false->lz=la++dk f.kind u)->lz.length<=la.length+14 ->
      i<f.aW.length/\∃ T g l'',(⟨T',cE mm lz (bi || !bJ f.kind u) K,H.length,g'⟩:AS)=⟨T,cE mm l'' (bi || !bJ f.kind u) K,H.length,g⟩/\T 1=.ref H.length 0/\T 3=.ref mm 0/\T 32=.slice (f.aW.map fu) false/\T 33=.int .i64 f.aW.length/\T 34=.int .i64 ((i:Int)+1)/\((!(bi || !bJ f.kind u))=true->l''=[kn,f.name,[40]]++aR ((f.aW.take (i+1)).map (dk f.kind)))/\l''.length<=3+16*(i+1):=by
     intro T' g' lz r1 r3 r32 r33 r34 hz N8
     refine⟨bA,T',g',lz,rfl,r1,r3,r32,r33,r34,fun h=>?_,by omega⟩
     have h2:(bi || !bJ f.kind u)=false:=by simpa using h
     rw[hz h2,tc (AZ h2)]
    by_cases k4:f.kind=4
    ·obtain⟨ok,lH⟩:∃ ok,ok=(decide (0<=u.gU)&&decide (u.gU<=1099511627776)):=⟨_,rfl⟩
     have fq:=fq ok
     obtain⟨ld,ed,td,nd⟩:=fL hP [ql u.gU] (by simp) lc ((((bi || !isWord u.name) || !bk (.mk u.wn u.wk))) || !ok) (by simp only[an0,an1];omega)
     simp only[an0,an1] at nd
     rw[pg,tU] at ed
     rw[pg] at td
     have D5:=fun K=>Rs u.gU K ⟨by omega,by omega⟩
     have heq:((((bi || !isWord u.name) || !bk (.mk u.wn u.wk))) || !ok)=(bi || !bJ f.kind u):=by
      rw[ae4,lH,decide_eq_true k4]
      cases bi<;>cases isWord u.name<;>cases bk (.mk u.wn u.wk)<;>cases decide (0<=u.gU)<;>cases decide (u.gU<=1099511627776)<;>rfl
     rw[heq] at fq ed td
     have hz:(bi || !bJ f.kind u)=false->ld=la++dk f.kind u:=by
      intro h
      have h3:=h
      rw[<- heq] at h3
      have h2:=AZ h3
      have h1:=AZ h2
      have hm0:0<=u.gU:=by
       have:ok=true:=by cases ho:ok<;>simp_all
       rw[lH] at this
       simp only[an7,aoq] at this
       exact this.1
      rw[td h,tw h2,tb h1,Dg hm0]
      unfold dk
      rw[if_pos k4];simp
     have fin:=fun T' g' a b c d e=>fin T' g' ld a b c d e hz (by omega)
     generalize (bi || !bJ f.kind u)=bz at *
     generalize ((bi || !isWord u.name) || !bk (.mk u.wn u.wk))=bw at *
     generalize (bi || !isWord u.name)=bn at *
     have run:∀ (v:Bool),v=ok->True:=fun _ _=>trivial
     by_cases p1:0<=u.gU
     ·by_cases p2:u.gU<=1099511627776
      ·have ho:ok=true:=by rw[lH,decide_eq_true p1,decide_eq_true p2];rfl
       rw[ho] at fq
       by_cases GJ:i=0
       ·rw[Yy GJ] at eb
        simp(disch:=omega)only[aY,aa,simprocAttr,q1,q3,HE,HF,WE,gq,dA,eb,ew,fq,D5,ed,jL,az,an6,an5,anZ,cond_true,aB,ay,an,anW,anX,ab]
        refine fin _ _ ?_ ?_ ?_ ?_ ?_
        all_goals simp(disch:=omega)only[aV,aa,simprocAttr,q1,q3,HE,HF]
       ·have ec:=ec (by omega)
        simp(disch:=omega)only[aY,aa,simprocAttr,q1,q3,HE,HF,WE,gq,dA,ec,eb,ew,fq,D5,ed,jL,az,an6,an5,anZ,cond_true,aB,ay,an,anW,anX,ab]
        refine fin _ _ ?_ ?_ ?_ ?_ ?_
        all_goals simp(disch:=omega)only[aV,aa,simprocAttr,q1,q3,HE,HF]
      ·have ho:ok=false:=by rw[lH,aoP p2,Bool.and_false]
       rw[ho] at fq
       by_cases GJ:i=0
       ·rw[Yy GJ] at eb
        simp(disch:=omega)only[aY,aa,simprocAttr,q1,q3,HE,HF,WE,gq,dA,eb,ew,fq,D5,ed,jL,az,an6,an5,anZ,cond_true,aB,ay,an,anW,anX,ab]
        refine fin _ _ ?_ ?_ ?_ ?_ ?_
        all_goals simp(disch:=omega)only[aV,aa,simprocAttr,q1,q3,HE,HF]
       ·have ec:=ec (by omega)
        simp(disch:=omega)only[aY,aa,simprocAttr,q1,q3,HE,HF,WE,gq,dA,ec,eb,ew,fq,D5,ed,jL,az,an6,an5,anZ,cond_true,aB,ay,an,anW,anX,ab]
        refine fin _ _ ?_ ?_ ?_ ?_ ?_
        all_goals simp(disch:=omega)only[aV,aa,simprocAttr,q1,q3,HE,HF]
     ·have ho:ok=false:=by rw[lH,aoP p1,aoj]
      rw[ho] at fq
      by_cases GJ:i=0
      ·rw[Yy GJ] at eb
       simp(disch:=omega)only[aY,aa,simprocAttr,q1,q3,HE,HF,WE,gq,dA,eb,ew,fq,D5,ed,jL,az,an6,an5,anZ,cond_true,aB,ay,an,anW,anX,ab]
       refine fin _ _ ?_ ?_ ?_ ?_ ?_
       all_goals simp(disch:=omega)only[aV,aa,simprocAttr,q1,q3,HE,HF]
      ·have ec:=ec (by omega)
       simp(disch:=omega)only[aY,aa,simprocAttr,q1,q3,HE,HF,WE,gq,dA,ec,eb,ew,fq,D5,ed,jL,az,an6,an5,anZ,cond_true,aB,ay,an,anW,anX,ab]
       refine fin _ _ ?_ ?_ ?_ ?_ ?_
       all_goals simp(disch:=omega)only[aV,aa,simprocAttr,q1,q3,HE,HF]
    ·have fq:=fq (u.gU==0)
     have heq:((((bi || !isWord u.name) || !bk (.mk u.wn u.wk))) || !(u.gU==0))=(bi || !bJ f.kind u):=by
      rw[ae4,aoP k4]
      by_cases z:u.gU=0
      ·rw[z];cases bi<;>cases isWord u.name<;>cases bk (.mk u.wn u.wk)<;>rfl
      ·have e1:(u.gU==0)=false:=by simpa using z
       rw[e1,aoP z];cases bi<;>cases isWord u.name<;>cases bk (.mk u.wn u.wk)<;>simp
     rw[heq] at fq
     have hz:(bi || !bJ f.kind u)=false->lc=la++dk f.kind u:=by
      intro h
      have h3:=h
      rw[<- heq] at h3
      have h2:=AZ h3
      have h1:=AZ h2
      rw[tw h2,tb h1]
      unfold dk
      rw[if_neg k4];simp
     have fin:=fun T' g' a b c d e=>fin T' g' lc a b c d e hz (by omega)
     generalize (bi || !bJ f.kind u)=bz at *
     generalize ((bi || !isWord u.name) || !bk (.mk u.wn u.wk))=bw at *
     generalize (bi || !isWord u.name)=bn at *
     by_cases GJ:i=0
     ·rw[Yy GJ] at eb
      simp(disch:=omega)only[aY,aa,simprocAttr,q1,q3,HE,HF,WE,gq,dA,eb,ew,fq,jL,az,an6,an5,anZ,cond_true,aB,ay,an,anW,anX,ab]
      refine fin _ _ ?_ ?_ ?_ ?_ ?_
      all_goals simp(disch:=omega)only[aV,aa,simprocAttr,q1,q3,HE,HF]
     ·have ec:=ec (by omega)
      simp(disch:=omega)only[aY,aa,simprocAttr,q1,q3,HE,HF,WE,gq,dA,ec,eb,ew,fq,jL,az,an6,an5,anZ,cond_true,aB,ay,an,anW,anX,ab]
      refine fin _ _ ?_ ?_ ?_ ?_ ?_
      all_goals simp(disch:=omega)only[aV,aa,simprocAttr,q1,q3,HE,HF]
   ·obtain rfl:i=f.aW.length:=by omega
    rw[aps] at ht ⊢
    generalize (isWord f.name&&f.aW.all (bJ f.kind))=ok0 at *
    simp(disch:=omega)only[aY,aa,simprocAttr,q1,q3,HE,HF,WE,az,an6,an5,anZ,cond_true,aB]
    exact⟨_,_,l',rfl,by simp(disch:=omega)only[aV,aa,simprocAttr,q1],by simp(disch:=omega)only[aV,aa,simprocAttr,q3],ht,by omega⟩
  ·have e0:cE mm l2 (!isWord f.name) K=cE mm l2 (!(isWord f.name&&(f.aW.take 0).all (bJ f.kind))) K:=by rw[aoQ,ao5,Bool.and_true]
   refine⟨_,_,l2,apK (fun x=>AS.mk _ x _ _) e0,?_,?_,?_,?_,?_,fun h=>?_,by omega⟩
   all_goals first|(simp(disch:=omega)only[aV,aa,simprocAttr,q1,q3,aoG];done)|skip
   simp only[aoQ,ao5,Bool.and_true] at h
   rw[t2 (by simp[h]),t1 (by simp[h])];simp[aR]
 rintro st ⟨T,g,l',rfl,q1,q3,ht,Ak⟩
 refine iz 1 (fun st=>∃ T g l3,st=⟨T,cE mm l3 (!fF f) K,H.length,g⟩/\T 3=.ref mm 0/\(fF f=true->l3=qf f)) ?_ ?_
 ·obtain⟨l4,e4,t4,n4⟩:=fL hP [[41]] (by simp) l' (!(isWord f.name&&f.aW.all (bJ f.kind))) (by simp only[an0,an1];omega)
  simp only[an0,an1] at n4
  rw[pg,tU] at e4
  rw[pg] at t4
  have e6:((J0.body.post 5).post 0)=J0.body.post 6:=lM 5 _
  rw[e6]
  have BB:fF f=((isWord f.name&&f.aW.all (bJ f.kind))&&bif decide (f.kind=0) || decide (f.kind=1) then nM f.rn f.rk&&gR f.body else bk (.mk f.rn f.rk)&&ak f.body):=rfl
  by_cases b01:f.kind=0\/f.kind=1
  ·have aaC:(decide (f.kind=0) || decide (f.kind=1))=true:=by rcases b01 with b|b<;>simp[b]
   rw[aaC,cond_true,zero_eq] at BB
   have jj:=fun K=>gZ f.body K
   rw[al] at jj
   have fq:=fun ok=>fO hP ok l4 (!(isWord f.name&&f.aW.all (bJ f.kind)))
   have aau:fF f=true->l4=qf f:=fun h=>by
    rw[BB] at h
    simp only[an7] at h
    have h1:(isWord f.name&&f.aW.all (bJ f.kind))=true:=by simp[h.1]
    rw[t4 (by rw[h1];rfl),ht h1,fta,if_pos b01];simp
   have fin:∀ (T' : aU) (g' : Nat) (b' : Bool),b'=!fF f->T' 3=.ref mm 0->∃ T g l3,(⟨T',cE mm l4 b' K,H.length,g'⟩:AS)=⟨T,cE mm l3 (!fF f) K,H.length,g⟩/\T 3=.ref mm 0/\(fF f=true->l3=qf f) :=
    fun T' g' b' gO h3=>⟨T',g',l4,by rw[gO],h3,aau⟩
   have ah4:(f.kind==0)=true\/(f.kind==0)=false/\(f.kind==1)=true:=by
    rcases b01 with b|b
    ·exact .inl (by simp[b])
    ·exact .inr (by simp[b])
   generalize (isWord f.name&&f.aW.all (bJ f.kind))=okS at *
   unfold J0
   simp only[bq.post,bq.pre]
   rcases ah4 with hk|⟨hk,vT⟩
   ·cases d1:(f.rn==[]) with
    | false =>
     have fq:=fq false
     simp(disch:=omega)only[aY,aa,simprocAttr,q1,q3,dA,dG,jj,hk,d1,e4,fq,jL,az,an6,an5,anZ,cond_true,aB,ay,an,anW,anX,ab]
     exact fin _ _ _ (by rw[BB];simp[d1]) (by simp(disch:=omega)only[aV,aa,simprocAttr,q3])
    | true =>
    cases d2:((f.rk.length:Int)==0) with
    | false =>
     have fq:=fq false
     simp(disch:=omega)only[aY,aa,simprocAttr,q1,q3,dA,dG,jj,hk,d1,d2,e4,fq,jL,az,an6,an5,anZ,cond_true,aB,ay,an,anW,anX,ab]
     exact fin _ _ _ (by rw[BB];simp[d1,d2]) (by simp(disch:=omega)only[aV,aa,simprocAttr,q3])
    | true =>
    cases d3:(f.body.kind==0) with
    | false =>
     have fq:=fq false
     simp(disch:=omega)only[aY,aa,simprocAttr,q1,q3,dA,dG,jj,hk,d1,d2,d3,e4,fq,jL,az,an6,an5,anZ,cond_true,aB,ay,an,anW,anX,ab]
     exact fin _ _ _ (by rw[BB];simp[d1,d2,d3]) (by simp(disch:=omega)only[aV,aa,simprocAttr,q3])
    | true =>
    cases d4:bt f.body with
    | false =>
     have fq:=fq false
     simp(disch:=omega)only[aY,aa,simprocAttr,q1,q3,dA,dG,jj,hk,d1,d2,d3,d4,e4,fq,jL,az,an6,an5,anZ,cond_true,aB,ay,an,anW,anX,ab]
     exact fin _ _ _ (by rw[BB];simp[d1,d2,d3,d4]) (by simp(disch:=omega)only[aV,aa,simprocAttr,q3])
    | true =>
    cases d5:(f.body.n==0) with
    | false =>
     have fq:=fq false
     simp(disch:=omega)only[aY,aa,simprocAttr,q1,q3,dA,dG,jj,hk,d1,d2,d3,d4,d5,e4,fq,jL,az,an6,an5,anZ,cond_true,aB,ay,an,anW,anX,ab]
     exact fin _ _ _ (by rw[BB];simp[d1,d2,d3,d4,d5]) (by simp(disch:=omega)only[aV,aa,simprocAttr,q3])
    | true =>
    have fq:=fq true
    simp(disch:=omega)only[aY,aa,simprocAttr,q1,q3,dA,dG,jj,hk,d1,d2,d3,d4,d5,e4,fq,jL,az,an6,an5,anZ,cond_true,aB,ay,an,anW,anX,ab]
    exact fin _ _ _ (by rw[BB];simp[d1,d2,d3,d4,d5]) (by simp(disch:=omega)only[aV,aa,simprocAttr,q3])
   ·cases d1:(f.rn==[]) with
    | false =>
     have fq:=fq false
     simp(disch:=omega)only[aY,aa,simprocAttr,q1,q3,dA,dG,jj,hk,vT,d1,e4,fq,jL,az,an6,an5,anZ,cond_true,aB,ay,an,anW,anX,ab]
     exact fin _ _ _ (by rw[BB];simp[d1]) (by simp(disch:=omega)only[aV,aa,simprocAttr,q3])
    | true =>
    cases d2:((f.rk.length:Int)==0) with
    | false =>
     have fq:=fq false
     simp(disch:=omega)only[aY,aa,simprocAttr,q1,q3,dA,dG,jj,hk,vT,d1,d2,e4,fq,jL,az,an6,an5,anZ,cond_true,aB,ay,an,anW,anX,ab]
     exact fin _ _ _ (by rw[BB];simp[d1,d2]) (by simp(disch:=omega)only[aV,aa,simprocAttr,q3])
    | true =>
    cases d3:(f.body.kind==0) with
    | false =>
     have fq:=fq false
     simp(disch:=omega)only[aY,aa,simprocAttr,q1,q3,dA,dG,jj,hk,vT,d1,d2,d3,e4,fq,jL,az,an6,an5,anZ,cond_true,aB,ay,an,anW,anX,ab]
     exact fin _ _ _ (by rw[BB];simp[d1,d2,d3]) (by simp(disch:=omega)only[aV,aa,simprocAttr,q3])
    | true =>
    cases d4:bt f.body with
    | false =>
     have fq:=fq false
     simp(disch:=omega)only[aY,aa,simprocAttr,q1,q3,dA,dG,jj,hk,vT,d1,d2,d3,d4,e4,fq,jL,az,an6,an5,anZ,cond_true,aB,ay,an,anW,anX,ab]
     exact fin _ _ _ (by rw[BB];simp[d1,d2,d3,d4]) (by simp(disch:=omega)only[aV,aa,simprocAttr,q3])
    | true =>
    cases d5:(f.body.n==0) with
    | false =>
     have fq:=fq false
     simp(disch:=omega)only[aY,aa,simprocAttr,q1,q3,dA,dG,jj,hk,vT,d1,d2,d3,d4,d5,e4,fq,jL,az,an6,an5,anZ,cond_true,aB,ay,an,anW,anX,ab]
     exact fin _ _ _ (by rw[BB];simp[d1,d2,d3,d4,d5]) (by simp(disch:=omega)only[aV,aa,simprocAttr,q3])
    | true =>
    have fq:=fq true
    simp(disch:=omega)only[aY,aa,simprocAttr,q1,q3,dA,dG,jj,hk,vT,d1,d2,d3,d4,d5,e4,fq,jL,az,an6,an5,anZ,cond_true,aB,ay,an,anW,anX,ab]
    exact fin _ _ _ (by rw[BB];simp[d1,d2,d3,d4,d5]) (by simp(disch:=omega)only[aV,aa,simprocAttr,q3])
  ·have aaC:(decide (f.kind=0) || decide (f.kind=1))=false:=by
    cases h1:decide (f.kind=0)<;>cases h2:decide (f.kind=1)<;>simp_all
   rw[aaC,anZ] at BB
   have c0:f.kind≠0:=fun h=>b01 (.inl h)
   have c1:f.kind≠1:=fun h=>b01 (.inr h)
   obtain⟨l5,e5,t5,n5⟩:=DZ 3 (.mk f.rn f.rk) (by omega) hb.w mm K hP l4 (!(isWord f.name&&f.aW.all (bJ f.kind))) (by omega)
   obtain⟨l6,e6,t6,n6⟩:=fL hP [[61]] (by simp) l5 (!(isWord f.name&&f.aW.all (bJ f.kind)) || !bk (.mk f.rn f.rk)) (by simp only[an0,an1];omega)
   simp only[an0,an1] at n6
   have hwb:wB 5=3872:=by decide
   obtain⟨l7,e7,t7,n7⟩:=HZ 5 f.body (by omega) hb.b mm K hP l6 (!(isWord f.name&&f.aW.all (bJ f.kind)) || !bk (.mk f.rn f.rk)) (by omega)
   rw[hN] at e5
   rw[al] at e7
   simp only[pg,tU] at e5 e6 e7 t5 t6 t7
   have eo:((!(isWord f.name&&f.aW.all (bJ f.kind)) || !bk (.mk f.rn f.rk)) || !ak f.body)=!fF f:=by
    rw[BB]
    cases (isWord f.name&&f.aW.all (bJ f.kind))<;>cases bk (.mk f.rn f.rk)<;>cases ak f.body<;>rfl
   have aau:fF f=true->l7=qf f:=fun h=>by
    have h7:((!(isWord f.name&&f.aW.all (bJ f.kind)) || !bk (.mk f.rn f.rk)) || !ak f.body)=false:=by rw[eo,h];rfl
    have h6:=AZ h7
    have h5:=AZ h6
    rw[t7 h7,t6 h6,t5 h6,t4 h5,ht (by simpa using h5),fta,if_neg b01];simp
   rw[eo] at e7
   generalize (!fF f)=bz at *
   generalize (!(isWord f.name&&f.aW.all (bJ f.kind)) || !bk (.mk f.rn f.rk))=by5 at *
   generalize (!(isWord f.name&&f.aW.all (bJ f.kind)))=by4 at *
   unfold J0
   simp only[bq.post,bq.pre]
   simp(disch:=omega)only[aY,aa,simprocAttr,q1,q3,dA,e4,e5,e6,e7,jL,az,an6,an5,anZ,cond_true,aB,ay,an,anW,anX,ab]
   exact⟨_,_,l7,rfl,by simp(disch:=omega)only[aV,aa,simprocAttr,q3],aau⟩
 ·rintro st ⟨T,g,l3,rfl,q3,hl3⟩
  have e6:((J0.body.post 5).post 0).post 1=J0.body.post 8:=rfl
  rw[e6]
  unfold J0
  simp only[bq.post]
  unfold vg
  cases lH:fF f with
  | true =>
   rw[if_pos rfl,hl3 lH]
   simp(disch:=omega)only[aY,aa,simprocAttr,q3,hw0,JM,GL,jL,aoe,az,an6,an5,anZ,cond_true,aB,ay,an,anW,anX,ab]
  | false =>
   rw[if_neg (by decide)]
   simp(disch:=omega)only[aY,aa,simprocAttr,q3,hw0,GL,jL,aoa,jT,az,an6,an5,anZ,cond_true,aB,ay,an,anW,anX,ab]
theorem WA{f:Fm}(hk:f.kind<0\/5<f.kind)(H:ai):aE A 30 [.agg (gb f)] H=some (.bool false,none):=by
 refine aD (fn:=JS) rfl rfl rfl ?_
 rw[gb]
 unfold JS
 rcases hk with hk|hk
 ·simp(disch:=omega)only[aY,aa,simprocAttr]
 ·simp(disch:=omega)only[aY,aa,simprocAttr]
theorem Sm{f:Fm}(hk:f.kind<0\/5<f.kind)(H:ai):aE A 8 [.agg (gb f)] H=some (.slice [] true,none):=by
 have hp:=WA hk H
 refine aD (fn:=ir8) rfl rfl rfl ?_
 rw[gb] at hp ⊢
 unfold ir8
 simp(disch:=omega)only[aY,aa,simprocAttr,hp]
theorem NQ{f:Fm}(hk:f.kind<0\/5<f.kind)(H:ai):aE A 6 [.agg (gb f)] H=some (.slice [] true,none):=by
 refine aD (fn:=J0) rfl rfl rfl ?_
 rw[gb]
 unfold J0
 rcases hk with hk|hk
 ·simp(disch:=omega)only[aY,aa,simprocAttr,gy,vR,az,an6,an5,anZ,ay,an,ab]
 ·simp(disch:=omega)only[aY,aa,simprocAttr,gy,vR,az,an6,an5,anZ,ay,an,ab]
structure H8 (f:Fm):Prop where
 b:Zu f
 k:KN f\/f.kind<0\/5<f.kind
theorem Tq{f:Fm}(h:H8 f)(H:ai):∃ nK o o',nK.length<=10000/\aE A 6 [.agg (gb f)] H=some (.slice (strs nK) o,none)/\aE A 8 [.agg (gb f)] H=some (.slice (strs nK) o',none):=by
 rcases h.k with hb|hk
 ·refine⟨vg f,true,_,?_,NP hb H,DM hb H⟩
  unfold vg
  split
  ·exact vP hb
  ·simp
 ·exact⟨[],true,true,by simp,NQ hk H,Sm hk H⟩
def jr3:aP:=⟨[12,14,39,55,59,63,68,78,85,96,116,127,135],[13,15,16,17],[],138,6,[.tmp 12],cR [aG 12 jz] (cR [ah 18 0,aL 19 4 18,oO 13 (.allocL [.str [],.slice [] true,.slice [] true,.slice [] true,.str []]),dD 5 13 19] (.seq (cR [aG 14 (aI 0)] (.block 0 (.loop (.seq (cR [ah 20 14,bp 21 2 13,aj 22 1 21,cr 23 .sl 22,bZ 24 .lss 20 23] (bQ 24 .skip (.exit 0))) (.seq (.block 1 (cR [bp 27 2 13,aj 28 1 27,ah 29 14,fw 30 14 28 29,aM 31 14 30,oO 15 (.allocL [.int .i64 0,.str [],.slice [] true,.str [],.slice [] true,.int .i64 0,.int .i64 0,.str [],.str [],.str [],.slice [] true,.slice [] true,.slice [] true,.slice [] true]),dD 14 15 31] (.seq (.seq (.region true [aM 32 14 15,aL 33 7 32,aL 34 6 33,aM 35 14 15,aL 36 8 35,aK 37 5 34 36,oO 38 (.un .not (aT 37))]) (bQ 38 (cR [aG 12 jz] .ret) .skip)) (cR [dC 15 15,bp 40 5 15,dC 15 40,aM 41 8 40,ah 42 1,bG 43 10 [aT 42,aI 12],ah 44 2,bG 45 10 [aT 44,aI 8],ah 46 3,bG 47 10 [aT 46,aI 60],Kl 48 9 41 43 45 47,ae 39 48,fS 49 39 0,fS 50 39 1,dC 15 15,bp 51 5 15,dC 15 51,dD 8 51 49] (cR [aM 52 14 15,oO 16 (.allocL [.int .i64 0,.str [],.slice [] true,.str [],.slice [] true,.int .i64 0,.int .i64 0,.str [],.str [],.str [],.slice [] true,.slice [] true,.slice [] true,.slice [] true]),dD 14 16 52] (.seq (cR [ah 53 2,bG 54 10 [aT 53,aI 5]] (.block 2 (cR [aq 56 .eql 54 0,ae 55 56] (bQ 55 (.region false [ah 57 3,bp 58 0 16,dD 1 58 57]) (cR [aq 60 .eql 54 1,ae 59 60] (bQ 59 (.region false [ah 61 4,bp 62 1 16,dD 1 62 61]) (cR [aq 64 .eql 54 2,ae 63 64] (bQ 63 (.region false [ah 65 4,oO 66 (.build [.str [],.slice [] true] [(0,1,.tmp 65)]),bp 67 3 16,dD 2 67 66]) (cR [aq 69 .eql 54 3,ae 68 69] (bQ 68 (.region false [bp 70 2 16,aj 71 1 70,bp 72 2 16,aj 73 1 72,cr 74 .sl 73,bp 75 2 16,aj 76 1 75,cr 77 .sl 76,oO 78 (.slice (.sl 4) (aT 71) none (some (aT 74)) (some (aT 77))),oO 79 (.build [.str [],.slice [] true] [(0,1,.bC (.str [73,110,116]))]),ah 80 3,oO 81 (.build [.str [],.str [],.slice [] true,.int .i64 0] [(0,1,.bC (.str [97])),(1,2,.tmp 79),(3,1,.tmp 80)]),oO 82 (dR 4 [[.str [],.str [],.slice [] false,.int .i64 0]] [(0,.tmp 81)]),cS 83 4 64 78 82,bp 84 2 16,dD 1 84 83]) (cR [aq 86 .eql 54 4,ae 85 86] (bQ 85 (.region false [oO 87 (.build [.str [],.slice [] true] []),bp 88 3 16,dD 2 88 87]) .skip)))))))))))) (cR [dC 15 15,aM 89 14 15,aL 90 7 89,aL 91 6 90,dC 15 15,aM 92 14 15,aL 93 8 92,aK 94 5 91 93,oO 95 (.un .not (aT 94)),ae 96 95,Nl 96 (.Af (.frame 16) (aT 16)),bX 97 96 (iC 14 16),bX 98 96 (fK 7 [aT 97]),bX 99 96 (fK 6 [aT 98]),Nl 96 (.Af (.frame 16) (aT 16)),bX 100 96 (iC 14 16),bX 101 96 (fK 8 [aT 100]),bX 102 96 (fK 5 [aT 99,aT 101]),bX 103 96 (.un .not (aT 102)),kA 104 96 103] (bQ 104 (cR [aG 12 jz] .ret) .skip)))))))) (.region false [ah 25 14,aq 26 .add 25 1,ae 14 26])))))) (cR [ah 105 4,ah 106 5,oO 107 (.build [.str [],.slice [] true,.slice [] true,.slice [] true,.str []] [(0,1,.tmp 105),(1,1,.tmp 106)]),oO 17 (.allocL [.str [],.slice [] true,.slice [] true,.slice [] true,.str []]),dD 5 17 107] (cR [bp 108 1 13,aj 109 1 108,bp 110 1 13,aj 111 1 110,cr 112 .sl 111,bp 113 1 13,aj 114 1 113,cr 115 .sl 114,oO 116 (.slice (.sl 1) (aT 109) none (some (aT 112)) (some (aT 115))),ah 117 4,oO 118 (dR 1 [[.str []]] [(0,.tmp 117)]),cS 119 1 16 116 118,bp 120 1 13,dD 1 120 119] (cR [dC 17 17,aM 121 5 17,aL 122 12 121,aL 123 11 122,dC 17 17,aM 124 5 17,aL 125 13 124,aK 126 5 123 125,ae 127 126,oHt 127 (.Af (.frame 13) (aT 13)),cc 128 127 (iC 5 13),cc 129 127 (fK 12 [aT 128]),cc 130 127 (fK 11 [aT 129]),oHt 127 (.Af (.frame 13) (aT 13)),cc 131 127 (iC 5 13),cc 132 127 (fK 13 [aT 131]),cc 133 127 (fK 5 [aT 130,aT 132]),gJ 134 127 133,ae 135 134,cc 136 135 (fK 14 []),gJ 137 135 136,ae 12 137] .ret)))))⟩
theorem abD:cv Tryz.f3 jr3=some jr3:=by kernel_rfl
def xR(args:List AV)(H:ai):Option (AV × Option gS) :=
 match args,H with
 | [],[]=>some (.bool true,none)
 | _,_=>none
noncomputable def aas:FuncId->Option aP
 | 3=>some jr3
 | _=>none
noncomputable def ov9:FuncId->Option (List AV->ai->Option (AV × Option gS))
 | 3=>none
 | 14=>some xR
 | f=>some (aE A f)
noncomputable def A9:AP:={ fns:=aas,ov:=ov9,aZ:=D' }
theorem c9{f:FuncId}(h:A9.ov f=some (aE A f)){args:List AV}{H:ai}{r:AV × Option gS}(hr:aE A f args H=some r)(hn:args.all rS=true:=by rfl):aE A9 f args H=some r:=qA (g:=aE A f) h hr hn
theorem LL(a b:List cd)(H:ai)(ha:a.length<=10000000):aE A 5 [.slice (strs a) false,.slice (strs b) false] H=some (.bool (a==b),none):=by
 have h:=Sv a b H false false ha
 obtain⟨n,hn⟩:=ke.1 h
 have e:Ag A n 5=Ag A n 77:=by cases n<;>kernel_rfl
 exact ke.2 ⟨n,by rw[e];exact hn⟩
theorem abE:aE A9 14 [] []=some (.bool true,none):=qA (g:=xR) rfl rfl
theorem sS{f:Fm}(h:H8 f):∃ nK o o',aE A9 7 [.agg (gb f)] []=some (.agg (gb f),none)/\aE A9 6 [.agg (gb f)] []=some (.slice (strs nK) o,none)/\aE A9 8 [.agg (gb f)] []=some (.slice (strs nK) o',none)/\aE A9 5 [.slice (strs nK) false,.slice (strs nK) false] []=some (.bool true,none):=by
 obtain⟨nK,o,o',hl,h6,h8⟩:=Tq h []
 refine⟨nK,o,o',c9 rfl (KV h.b []),c9 rfl h6,c9 rfl h8,c9 rfl ?_⟩
 rw[LL nK nK [] (by omega),apA]
theorem Ll{s:So}(h:SoB s):∃ nK o,aE A9 12 [.agg (s8 s)] []=some (.agg (s8 s),none)/\aE A9 11 [.agg (s8 s)] []=some (.slice (strs nK) true,none)/\aE A9 13 [.agg (s8 s)] []=some (.slice (strs nK) o,none)/\aE A9 5 [.slice (strs nK) false,.slice (strs nK) false] []=some (.bool true,none):=by
 refine⟨tP s,_,c9 rfl (TB h []),c9 rfl (PF h []),c9 rfl (Sj h []),c9 rfl ?_⟩
 have hl:(tP s).length<=10000000:=by
  have:=h.ul
  unfold tP
  split
  ·have key:∀ l:List cd,((l.map fun u=>[([117,115,101]:cd),u]).flatten).length=2*l.length:=by
    intro l
    induction l with
    | nil=>rfl
    | cons a r ih=>simp only[aoc,ao7,aod,ih,an0,an1];omega
   unfold heads
   rw[aod,key]
   simp only[an0,an1]
   omega
  ·simp
 rw[LL _ _ [] hl,apA]
theorem x6.K{f:Fm}(h:x6 5 f):H8 f:=⟨(h.B (by omega)).b0,.inl (h.B (by omega))⟩
theorem x6.agm{f:Fm}(h:x6 4 f){t:Tm}(ht:oH 5 5 t):x6 5 { f with body:=t }:=⟨h.k,h.a,h.sl,h.sb,h.w,ht,by have:=h.ll;show f.layout.length<=_;omega,h.lb⟩
theorem H8.kind{f:Fm}(h:x6 5 f)(b:Int):H8 { f with kind:=b }:=by
 have hb:=(h.B (by omega)).b0
 refine⟨⟨hb.a,hb.sl,hb.sb,hb.w,hb.b⟩,?_⟩
 by_cases hk:0<=b/\b<=5
 ·exact .inl ⟨hk,h.a,by have:=h.sl;show f.aW.length<=4;omega,h.sb,h.w,(h.B (by omega)).b,(h.B (by omega)).ll,h.lb⟩
 ·exact .inr (by show b<0\/5<b;omega)
theorem H8.name{f:Fm}(h:x6 5 f){a:cd}(ha:a.length<=1048576):H8 { f with name:=a } :=
 have hB:KN { f with name:=a }:=⟨h.k,by show a.length<=_;omega,by have:=h.sl;show f.aW.length<=4;omega,h.sb,h.w,(h.B (by omega)).b,(h.B (by omega)).ll,h.lb⟩
 ⟨hB.b0,.inl hB⟩
theorem H8.res{f:Fm}(h:x6 5 f){a:cd}(ha:a.length<=1048576):H8 { f with rn:=a,rk:=[] } :=
 have hB:KN { f with rn:=a,rk:=[] }:=⟨h.k,h.a,by have:=h.sl;show f.aW.length<=4;omega,h.sb,⟨by show a.length<=_;omega,by simp[Wd.kids],by simp[Wd.kids]⟩,(h.B (by omega)).b,(h.B (by omega)).ll,h.lb⟩
 ⟨hB.b0,.inl hB⟩
theorem H8.slot{f:Fm}(h:x6 5 f){b:Int}(hb:D1 b):H8 { f with aW:=f.aW++[⟨[97],[73,110,116],[],b⟩] } :=
 have hB:KN { f with aW:=f.aW++[⟨[97],[73,110,116],[],b⟩] }:=⟨h.k,h.a,by have:=h.sl;show (f.aW++_).length<=4;simp;omega,fun s hs=>by
  rcases an9.1 hs with hs|hs
  ·exact h.sb s hs
  ·rw[aom.1 hs]
   exact⟨by simp,⟨by simp[Wd.name],by simp[Wd.kids],by simp[Wd.kids]⟩,hb⟩,h.w,(h.B (by omega)).b,(h.B (by omega)).ll,h.lb⟩
 ⟨hB.b0,.inl hB⟩
theorem afu(l:List Int)(a om b:Int)(name:cd)(dq:List cd)(hl:∀ n∈l,D1 n)(ha:D1 a)(hh:D1 om)(hb:D1 b)(oh:name.length<=1048576)(hul:dq.length<=1048576)(hub:∀ u∈dq,u.length<=1048576) :
  aE A9 3 [.slice (ints l) false,.int .i64 a,.int .i64 om,.int .i64 b,.str name,.slice (strs dq) false] []=some (.bool true,none):=by
 obtain⟨so,nP,ex⟩:=Sw l hl []
 have ex9:=c9 (f:=4) rfl ex
 have hdl:=nP.dl
 have r12:=jW (n:=a) (k:=12) (by omega)
 have r8:=jW (n:=om) (k:=8) (by omega)
 have r5:=jW (n:=om) (k:=5) (by omega)
 have r60:=jW (n:=b) (k:=60) (by omega)
 have ZV:=c9 (f:=10) rfl (oM a 12 [] ha (by omega))
 have e8:=c9 (f:=10) rfl (oM om 8 [] hh (by omega))
 have e5:=c9 (f:=10) rfl (oM om 5 [] hh (by omega))
 have e60:=c9 (f:=10) rfl (oM b 60 [] hb (by omega))
 have hB1:SoB ⟨name,dq,[],[],[]⟩:=⟨by show name.length<=_;omega,by show dq.length<=_;omega,fun u hu=>by have:=hub u hu;omega,by simp,fun f hf=>by simp at hf,by simp,fun u hu=>by simp at hu,by simp⟩
 have hB2:SoB { so with dq:=so.dq++[name] }:=⟨nP.a,by have:=nP.ul;show (so.dq++[name]).length<=_;simp;omega,fun u hu=>by
  rcases an9.1 hu with hu|hu
  ·exact nP.ub u hu
  ·rw[aom.1 hu];omega,hdl,fun f hf=>(nP.db f hf).B (by omega),by have:=nP.hl;show so.head.length<=_;omega,nP.hb,nP.e⟩
 obtain⟨k1,o1,m12,m11,m13,m5⟩:=Ll hB1
 obtain⟨k2,o2,n12,n11,n13,n5⟩:=Ll hB2
 have sn:strs []=[]:=rfl
 simp only[s8,aof,sn] at ex9 m12 m11 m13 n12 n11 n13
 have Ig:=abE
 have tV:strs (so.dq++[name])=strs so.dq++[[.str name]]:=by unfold strs;rw[List.map_append];rfl
 have AK:aF false 1 16 (.slice (strs so.dq) true) (.slice [[.str name]] true)=some (.slice (strs (so.dq++[name])) true):=cD (m:=[name]) (by have:=nP.ul;simp;omega)
 refine aD (fn:=jr3) rfl rfl rfl ?_
 refine iz 2 (fun st=>∃ T g,st=⟨T,[],0,g⟩/\T 4=.str name/\T 5=.slice (strs dq) false/\T 13=.lbox 0 [.str so.name,.slice (strs so.dq) false,.slice (so.defs.map gb) false,.slice (strs so.head) false,.str so.fin]) ?_ ?_
 ·unfold jr3
  simp only[bq.pre]
  simp(disch:=omega)only[mf,cZ,ca,cA,cu,gr,bj,aA,bf,aC.eval,AS.bW,↓reduceIte,Nat.reduceEqDiff,Option.isSome,Option.isNone,cond_true,anZ,Nat.reduceBEq,Nat.reduceAdd,Nat.reduceMul,aa,cj,eq_self,reduceCtorEq,gk,cQ,cm,bH,bound,dj,AS.bI,aQ,bF,bu,Nat.reduceLeDiff,cn,putAt,Int.reduceEq,Int.reduceLT,Int.reduceLE,Int.reduceBEq,Int.reduceBNe,Int.reduceAdd,Int.reduceNeg,Int.reduceSub,Int.reduceMul,dZ,dY,dX,dW,dV,dU,fc,fa,aN,bO,Int.toNat_natCast,aos,ex9,aN,an1,ay,an,anW,anX,ab]
  refine cK so.defs.length 0 (fun i st=>∃ T g,st=⟨T,[],0,g⟩/\T 1=.int .i64 a/\T 2=.int .i64 om/\T 3=.int .i64 b/\T 4=.str name/\T 5=.slice (strs dq) false/\T 13=.lbox 0 [.str so.name,.slice (strs so.dq) false,.slice (so.defs.map gb) false,.slice (strs so.head) false,.str so.fin]/\T 14=.int .i64 i)
   (fun st=>∃ T g,st=⟨T,[],0,g⟩/\T 4=.str name/\T 5=.slice (strs dq) false/\T 13=.lbox 0 [.str so.name,.slice (strs so.dq) false,.slice (so.defs.map gb) false,.slice (strs so.head) false,.str so.fin]) (fun _=>False) ?_ ?_ (fun _ h=>h.elim) 0 _ (by omega) ?_
  ·rintro i st hi ⟨T,g,rfl,q1,q2,q3,q4,q5,N',R2⟩
   by_cases bA:i<so.defs.length
   ·have hxi:=an3 bA
    have hm:=aoX bA
    generalize so.defs[i]=f at hxi hm
    have gq:=YH hxi
    have hf:=nP.db f hm
    obtain⟨y,hy,t',rr,ht',hr1,hr2,rfl⟩:=agl (m:=4) (by omega) 5 f.body hf.b (j8 a 12) (j8 om 8) (j8 b 60) (by omega) (by omega) (by omega) (by omega) (by omega) (by omega) []
    have hy9:=c9 (f:=9) rfl hy
    have Te:=hf.agm ht'
    obtain⟨ka,oa,oa',a7,a6,a8,a5⟩:=sS (hf.up (by omega)).K
    obtain⟨kb,ob,ob',b7,b6,b8,b5⟩:=sS Te.K
    have qW:decide ((i:Int)<so.defs.length)=true:=by simp;omega
    have al9:=hf.sl
    have kU:List.take f.aW.length (f.aW.map fu)=f.aW.map fu:=aoJ (by simp)
    have apf:=ye (l:=f.aW) (u:=⟨[97],[73,110,116],[],b⟩) (o:=true) (by omega)
    have fin:∀ (T' : aU) (g' : Nat),T' 1=T 1->T' 2=T 2->T' 3=T 3->T' 4=T 4->T' 5=T 5->T' 13=T 13->T' 14=.int .i64 ((i:Int)+1)->i<so.defs.length/\∃ T g,(⟨T',[],0,g'⟩:AS)=⟨T,[],0,g⟩/\T 1=.int .i64 a/\T 2=.int .i64 om/\T 3=.int .i64 b/\T 4=.str name/\T 5=.slice (strs dq) false/\T 13=.lbox 0 [.str so.name,.slice (strs so.dq) false,.slice (so.defs.map gb) false,.slice (strs so.head) false,.str so.fin]/\T 14=.int .i64 ((i+1:Nat)):=fun T' g' p1 p2 p3 p4 p5 p13 p14 =>
     ⟨bA,T',g',rfl,p1.trans q1,p2.trans q2,p3.trans q3,p4.trans q4,p5.trans q5,p13.trans N',by rw[p14];rfl⟩
    rw[al,al t'] at hy9
    have JI:=nL
    simp only[gb] at gq a7 a6 a8 b7 b6 b8
    simp only[nL] at apf
    have h5:j8 om 5=0\/j8 om 5=1\/j8 om 5=2\/j8 om 5=3\/j8 om 5=4:=by omega
    rcases h5 with hk|hk|hk|hk|hk<;>rw[hk] at e5
    ·obtain⟨kc,oc,oc',c7,c6,c8,c5⟩:=sS (H8.kind Te b)
     simp only[gb] at c7 c6 c8
     simp(disch:=omega)only[mf,cZ,ca,cA,cu,gr,bj,aA,bf,aC.eval,AS.bW,↓reduceIte,Nat.reduceEqDiff,Option.isSome,Option.isNone,cond_true,anZ,Nat.reduceBEq,Nat.reduceAdd,Nat.reduceMul,aa,cj,eq_self,reduceCtorEq,gk,cQ,cm,bH,bound,dj,AS.bI,aQ,bF,bu,Nat.reduceLeDiff,cn,putAt,Int.reduceEq,Int.reduceLT,Int.reduceLE,Int.reduceBEq,Int.reduceBNe,Int.reduceAdd,Int.reduceNeg,Int.reduceSub,Int.reduceMul,dZ,dY,dX,dW,dV,dU,fc,fa,aN,bO,Int.toNat_natCast,aos,q1,q2,q3,q4,q5,N',R2,pN,iA,qW,gq,a7,a6,a8,a5,b7,b6,b8,b5,c7,c6,c8,c5,ZV,e8,e5,e60,hy9,kU,apf,gC,aN,ay,an,anW,anX,ab,bne,apA,aoe]
     refine fin _ _ ?_ ?_ ?_ ?_ ?_ ?_ ?_<;>simp(disch:=omega)only[mf,cZ,ca,cA,cu,gr,bj,aA,bf,aC.eval,AS.bW,↓reduceIte,Nat.reduceEqDiff,Option.isSome,Option.isNone,cond_true,anZ,Nat.reduceBEq,Nat.reduceAdd,Nat.reduceMul,aa,cj,eq_self,reduceCtorEq,gk,cQ,cm,bH,bound,dj,AS.bI,aQ,bF,bu,Nat.reduceLeDiff,cn,putAt,Int.reduceEq,Int.reduceLT,Int.reduceLE,Int.reduceBEq,Int.reduceBNe,Int.reduceAdd,Int.reduceNeg,Int.reduceSub,Int.reduceMul,dZ,dY,dX,dW,dV,dU,fc,fa,aN,bO,Int.toNat_natCast,aos,R2]
    ·obtain⟨kc,oc,oc',c7,c6,c8,c5⟩:=sS (H8.name Te oh)
     simp only[gb] at c7 c6 c8
     simp(disch:=omega)only[mf,cZ,ca,cA,cu,gr,bj,aA,bf,aC.eval,AS.bW,↓reduceIte,Nat.reduceEqDiff,Option.isSome,Option.isNone,cond_true,anZ,Nat.reduceBEq,Nat.reduceAdd,Nat.reduceMul,aa,cj,eq_self,reduceCtorEq,gk,cQ,cm,bH,bound,dj,AS.bI,aQ,bF,bu,Nat.reduceLeDiff,cn,putAt,Int.reduceEq,Int.reduceLT,Int.reduceLE,Int.reduceBEq,Int.reduceBNe,Int.reduceAdd,Int.reduceNeg,Int.reduceSub,Int.reduceMul,dZ,dY,dX,dW,dV,dU,fc,fa,aN,bO,Int.toNat_natCast,aos,q1,q2,q3,q4,q5,N',R2,pN,iA,qW,gq,a7,a6,a8,a5,b7,b6,b8,b5,c7,c6,c8,c5,ZV,e8,e5,e60,hy9,kU,apf,gC,aN,ay,an,anW,anX,ab,bne,apA,aoe]
     refine fin _ _ ?_ ?_ ?_ ?_ ?_ ?_ ?_<;>simp(disch:=omega)only[mf,cZ,ca,cA,cu,gr,bj,aA,bf,aC.eval,AS.bW,↓reduceIte,Nat.reduceEqDiff,Option.isSome,Option.isNone,cond_true,anZ,Nat.reduceBEq,Nat.reduceAdd,Nat.reduceMul,aa,cj,eq_self,reduceCtorEq,gk,cQ,cm,bH,bound,dj,AS.bI,aQ,bF,bu,Nat.reduceLeDiff,cn,putAt,Int.reduceEq,Int.reduceLT,Int.reduceLE,Int.reduceBEq,Int.reduceBNe,Int.reduceAdd,Int.reduceNeg,Int.reduceSub,Int.reduceMul,dZ,dY,dX,dW,dV,dU,fc,fa,aN,bO,Int.toNat_natCast,aos,R2]
    ·obtain⟨kc,oc,oc',c7,c6,c8,c5⟩:=sS (H8.res Te oh)
     simp only[gb,nL] at c7 c6 c8
     simp(disch:=omega)only[mf,cZ,ca,cA,cu,gr,bj,aA,bf,aC.eval,AS.bW,↓reduceIte,Nat.reduceEqDiff,Option.isSome,Option.isNone,cond_true,anZ,Nat.reduceBEq,Nat.reduceAdd,Nat.reduceMul,aa,cj,eq_self,reduceCtorEq,gk,cQ,cm,bH,bound,dj,AS.bI,aQ,bF,bu,Nat.reduceLeDiff,cn,putAt,Int.reduceEq,Int.reduceLT,Int.reduceLE,Int.reduceBEq,Int.reduceBNe,Int.reduceAdd,Int.reduceNeg,Int.reduceSub,Int.reduceMul,dZ,dY,dX,dW,dV,dU,fc,fa,aN,bO,Int.toNat_natCast,aos,q1,q2,q3,q4,q5,N',R2,pN,iA,qW,gq,a7,a6,a8,a5,b7,b6,b8,b5,c7,c6,c8,c5,ZV,e8,e5,e60,hy9,kU,apf,gC,aN,ay,an,anW,anX,ab,bne,apA,aoe]
     refine fin _ _ ?_ ?_ ?_ ?_ ?_ ?_ ?_<;>simp(disch:=omega)only[mf,cZ,ca,cA,cu,gr,bj,aA,bf,aC.eval,AS.bW,↓reduceIte,Nat.reduceEqDiff,Option.isSome,Option.isNone,cond_true,anZ,Nat.reduceBEq,Nat.reduceAdd,Nat.reduceMul,aa,cj,eq_self,reduceCtorEq,gk,cQ,cm,bH,bound,dj,AS.bI,aQ,bF,bu,Nat.reduceLeDiff,cn,putAt,Int.reduceEq,Int.reduceLT,Int.reduceLE,Int.reduceBEq,Int.reduceBNe,Int.reduceAdd,Int.reduceNeg,Int.reduceSub,Int.reduceMul,dZ,dY,dX,dW,dV,dU,fc,fa,aN,bO,Int.toNat_natCast,aos,R2]
    ·obtain⟨kc,oc,oc',c7,c6,c8,c5⟩:=sS (H8.slot Te hb)
     simp only[gb] at c7 c6 c8
     simp(disch:=omega)only[mf,cZ,ca,cA,cu,gr,bj,aA,bf,aC.eval,AS.bW,↓reduceIte,Nat.reduceEqDiff,Option.isSome,Option.isNone,cond_true,anZ,Nat.reduceBEq,Nat.reduceAdd,Nat.reduceMul,aa,cj,eq_self,reduceCtorEq,gk,cQ,cm,bH,bound,dj,AS.bI,aQ,bF,bu,Nat.reduceLeDiff,cn,putAt,Int.reduceEq,Int.reduceLT,Int.reduceLE,Int.reduceBEq,Int.reduceBNe,Int.reduceAdd,Int.reduceNeg,Int.reduceSub,Int.reduceMul,dZ,dY,dX,dW,dV,dU,fc,fa,aN,bO,Int.toNat_natCast,aos,q1,q2,q3,q4,q5,N',R2,pN,iA,qW,gq,a7,a6,a8,a5,b7,b6,b8,b5,c7,c6,c8,c5,ZV,e8,e5,e60,hy9,kU,apf,gC,aN,ay,an,anW,anX,ab,bne,apA,aoe]
     refine fin _ _ ?_ ?_ ?_ ?_ ?_ ?_ ?_<;>simp(disch:=omega)only[mf,cZ,ca,cA,cu,gr,bj,aA,bf,aC.eval,AS.bW,↓reduceIte,Nat.reduceEqDiff,Option.isSome,Option.isNone,cond_true,anZ,Nat.reduceBEq,Nat.reduceAdd,Nat.reduceMul,aa,cj,eq_self,reduceCtorEq,gk,cQ,cm,bH,bound,dj,AS.bI,aQ,bF,bu,Nat.reduceLeDiff,cn,putAt,Int.reduceEq,Int.reduceLT,Int.reduceLE,Int.reduceBEq,Int.reduceBNe,Int.reduceAdd,Int.reduceNeg,Int.reduceSub,Int.reduceMul,dZ,dY,dX,dW,dV,dU,fc,fa,aN,bO,Int.toNat_natCast,aos,R2]
    ·obtain⟨kc,oc,oc',c7,c6,c8,c5⟩:=sS (H8.res Te (a:=[]) (by simp))
     simp only[gb,nL] at c7 c6 c8
     simp(disch:=omega)only[mf,cZ,ca,cA,cu,gr,bj,aA,bf,aC.eval,AS.bW,↓reduceIte,Nat.reduceEqDiff,Option.isSome,Option.isNone,cond_true,anZ,Nat.reduceBEq,Nat.reduceAdd,Nat.reduceMul,aa,cj,eq_self,reduceCtorEq,gk,cQ,cm,bH,bound,dj,AS.bI,aQ,bF,bu,Nat.reduceLeDiff,cn,putAt,Int.reduceEq,Int.reduceLT,Int.reduceLE,Int.reduceBEq,Int.reduceBNe,Int.reduceAdd,Int.reduceNeg,Int.reduceSub,Int.reduceMul,dZ,dY,dX,dW,dV,dU,fc,fa,aN,bO,Int.toNat_natCast,aos,q1,q2,q3,q4,q5,N',R2,pN,iA,qW,gq,a7,a6,a8,a5,b7,b6,b8,b5,c7,c6,c8,c5,ZV,e8,e5,e60,hy9,kU,apf,gC,aN,ay,an,anW,anX,ab,bne,apA,aoe]
     refine fin _ _ ?_ ?_ ?_ ?_ ?_ ?_ ?_<;>simp(disch:=omega)only[mf,cZ,ca,cA,cu,gr,bj,aA,bf,aC.eval,AS.bW,↓reduceIte,Nat.reduceEqDiff,Option.isSome,Option.isNone,cond_true,anZ,Nat.reduceBEq,Nat.reduceAdd,Nat.reduceMul,aa,cj,eq_self,reduceCtorEq,gk,cQ,cm,bH,bound,dj,AS.bI,aQ,bF,bu,Nat.reduceLeDiff,cn,putAt,Int.reduceEq,Int.reduceLT,Int.reduceLE,Int.reduceBEq,Int.reduceBNe,Int.reduceAdd,Int.reduceNeg,Int.reduceSub,Int.reduceMul,dZ,dY,dX,dW,dV,dU,fc,fa,aN,bO,Int.toNat_natCast,aos,R2]
   ·have hni:decide ((i:Int)<so.defs.length)=false:=by simp;omega
    simp(disch:=omega)only[mf,cZ,ca,cA,cu,gr,bj,aA,bf,aC.eval,AS.bW,↓reduceIte,Nat.reduceEqDiff,Option.isSome,Option.isNone,cond_true,anZ,Nat.reduceBEq,Nat.reduceAdd,Nat.reduceMul,aa,cj,eq_self,reduceCtorEq,gk,cQ,cm,bH,bound,dj,AS.bI,aQ,bF,bu,Nat.reduceLeDiff,cn,putAt,Int.reduceEq,Int.reduceLT,Int.reduceLE,Int.reduceBEq,Int.reduceBNe,Int.reduceAdd,Int.reduceNeg,Int.reduceSub,Int.reduceMul,dZ,dY,dX,dW,dV,dU,fc,fa,aN,bO,Int.toNat_natCast,aos,N',R2,pN,hni,ay,an,anW,anX,ab]
    refine⟨_,_,rfl,?_,?_,?_⟩<;>simp(disch:=omega)only[mf,cZ,ca,cA,cu,gr,bj,aA,bf,aC.eval,AS.bW,↓reduceIte,Nat.reduceEqDiff,Option.isSome,Option.isNone,cond_true,anZ,Nat.reduceBEq,Nat.reduceAdd,Nat.reduceMul,aa,cj,eq_self,reduceCtorEq,gk,cQ,cm,bH,bound,dj,AS.bI,aQ,bF,bu,Nat.reduceLeDiff,cn,putAt,Int.reduceEq,Int.reduceLT,Int.reduceLE,Int.reduceBEq,Int.reduceBNe,Int.reduceAdd,Int.reduceNeg,Int.reduceSub,Int.reduceMul,dZ,dY,dX,dW,dV,dU,fc,fa,aN,bO,Int.toNat_natCast,aos,q4,q5,N']
  ·rintro st ⟨T,g,rfl,q4,q5,N'⟩
   exact⟨T,g,rfl,q4,q5,N'⟩
  ·exact⟨_,_,rfl,by simp(disch:=omega)only[mf,cZ,ca,cA,cu,gr,bj,aA,bf,aC.eval,AS.bW,↓reduceIte,Nat.reduceEqDiff,Option.isSome,Option.isNone,cond_true,anZ,Nat.reduceBEq,Nat.reduceAdd,Nat.reduceMul,aa,cj,eq_self,reduceCtorEq,gk,cQ,cm,bH,bound,dj,AS.bI,aQ,bF,bu,Nat.reduceLeDiff,cn,putAt,Int.reduceEq,Int.reduceLT,Int.reduceLE,Int.reduceBEq,Int.reduceBNe,Int.reduceAdd,Int.reduceNeg,Int.reduceSub,Int.reduceMul,dZ,dY,dX,dW,dV,dU,fc,fa,aN,bO,Int.toNat_natCast,aos],by simp(disch:=omega)only[mf,cZ,ca,cA,cu,gr,bj,aA,bf,aC.eval,AS.bW,↓reduceIte,Nat.reduceEqDiff,Option.isSome,Option.isNone,cond_true,anZ,Nat.reduceBEq,Nat.reduceAdd,Nat.reduceMul,aa,cj,eq_self,reduceCtorEq,gk,cQ,cm,bH,bound,dj,AS.bI,aQ,bF,bu,Nat.reduceLeDiff,cn,putAt,Int.reduceEq,Int.reduceLT,Int.reduceLE,Int.reduceBEq,Int.reduceBNe,Int.reduceAdd,Int.reduceNeg,Int.reduceSub,Int.reduceMul,dZ,dY,dX,dW,dV,dU,fc,fa,aN,bO,Int.toNat_natCast,aos],by simp(disch:=omega)only[mf,cZ,ca,cA,cu,gr,bj,aA,bf,aC.eval,AS.bW,↓reduceIte,Nat.reduceEqDiff,Option.isSome,Option.isNone,cond_true,anZ,Nat.reduceBEq,Nat.reduceAdd,Nat.reduceMul,aa,cj,eq_self,reduceCtorEq,gk,cQ,cm,bH,bound,dj,AS.bI,aQ,bF,bu,Nat.reduceLeDiff,cn,putAt,Int.reduceEq,Int.reduceLT,Int.reduceLE,Int.reduceBEq,Int.reduceBNe,Int.reduceAdd,Int.reduceNeg,Int.reduceSub,Int.reduceMul,dZ,dY,dX,dW,dV,dU,fc,fa,aN,bO,Int.toNat_natCast,aos],by simp(disch:=omega)only[mf,cZ,ca,cA,cu,gr,bj,aA,bf,aC.eval,AS.bW,↓reduceIte,Nat.reduceEqDiff,Option.isSome,Option.isNone,cond_true,anZ,Nat.reduceBEq,Nat.reduceAdd,Nat.reduceMul,aa,cj,eq_self,reduceCtorEq,gk,cQ,cm,bH,bound,dj,AS.bI,aQ,bF,bu,Nat.reduceLeDiff,cn,putAt,Int.reduceEq,Int.reduceLT,Int.reduceLE,Int.reduceBEq,Int.reduceBNe,Int.reduceAdd,Int.reduceNeg,Int.reduceSub,Int.reduceMul,dZ,dY,dX,dW,dV,dU,fc,fa,aN,bO,Int.toNat_natCast,aos],by simp(disch:=omega)only[mf,cZ,ca,cA,cu,gr,bj,aA,bf,aC.eval,AS.bW,↓reduceIte,Nat.reduceEqDiff,Option.isSome,Option.isNone,cond_true,anZ,Nat.reduceBEq,Nat.reduceAdd,Nat.reduceMul,aa,cj,eq_self,reduceCtorEq,gk,cQ,cm,bH,bound,dj,AS.bI,aQ,bF,bu,Nat.reduceLeDiff,cn,putAt,Int.reduceEq,Int.reduceLT,Int.reduceLE,Int.reduceBEq,Int.reduceBNe,Int.reduceAdd,Int.reduceNeg,Int.reduceSub,Int.reduceMul,dZ,dY,dX,dW,dV,dU,fc,fa,aN,bO,Int.toNat_natCast,aos],by simp(disch:=omega)only[mf,cZ,ca,cA,cu,gr,bj,aA,bf,aC.eval,AS.bW,↓reduceIte,Nat.reduceEqDiff,Option.isSome,Option.isNone,cond_true,anZ,Nat.reduceBEq,Nat.reduceAdd,Nat.reduceMul,aa,cj,eq_self,reduceCtorEq,gk,cQ,cm,bH,bound,dj,AS.bI,aQ,bF,bu,Nat.reduceLeDiff,cn,putAt,Int.reduceEq,Int.reduceLT,Int.reduceLE,Int.reduceBEq,Int.reduceBNe,Int.reduceAdd,Int.reduceNeg,Int.reduceSub,Int.reduceMul,dZ,dY,dX,dW,dV,dU,fc,fa,aN,bO,Int.toNat_natCast,aos],by simp(disch:=omega)only[mf,cZ,ca,cA,cu,gr,bj,aA,bf,aC.eval,AS.bW,↓reduceIte,Nat.reduceEqDiff,Option.isSome,Option.isNone,cond_true,anZ,Nat.reduceBEq,Nat.reduceAdd,Nat.reduceMul,aa,cj,eq_self,reduceCtorEq,gk,cQ,cm,bH,bound,dj,AS.bI,aQ,bF,bu,Nat.reduceLeDiff,cn,putAt,Int.reduceEq,Int.reduceLT,Int.reduceLE,Int.reduceBEq,Int.reduceBNe,Int.reduceAdd,Int.reduceNeg,Int.reduceSub,Int.reduceMul,dZ,dY,dX,dW,dV,dU,fc,fa,aN,bO,Int.toNat_natCast,aos]⟩
 ·rintro st ⟨T,g,rfl,q4,q5,N'⟩
  unfold jr3
  simp only[bq.post]
  simp(disch:=omega)only[mf,cZ,ca,cA,cu,gr,bj,aA,bf,aC.eval,AS.bW,↓reduceIte,Nat.reduceEqDiff,Option.isSome,Option.isNone,cond_true,anZ,Nat.reduceBEq,Nat.reduceAdd,Nat.reduceMul,aa,cj,eq_self,reduceCtorEq,gk,cQ,cm,bH,bound,dj,AS.bI,aQ,bF,bu,Nat.reduceLeDiff,cn,putAt,Int.reduceEq,Int.reduceLT,Int.reduceLE,Int.reduceBEq,Int.reduceBNe,Int.reduceAdd,Int.reduceNeg,Int.reduceSub,Int.reduceMul,dZ,dY,dX,dW,dV,dU,fc,fa,aN,bO,Int.toNat_natCast,aos,q4,q5,N',AK,m12,m11,m13,m5,n12,n11,n13,n5,Ig,gC,cg,aN,an1,ay,an,anW,anX,ab]
  done
theorem fo{f:FuncId}{fn:Func}{i lI:aP}{a b c:List Nat}(h:Tryz.prog.funcs[f]?=some fn)(k:mA Tryz.prog a b c fn=some i)(e:some i=some lI):∃ fn cz locals muts,Tryz.prog.funcs[f]?=some fn/\mA Tryz.prog cz locals muts fn=some lI:=by
 injection e with e
 subst e
 exact⟨_,_,_,_,h,k⟩
theorem Jl(f:FuncId)(lI:aP)(h:fns f=some lI):∃ fn cz locals muts,Tryz.prog.funcs[f]?=some fn/\mA Tryz.prog cz locals muts fn=some lI:=by
 unfold fns at h
 split at h
 ·exact fo Tryz.func3 abk h
 ·exact fo Tryz.func4 abl h
 ·exact fo Tryz.func5 abm h
 ·exact fo Tryz.func6 abp h
 ·exact fo Tryz.func7 abw h
 ·exact fo Tryz.func8 aby h
 ·exact fo Tryz.func9 abC h
 ·exact fo Tryz.func10 UB h
 ·exact fo Tryz.func11 UC h
 ·exact fo Tryz.func12 UD h
 ·exact fo Tryz.func13 UE h
 ·exact fo Tryz.func14 UG h
 ·exact fo Tryz.func15 UH h
 ·exact fo Tryz.func16 UI h
 ·exact fo Tryz.func17 UJ h
 ·exact fo Tryz.func18 UK h
 ·exact fo Tryz.func19 UL h
 ·exact fo Tryz.func20 UM h
 ·exact fo Tryz.func21 UN h
 ·exact fo Tryz.func22 UO h
 ·exact fo Tryz.func23 UP h
 ·exact fo Tryz.func24 UQ h
 ·exact fo Tryz.func26 UR h
 ·exact fo Tryz.func27 US h
 ·exact fo Tryz.func28 UT h
 ·exact fo Tryz.func29 UU h
 ·exact fo Tryz.func30 UW h
 ·exact fo Tryz.func31 UX h
 ·exact fo Tryz.func32 UY h
 ·exact fo Tryz.func33 UZ h
 ·exact fo Tryz.func34 U0 h
 ·exact fo Tryz.func35 U1 h
 ·exact fo Tryz.func36 U2 h
 ·exact fo Tryz.func37 U3 h
 ·exact fo Tryz.func38 U4 h
 ·exact fo Tryz.func39 U5 h
 ·exact fo Tryz.func40 U6 h
 ·exact fo Tryz.func41 U7 h
 ·exact fo Tryz.func42 U8 h
 ·exact fo Tryz.func43 U9 h
 ·exact fo Tryz.func44 U' h
 ·exact fo Tryz.func45 Va h
 ·exact fo Tryz.func46 Vb h
 ·exact fo Tryz.func48 Vc h
 ·exact fo Tryz.func49 Vd h
 ·exact fo Tryz.func50 Ve h
 ·exact fo Tryz.func51 Vf h
 ·exact fo Tryz.func52 Vg h
 ·exact fo Tryz.func53 Vh h
 ·exact fo Tryz.func54 Vi h
 ·exact fo Tryz.func55 Vj h
 ·exact fo Tryz.func56 Vk h
 ·exact fo Tryz.func57 Vl h
 ·exact fo Tryz.func58 Vm h
 ·exact fo Tryz.func59 Vn h
 ·exact fo Tryz.func60 Vo h
 ·exact fo Tryz.func61 Vp h
 ·exact fo Tryz.func62 Vq h
 ·exact fo Tryz.func63 Vr h
 ·exact fo Tryz.func64 Vs h
 ·exact fo Tryz.func65 Vt h
 ·exact fo Tryz.func66 Vu h
 ·exact fo Tryz.func67 Vv h
 ·exact fo Tryz.func68 Vw h
 ·exact fo Tryz.func69 Vx h
 ·exact fo Tryz.func70 Vy h
 ·exact fo Tryz.func71 Vz h
 ·exact fo Tryz.func72 VA h
 ·exact fo Tryz.func73 VB h
 ·exact fo Tryz.func74 VC h
 ·exact fo Tryz.func75 VD h
 ·exact fo Tryz.func76 VE h
 ·exact fo Tryz.func77 VF h
 ·exact fo Tryz.func78 VG h
 ·exact fo Tryz.func79 VH h
 ·exact fo Tryz.func80 VI h
 ·exact fo Tryz.func81 VJ h
 ·exact fo Tryz.func83 VK h
 ·exact fo Tryz.func84 VL h
 ·exact fo Tryz.func85 VM h
 ·exact fo Tryz.func86 Lv h
 ·exact fo Tryz.func87 VN h
 ·exact fo Tryz.func88 VO h
 ·exact fo Tryz.func89 VP h
 ·exact fo Tryz.func90 VQ h
 ·exact fo Tryz.func91 VS h
 ·exact fo Tryz.func92 VT h
 ·exact fo Tryz.func93 VU h
 ·exact fo Tryz.func94 VV h
 ·exact fo Tryz.func95 VW h
 ·exact fo Tryz.func96 VX h
 ·exact fo Tryz.func97 VY h
 ·exact fo Tryz.func98 VZ h
 ·exact fo Tryz.func99 V1 h
 ·exact fo Tryz.func100 P5 h
 ·exact fo Tryz.func101 P7 h
 ·exact fo Tryz.func102 P9 h
 ·exact fo Tryz.func103 Qb h
 ·exact fo Tryz.func105 Qc h
 ·exact fo Tryz.func106 Qd h
 ·exact fo Tryz.func111 Qe h
 ·exact fo Tryz.func112 Qf h
 ·exact fo Tryz.func113 Qg h
 ·exact fo Tryz.func114 Qi h
 ·exact fo Tryz.func115 Qk h
 ·exact fo Tryz.func116 Qm h
 ·exact fo Tryz.func117 Qn h
 ·exact fo Tryz.func118 Qp h
 ·exact fo Tryz.func126 Qs h
 ·exact fo Tryz.func127 Qu h
 ·exact fo Tryz.func129 Qv h
 ·exact fo Tryz.func133 Qy h
 ·exact fo Tryz.func136 Qz h
 ·exact fo Tryz.func137 QB h
 ·exact fo Tryz.func138 QC h
 ·exact fo Tryz.func144 QE h
 ·exact fo Tryz.func169 QH h
 ·exact fo Tryz.func170 QJ h
 ·cases h
theorem ab0(f:FuncId)(g:List AV->ai->Option (AV × Option gS))(h:ov0 f=some g):jb Tryz.prog D' f g:=by
 unfold ov0 at h
 split at h
 ·injection h with h;subst h;exact zo
 ·injection h with h;subst h;exact wY
 ·injection h with h;subst h;exact uS
 ·injection h with h;subst h;exact yg
 ·cases h
theorem DH:mj Tryz.prog A0:=⟨by kernel_rfl,Jl,ab0⟩
theorem SF:jb Tryz.prog D' 86 rU:=NH DH Tryz.func86 Lv
theorem Za(f:FuncId)(g:List AV->ai->Option (AV × Option gS))(h:ov f=some g):jb Tryz.prog D' f g:=by
 unfold ov at h
 split at h
 ·injection h with h;subst h;exact SF
 ·injection h with h;subst h;exact zo
 ·injection h with h;subst h;exact wY
 ·injection h with h;subst h;exact uS
 ·injection h with h;subst h;exact yg
 ·cases h
theorem RW:mj Tryz.prog A:=⟨DH.mixed,Jl,Za⟩
theorem T9(f:FuncId)(lI:aP)(h:aat f=some lI):∃ fn cz locals muts,Tryz.prog.funcs[f]?=some fn/\mA Tryz.prog cz locals muts fn=some lI:=by
 unfold aat at h
 split at h
 ·exact fo Tryz.func103 Rt h
 ·exact fo Tryz.func118 Rx h
 ·exact Jl f lI h
theorem Wy:mj Tryz.prog AE:=⟨DH.mixed,T9,Za⟩
theorem RE:jb Tryz.prog D' 14 xR:=by
 have h:=Z9 Wy 109 14
 intro args H r c he
 unfold xR at he
 split at he
 ·injection he with he
  injection he with e1 e2
  subst e1 e2
  exact h _ _ _ _ Nf
 ·cases he
theorem Fo{f:FuncId} : jb Tryz.prog A.aZ f (aE A f):=by
 intro args H r c h
 obtain⟨n,hn⟩:=ke.1 h
 obtain⟨k1,k2,k3⟩:=rI RW n f args H r c hn
 exact⟨k1,k2,fun base gh w vs hW j5 tX de=>k3 base gh w vs hW j5 tX fun j v x hv hx=>.inl (de j v x hv hx)⟩
theorem T8(f:FuncId)(lI:aP)(h:aas f=some lI):∃ fn cz locals muts,Tryz.prog.funcs[f]?=some fn/\mA Tryz.prog cz locals muts fn=some lI:=by
 unfold aas at h
 split at h
 ·exact fo Tryz.func3 abD h
 ·cases h
theorem ab1(f:FuncId)(g:List AV->ai->Option (AV × Option gS))(h:ov9 f=some g):jb Tryz.prog A9.aZ f g:=by
 unfold ov9 at h
 split at h
 ·cases h
 ·injection h with h;subst h;exact RE
 ·injection h with h;subst h;exact Fo
theorem Wx:mj Tryz.prog A9:=⟨RW.mixed,T8,ab1⟩
end Go.Proofs.YtbdhkgiakaegdaaGreatDoor
