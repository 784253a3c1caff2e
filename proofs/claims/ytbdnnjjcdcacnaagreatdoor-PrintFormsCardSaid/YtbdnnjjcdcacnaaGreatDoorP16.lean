/-
  A part of the proof of PrintForms: F56, F53, F57, F58, F59, F60, F61, F62.
-/
import Derived.Test.YtbdnnjjcdcacnaaGreatDoorP15
set_option linter.unusedSimpArgs false
set_option linter.unusedVariables false
set_option linter.defProp false
set_option maxHeartbeats 1000000
set_option maxRecDepth 100000
namespace Go.Proofs.YtbdnnjjcdcacnaaGreatDoor
open Go Go.Abs Go.Proofs
theorem XN{t:Tm}{n h:Nat}(hn:n<=9000)(hF:u9 h t)(hk:t.kind=3)(hu:bj t=true)(fV:∀ u∈t.kids,jO n u){mm:Nat}{K:ah}(hP:PW mm K):oM mm K 55 [.ref mm 0,.agg (cE t)] (ai t) (ay t) (3*(n+4)+20):=by
 have lM:=afN hk hu
 have hU:=agH hk hu
 have ou:=cu t
 rw[hk] at ou
 have A6:=hF.a
 have mV:=hF.kl
 rw[an]
 intro l hl
 obtain⟨K1,dQ,bX,da,hT,hO⟩:=lH hP t
 have bf:=hP.lt
 have ja:=fun K=>gx t K
 rw[hu,an] at ja
 have dR:=fun ok l b=>fq dQ ok l b
 have h0:=fun l b=>ff (l:=l) (b:=b) dQ
 unfold lB at h0
 have hmk:t.kids.length*(n+0+1)<=3*(n+0+1):=aot _ mV
 obtain⟨l1,e1,t1,n1⟩:=pw dQ t.name (by omega) l false (by omega)
 obtain⟨l2,e2,t2,n2⟩:=fi dQ [[40]] (by simp) l1 (false || !cD t.name) (by simp only[an5,an6];omega)
 simp only[an5,an6] at n2
 by_cases vJ:t.kids.length=0
 ·have Al:t.kids=[]:=aoG.1 vJ
  have e3:∀ Q:ah,aD A 91 [.ref mm 0,.slice [] false,.func (.func 88) [] []] Q=some (.undef,none):=fun Q=>CZ
  obtain⟨l4,e4,t4,n4⟩:=fi dQ [[41]] (by simp) l2 (false || !cD t.name) (by simp only[an5,an6];omega)
  simp only[an5,an6] at n4
  simp only[pk,tQ,aon] at e1 e2 e4 t1 t2 t4
  rw[lM,ou,Al]
  simp only[apd,Bool.and_true]
  rw[Al,Ll] at bX ja da
  rw[Ll]
  refine⟨l4,?_,fun hp=>by rw[t4 (by simp[hp]),t2 (by simp[hp]),t1 (by simp[hp])];simp[b3,aO],by omega⟩
  refine aB (fn:=fZ) rfl rfl rfl ?_
  unfold fZ
  have ho:=hO l4 (!cD t.name)
  generalize (!cD t.name)=b1 at *
  simp(disch:=omega)only[aP,aa,simprocAttr,bX,da,ja,dR,h0,hT,aom,aoj,aow,aon,ao4,aoH,aoL,ar,aoc,aob,an8,cond_true,aA,aq,ak,an3,an4,ab,ho,e1,e2,e3,e4]
 ·obtain⟨l3,e3,t3,n3⟩:=C1 (n:=n) (nb:=0) (ob:=fun _=>true) (tb:=fun _=>[]) (fb:=88) (cs:=[]) dQ fV (by omega) (by omega) (fun i _=>Bp i) (by omega) l2 (false || !cD t.name) (by omega)
  rw[uR,K0] at t3
  rw[uR] at e3
  obtain⟨l4,e4,t4,n4⟩:=fi dQ [[41]] (by simp) l3 ((false || !cD t.name) || !t.kids.all ai) (by simp only[an5,an6];omega)
  simp only[an5,an6] at n4
  simp only[pk,tQ,aon] at e1 e2 e3 e4 t1 t2 t3 t4
  rw[lM,ou]
  have eo:(!cD t.name || !t.kids.all ai)=!(cD t.name&&t.kids.all ai):=by cases cD t.name<;>cases t.kids.all ai<;>rfl
  rw[eo] at e3 e4 t3 t4
  refine⟨l4,?_,fun hp=>?_,by omega⟩
  ·skip
   refine aB (fn:=fZ) rfl rfl rfl ?_
   unfold fZ
   have ho:=hO l4 (!(cD t.name&&t.kids.all ai))
   generalize (!(cD t.name&&t.kids.all ai))=b2 at *
   generalize (!cD t.name)=b1 at *
   simp(disch:=omega)only[aP,aa,simprocAttr,bX,da,ja,dR,h0,hT,aom,aoj,aow,aon,ao4,aoH,aoL,ar,aoc,aob,an8,cond_true,aA,aq,ak,an3,an4,ab,ho,e1,e2,e3,e4]
  ·have hq:cD t.name=true:=by cases h:cD t.name<;>simp_all
   rw[t4 (by simp[hp]),t3 (by simp[hp]),t2 (by simp[hq]),t1 (by simp[hq])]
   simp[b3]
   rfl
theorem XO{t:Tm}{n h:Nat}(hn:n<=9000)(hF:u9 h t)(hk:t.kind=4)(hu:bj t=true)(fV:∀ u∈t.kids,jO n u){mm:Nat}{K:ah}(hP:PW mm K):oM mm K 55 [.ref mm 0,.agg (cE t)] (ai t) (ay t) (3*(n+4)+20):=by
 have lM:=YX hk hu
 have hU:=ac6 hk hu
 have ou:=cu t
 rw[hk] at ou
 have A6:=hF.a
 have mV:=hF.kl
 rw[an]
 intro l hl
 obtain⟨K1,dQ,bX,da,hT,hO⟩:=lH hP t
 have bf:=hP.lt
 have ja:=fun K=>gx t K
 rw[hu,an] at ja
 have dR:=fun ok l b=>fq dQ ok l b
 have h0:=fun l b=>ff (l:=l) (b:=b) dQ
 unfold lB at h0
 obtain⟨l1,e1,t1,n1⟩:=abP hn hk hu fV dQ l (by omega)
 rw[an] at e1
 refine⟨l1,?_,t1,by omega⟩
 refine aB (fn:=fZ) rfl rfl rfl ?_
 unfold fZ
 have ho:=hO l1 (!ai t)
 generalize (!ai t)=b1 at *
 simp(disch:=omega)only[aP,aa,simprocAttr,bX,da,ja,dR,h0,hT,aom,aoj,aow,aon,ao4,aoH,aoL,ar,aoc,aob,an8,cond_true,aA,aq,ak,an3,an4,ab,ho,e1]
theorem XP{t:Tm}{n h:Nat}(hn:n<=9000)(hF:u9 h t)(hk:t.kind=5)(hu:bj t=true)(fV:∀ u∈t.kids,jO n u){mm:Nat}{K:ah}(hP:PW mm K):oM mm K 55 [.ref mm 0,.agg (cE t)] (ai t) (ay t) (3*(n+4)+20):=by
 have lM:=afO hk hu
 have hU:=agI hk hu
 have ou:=cu t
 rw[hk] at ou
 have A6:=hF.a
 have mV:=hF.kl
 rw[an]
 intro l hl
 obtain⟨K1,dQ,bX,da,hT,hO⟩:=lH hP t
 have bf:=hP.lt
 have ja:=fun K=>gx t K
 rw[hu,an] at ja
 have dR:=fun ok l b=>fq dQ ok l b
 have h0:=fun l b=>ff (l:=l) (b:=b) dQ
 unfold lB at h0
 have hv:=qK dQ t 3 0 l false
 rw[an] at hv
 rw[lM]
 by_cases hh:gr t 3 0=true
 ·rw[hh] at hv ⊢
  simp only[aou,aom,aow,aoj] at hv ⊢
  unfold gr at hh
  simp only[aod,aov] at hh
  obtain⟨hh1,hh2⟩:=hh
  obtain⟨x,y,z,sq⟩:=Rx (show t.kids.length=3 by omega)
  have KQ:∀ u∈[x,y,z],jO n u:=fun u zU=>fV u (by rw[sq];simp only[aoN,apK,aqH] at zU ⊢;rcases zU with rfl|rfl|rfl<;>simp)
  obtain⟨l1,e1,t1,n1⟩:=Dh (ts:=[[105,102],[116,104,101,110],[101,108,115,101]]) dQ KQ (by simp) (by simp) rfl (by omega) l false (by simp only[an5,an6];omega)
  rw[show ([x,y,z]:List Tm).length=3 from rfl,pt3] at t1
  rw[show ([x,y,z]:List Tm).length=3 from rfl] at e1 n1
  have dB:xx [x,y,z] 3=t.kids.all ai:=by
   have:=rV (ks:=[x,y,z])
   rw[show ([x,y,z]:List Tm).length=3 from rfl] at this
   rw[this,sq]
  rw[dB] at e1 t1
  simp only[pk,tQ,aon] at e1 t1
  rw[<- sq] at e1
  rw[show strs [[105,102],[116,104,101,110],[101,108,115,101]]=[[.str [105,102]],[.str [116,104,101,110]],[.str [101,108,115,101]]] from rfl] at e1
  refine⟨l1,?_,fun hp=>?_,by omega⟩
  ·skip
   refine aB (fn:=fZ) rfl rfl rfl ?_
   unfold fZ
   have ho:=hO l1 (!t.kids.all ai)
   generalize (!t.kids.all ai)=bb at *
   simp(disch:=omega)only[aP,aa,simprocAttr,bX,da,ja,dR,h0,hT,aom,aoj,aow,aon,ao4,aoH,aoL,ar,aoc,aob,an8,cond_true,aA,aq,ak,an3,an4,ab,ho,hv,e1]
  ·rw[t1 (by simp[hp]),ou,sq];simp[b5]
 ·have hh' : gr t 3 0=false:=by cases h:gr t 3 0<;>simp_all
  rw[hh'] at hv ⊢
  simp only[aoq,aoj,aoL,aom] at hv ⊢
  refine⟨l,?_,(fun h=>by cases h),by omega⟩
  refine aB (fn:=fZ) rfl rfl rfl ?_
  unfold fZ
  have ho:=hO l true
  simp(disch:=omega)only[aP,aa,simprocAttr,bX,da,ja,dR,h0,hT,aom,aoj,aow,aon,ao4,aoH,aoL,ar,aoc,aob,an8,cond_true,aA,aq,ak,an3,an4,ab,ho,hv]
theorem XQ{t:Tm}{n h:Nat}(hn:n<=9000)(hF:u9 h t)(hk:t.kind=6)(hu:bj t=true)(fV:∀ u∈t.kids,jO n u){mm:Nat}{K:ah}(hP:PW mm K):oM mm K 55 [.ref mm 0,.agg (cE t)] (ai t) (ay t) (3*(n+4)+20):=by
 have lM:=afP hk hu
 have hU:=agJ hk hu
 have ou:=cu t
 rw[hk] at ou
 have A6:=hF.a
 have mV:=hF.kl
 rw[an]
 intro l hl
 obtain⟨K1,dQ,bX,da,hT,hO⟩:=lH hP t
 have bf:=hP.lt
 have ja:=fun K=>gx t K
 rw[hu,an] at ja
 have dR:=fun ok l b=>fq dQ ok l b
 have h0:=fun l b=>ff (l:=l) (b:=b) dQ
 unfold lB at h0
 have hv:=qK dQ t 2 1 l false
 rw[an] at hv
 rw[lM]
 by_cases hh:gr t 2 1=true
 ·rw[hh] at hv ⊢
  simp only[aou,aom,aow,aoj] at hv ⊢
  unfold gr at hh
  simp only[aod,aov] at hh
  obtain⟨hh1,hh2⟩:=hh
  obtain⟨x,y,sq⟩:=GQ (show t.kids.length=2 by omega)
  obtain⟨p,pB⟩:=GP (show t.names.length=1 by omega)
  have hp:p.length<=20:=hF.nb p (by rw[pB];simp)
  have wZ:(strs t.names)[0]?=some [.str p]:=by rw[pB];rfl
  obtain⟨l1,e1,t1,n1⟩:=fi dQ [[108,101,116]] (by simp) l false (by simp only[an5,an6];omega)
  obtain⟨l2,e2,t2,n2⟩:=iY dQ p (by omega) l1 false (by simp only[an5,an6] at n1;omega)
  have KQ:∀ u∈[x,y],jO n u:=fun u zU=>fV u (by rw[sq];simp only[aoN,apK,aqH] at zU ⊢;rcases zU with rfl|rfl<;>simp)
  obtain⟨l3,e3,t3,n3⟩:=Dh (ts:=[[61],[105,110]]) dQ KQ (by simp) (by simp) rfl (by omega) l2 (false || !isWord p) (by simp only[an5,an6] at n1 ⊢;omega)
  rw[show ([x,y]:List Tm).length=2 from rfl,pt2] at t3
  rw[show ([x,y]:List Tm).length=2 from rfl] at e3 n3
  have dB:xx [x,y] 2=t.kids.all ai:=by
   have:=rV (ks:=[x,y])
   rw[show ([x,y]:List Tm).length=2 from rfl] at this
   rw[this,sq]
  rw[dB] at e3 t3
  simp only[an5,an6] at n1
  simp only[pk,tQ,aon] at e1 t1 e2 t2 e3 t3
  have eo:(!isWord p || !t.kids.all ai)=!(t.names.all isWord&&t.kids.all ai):=by rw[pB];simp only[ao6,apd,Bool.and_true];cases isWord p<;>cases t.kids.all ai<;>rfl
  rw[eo] at e3 t3
  rw[<- sq] at e3
  rw[show strs [[61],[105,110]]=[[.str [61]],[.str [105,110]]] from rfl] at e3
  refine⟨l3,?_,fun hp=>?_,by omega⟩
  ·skip
   refine aB (fn:=fZ) rfl rfl rfl ?_
   unfold fZ
   have ho:=hO l3 (!(t.names.all isWord&&t.kids.all ai))
   generalize (!(t.names.all isWord&&t.kids.all ai))=bb at *
   generalize (!isWord p)=b1 at *
   simp(disch:=omega)only[aP,aa,simprocAttr,bX,da,ja,dR,h0,hT,aom,aoj,aow,aon,ao4,aoH,aoL,ar,aoc,aob,an8,cond_true,aA,aq,ak,an3,an4,ab,ho,hv,e1,e2,e3,wZ]
  ·have Pr:=hp
   rw[pB] at Pr
   have hpp:isWord p=true:=by cases h:isWord p<;>simp_all
   rw[t3 (by simp[hp]),t2 (by simp[hpp]),t1 (by trivial),ou,sq,pB];simp[b6]
 ·have hh' : gr t 2 1=false:=by cases h:gr t 2 1<;>simp_all
  rw[hh'] at hv ⊢
  simp only[aoq,aoj,aoL,aom] at hv ⊢
  refine⟨l,?_,(fun h=>by cases h),by omega⟩
  refine aB (fn:=fZ) rfl rfl rfl ?_
  unfold fZ
  have ho:=hO l true
  simp(disch:=omega)only[aP,aa,simprocAttr,bX,da,ja,dR,h0,hT,aom,aoj,aow,aon,ao4,aoH,aoL,ar,aoc,aob,an8,cond_true,aA,aq,ak,an3,an4,ab,ho,hv]
theorem SO{t:Tm}{n h:Nat}(hn:n<=9000)(hF:u9 h t)(hk:t.kind=12)(hu:bj t=true)(fV:∀ u∈t.kids,jO n u){mm:Nat}{K:ah}(hP:PW mm K):oM mm K 55 [.ref mm 0,.agg (cE t)] (ai t) (ay t) (3*(n+4)+20):=by
 have lM:=abT hk hu
 have hU:=Zb hk hu
 have ou:=cu t
 rw[hk] at ou
 have A6:=hF.a
 have mV:=hF.kl
 rw[an]
 intro l hl
 obtain⟨K1,dQ,bX,da,hT,hO⟩:=lH hP t
 have bf:=hP.lt
 have ja:=fun K=>gx t K
 rw[hu,an] at ja
 have dR:=fun ok l b=>fq dQ ok l b
 have h0:=fun l b=>ff (l:=l) (b:=b) dQ
 unfold lB at h0
 have hv:=qK dQ t 3 2 l false
 rw[an] at hv
 rw[lM]
 by_cases hh:gr t 3 2=true
 ·rw[hh] at hv ⊢
  simp only[aou,aom,aow,aoj] at hv ⊢
  unfold gr at hh
  simp only[aod,aov] at hh
  obtain⟨hh1,hh2⟩:=hh
  obtain⟨x,y,z,sq⟩:=Rx (show t.kids.length=3 by omega)
  obtain⟨p,q,pB⟩:=GQ (show t.names.length=2 by omega)
  have hp:p.length<=20:=hF.nb p (by rw[pB];simp)
  have wZ:(strs t.names)[0]?=some [.str p]:=by rw[pB];rfl
  have hq:q.length<=20:=hF.nb q (by rw[pB];simp)
  have haq:(strs t.names)[1]?=some [.str q]:=by rw[pB];rfl
  obtain⟨l1,e1,t1,n1⟩:=fi dQ [[102,111,108,100]] (by simp) l false (by simp only[an5,an6];omega)
  obtain⟨l2,e2,t2,n2⟩:=iY dQ p (by omega) l1 false (by simp only[an5,an6] at n1;omega)
  obtain⟨l3,e3,t3,n3⟩:=fi dQ [[44]] (by simp) l2 (false || !isWord p) (by simp only[an5,an6] at n1 ⊢;omega)
  obtain⟨l4,e4,t4,n4⟩:=iY dQ q (by omega) l3 (false || !isWord p) (by simp only[an5,an6] at n1 n3;omega)
  have KQ:∀ u∈[y,x,z],jO n u:=fun u zU=>fV u (by rw[sq];simp only[aoN,apK,aqH] at zU ⊢;rcases zU with rfl|rfl|rfl<;>simp)
  obtain⟨l5,e5,t5,n5⟩:=Dh (ts:=[[61],[111,118,101,114],[100,111]]) dQ KQ (by simp) (by simp) rfl (by omega) l4 ((false || !isWord p) || !isWord q) (by simp only[an5,an6] at n1 n3 ⊢;omega)
  rw[show ([y,x,z]:List Tm).length=3 from rfl,pt3] at t5
  rw[show ([y,x,z]:List Tm).length=3 from rfl] at e5 n5
  have dB:xx [y,x,z] 3=t.kids.all ai:=by
   have:=rV (ks:=[y,x,z])
   rw[show ([y,x,z]:List Tm).length=3 from rfl] at this
   rw[this,sq]
   simp only[ao6,apd]
   cases ai x<;>cases ai y<;>cases ai z<;>rfl
  rw[dB] at e5 t5
  simp only[an5,an6] at n1 n3
  simp only[pk,tQ,aon] at e1 t1 e2 t2 e3 t3 e4 t4 e5 t5
  have eo:((!isWord p || !isWord q) || !t.kids.all ai)=!(t.names.all isWord&&t.kids.all ai):=by rw[pB];simp only[ao6,apd,Bool.and_true];cases isWord p<;>cases isWord q<;>cases t.kids.all ai<;>rfl
  rw[eo] at e5 t5
  have vJ:(au t.kids)[0]?=some (cE x):=by rw[sq];simp[au]
  have vK:(au t.kids)[1]?=some (cE y):=by rw[sq];simp[au]
  have hk2:(au t.kids)[2]?=some (cE z):=by rw[sq];simp[au]
  rw[an] at vJ vK hk2
  rw[show au [y,x,z]=[cE y,cE x,cE z] from by simp[au],an x,an y,an z] at e5
  rw[show strs [[61],[111,118,101,114],[100,111]]=[[.str [61]],[.str [111,118,101,114]],[.str [100,111]]] from rfl] at e5
  refine⟨l5,?_,fun hp=>?_,by omega⟩
  ·skip
   refine aB (fn:=fZ) rfl rfl rfl ?_
   unfold fZ
   have ho:=hO l5 (!(t.names.all isWord&&t.kids.all ai))
   generalize (!(t.names.all isWord&&t.kids.all ai))=bb at *
   generalize (!isWord p || !isWord q)=b2 at *
   generalize (!isWord p)=b1 at *
   simp(disch:=omega)only[aP,aa,simprocAttr,bX,da,ja,dR,h0,hT,aom,aoj,aow,aon,ao4,aoH,aoL,ar,aoc,aob,an8,cond_true,aA,aq,ak,an3,an4,ab,ho,hv,e1,e2,e3,e4,e5,wZ,haq,vJ,vK,hk2]
  ·have Pr:=hp
   rw[pB] at Pr
   have hpp:isWord p=true:=by cases h:isWord p<;>simp_all
   have hqq:isWord q=true:=by cases h:isWord q<;>simp_all
   rw[t5 (by simp[hp]),t4 (by simp[hpp,hqq]),t3 (by simp[hpp]),t2 (by simp[hpp]),t1 (by trivial),ou,sq,pB];simp[b12]
 ·have hh' : gr t 3 2=false:=by cases h:gr t 3 2<;>simp_all
  rw[hh'] at hv ⊢
  simp only[aoq,aoj,aoL,aom] at hv ⊢
  refine⟨l,?_,(fun h=>by cases h),by omega⟩
  refine aB (fn:=fZ) rfl rfl rfl ?_
  unfold fZ
  have ho:=hO l true
  simp(disch:=omega)only[aP,aa,simprocAttr,bX,da,ja,dR,h0,hT,aom,aoj,aow,aon,ao4,aoH,aoL,ar,aoc,aob,an8,cond_true,aA,aq,ak,an3,an4,ab,ho,hv]
theorem SN{t:Tm}{n h:Nat}(hn:n<=9000)(hF:u9 h t)(hk:t.kind=11)(hu:bj t=true)(fV:∀ u∈t.kids,jO n u){mm:Nat}{K:ah}(hP:PW mm K):oM mm K 55 [.ref mm 0,.agg (cE t)] (ai t) (ay t) (3*(n+4)+20):=by
 have lM:=abS hk hu
 have hU:=Za hk hu
 have ou:=cu t
 rw[hk] at ou
 have A6:=hF.a
 have mV:=hF.kl
 rw[an]
 intro l hl
 obtain⟨K1,dQ,bX,da,hT,hO⟩:=lH hP t
 have bf:=hP.lt
 have ja:=fun K=>gx t K
 rw[hu,an] at ja
 have dR:=fun ok l b=>fq dQ ok l b
 have h0:=fun l b=>ff (l:=l) (b:=b) dQ
 unfold lB at h0
 have hmk:t.kids.length*(n+0+1)<=3*(n+0+1):=aot _ mV
 obtain⟨l1,e1,t1,n1⟩:=fi dQ [fL] (by simp) l false (by simp only[an5,an6];omega)
 simp only[an5,an6] at n1
 have hw:=Kz dQ (ks:=[.mk t.wn t.wk]) (n:=12) (by omega) (fun k qN=>by
  rw[apN] at qN
  rw[<- qN.1]
  exact DA 3 _ (by omega) hF.w mm K1 dQ)
 obtain⟨l2,e2,t2,n2⟩:=hw l1 false (by omega)
 rw[show az [.mk t.wn t.wk]=[[.str t.wn,.slice (az t.wk) false]] from by simp[az,gz]] at e2
 rw[show K7 [.mk t.wn t.wk]=bc (.mk t.wn t.wk) from rfl] at e2 t2
 rw[show Nj [.mk t.wn t.wk]=[[40]]++dh (.mk t.wn t.wk)++[[41]] from rfl] at t2
 obtain⟨l3,e3,t3,n3⟩:=fi dQ [[91]] (by simp) l2 (false || !bc (.mk t.wn t.wk)) (by simp only[an5,an6];omega)
 simp only[an5,an6] at n3
 by_cases vJ:t.kids.length=0
 ·have Al:t.kids=[]:=aoG.1 vJ
  have e4:∀ Q:ah,aD A 91 [.ref mm 0,.slice [] false,.func (.func 88) [] []] Q=some (.undef,none):=fun Q=>CZ
  obtain⟨l5,e5,t5,n5⟩:=fi dQ [[93]] (by simp) l3 (false || !bc (.mk t.wn t.wk)) (by simp only[an5,an6];omega)
  simp only[an5,an6] at n5
  simp only[pk,tQ,aon] at e1 e2 e3 e5 t1 t2 t3 t5
  rw[lM,ou,Al]
  simp only[apd,Bool.and_true]
  rw[Al,Ll] at bX ja da
  rw[Ll]
  refine⟨l5,?_,fun hp=>by rw[t5 (by simp[hp]),t3 (by simp[hp]),t2 (by simp[hp]),t1 (by trivial)];simp[b11,aO],by omega⟩
  refine aB (fn:=fZ) rfl rfl rfl ?_
  unfold fZ
  have ho:=hO l5 (!bc (.mk t.wn t.wk))
  generalize (!bc (.mk t.wn t.wk))=b1 at *
  simp(disch:=omega)only[aP,aa,simprocAttr,bX,da,ja,dR,h0,hT,aom,aoj,aow,aon,ao4,aoH,aoL,ar,aoc,aob,an8,cond_true,aA,aq,ak,an3,an4,ab,ho,e1,e2,e3,e4,e5]
 ·obtain⟨l4,e4,t4,n4⟩:=C1 (n:=n) (nb:=0) (ob:=fun _=>true) (tb:=fun _=>[]) (fb:=88) (cs:=[]) dQ fV (by omega) (by omega) (fun i _=>Bp i) (by omega) l3 (false || !bc (.mk t.wn t.wk)) (by omega)
  rw[uR,K0] at t4
  rw[uR] at e4
  obtain⟨l5,e5,t5,n5⟩:=fi dQ [[93]] (by simp) l4 ((false || !bc (.mk t.wn t.wk)) || !t.kids.all ai) (by simp only[an5,an6];omega)
  simp only[an5,an6] at n5
  simp only[pk,tQ,aon] at e1 e2 e3 e4 e5 t1 t2 t3 t4 t5
  rw[lM,ou]
  have eo:(!bc (.mk t.wn t.wk) || !t.kids.all ai)=!(bc (.mk t.wn t.wk)&&t.kids.all ai):=by cases bc (.mk t.wn t.wk)<;>cases t.kids.all ai<;>rfl
  rw[eo] at e4 e5 t4 t5
  refine⟨l5,?_,fun hp=>?_,by omega⟩
  ·skip
   refine aB (fn:=fZ) rfl rfl rfl ?_
   unfold fZ
   have ho:=hO l5 (!(bc (.mk t.wn t.wk)&&t.kids.all ai))
   generalize (!(bc (.mk t.wn t.wk)&&t.kids.all ai))=b2 at *
   generalize (!bc (.mk t.wn t.wk))=b1 at *
   simp(disch:=omega)only[aP,aa,simprocAttr,bX,da,ja,dR,h0,hT,aom,aoj,aow,aon,ao4,aoH,aoL,ar,aoc,aob,an8,cond_true,aA,aq,ak,an3,an4,ab,ho,e1,e2,e3,e4,e5]
  ·have hq:bc (.mk t.wn t.wk)=true:=by cases h:bc (.mk t.wn t.wk)<;>simp_all
   rw[t5 (by simp[hp]),t4 (by simp[hp]),t3 (by simp[hq]),t2 (by simp[hq]),t1 (by trivial)]
   simp[b11]
   rfl
theorem SW{n:Nat}(hn:n<=9000){t:Tm}(hk:t.kind=7)(hu:bj t=true)(A6:t.name.length<=20)(mV:t.kids.length<=3)(zT:∀ s∈t.names,s.length<=20)(fV:∀ u∈t.kids,jO n u){mm:Nat}{K:ah}(hP:PW mm K):oM mm K 95 [.ref mm 0,.agg (cE t)] (ai t) (ay t) (3*(n+3)+7):=by
 intro l hl
 have lM:=YY hk hu
 have hmk:t.kids.length*(n+2+1)<=3*(n+2+1):=aot _ mV
 rw[lM]
 rw[an]
 have dQ:PW mm (K++[.box 94 [.ref mm 0],.box 43 [.int .i64 t.kind,.int .i64 t.n,.str t.name,.str t.field,.str t.wn,.slice (az t.wk) false,.slice (au t.kids) false,.slice (strs t.names) false]]):=hP.Lb (fun cs e=>by cases e) (fun cs e=>by cases e)
 have hH:TyH mm t K.length (K++[.box 94 [.ref mm 0],.box 43 [.int .i64 t.kind,.int .i64 t.n,.str t.name,.str t.field,.str t.wn,.slice (az t.wk) false,.slice (au t.kids) false,.slice (strs t.names) false]]):=⟨dQ,fun l b=>xE hP,fun l b=>xF hP⟩
 have bX:=lS (l:=l) (b:=false) hP (L:=[.box 94 [.ref mm 0],.box 43 [.int .i64 t.kind,.int .i64 t.n,.str t.name,.str t.field,.str t.wn,.slice (az t.wk) false,.slice (au t.kids) false,.slice (strs t.names) false]])
 have hT:=fun l b=>kE (l:=l) (b:=b) hP (L:=[.box 94 [.ref mm 0],.box 43 [.int .i64 t.kind,.int .i64 t.n,.str t.name,.str t.field,.str t.wn,.slice (az t.wk) false,.slice (au t.kids) false,.slice (strs t.names) false]])
 have hO:=fun l b=>hP.Br (L:=[.box 94 [.ref mm 0],.box 43 [.int .i64 t.kind,.int .i64 t.n,.str t.name,.str t.field,.str t.wn,.slice (az t.wk) false,.slice (au t.kids) false,.slice (strs t.names) false]]) l b
 have bf:=hP.lt
 have vF:=fun (ty off t:Nat) (os:List aM) (T:aQ) (lo gen:Nat) (Q:AS->Prop)=>BY (A:=A) (T:=T) (H:=cm mm l false K) (lo:=lo) (gen:=gen) (t:=t) (ty:=ty) (l:=mm) (off:=off) (os:=os) (K:=Q) (by rw[aA];omega)
 have nE:decide (K.length+1<K.length)=false:=by simp
 generalize K++[.box 94 [.ref mm 0],.box 43 [.int .i64 t.kind,.int .i64 t.n,.str t.name,.str t.field,.str t.wn,.slice (az t.wk) false,.slice (au t.kids) false,.slice (strs t.names) false]]=K1 at dQ hH bX hT hO
 have hw:=hH.w
 have ht:=hH.t
 obtain⟨l1,e1,t1,n1⟩:=pw dQ t.name (by omega) l false (by omega)
 rw[aon] at e1 t1
 have hv:=qK dQ t (t.kids.length:Int) (t.kids.length:Int) l1 (!cD t.name)
 rw[an] at hv
 have Pf:gr t (t.kids.length:Int) (t.kids.length:Int)=decide ((t.names.length:Int)=t.kids.length):=by unfold gr;simp
 rw[Pf] at hv
 by_cases hg:(decide ((t.names.length:Int)=t.kids.length)&&cD t.name)=true
 ·simp only[aod,aov] at hg
  obtain⟨g1,g2⟩:=hg
  have g1n:t.names.length=t.kids.length:=by omega
  rw[decide_eq_true g1,g2] at hv
  rw[g2] at e1 t1
  simp only[aom,ao4,aoj] at e1 t1 hv
  rw[decide_eq_true g1,g2,aou,Bool.and_true]
  obtain⟨l2,e2,t2,n2⟩:=fi dQ [[123]] (by simp) l1 false (by simp only[an5,an6];omega)
  simp only[an5,an6] at n2
  simp only[pk,tQ] at e2 t2
  by_cases vJ:t.kids.length=0
  ·have Al:t.kids=[]:=aoG.1 vJ
   have aaK:t.names=[]:=aoG.1 (by omega)
   have e3:∀ Q:ah,aD A 91 [.ref mm 0,.slice [] false,.func (.func 125) [] [.ref K.length 0,.ref (K.length+1) 0]] Q=some (.undef,none):=fun Q=>CZ
   obtain⟨l4,e4,t4,n4⟩:=fi dQ [[125]] (by simp) l2 false (by simp only[an5,an6];omega)
   simp only[an5,an6] at n4
   simp only[pk,tQ] at e4 t4
   rw[aaK,Al]
   refine⟨l4,?_,fun _=>?_,by omega⟩
   ·have qo:au t.kids=[]:=by rw[Al,Ll]
    simp only[apd,apb,aom]
    rw[Al,aaK,Ll,gv] at bX ht hv
    rw[Ll,gv]
    simp only[an6,aoI] at hv
    refine aB (fn:=nL) rfl rfl rfl ?_
    unfold nL
    have ho:=hO l4 false
    simp(disch:=omega)only[aP,aa,simprocAttr,bX,vF,hw,ht,hv,an6,aoI,e1,e2,e3,e4,hT,ho,nE,ar,aoc,aob,an8,cond_true,aA,aq,ak,an3,an4,ab]
   ·rw[t4 (by trivial),t2 (by trivial),t1 (by trivial),cu t,hk,Al,aaK]
    simp[b7,aO]
  ·have hb:=fun i (hi:i<t.kids.length)=>Zr hH i (by omega) zT
   obtain⟨l3,e3,t3,n3⟩:=C1 (n:=n) (nb:=2) dQ fV (by omega) (by omega) hb (by omega) l2 false (by omega)
   obtain⟨l4,e4,t4,n4⟩:=fi dQ [[125]] (by simp) l3 (!xc (fun i=>isWord (t.names.getD i [])) t.kids t.kids.length) (by simp only[an5,an6];omega)
   simp only[an5,an6] at n4
   simp only[pk,tQ,aon] at e3 e4 t3 t4
   have lL:xc (fun i=>isWord (t.names.getD i [])) t.kids t.kids.length=(t.names.all isWord&&t.kids.all ai):=by
    rw[uQ,rV,<- g1n,M8]
   rw[lL] at e3 e4 t3 t4
   refine⟨l4,?_,fun hp=>?_,by omega⟩
   ·refine aB (fn:=nL) rfl rfl rfl ?_
    unfold nL
    have ho:=hO l4 (!(t.names.all isWord&&t.kids.all ai))
    generalize (!(t.names.all isWord&&t.kids.all ai))=b6 at *
    simp(disch:=omega)only[aP,aa,simprocAttr,bX,vF,hw,ht,hv,bB,e1,e2,e3,e4,hT,ho,nE,ar,aoc,aob,an8,cond_true,aA,aq,ak,an3,an4,ab]
   ·rw[t4 (by simp[hp]),t3 (by simp[hp]),t2 (by trivial),t1 (by trivial),cu t,hk,VY g1n]
    simp[b7]
 ·have hg' : (decide ((t.names.length:Int)=t.kids.length)&&t.names.all isWord&&cD t.name&&t.kids.all ai)=false:=by
   cases h1:decide ((t.names.length:Int)=t.kids.length)<;>cases h2:cD t.name<;>simp_all
  rw[hg']
  have eb:(!cD t.name || !decide ((t.names.length:Int)=t.kids.length))=true:=by cases h1:decide ((t.names.length:Int)=t.kids.length)<;>cases h2:cD t.name<;>simp_all
  rw[eb] at hv
  refine⟨l1,?_,(fun h=>by cases h),by omega⟩
  refine aB (fn:=nL) rfl rfl rfl ?_
  unfold nL
  have ho:=hO l1 true
  generalize (!cD t.name)=b1 at *
  simp(disch:=omega)only[aP,aa,simprocAttr,bX,vF,hw,ht,hv,bB,e1,hT,ho,nE,aom,aoj,ar,aoc,aob,an8,cond_true,aA,aq,ak,an3,an4,ab]
theorem Tu{ns:List bq}{ks:List Tm}(h1:0<ks.length)(h2:ks.length<=2)(hn:ns.length=2*ks.length):xc (fun i=>isWord (ns.getD (2*i) [])&&isWord (ns.getD (2*i+1) [])) ks ks.length=(ns.all isWord&&ks.all ai):=by
 rw[uQ,rV]
 congr 1
 match ks,ns,h1,h2,hn with
 | [k],[p,q],_,_,_=>simp[List.range_succ]
 | [k,j],[p,q,r,u],_,_,_=>simp[List.range_succ,Bool.and_assoc]
theorem it1{p q:bq}{y:Tm} : aO (CM (fun i=>[([p,q]:List bq).getD (2*i) [],([p,q]:List bq).getD (2*i+1) [],[45,62]]) [y] (0+1))=[p,q,[45,62]]++ay y:=rfl
theorem it2{p q r u:bq}{y z:Tm} : aO (CM (fun i=>[([p,q,r,u]:List bq).getD (2*i) [],([p,q,r,u]:List bq).getD (2*i+1) [],[45,62]]) [y,z] (0+1+1))=[p,q,[45,62]]++ay y++[[44]]++([r,u,[45,62]]++ay z):=rfl
theorem Nn{n:Nat}(hn:n<=9000){t:Tm}(hk:t.kind=10)(hu:bj t=true)(A6:t.name.length<=20)(mV:t.kids.length<=3)(qk:t.names.length<=8)(zT:∀ s∈t.names,s.length<=20)(fV:∀ u∈t.kids,jO n u){mm:Nat}{K:ah}(hP:PW mm K):oM mm K 95 [.ref mm 0,.agg (cE t)] (ai t) (ay t) (3*(n+4)+9):=by
 intro l hl
 have lM:=RT hk hu
 rw[lM]
 rw[an]
 have dQ:PW mm (K++[.box 94 [.ref mm 0],.box 43 [.int .i64 t.kind,.int .i64 t.n,.str t.name,.str t.field,.str t.wn,.slice (az t.wk) false,.slice (au t.kids) false,.slice (strs t.names) false]]):=hP.Lb (fun cs e=>by cases e) (fun cs e=>by cases e)
 have hH:TyH mm t K.length (K++[.box 94 [.ref mm 0],.box 43 [.int .i64 t.kind,.int .i64 t.n,.str t.name,.str t.field,.str t.wn,.slice (az t.wk) false,.slice (au t.kids) false,.slice (strs t.names) false]]):=⟨dQ,fun l b=>xE hP,fun l b=>xF hP⟩
 have bX:=lS (l:=l) (b:=false) hP (L:=[.box 94 [.ref mm 0],.box 43 [.int .i64 t.kind,.int .i64 t.n,.str t.name,.str t.field,.str t.wn,.slice (az t.wk) false,.slice (au t.kids) false,.slice (strs t.names) false]])
 have hT:=fun l b=>kE (l:=l) (b:=b) hP (L:=[.box 94 [.ref mm 0],.box 43 [.int .i64 t.kind,.int .i64 t.n,.str t.name,.str t.field,.str t.wn,.slice (az t.wk) false,.slice (au t.kids) false,.slice (strs t.names) false]])
 have hO:=fun l b=>hP.Br (L:=[.box 94 [.ref mm 0],.box 43 [.int .i64 t.kind,.int .i64 t.n,.str t.name,.str t.field,.str t.wn,.slice (az t.wk) false,.slice (au t.kids) false,.slice (strs t.names) false]]) l b
 have bf:=hP.lt
 have vF:=fun (ty off t:Nat) (os:List aM) (T:aQ) (lo gen:Nat) (Q:AS->Prop)=>BY (A:=A) (T:=T) (H:=cm mm l false K) (lo:=lo) (gen:=gen) (t:=t) (ty:=ty) (l:=mm) (off:=off) (os:=os) (K:=Q) (by rw[aA];omega)
 have nE:decide (K.length+1<K.length)=false:=by simp
 generalize K++[.box 94 [.ref mm 0],.box 43 [.int .i64 t.kind,.int .i64 t.n,.str t.name,.str t.field,.str t.wn,.slice (az t.wk) false,.slice (au t.kids) false,.slice (strs t.names) false]]=K1 at dQ hH bX hT hO
 have hw:=hH.w
 have ht:=hH.t
 have hc:=fun ok=>fq dQ ok l false
 simp only[aon] at hc
 have hv:=fun b=>qK dQ t ((t.kids.length:Int)-1+1) (2*((t.kids.length:Int)-1)) l b
 rw[an] at hv
 have Pf:gr t ((t.kids.length:Int)-1+1) (2*((t.kids.length:Int)-1))=decide ((t.names.length:Int)=2*((t.kids.length:Int)-1)):=by
  unfold gr
  rw[decide_eq_true (show (t.kids.length:Int)=(t.kids.length:Int)-1+1 by omega),aou]
 rw[Pf] at hv
 by_cases g0:2<=t.kids.length
 ·by_cases g1:(t.names.length:Int)=2*((t.kids.length:Int)-1)
  ·have hc:=hc true
   have hv:=hv (!true)
   rw[decide_eq_true g1] at hv
   simp only[aom,ao4,aoj] at hc hv
   rw[decide_eq_true g0,decide_eq_true g1,aou,aou]
   obtain⟨x,rest,KY⟩:∃ x rest,t.kids=x :: rest:=by
    cases h:t.kids with
    | nil=>rw[h] at g0;simp at g0
    | cons a r=>exact⟨a,r,rfl⟩
   have DI:rest.length+1=t.kids.length:=by rw[KY];rfl
   have hmk:rest.length*(n+3+1)<=2*(n+3+1):=aot _ (by omega)
   have Jm:=fV x (by rw[KY];simp)
   have hkr:∀ u∈rest,jO n u:=fun u h=>fV u (by rw[KY];simp[h])
   have fE:(au t.kids)[0]?=some (cE x):=by rw[KY];simp[au]
   have hdr:(au t.kids).drop 1=au rest:=by rw[KY];simp[au]
   have j6:(au t.kids).take t.kids.length=au t.kids:=aoJ (by rw[bB];omega)
   unfold jO at Jm
   rw[an x] at fE Jm
   obtain⟨l1,e1,t1,n1⟩:=fi dQ [[109,97,116,99,104]] (by simp) l false (by simp only[an5,an6];omega)
   simp only[an5,an6] at n1
   obtain⟨l2,e2,t2,n2⟩:=pw dQ t.name (by omega) l1 false (by omega)
   obtain⟨l3,e3,t3,n3⟩:=fi dQ [[40]] (by simp) l2 (!cD t.name) (by simp only[an5,an6];omega)
   simp only[an5,an6] at n3
   obtain⟨l4,e4,t4,n4⟩:=Jm mm K1 dQ l3 (!cD t.name) (by omega)
   obtain⟨l5,e5,t5,n5⟩:=fi dQ [[41],[123]] (by simp) l4 (!cD t.name || !ai x) (by simp only[an5,an6];omega)
   simp only[an5,an6] at n5
   have hb:=fun i (hi:i<rest.length)=>Zq hH i (by omega) (by omega) zT
   obtain⟨l6,e6,t6,n6⟩:=C1 (n:=n) (nb:=3) dQ hkr (by omega) (by omega) hb (by omega) l5 (!cD t.name || !ai x) (by omega)
   have lL:=Tu (ns:=t.names) (ks:=rest) (by omega) (by omega) (by omega)
   rw[lL] at e6 t6
   obtain⟨l7,e7,t7,n7⟩:=fi dQ [[125]] (by simp) l6 ((!cD t.name || !ai x) || !(t.names.all isWord&&rest.all ai)) (by simp only[an5,an6];omega)
   simp only[an5,an6] at n7
   have es2:strs [[41],[123]]=[[.str [41]],[.str [123]]]:=rfl
   simp only[pk,tQ,es2,aon] at e1 e2 e3 e4 e5 e6 e7 t1 t2 t3 t4 t5 t6 t7
   have eo:((!cD t.name || !ai x) || !(t.names.all isWord&&rest.all ai))=!(t.names.all isWord&&cD t.name&&t.kids.all ai):=by
    rw[KY,ao6]
    cases cD t.name<;>cases ai x<;>cases t.names.all isWord<;>cases rest.all ai<;>rfl
   rw[eo] at e6 e7 t6 t7
   refine⟨l7,?_,fun hp=>?_,by omega⟩
   ·refine aB (fn:=nL) rfl rfl rfl ?_
    unfold nL
    have ho:=hO l7 (!(t.names.all isWord&&cD t.name&&t.kids.all ai))
    generalize (!(t.names.all isWord&&cD t.name&&t.kids.all ai))=b7 at *
    generalize (!cD t.name || !ai x)=b4 at *
    generalize (!cD t.name)=b2 at *
    simp(disch:=omega)only[aP,aa,simprocAttr,bX,vF,hw,ht,bB,Dz,j6,hdr,fE,hc,hv,e1,e2,e3,e4,e5,e6,e7,hT,ho,nE,ar,aoc,aob,an8,cond_true,aA,aq,ak,an3,an4,ab]
   ·have h1:=hp
    rw[KY,ao6] at h1
    simp only[aod] at h1
    have hq:cD t.name=true:=h1.1.2
    have Pu:ai x=true:=h1.2.1
    rw[t7 (by simp[hp]),t6 (by simp[hp]),t5 (by simp[hq,Pu]),t4 (by simp[hq,Pu]),t3 (by simp[hq]),t2 (by simp[hq]),t1 (by trivial),cu t,hk,KY]
    match rest,t.names,DI,g1 with
    | [y],[p,q],_,_=>simp only[aoh,aol,ahx,an5,an6,it1,ao5,apu,ao8]
    | [y,z],[p,q,r,u],_,_=>simp only[aoh,aol,ahy,an5,an6,it2,ao5,apu,ao8]
    | [],_,h,_=>simp at h;omega
    | [y],[],h,g=>rw[<- h] at g;simp at g
    | [y],[_],h,g=>rw[<- h] at g;simp at g
    | [y],_ :: _ :: _ :: _,h,g=>rw[<- h] at g;simp at g;omega
    | [y,z],[],h,g=>rw[<- h] at g;simp at g
    | [y,z],[_],h,g=>rw[<- h] at g;simp at g
    | [y,z],[_,_],h,g=>rw[<- h] at g;simp at g
    | [y,z],[_,_,_],h,g=>rw[<- h] at g;simp at g
    | [y,z],_ :: _ :: _ :: _ :: _ :: _,h,g=>rw[<- h] at g;simp at g;omega
    | _ :: _ :: _ :: _,_,h,_=>simp at h;omega
  ·have hc:=hc true
   have hv:=hv (!true)
   rw[ao1 g1] at hv
   simp only[aom,ao4,aoj,aon] at hc hv
   rw[ao1 g1,Bool.and_false,aoq,aoq,aoq]
   refine⟨l,?_,(fun h=>by cases h),by omega⟩
   refine aB (fn:=nL) rfl rfl rfl ?_
   unfold nL
   have ho:=hO l true
   simp(disch:=omega)only[aP,aa,simprocAttr,bX,vF,hw,ht,bB,hc,hv,hT,ho,nE,aom,aoj,ar,aoc,aob,an8,cond_true,aA,aq,ak,an3,an4,ab]
 ·have hc:=hc false
  have hv:=hv (!false)
  simp only[aoj,aoH,aom] at hc hv
  rw[ao1 g0,aoq,aoq,aoq,aoq]
  refine⟨l,?_,(fun h=>by cases h),by omega⟩
  refine aB (fn:=nL) rfl rfl rfl ?_
  unfold nL
  have ho:=hO l true
  simp(disch:=omega)only[aP,aa,simprocAttr,bX,vF,hw,ht,bB,hc,hv,hT,ho,nE,aom,aoj,ar,aoc,aob,an8,cond_true,aA,aq,ak,an3,an4,ab]
theorem XS{t:Tm}{n h:Nat}(hn:n<=9000)(hF:u9 h t)(hk:t.kind=8)(hu:bj t=true)(fV:∀ u∈t.kids,jO n u){mm:Nat}{K:ah}(hP:PW mm K):oM mm K 55 [.ref mm 0,.agg (cE t)] (ai t) (ay t) (3*(n+4)+20):=by
 have lM:=YZ hk hu
 have hU:=ac7 hk hu
 have ou:=cu t
 rw[hk] at ou
 have A6:=hF.a
 have mV:=hF.kl
 rw[an]
 intro l hl
 obtain⟨K1,dQ,bX,da,hT,hO⟩:=lH hP t
 have bf:=hP.lt
 have ja:=fun K=>gx t K
 rw[hu,an] at ja
 have dR:=fun ok l b=>fq dQ ok l b
 have h0:=fun l b=>ff (l:=l) (b:=b) dQ
 unfold lB at h0
 obtain⟨l1,e1,t1,n1⟩:=SX (by omega) hk hu hF.a hF.f fV dQ l (by omega)
 rw[an] at e1
 refine⟨l1,?_,t1,by omega⟩
 refine aB (fn:=fZ) rfl rfl rfl ?_
 unfold fZ
 have ho:=hO l1 (!ai t)
 generalize (!ai t)=b1 at *
 simp(disch:=omega)only[aP,aa,simprocAttr,bX,da,ja,dR,h0,hT,aom,aoj,aow,aon,ao4,aoH,aoL,ar,aoc,aob,an8,cond_true,aA,aq,ak,an3,an4,ab,ho,e1]
theorem XT{t:Tm}{n h:Nat}(hn:n<=9000)(hF:u9 h t)(hk:t.kind=9)(hu:bj t=true)(fV:∀ u∈t.kids,jO n u){mm:Nat}{K:ah}(hP:PW mm K):oM mm K 55 [.ref mm 0,.agg (cE t)] (ai t) (ay t) (3*(n+4)+20):=by
 have lM:=Y0 hk hu
 have hU:=ac8 hk hu
 have ou:=cu t
 rw[hk] at ou
 have A6:=hF.a
 have mV:=hF.kl
 rw[an]
 intro l hl
 obtain⟨K1,dQ,bX,da,hT,hO⟩:=lH hP t
 have bf:=hP.lt
 have ja:=fun K=>gx t K
 rw[hu,an] at ja
 have dR:=fun ok l b=>fq dQ ok l b
 have h0:=fun l b=>ff (l:=l) (b:=b) dQ
 unfold lB at h0
 obtain⟨l1,e1,t1,n1⟩:=SY (by omega) hk hu hF.a hF.f fV dQ l (by omega)
 rw[an] at e1
 refine⟨l1,?_,t1,by omega⟩
 refine aB (fn:=fZ) rfl rfl rfl ?_
 unfold fZ
 have ho:=hO l1 (!ai t)
 generalize (!ai t)=b1 at *
 simp(disch:=omega)only[aP,aa,simprocAttr,bX,da,ja,dR,h0,hT,aom,aoj,aow,aon,ao4,aoH,aoL,ar,aoc,aob,an8,cond_true,aA,aq,ak,an3,an4,ab,ho,e1]
theorem XR{t:Tm}{n h:Nat}(hn:n<=9000)(hF:u9 h t)(hk:t.kind=7)(hu:bj t=true)(fV:∀ u∈t.kids,jO n u){mm:Nat}{K:ah}(hP:PW mm K):oM mm K 55 [.ref mm 0,.agg (cE t)] (ai t) (ay t) (3*(n+4)+20):=by
 have lM:=YY hk hu
 have hU:=agK hk hu
 have ou:=cu t
 rw[hk] at ou
 have A6:=hF.a
 have mV:=hF.kl
 rw[an]
 intro l hl
 obtain⟨K1,dQ,bX,da,hT,hO⟩:=lH hP t
 have bf:=hP.lt
 have ja:=fun K=>gx t K
 rw[hu,an] at ja
 have dR:=fun ok l b=>fq dQ ok l b
 have h0:=fun l b=>ff (l:=l) (b:=b) dQ
 unfold lB at h0
 obtain⟨l1,e1,t1,n1⟩:=SW hn hk hu hF.a mV hF.nb fV dQ l (by omega)
 rw[an] at e1
 refine⟨l1,?_,t1,by omega⟩
 refine aB (fn:=fZ) rfl rfl rfl ?_
 unfold fZ
 have ho:=hO l1 (!ai t)
 generalize (!ai t)=b1 at *
 simp(disch:=omega)only[aP,aa,simprocAttr,bX,da,ja,dR,h0,hT,aom,aoj,aow,aon,ao4,aoH,aoL,ar,aoc,aob,an8,cond_true,aA,aq,ak,an3,an4,ab,ho,e1]
theorem SM{t:Tm}{n h:Nat}(hn:n<=9000)(hF:u9 h t)(hk:t.kind=10)(hu:bj t=true)(fV:∀ u∈t.kids,jO n u){mm:Nat}{K:ah}(hP:PW mm K):oM mm K 55 [.ref mm 0,.agg (cE t)] (ai t) (ay t) (3*(n+4)+20):=by
 have lM:=RT hk hu
 have hU:=Y9 hk hu
 have ou:=cu t
 rw[hk] at ou
 have A6:=hF.a
 have mV:=hF.kl
 rw[an]
 intro l hl
 obtain⟨K1,dQ,bX,da,hT,hO⟩:=lH hP t
 have bf:=hP.lt
 have ja:=fun K=>gx t K
 rw[hu,an] at ja
 have dR:=fun ok l b=>fq dQ ok l b
 have h0:=fun l b=>ff (l:=l) (b:=b) dQ
 unfold lB at h0
 obtain⟨l1,e1,t1,n1⟩:=Nn hn hk hu hF.a mV hF.nl hF.nb fV dQ l (by omega)
 rw[an] at e1
 refine⟨l1,?_,t1,by omega⟩
 refine aB (fn:=fZ) rfl rfl rfl ?_
 unfold fZ
 have ho:=hO l1 (!ai t)
 generalize (!ai t)=b1 at *
 simp(disch:=omega)only[aP,aa,simprocAttr,bX,da,ja,dR,h0,hT,aom,aoj,aow,aon,ao4,aoH,aoL,ar,aoc,aob,an8,cond_true,aA,aq,ak,an3,an4,ab,ho,e1]
theorem XV{t:Tm}{n:Nat}(hk:t.kind<0\/12<t.kind)(hu:bj t=true){mm:Nat}{K:ah}(hP:PW mm K):oM mm K 55 [.ref mm 0,.agg (cE t)] (ai t) (ay t) n:=by
 have lM:ai t=false:=by
  cases h:ai t with
  | false=>rfl
  | true=>have:=zd (xy h);omega
 rw[an,lM]
 intro l hl
 obtain⟨K1,dQ,bX,da,hT,hO⟩:=lH hP t
 have bf:=hP.lt
 have ja:=fun K=>gx t K
 rw[hu,an] at ja
 have dR:=fun ok l b=>fq dQ ok l b
 have h0:=fun l b=>ff (l:=l) (b:=b) dQ
 unfold lB at h0
 have h1:∀ (l:List bq) (b:Bool) (x:bZ),((cm mm l b K1).set mm x)[mm]?=some x:=fun l b x=>List.getElem?_set_self (by rw[aA];exact dQ.lt)
 refine⟨l,?_,(fun h=>by cases h),by omega⟩
 refine aB (fn:=fZ) rfl rfl rfl ?_
 unfold fZ
 have ho:=hO l true
 simp(disch:=omega)only[Ox,jy,gF,j0,iS,tG,cd,aE,dG,aF.eval,AS.cH,↓reduceIte,Nat.reduceEqDiff,Option.isSome,Option.isNone,cond_true,an8,Nat.reduceBEq,Nat.reduceAdd,Nat.reduceMul,aa,gP,eq_self,reduceCtorEq,rB,iG,gQ,fD,bound,kP,AS.cI,bQ,fm,dm,Nat.reduceLeDiff,im,putAt,Int.reduceEq,Int.reduceLT,Int.reduceLE,Int.reduceBEq,Int.reduceBNe,Int.reduceAdd,Int.reduceNeg,Int.reduceSub,Int.reduceMul,qW,qV,qU,qT,qS,qR,qY,qX,br,fX,Int.toNat_natCast,aps,bX,da,ja,dR,h0,hT,aom,aoj,aow,aon,ao4,aoH,aoL,ar,aoc,aob,an8,cond_true,aA,aq,ak,an3,an4,ab,ho,h1,rz]
theorem XU{t:Tm}(b:Bool)(hb:(b || !bj t)=true)(l:List bq){mm:Nat}{K:ah}(hP:PW mm K):aD A 55 [.ref mm 0,.agg (cE t)] (cm mm l b K)=some (.undef,some ⟨cm mm l true K,mm⟩):=by
 rw[an]
 obtain⟨K1,dQ,bX,da,hT,hO⟩:=lH hP t
 have bf:=hP.lt
 have ja:=fun K=>gx t K
 rw[an] at ja
 have dR:=fun ok=>fq dQ ok l b
 have dR:=dR (bj t)
 rw[hb] at dR
 have h0:=fun l b=>ff (l:=l) (b:=b) dQ
 unfold lB at h0
 generalize bj t=uu at *
 refine aB (fn:=fZ) rfl rfl rfl ?_
 unfold fZ
 have ho:=hO l true
 simp(disch:=omega)only[aP,aa,simprocAttr,bX,da,ja,dR,h0,hT,aom,aoj,aow,aon,ao4,aoH,aoL,ar,aoc,aob,an8,cond_true,aA,aq,ak,an3,an4,ab,ho,]
theorem SP{t:Tm}{n h:Nat}(hn:n<=9000)(hF:u9 h t)(fV:∀ u∈t.kids,jO n u):jO (3*(n+4)+20) t:=by
 intro mm K hP l b hl
 by_cases hc:b=false/\bj t=true
 ·obtain⟨rfl,hu⟩:=hc
  have main:oM mm K 55 [.ref mm 0,.agg (cE t)] (ai t) (ay t) (3*(n+4)+20):=by
   rcases tv t.kind with e|e|e|e|e|e|e|e|e|e|e|e|e|e
   ·exact XK hn hF e hu fV hP
   ·exact XL hn hF e hu fV hP
   ·exact XM hn hF e hu fV hP
   ·exact XN hn hF e hu fV hP
   ·exact XO hn hF e hu fV hP
   ·exact XP hn hF e hu fV hP
   ·exact XQ hn hF e hu fV hP
   ·exact XR hn hF e hu fV hP
   ·exact XS hn hF e hu fV hP
   ·exact XT hn hF e hu fV hP
   ·exact SM hn hF e hu fV hP
   ·exact SN hn hF e hu fV hP
   ·exact SO hn hF e hu fV hP
   ·exact XV e hu hP
  obtain⟨l',e,t1,n1⟩:=main l hl
  exact⟨l',by simpa using e,fun h=>t1 (by simpa using h),n1⟩
 ·have hb:(b || !bj t)=true:=by cases b<;>cases h:bj t<;>simp_all
  have hp:(b || !ai t)=true:=by
   cases b with
   | true=>rfl
   | false =>
    cases h:ai t with
    | false=>rfl
    | true=>rw[XZ h] at hb;cases hb
  rw[hp]
  exact⟨l,XU b hb l hP,(fun h=>by cases h),by omega⟩
def wB:Nat->Nat
 | 0=>0
 | h+1=>3*(wB h+4)+20
theorem S3{h:Nat}(hh:h<=5):wB h<=9000:=by
 have:h=0\/h=1\/h=2\/h=3\/h=4\/h=5:=by omega
 rcases this with rfl|rfl|rfl|rfl|rfl|rfl<;>decide
theorem HH:∀ (h:Nat) (t:Tm),h<=5->Lp h t->jO (wB h) t
 | 0,t,_,hb=>by cases hb
 | h+1,t,hh,hb=>SP (S3 (by omega)) hb.out (fun u hu=>HH h u (by omega) (hb.out.kb u hu))
theorem GR{H:ah}{a:bZ} : (H++[a]).length=H.length+1:=l1
theorem BJ{H:ah}{a o:bZ}{l:List bq}{b:Bool} : (cm (H.length+1) l b (H++[a,o])).take H.length=H:=by
 unfold cm
 rw[Sp];exact h2t
theorem Ln{H:ah}{a o:bZ}{l:List bq}{b:Bool} : (cm (H.length+1) l b (H++[a,o]))[H.length]?=some a:=by
 unfold cm
 rw[Sp];exact CA
theorem zI{H:ah}{a o x:bZ}{l:List bq}{b:Bool} : ((cm (H.length+1) l b (H++[a,o])).set (H.length+1) x).take H.length=H:=by
 unfold cm
 rw[Sp,Sp];exact h2t
theorem Pb{s:So}(hb:To s)(H:ah):aD A 22 [.agg (iL s)] H=some (.slice (strs (fB s)) true,none):=by
 rw[iL]
 obtain⟨K,hK⟩:∃ K,K=H++[.box 33 [.str s.name,.slice (strs s.cB) false,.slice (s.defs.map cN) false,.slice (strs s.head) false,.str s.fin],.box 96 [.aj,.bool false]]:=⟨_,rfl⟩
 obtain⟨mm,Ms⟩:∃ mm,mm=H.length+1:=⟨_,rfl⟩
 have hKl:K.length=H.length+2:=by rw[hK];simp
 have hP:PW mm K:=⟨by omega,fun j cs hj=>by
  rw[hK,Ms] at *
  intro e
  rw[aoz (by omega)] at e
  match sn:j-H.length with
  | 0=>omega
  | 1=>rw[sn] at e;cases e
  | n+2=>rw[sn] at e;simp at e⟩
 have h0:K[mm]?=some (.box 96 [.aj,.bool false]):=by rw[hK,Ms];exact HS
 have hul:=hb.ul
 have ef:=RV hP [[109,111,100,117,108,101]] (by simp) h0
 rw[tQ] at ef
 obtain⟨l1,e1,t1,n1⟩:=iY hP s.name (by have:=hb.a;omega) [[109,111,100,117,108,101]] false (by simp)
 simp only[an5,an6,aon] at e1 t1 n1
 have da:∀ l b,(cm mm l b K)[H.length]?=some (.box 33 [.str s.name,.slice (strs s.cB) false,.slice (s.defs.map cN) false,.slice (strs s.head) false,.str s.fin]):=fun l b=>by rw[hK,Ms];exact Ln
 have nH:∀ l b,(cm mm l b K).take H.length=H:=fun l b=>by rw[hK,Ms];exact BJ
 have Jp:∀ l b x,((cm mm l b K).set mm x).take H.length=H:=fun l b x=>by rw[hK,Ms];exact zI
 have nE:decide (H.length+1<H.length)=false:=by simp
 have jh:decide (mm<H.length)=false:=by simp;omega
 have hus:∀ i,i<=s.cB.length->(s.cB.take i).all isWord=(s.cB.take i).all isWord:=fun _ _=>rfl
 have hw0:=fun l b=>ff (l:=l) (b:=b) hP
 unfold lB at hw0
 refine aB (fn:=Jt) rfl rfl rfl ?_
 refine fH 3 (fun st=>∃ T,st=⟨T,cm mm l1 (!isWord s.name) K,H.length,0⟩/\T 1=.ref H.length 0/\T 3=.ref mm 0) ?_ ?_
 ·unfold Jt
  simp only[aY.pre]
  have hKs:H++[bZ.box 33 [.str s.name,.slice (strs s.cB) false,.slice (s.defs.map cN) false,.slice (strs s.head) false,.str s.fin],.box 96 [.aj,.bool false]]=K:=hK.symm
  have aaB:H.length+1=mm:=Ms.symm
  generalize (!isWord s.name)=b1 at *
  simp(disch:=omega)only[aP,aa,simprocAttr,cn,GR,aaB,hKs,ef,e1,da,jh,ar,aoc,aob,an8,cond_true,aA,aq,ak,an3,an4,ab]
  exact⟨_,rfl,by simp(disch:=omega)only[aN,aa,simprocAttr],by simp(disch:=omega)only[aN,aa,simprocAttr]⟩
 ·rintro st ⟨T,rfl,q1,q3⟩
  refine fH 0 (fun st=>∃ T l',st=⟨T,cm mm l' (!(isWord s.name&&s.cB.all isWord)) K,H.length,0⟩/\T 3=.ref mm 0/\((isWord s.name&&s.cB.all isWord)=true->l'=heads s)) ?_ ?_
  ·unfold Jt
   simp only[aY.post,aY.pre]
   simp(disch:=omega)only[aP,aa,simprocAttr,q1,q3,da,aW,ar,aoc,aob,an8,cond_true,aA,aq,ak,an3,an4,ab]
   refine bM s.cB.length 0 (fun i st=>∃ T l',st=⟨T,cm mm l' (!(isWord s.name&&(s.cB.take i).all isWord)) K,H.length,0⟩/\T 3=.ref mm 0/\T 16=.slice (strs s.cB) false/\T 17=.int .i64 s.cB.length/\T 18=.int .i64 i/\((isWord s.name&&(s.cB.take i).all isWord)=true->l'=[[109,111,100,117,108,101],s.name]++((s.cB.take i).map fun u=>[[117,115,101],u]).flatten)/\l'.length<=2+2*i)
    (fun st=>∃ T l',st=⟨T,cm mm l' (!(isWord s.name&&s.cB.all isWord)) K,H.length,0⟩/\T 3=.ref mm 0/\((isWord s.name&&s.cB.all isWord)=true->l'=heads s)) (fun _=>False) ?_ (fun st h=>h) (fun _ h=>h.elim) 0 _ (by omega) ?_
   ·rintro i st hi ⟨T,l',rfl,q3,q16,q17,q18,ht,zS⟩
    by_cases bf:i<s.cB.length
    ·have hx:=an' bf
     have hm:=aoW bf
     have j6:=gE hx
     generalize s.cB[i]=u at hx hm j6
     have fE:=fa hx
     have amr:=hb.ub u hm
     obtain⟨l2,e2,t2,n2⟩:=fi hP [[117,115,101]] (by simp) l' (!(isWord s.name&&(s.cB.take i).all isWord)) (by simp only[an5,an6];omega)
     simp only[an5,an6] at n2
     rw[pk,tQ] at e2
     rw[pk] at t2
     obtain⟨l3,e3,t3,n3⟩:=iY hP u (by omega) l2 (!(isWord s.name&&(s.cB.take i).all isWord)) (by omega)
     have eo:(!(isWord s.name&&(s.cB.take i).all isWord) || !isWord u)=!(isWord s.name&&(s.cB.take (i+1)).all isWord):=by
      rw[j6,List.all_append]
      simp only[ao6,apd,Bool.and_true]
      cases isWord s.name<;>cases (s.cB.take i).all isWord<;>cases isWord u<;>rfl
     rw[eo] at e3 t3
     have lL:(isWord s.name&&(s.cB.take (i+1)).all isWord)=true->(isWord s.name&&(s.cB.take i).all isWord)=true:=by
      rw[j6,List.all_append]
      cases isWord s.name<;>cases (s.cB.take i).all isWord<;>simp
     generalize (isWord s.name&&(s.cB.take (i+1)).all isWord)=ok1 at *
     generalize (isWord s.name&&(s.cB.take i).all isWord)=ok0 at *
     simp(disch:=omega)only[aP,aa,simprocAttr,q3,q16,q17,q18,fE,e2,e3,jh,ar,aoc,aob,an8,cond_true,aA,aq,ak,an3,an4,ab]
     refine⟨bf,_,l3,rfl,?_,?_,?_,?_,fun h=>?_,by omega⟩
     all_goals first|(simp(disch:=omega)only[aN,aa,simprocAttr,q3,q16,q17];done)|skip
     have h1:=lL h
     rw[t3 (by simp[h]),t2 (by simp[h1]),ht h1,j6];simp
    ·obtain rfl:i=s.cB.length:=by omega
     rw[apm] at ht ⊢
     generalize (isWord s.name&&s.cB.all isWord)=ok0 at *
     simp(disch:=omega)only[aP,aa,simprocAttr,q3,q16,q17,q18,ar,aoc,aob,an8,cond_true,aA]
     exact⟨_,l',rfl,by simp(disch:=omega)only[aN,aa,simprocAttr,q3],fun h=>by rw[ht h];rfl⟩
   ·have e0:cm mm l1 (!isWord s.name) K=cm mm l1 (!(isWord s.name&&(s.cB.take 0).all isWord)) K:=by rw[aoV,apd,Bool.and_true]
    refine⟨_,l1,apS (fun x=>AS.mk _ x _ _) e0,?_,?_,?_,?_,fun h=>?_,by omega⟩
    all_goals first|(simp(disch:=omega)only[aN,aa,simprocAttr,q3,aoI];done)|skip
    simp only[aoV,apd,Bool.and_true] at h
    rw[t1 (by simp[h])];simp
  ·rintro st ⟨T,l',rfl,q3,ht⟩
   unfold Jt
   simp only[aY.post]
   unfold fB
   cases lL:(isWord s.name&&s.cB.all isWord) with
   | true =>
    have h2:=ht lL
    simp only[aod] at lL
    rw[if_pos lL,h2]
    simp(disch:=omega)only[aP,aa,simprocAttr,q3,hw0,Jp,nH,jh,aom,ar,aoc,aob,an8,cond_true,aA,aq,ak,an3,an4,ab]
   | false =>
    rw[if_neg (by intro h;rw[h.1,h.2] at lL;cases lL)]
    simp(disch:=omega)only[aP,aa,simprocAttr,q3,hw0,nH,jh,aoj,gv,ar,aoc,aob,an8,cond_true,aA,aq,ak,an3,an4,ab]
theorem zero_eq(n:bq)(ks:List Wd)(t:Tm):(n8 n ks&&gy t)=((n==[])&&(((ks.length:Int)==0)&&((t.kind==0)&&(bj t&&(t.n==0))))):=by
 have h1:((ks.length:Int)==0)=ks.isEmpty:=by cases ks<;>simp;omega
 rw[h1]
 unfold n8 gy
 cases hk:(t.kind==0) with
 | false=>simp
 | true =>
  have e:t.kind=0:=by simpa using hk
  have hu:bj t=((t.name==[])&&((t.field==[])&&(n8 t.wn t.wk&&((t.names==[])&&t.kids.isEmpty)))):=by
   unfold bj
   rw[e,show dW 0=[110] from rfl]
   simp only[mY,show cj [110] 110=false from rfl,show cj [110] 97=true from rfl,show cj [110] 102=true from rfl,show cj [110] 116=true from rfl,show cj [110] 107=true from rfl,show cj [110] 115=true from rfl,n8]
   cases t.name==[]<;>cases t.field==[]<;>cases t.wn==[]<;>cases t.wk<;>cases t.names<;>cases t.kids<;>simp
  rw[hu]
  cases (n==[])<;>cases ks.isEmpty<;>cases (t.n==0)<;>simp
theorem aeh:A.aZ 0=[.slice (strs nN) false]:=rfl
theorem Nk{f:Fm}(hb:HP f)(H:ah):aD A 26 [.agg (cN f)] H=some (.slice (strs (gn f)) true,none):=by
 rw[cN]
 obtain⟨K,hK⟩:∃ K,K=H++[.box 45 [.int .i64 f.kind,.str f.name,.slice (f.a8.map dX) false,.str f.rn,.slice (az f.rk) false,.int .i64 f.body.kind,.int .i64 f.body.n,.str f.body.name,.str f.body.field,.str f.body.wn,.slice (az f.body.wk) false,.slice (au f.body.kids) false,.slice (strs f.body.names) false,.slice (strs f.layout) false],.box 96 [.aj,.bool false]]:=⟨_,rfl⟩
 obtain⟨mm,Ms⟩:∃ mm,mm=H.length+1:=⟨_,rfl⟩
 have hKl:K.length=H.length+2:=by rw[hK];simp
 have hP:PW mm K:=⟨by omega,fun j cs hj=>by
  rw[hK,Ms] at *
  intro e
  rw[aoz (by omega)] at e
  match sn:j-H.length with
  | 0=>omega
  | 1=>rw[sn] at e;cases e
  | n+2=>rw[sn] at e;simp at e⟩
 have h0:K[mm]?=some (.box 96 [.aj,.bool false]):=by rw[hK,Ms];exact HS
 obtain⟨k0,k5⟩:=hb.k
 obtain⟨kn,hkn⟩:∃ kn,kn=nN.getD f.kind.toNat []:=⟨_,rfl⟩
 have aax:(strs nN)[f.kind.toNat]?=some [.str kn]:=by rw[hkn];exact iI (by show f.kind.toNat<6;omega)
 have ef:=RV hP [kn] (by simp) h0
 rw[tQ] at ef
 obtain⟨l1,e1,t1,n1⟩:=iY hP f.name (by have:=hb.a;omega) [kn] false (by simp)
 simp only[an5,an6,aon] at e1 t1 n1
 obtain⟨l2,e2,t2,n2⟩:=fi hP [[40]] (by simp) l1 (!isWord f.name) (by simp only[an5,an6];omega)
 simp only[an5,an6] at n2
 rw[pk,tQ] at e2
 rw[pk] at t2
 have da:∀ l b,(cm mm l b K)[H.length]?=some (.box 45 [.int .i64 f.kind,.str f.name,.slice (f.a8.map dX) false,.str f.rn,.slice (az f.rk) false,.int .i64 f.body.kind,.int .i64 f.body.n,.str f.body.name,.str f.body.field,.str f.body.wn,.slice (az f.body.wk) false,.slice (au f.body.kids) false,.slice (strs f.body.names) false,.slice (strs f.layout) false]):=fun l b=>by rw[hK,Ms];exact Ln
 have nH:∀ l b,(cm mm l b K).take H.length=H:=fun l b=>by rw[hK,Ms];exact BJ
 have Jp:∀ l b x,((cm mm l b K).set mm x).take H.length=H:=fun l b x=>by rw[hK,Ms];exact zI
 have jh:decide (mm<H.length)=false:=by simp;omega
 have hw0:=fun l b=>ff (l:=l) (b:=b) hP
 unfold lB at hw0
 have uD:=hb.sl
 have su:([kn,f.name,[40]]:List bq)=[kn]++[f.name]++[[40]]:=rfl
 have fta:nA f=[kn,f.name,[40]]++aO (f.a8.map (cK f.kind))++[[41]]++(if f.kind=0\/f.kind=1 then [] else dh (.mk f.rn f.rk)++[[61]]++ay f.body):=by unfold nA;rw[hkn]
 refine aB (fn:=vN) rfl rfl rfl ?_
 refine fH 5 (fun st=>∃ T g,st=⟨T,cm mm l2 (!isWord f.name) K,H.length,g⟩/\T 1=.ref H.length 0/\T 3=.ref mm 0) ?_ ?_
 ·unfold vN
  simp only[aY.pre]
  have hKs:H++[bZ.box 45 [.int .i64 f.kind,.str f.name,.slice (f.a8.map dX) false,.str f.rn,.slice (az f.rk) false,.int .i64 f.body.kind,.int .i64 f.body.n,.str f.body.name,.str f.body.field,.str f.body.wn,.slice (az f.body.wk) false,.slice (au f.body.kids) false,.slice (strs f.body.names) false,.slice (strs f.layout) false],.box 96 [.aj,.bool false]]=K:=hK.symm
  have aaB:H.length+1=mm:=Ms.symm
  have hab:=cr (H:=H) (o:=.box 45 [.int .i64 f.kind,.str f.name,.slice (f.a8.map dX) false,.str f.rn,.slice (az f.rk) false,.int .i64 f.body.kind,.int .i64 f.body.n,.str f.body.name,.str f.body.field,.str f.body.wn,.slice (az f.body.wk) false,.slice (au f.body.kids) false,.slice (strs f.body.names) false,.slice (strs f.layout) false])
  generalize (!isWord f.name)=b1 at *
  simp(disch:=omega)only[aP,aa,simprocAttr,cn,hab,GR,aaB,hKs,aeh,aax,ef,e1,e2,da,jh,ar,aoc,aob,an8,cond_true,aA,aq,ak,an3,an4,ab]
  exact⟨_,_,rfl,by simp(disch:=omega)only[aN,aa,simprocAttr],by simp(disch:=omega)only[aN,aa,simprocAttr]⟩
 rintro st ⟨T,g,rfl,q1,q3⟩
 refine fH 0 (fun st=>∃ T g l',st=⟨T,cm mm l' (!(isWord f.name&&f.a8.all (bA f.kind))) K,H.length,g⟩/\T 1=.ref H.length 0/\T 3=.ref mm 0/\((isWord f.name&&f.a8.all (bA f.kind))=true->l'=[kn,f.name,[40]]++aO (f.a8.map (cK f.kind)))/\l'.length<=100) ?_ ?_
 ·unfold vN
  simp only[aY.post,aY.pre]
  simp(disch:=omega)only[aP,aa,simprocAttr,q1,q3,da,jD,ar,aoc,aob,an8,cond_true,aA,aq,ak,an3,an4,ab]
  refine bM f.a8.length 0 (fun i st=>∃ T g l',st=⟨T,cm mm l' (!(isWord f.name&&(f.a8.take i).all (bA f.kind))) K,H.length,g⟩/\T 1=.ref H.length 0/\T 3=.ref mm 0/\T 32=.slice (f.a8.map dX) false/\T 33=.int .i64 f.a8.length/\T 34=.int .i64 i/\((isWord f.name&&(f.a8.take i).all (bA f.kind))=true->l'=[kn,f.name,[40]]++aO ((f.a8.take i).map (cK f.kind)))/\l'.length<=3+16*i)
   (fun st=>∃ T g l',st=⟨T,cm mm l' (!(isWord f.name&&f.a8.all (bA f.kind))) K,H.length,g⟩/\T 1=.ref H.length 0/\T 3=.ref mm 0/\((isWord f.name&&f.a8.all (bA f.kind))=true->l'=[kn,f.name,[40]]++aO (f.a8.map (cK f.kind)))/\l'.length<=100) (fun _=>False) ?_ (fun st h=>h) (fun _ h=>h.elim) 0 _ (by omega) ?_
  ·rintro i st hi ⟨T,g,l',rfl,q1,q3,Hk,Hl,Ws,ht,zS⟩
   by_cases bf:i<f.a8.length
   ·have hx:=an' bf
    have hm:=aoW bf
    have j6:=gE hx
    generalize f.a8[i]=u at hx hm j6
    have fE:=KE hx
    rw[dX] at fE
    have hu:=hb.sb u hm
    obtain⟨m0,m1⟩:=hu.m
    have jZ:(f.a8.take (i+1)).map (cK f.kind)=(f.a8.take i).map (cK f.kind)++[cK f.kind u]:=by rw[j6];simp
    have zP:∃ bi,bi=!(isWord f.name&&(f.a8.take i).all (bA f.kind)):=⟨_,rfl⟩
    obtain⟨bi,zP⟩:=zP
    have comma:∃ la,(0<i->aD A 41 [.ref mm 0,.slice [[.str [44]]] false] (cm mm l' bi K)=some (.undef,some ⟨cm mm la bi K,mm⟩))/\(i=0->la=l')/\(bi=false->la++cK f.kind u=[kn,f.name,[40]]++aO ((f.a8.take (i+1)).map (cK f.kind)))/\la.length<=l'.length+1:=by
     rw[jZ,jK]
     by_cases CD:i=0
     ·subst CD
      refine⟨l',fun h=>by omega,fun _=>rfl,fun gm=>?_,by omega⟩
      rw[ht (by rw[zP] at gm;simpa using gm)]
      simp[aO]
     ·obtain⟨la,ea,ta,na⟩:=fi hP [[44]] (by simp) l' bi (by simp only[an5,an6];omega)
      simp only[an5,an6] at na
      rw[pk,tQ] at ea
      rw[pk] at ta
      refine⟨la,fun _=>ea,fun h=>absurd h CD,fun gm=>?_,na⟩
      rw[ta gm,ht (by rw[zP] at gm;simpa using gm),if_neg (fun h=>by
       have:=apS List.length h
       rw[aoA,List.length_take,an6] at this
       omega)]
      simp
    obtain⟨la,ec,Yn,tc,nc⟩:=comma
    obtain⟨lb,eb,tb,nb⟩:=iY hP u.name (by have:=hu.a;omega) la bi (by omega)
    obtain⟨lc,ew,tw,nw⟩:=DA 3 (.mk u.wn u.wk) (by omega) hu.w mm K hP lb (bi || !isWord u.name) (by omega)
    rw[gz] at ew
    have dR:=fun ok=>fq hP ok lc ((bi || !isWord u.name) || !bc (.mk u.wn u.wk))
    rw[<- zP]
    have YG:(!(isWord f.name&&(f.a8.take (i+1)).all (bA f.kind)))=(bi || !bA f.kind u):=by
     rw[zP,j6,List.all_append]
     simp only[ao6,apd,Bool.and_true]
     cases isWord f.name<;>cases (f.a8.take i).all (bA f.kind)<;>cases bA f.kind u<;>rfl
    have aaM:(isWord f.name&&(f.a8.take (i+1)).all (bA f.kind))=!(bi || !bA f.kind u):=by rw[<- YG,Bool.not_not]
    rw[YG,aaM]
    have ae5:bA f.kind u=(isWord u.name&&bc (.mk u.wn u.wk)&&(decide (0<=u.ga)&&decide (u.ga<=1099511627776)&&(decide (f.kind=4) || decide (u.ga=0)))):=by
     unfold bA
     cases isWord u.name<;>cases bc (.mk u.wn u.wk)<;>cases decide (0<=u.ga)<;>cases decide (u.ga<=1099511627776)<;>simp
    have fin:∀ (T' : aQ) (g' : Nat) (lz:List bq),T' 1=.ref H.length 0->T' 3=.ref mm 0->T' 32=.slice (f.a8.map dX) false->T' 33=.int .i64 f.a8.length->T' 34=.int .i64 ((i:Int)+1) ->
      ((bi || !bA f.kind u)=false->lz=la++cK f.kind u)->lz.length<=la.length+14 ->
      i<f.a8.length/\∃ T g l'',(⟨T',cm mm lz (bi || !bA f.kind u) K,H.length,g'⟩:AS)=⟨T,cm mm l'' (bi || !bA f.kind u) K,H.length,g⟩/\T 1=.ref H.length 0/\T 3=.ref mm 0/\T 32=.slice (f.a8.map dX) false/\T 33=.int .i64 f.a8.length/\T 34=.int .i64 ((i:Int)+1)/\((!(bi || !bA f.kind u))=true->l''=[kn,f.name,[40]]++aO ((f.a8.take (i+1)).map (cK f.kind)))/\l''.length<=3+16*(i+1):=by
     intro T' g' lz r1 r3 r32 r33 r34 hz Ti
     refine⟨bf,T',g',lz,rfl,r1,r3,r32,r33,r34,fun h=>?_,by omega⟩
     have h2:(bi || !bA f.kind u)=false:=by simpa using h
     rw[hz h2,tc (At h2)]
    by_cases k4:f.kind=4
    ·obtain⟨ok,lL⟩:∃ ok,ok=(decide (0<=u.ga)&&decide (u.ga<=1099511627776)):=⟨_,rfl⟩
     have dR:=dR ok
     obtain⟨ld,ed,td,nd⟩:=fi hP [ql u.ga] (by simp) lc ((((bi || !isWord u.name) || !bc (.mk u.wn u.wk))) || !ok) (by simp only[an5,an6];omega)
     simp only[an5,an6] at nd
     rw[pk,tQ] at ed
     rw[pk] at td
     have DH:=fun K=>Rq u.ga K ⟨by omega,by omega⟩
     have heq:((((bi || !isWord u.name) || !bc (.mk u.wn u.wk))) || !ok)=(bi || !bA f.kind u):=by
      rw[ae5,lL,decide_eq_true k4]
      cases bi<;>cases isWord u.name<;>cases bc (.mk u.wn u.wk)<;>cases decide (0<=u.ga)<;>cases decide (u.ga<=1099511627776)<;>rfl
     rw[heq] at dR ed td
     have hz:(bi || !bA f.kind u)=false->ld=la++cK f.kind u:=by
      intro h
      have h3:=h
      rw[<- heq] at h3
      have h2:=At h3
      have h1:=At h2
      have hm0:0<=u.ga:=by
       have:ok=true:=by cases ho:ok<;>simp_all
       rw[lL] at this
       simp only[aod,aov] at this
       exact this.1
      rw[td h,tw h2,tb h1,CN hm0]
      unfold cK
      rw[if_pos k4];simp
     have fin:=fun T' g' a b c d e=>fin T' g' ld a b c d e hz (by omega)
     generalize (bi || !bA f.kind u)=bz at *
     generalize ((bi || !isWord u.name) || !bc (.mk u.wn u.wk))=bw at *
     generalize (bi || !isWord u.name)=bn at *
     have run:∀ (v:Bool),v=ok->True:=fun _ _=>trivial
     by_cases p1:0<=u.ga
     ·by_cases p2:u.ga<=1099511627776
      ·have ho:ok=true:=by rw[lL,decide_eq_true p1,decide_eq_true p2];rfl
       rw[ho] at dR
       by_cases CD:i=0
       ·rw[Yn CD] at eb
        simp(disch:=omega)only[aP,aa,simprocAttr,q1,q3,Hk,Hl,Ws,fE,da,eb,ew,dR,DH,ed,jh,ar,aoc,aob,an8,cond_true,aA,aq,ak,an3,an4,ab]
        refine fin _ _ ?_ ?_ ?_ ?_ ?_
        all_goals simp(disch:=omega)only[aN,aa,simprocAttr,q1,q3,Hk,Hl]
       ·have ec:=ec (by omega)
        simp(disch:=omega)only[aP,aa,simprocAttr,q1,q3,Hk,Hl,Ws,fE,da,ec,eb,ew,dR,DH,ed,jh,ar,aoc,aob,an8,cond_true,aA,aq,ak,an3,an4,ab]
        refine fin _ _ ?_ ?_ ?_ ?_ ?_
        all_goals simp(disch:=omega)only[aN,aa,simprocAttr,q1,q3,Hk,Hl]
      ·have ho:ok=false:=by rw[lL,ao1 p2,Bool.and_false]
       rw[ho] at dR
       by_cases CD:i=0
       ·rw[Yn CD] at eb
        simp(disch:=omega)only[aP,aa,simprocAttr,q1,q3,Hk,Hl,Ws,fE,da,eb,ew,dR,DH,ed,jh,ar,aoc,aob,an8,cond_true,aA,aq,ak,an3,an4,ab]
        refine fin _ _ ?_ ?_ ?_ ?_ ?_
        all_goals simp(disch:=omega)only[aN,aa,simprocAttr,q1,q3,Hk,Hl]
       ·have ec:=ec (by omega)
        simp(disch:=omega)only[aP,aa,simprocAttr,q1,q3,Hk,Hl,Ws,fE,da,ec,eb,ew,dR,DH,ed,jh,ar,aoc,aob,an8,cond_true,aA,aq,ak,an3,an4,ab]
        refine fin _ _ ?_ ?_ ?_ ?_ ?_
        all_goals simp(disch:=omega)only[aN,aa,simprocAttr,q1,q3,Hk,Hl]
     ·have ho:ok=false:=by rw[lL,ao1 p1,aoq]
      rw[ho] at dR
      by_cases CD:i=0
      ·rw[Yn CD] at eb
       simp(disch:=omega)only[aP,aa,simprocAttr,q1,q3,Hk,Hl,Ws,fE,da,eb,ew,dR,DH,ed,jh,ar,aoc,aob,an8,cond_true,aA,aq,ak,an3,an4,ab]
       refine fin _ _ ?_ ?_ ?_ ?_ ?_
       all_goals simp(disch:=omega)only[aN,aa,simprocAttr,q1,q3,Hk,Hl]
      ·have ec:=ec (by omega)
       simp(disch:=omega)only[aP,aa,simprocAttr,q1,q3,Hk,Hl,Ws,fE,da,ec,eb,ew,dR,DH,ed,jh,ar,aoc,aob,an8,cond_true,aA,aq,ak,an3,an4,ab]
       refine fin _ _ ?_ ?_ ?_ ?_ ?_
       all_goals simp(disch:=omega)only[aN,aa,simprocAttr,q1,q3,Hk,Hl]
    ·have dR:=dR (u.ga==0)
     have heq:((((bi || !isWord u.name) || !bc (.mk u.wn u.wk))) || !(u.ga==0))=(bi || !bA f.kind u):=by
      rw[ae5,ao1 k4]
      by_cases z:u.ga=0
      ·rw[z];cases bi<;>cases isWord u.name<;>cases bc (.mk u.wn u.wk)<;>rfl
      ·have e1:(u.ga==0)=false:=by simpa using z
       rw[e1,ao1 z];cases bi<;>cases isWord u.name<;>cases bc (.mk u.wn u.wk)<;>simp
     rw[heq] at dR
     have hz:(bi || !bA f.kind u)=false->lc=la++cK f.kind u:=by
      intro h
      have h3:=h
      rw[<- heq] at h3
      have h2:=At h3
      have h1:=At h2
      rw[tw h2,tb h1]
      unfold cK
      rw[if_neg k4];simp
     have fin:=fun T' g' a b c d e=>fin T' g' lc a b c d e hz (by omega)
     generalize (bi || !bA f.kind u)=bz at *
     generalize ((bi || !isWord u.name) || !bc (.mk u.wn u.wk))=bw at *
     generalize (bi || !isWord u.name)=bn at *
     by_cases CD:i=0
     ·rw[Yn CD] at eb
      simp(disch:=omega)only[aP,aa,simprocAttr,q1,q3,Hk,Hl,Ws,fE,da,eb,ew,dR,jh,ar,aoc,aob,an8,cond_true,aA,aq,ak,an3,an4,ab]
      refine fin _ _ ?_ ?_ ?_ ?_ ?_
      all_goals simp(disch:=omega)only[aN,aa,simprocAttr,q1,q3,Hk,Hl]
     ·have ec:=ec (by omega)
      simp(disch:=omega)only[aP,aa,simprocAttr,q1,q3,Hk,Hl,Ws,fE,da,ec,eb,ew,dR,jh,ar,aoc,aob,an8,cond_true,aA,aq,ak,an3,an4,ab]
      refine fin _ _ ?_ ?_ ?_ ?_ ?_
      all_goals simp(disch:=omega)only[aN,aa,simprocAttr,q1,q3,Hk,Hl]
   ·obtain rfl:i=f.a8.length:=by omega
    rw[apm] at ht ⊢
    generalize (isWord f.name&&f.a8.all (bA f.kind))=ok0 at *
    simp(disch:=omega)only[aP,aa,simprocAttr,q1,q3,Hk,Hl,Ws,ar,aoc,aob,an8,cond_true,aA]
    exact⟨_,_,l',rfl,by simp(disch:=omega)only[aN,aa,simprocAttr,q1],by simp(disch:=omega)only[aN,aa,simprocAttr,q3],ht,by omega⟩
  ·have e0:cm mm l2 (!isWord f.name) K=cm mm l2 (!(isWord f.name&&(f.a8.take 0).all (bA f.kind))) K:=by rw[aoV,apd,Bool.and_true]
   refine⟨_,_,l2,apS (fun x=>AS.mk _ x _ _) e0,?_,?_,?_,?_,?_,fun h=>?_,by omega⟩
   all_goals first|(simp(disch:=omega)only[aN,aa,simprocAttr,q1,q3,aoI];done)|skip
   simp only[aoV,apd,Bool.and_true] at h
   rw[t2 (by simp[h]),t1 (by simp[h])];simp[aO]
 rintro st ⟨T,g,l',rfl,q1,q3,ht,zS⟩
 refine fH 1 (fun st=>∃ T g l3,st=⟨T,cm mm l3 (!dI f) K,H.length,g⟩/\T 3=.ref mm 0/\(dI f=true->l3=nA f)) ?_ ?_
 ·obtain⟨l4,e4,t4,n4⟩:=fi hP [[41]] (by simp) l' (!(isWord f.name&&f.a8.all (bA f.kind))) (by simp only[an5,an6];omega)
  simp only[an5,an6] at n4
  rw[pk,tQ] at e4
  rw[pk] at t4
  have e6:((vN.body.post 5).post 0)=vN.body.post 6:=kR 5 _
  rw[e6]
  have A8:dI f=((isWord f.name&&f.a8.all (bA f.kind))&&bif decide (f.kind=0) || decide (f.kind=1) then n8 f.rn f.rk&&gy f.body else bc (.mk f.rn f.rk)&&ai f.body):=rfl
  by_cases b01:f.kind=0\/f.kind=1
  ·have aai:(decide (f.kind=0) || decide (f.kind=1))=true:=by rcases b01 with b|b<;>simp[b]
   rw[aai,cond_true,zero_eq] at A8
   have ja:=fun K=>gx f.body K
   rw[an] at ja
   have dR:=fun ok=>fq hP ok l4 (!(isWord f.name&&f.a8.all (bA f.kind)))
   have aac:dI f=true->l4=nA f:=fun h=>by
    rw[A8] at h
    simp only[aod] at h
    have h1:(isWord f.name&&f.a8.all (bA f.kind))=true:=by simp[h.1]
    rw[t4 (by rw[h1];rfl),ht h1,fta,if_pos b01];simp
   have fin:∀ (T' : aQ) (g' : Nat) (b' : Bool),b'=!dI f->T' 3=.ref mm 0->∃ T g l3,(⟨T',cm mm l4 b' K,H.length,g'⟩:AS)=⟨T,cm mm l3 (!dI f) K,H.length,g⟩/\T 3=.ref mm 0/\(dI f=true->l3=nA f) :=
    fun T' g' b' gm h3=>⟨T',g',l4,by rw[gm],h3,aac⟩
   have ain:(f.kind==0)=true\/(f.kind==0)=false/\(f.kind==1)=true:=by
    rcases b01 with b|b
    ·exact .inl (by simp[b])
    ·exact .inr (by simp[b])
   generalize (isWord f.name&&f.a8.all (bA f.kind))=okS at *
   unfold vN
   simp only[aY.post,aY.pre]
   rcases ain with hk|⟨hk,vK⟩
   ·cases d1:(f.rn==[]) with
    | false =>
     have dR:=dR false
     simp(disch:=omega)only[aP,aa,simprocAttr,q1,q3,da,dj,ja,hk,d1,e4,dR,jh,ar,aoc,aob,an8,cond_true,aA,aq,ak,an3,an4,ab]
     exact fin _ _ _ (by rw[A8];simp[d1]) (by simp(disch:=omega)only[aN,aa,simprocAttr,q3])
    | true =>
    cases d2:((f.rk.length:Int)==0) with
    | false =>
     have dR:=dR false
     simp(disch:=omega)only[aP,aa,simprocAttr,q1,q3,da,dj,ja,hk,d1,d2,e4,dR,jh,ar,aoc,aob,an8,cond_true,aA,aq,ak,an3,an4,ab]
     exact fin _ _ _ (by rw[A8];simp[d1,d2]) (by simp(disch:=omega)only[aN,aa,simprocAttr,q3])
    | true =>
    cases d3:(f.body.kind==0) with
    | false =>
     have dR:=dR false
     simp(disch:=omega)only[aP,aa,simprocAttr,q1,q3,da,dj,ja,hk,d1,d2,d3,e4,dR,jh,ar,aoc,aob,an8,cond_true,aA,aq,ak,an3,an4,ab]
     exact fin _ _ _ (by rw[A8];simp[d1,d2,d3]) (by simp(disch:=omega)only[aN,aa,simprocAttr,q3])
    | true =>
    cases d4:bj f.body with
    | false =>
     have dR:=dR false
     simp(disch:=omega)only[aP,aa,simprocAttr,q1,q3,da,dj,ja,hk,d1,d2,d3,d4,e4,dR,jh,ar,aoc,aob,an8,cond_true,aA,aq,ak,an3,an4,ab]
     exact fin _ _ _ (by rw[A8];simp[d1,d2,d3,d4]) (by simp(disch:=omega)only[aN,aa,simprocAttr,q3])
    | true =>
    cases d5:(f.body.n==0) with
    | false =>
     have dR:=dR false
     simp(disch:=omega)only[aP,aa,simprocAttr,q1,q3,da,dj,ja,hk,d1,d2,d3,d4,d5,e4,dR,jh,ar,aoc,aob,an8,cond_true,aA,aq,ak,an3,an4,ab]
     exact fin _ _ _ (by rw[A8];simp[d1,d2,d3,d4,d5]) (by simp(disch:=omega)only[aN,aa,simprocAttr,q3])
    | true =>
    have dR:=dR true
    simp(disch:=omega)only[aP,aa,simprocAttr,q1,q3,da,dj,ja,hk,d1,d2,d3,d4,d5,e4,dR,jh,ar,aoc,aob,an8,cond_true,aA,aq,ak,an3,an4,ab]
    exact fin _ _ _ (by rw[A8];simp[d1,d2,d3,d4,d5]) (by simp(disch:=omega)only[aN,aa,simprocAttr,q3])
   ·cases d1:(f.rn==[]) with
    | false =>
     have dR:=dR false
     simp(disch:=omega)only[aP,aa,simprocAttr,q1,q3,da,dj,ja,hk,vK,d1,e4,dR,jh,ar,aoc,aob,an8,cond_true,aA,aq,ak,an3,an4,ab]
     exact fin _ _ _ (by rw[A8];simp[d1]) (by simp(disch:=omega)only[aN,aa,simprocAttr,q3])
    | true =>
    cases d2:((f.rk.length:Int)==0) with
    | false =>
     have dR:=dR false
     simp(disch:=omega)only[aP,aa,simprocAttr,q1,q3,da,dj,ja,hk,vK,d1,d2,e4,dR,jh,ar,aoc,aob,an8,cond_true,aA,aq,ak,an3,an4,ab]
     exact fin _ _ _ (by rw[A8];simp[d1,d2]) (by simp(disch:=omega)only[aN,aa,simprocAttr,q3])
    | true =>
    cases d3:(f.body.kind==0) with
    | false =>
     have dR:=dR false
     simp(disch:=omega)only[aP,aa,simprocAttr,q1,q3,da,dj,ja,hk,vK,d1,d2,d3,e4,dR,jh,ar,aoc,aob,an8,cond_true,aA,aq,ak,an3,an4,ab]
     exact fin _ _ _ (by rw[A8];simp[d1,d2,d3]) (by simp(disch:=omega)only[aN,aa,simprocAttr,q3])
    | true =>
    cases d4:bj f.body with
    | false =>
     have dR:=dR false
     simp(disch:=omega)only[aP,aa,simprocAttr,q1,q3,da,dj,ja,hk,vK,d1,d2,d3,d4,e4,dR,jh,ar,aoc,aob,an8,cond_true,aA,aq,ak,an3,an4,ab]
     exact fin _ _ _ (by rw[A8];simp[d1,d2,d3,d4]) (by simp(disch:=omega)only[aN,aa,simprocAttr,q3])
    | true =>
    cases d5:(f.body.n==0) with
    | false =>
     have dR:=dR false
     simp(disch:=omega)only[aP,aa,simprocAttr,q1,q3,da,dj,ja,hk,vK,d1,d2,d3,d4,d5,e4,dR,jh,ar,aoc,aob,an8,cond_true,aA,aq,ak,an3,an4,ab]
     exact fin _ _ _ (by rw[A8];simp[d1,d2,d3,d4,d5]) (by simp(disch:=omega)only[aN,aa,simprocAttr,q3])
    | true =>
    have dR:=dR true
    simp(disch:=omega)only[aP,aa,simprocAttr,q1,q3,da,dj,ja,hk,vK,d1,d2,d3,d4,d5,e4,dR,jh,ar,aoc,aob,an8,cond_true,aA,aq,ak,an3,an4,ab]
    exact fin _ _ _ (by rw[A8];simp[d1,d2,d3,d4,d5]) (by simp(disch:=omega)only[aN,aa,simprocAttr,q3])
  ·have aai:(decide (f.kind=0) || decide (f.kind=1))=false:=by
    cases h1:decide (f.kind=0)<;>cases h2:decide (f.kind=1)<;>simp_all
   rw[aai,an8] at A8
   have c0:f.kind≠0:=fun h=>b01 (.inl h)
   have c1:f.kind≠1:=fun h=>b01 (.inr h)
   obtain⟨l5,e5,t5,n5⟩:=DA 3 (.mk f.rn f.rk) (by omega) hb.w mm K hP l4 (!(isWord f.name&&f.a8.all (bA f.kind))) (by omega)
   obtain⟨l6,e6,t6,n6⟩:=fi hP [[61]] (by simp) l5 (!(isWord f.name&&f.a8.all (bA f.kind)) || !bc (.mk f.rn f.rk)) (by simp only[an5,an6];omega)
   simp only[an5,an6] at n6
   have hwb:wB 5=3872:=by decide
   obtain⟨l7,e7,t7,n7⟩:=HH 5 f.body (by omega) hb.b mm K hP l6 (!(isWord f.name&&f.a8.all (bA f.kind)) || !bc (.mk f.rn f.rk)) (by omega)
   rw[gz] at e5
   rw[an] at e7
   simp only[pk,tQ] at e5 e6 e7 t5 t6 t7
   have eo:((!(isWord f.name&&f.a8.all (bA f.kind)) || !bc (.mk f.rn f.rk)) || !ai f.body)=!dI f:=by
    rw[A8]
    cases (isWord f.name&&f.a8.all (bA f.kind))<;>cases bc (.mk f.rn f.rk)<;>cases ai f.body<;>rfl
   have aac:dI f=true->l7=nA f:=fun h=>by
    have h7:((!(isWord f.name&&f.a8.all (bA f.kind)) || !bc (.mk f.rn f.rk)) || !ai f.body)=false:=by rw[eo,h];rfl
    have h6:=At h7
    have h5:=At h6
    rw[t7 h7,t6 h6,t5 h6,t4 h5,ht (by simpa using h5),fta,if_neg b01];simp
   rw[eo] at e7
   generalize (!dI f)=bz at *
   generalize (!(isWord f.name&&f.a8.all (bA f.kind)) || !bc (.mk f.rn f.rk))=by5 at *
   generalize (!(isWord f.name&&f.a8.all (bA f.kind)))=by4 at *
   unfold vN
   simp only[aY.post,aY.pre]
   simp(disch:=omega)only[aP,aa,simprocAttr,q1,q3,da,e4,e5,e6,e7,jh,ar,aoc,aob,an8,cond_true,aA,aq,ak,an3,an4,ab]
   exact⟨_,_,l7,rfl,by simp(disch:=omega)only[aN,aa,simprocAttr,q3],aac⟩
 ·rintro st ⟨T,g,l3,rfl,q3,hl3⟩
  have e6:((vN.body.post 5).post 0).post 1=vN.body.post 8:=rfl
  rw[e6]
  unfold vN
  simp only[aY.post]
  unfold gn
  cases lL:dI f with
  | true =>
   rw[if_pos rfl,hl3 lL]
   simp(disch:=omega)only[aP,aa,simprocAttr,q3,hw0,Jp,nH,jh,aom,ar,aoc,aob,an8,cond_true,aA,aq,ak,an3,an4,ab]
  | false =>
   rw[if_neg (by decide)]
   simp(disch:=omega)only[aP,aa,simprocAttr,q3,hw0,nH,jh,aoj,gv,ar,aoc,aob,an8,cond_true,aA,aq,ak,an3,an4,ab]
def dr(l:bq):List (List AV):=l.map fun b=>[.int .u8 b.toNat]
theorem xQ{l:bq} : (dr l).length=l.length:=by simp[dr]
theorem AG:∀ l:bq,bytesOf (dr l)=some l
 | []=>rfl
 | b :: l=>by
  have:=AG l
  simp only[dr] at this
  simp only[dr,aoh,bytesOf,this,aok]
  simp
theorem xP:∀ l:bq,mc (dr l)=true
 | []=>rfl
 | b :: l=>by
  have:=xP l
  simp only[mc,dr] at this
  simp only[mc,dr,aoh,ao6,this,Bool.and_true]
theorem wj:∀ l:bq,rF (dr l)=true
 | []=>rfl
 | b :: l=>by
  have:=wj l
  simp only[rF,dr] at this
  have hb:=UInt8.toNat_lt b
  simp only[rF,dr,aoh,ao6,this,Bool.and_true,aod,aov]
  omega
theorem Ob{l:bq} : ∀ r∈dr l,r.length=1:=fun r hr=>by simp only[dr,aoy] at hr;obtain⟨n,_,rfl⟩:=hr;rfl
theorem AB{a s:bq}(h:a.length+s.length<=1000000000):aC true 1 1 (.slice (dr a) true) (.str s)=some (.slice (dr (a++s)) true):=by
 have e:(s.map fun (b:UInt8)=>[AV.int .u8 b.toNat])=dr s:=rfl
 simp only[aC,dm,DX,cond_true,aoe,e]
 have ha:dr a++dr s=dr (a++s):=by simp[dr]
 cases s with
 | nil=>simp[dr]
 | cons b s =>
  have hf:cF 1 1 (dr a) (dr (b :: s))=true:=by
   simp only[cF,vH Ob,xQ,aoR (show (a.length+(b :: s).length)*1<=70368744177664 by omega),aoR (show a.length+(b :: s).length<=70368744177664 by omega),apb]
  have hr:kD true (dr a++dr (b :: s))=true:=by rw[ha];exact xP _
  show (cond (true&&cF 1 1 (dr a) (dr (b :: s))&&kD true (dr a++dr (b :: s))) (some (AV.slice (dr a++dr (b :: s)) true)) none)=_
  rw[hf,hr,ha];rfl
theorem s3b{H:ah}{a b c d:bZ} : (H++[a,b,c]).set (H.length+1) d=H++[a,d,c]:=by rw[ap1 _ _ (by omega)];simp
def Bd(n:Nat)(p v:AV)(s:bq):Prop:=(p=.di/\v=.aj/\s=[])\/(p=.ref n 0/\v=.slice (dr s) true)
theorem G2{B:ah}{ty:TypeId}{cs:List AV} : pg (B.length+1) B.length (B++[.box ty cs])=true:=by
 unfold pg
 have h1:(B++[bZ.box ty cs]).take (B.length+1)=B++[.box ty cs]:=aoJ (by simp)
 rw[h1]
 have h2:(B++[bZ.box ty cs]).drop B.length=[.box ty cs]:=by simp
 rw[h2]
 cases Nat.beq B.length (B.length+1)<;>rfl
theorem HF{B:ah}{o:bZ} : (B++[o]).take (B.length+1)=B++[o]:=aoJ (by simp)
theorem Ii{s:bq}(h:s.length<=1000000000):aC true 1 1 (.slice [] true) (.str s)=some (.slice (dr s) true):=AB (a:=[]) (by simpa using h)
theorem HK(B:ah)(p v:AV)(s t:bq)(hp:Bd B.length p v s)(hl:s.length+t.length<=1000000000):aD A 46 [.ref B.length 0,.str t] (B++[.box 103 [p,v]]) =
  some (.tuple [.int .i64 t.length,.bR],some ⟨B++[.box 103 [.ref B.length 0,.slice (dr (s++t)) true]],B.length⟩):=by
 refine aB (fn:=Q0) rfl rfl rfl ?_
 unfold Q0
 rcases hp with ⟨rfl,rfl,rfl⟩|⟨rfl,rfl⟩
 ·have hc:aD A 78 [.ref B.length 0] (B++[.box 103 [.di,.aj]])=some (.undef,some ⟨B++[.box 103 [.ref B.length 0,.aj]],B.length⟩):=by
   refine ng (A:=A) (f:=78) (g:=iN) rfl ?_
   simp only[iN,cr,heap_set]
  have a1:=Ii (s:=t) (by omega)
  rw[ao8]
  simp(disch:=omega)only[aP,aa,simprocAttr,hc,cr,heap_set,a1,bo,HF,G2,l1,Nat.lt_add_one,apC,cond_true,ar,aoc,aob,an8,cond_true,cC,aq,ak,an3,an4,ab]
 ·have hc:aD A 78 [.ref B.length 0] (B++[.box 103 [.ref B.length 0,.slice (dr s) true]])=some (.undef,none):=by
   refine ng (A:=A) (f:=78) (g:=iN) rfl ?_
   simp only[iN,cr,apU,cond_true]
  have a1:=AB (a:=s) (s:=t) (by omega)
  simp(disch:=omega)only[aP,aa,simprocAttr,hc,cr,heap_set,a1,bo,HF,G2,l1,Nat.lt_add_one,apC,cond_true,ar,aoc,aob,an8,cond_true,cC,aq,ak,an3,an4,ab]
theorem Nh(B:ah)(p:AV)(s:bq)(hl:s.length<=1000000000):aD A 47 [.ref B.length 0] (B++[.box 103 [p,.slice (dr s) true]])=some (.str s,none):=by
 refine ng (A:=A) (f:=47) (g:=pn) rfl ?_
 simp only[pn,cr,xQ,AG,aok,aoR (show s.length<=4611686018427387904 by omega),wj,apb,cond_true]
structure JH (n0:Nat) (l y:List bq) (B:ah):Prop where
 lt:n0+1<B.length
 t:B[n0]?=some (.cS [.slice (strs l) false])
 y:B[n0+1]?=some (.cS [.slice (strs y) false])\/∃ q,q<B.length/\B[n0+1]?=some (.cS [.sref q 0 y.length 1])/\B[q]?=some (.cS (y.map .str))
theorem sD{B:ah}{o p:bZ}{i:Nat}(h:B[i]?=some p):(B++[o])[i]?=some p:=by
 have:=(an9.1 h).1
 rw[aox this];exact h
theorem GU{y:List bq}{i:Nat}(h:i<y.length):(y.map AV.str)[i]?=some (.str (y.getD i [])):=by rw[aor,an' h,getD_at h];rfl
theorem TD{n0:Nat}{l y:List bq}{B:ah}(h:JH n0 l y B)(i:Nat)(hi:i<l.length)(hy:y.length=l.length+1)(p v:AV)(s:bq)(hp:Bd B.length p v s)(w6:∀ s∈l,s.length<=40)(jF:∀ s∈y,s.length<=40)(hs:s.length<=100000000)(Uf:l.length<=1000000) :
  aD A 45 [.int .i64 i,.ref B.length 0,.ref (n0+1) 0,.ref n0 0] (B++[.box 103 [p,v]])=some (.undef,some ⟨B++[.box 103 [.ref B.length 0,.slice (dr (s++(y.getD i []++l.getD i []))) true]],B.length⟩):=by
 have g1:=nB w6 i
 have g2:=nB jF i
 have hl1:=iI hi
 have Th:=HK B p v s (y.getD i []) hp (by omega)
 have YO:=HK B (.ref B.length 0) (.slice (dr (s++y.getD i [])) true) (s++y.getD i []) (l.getD i []) (.inr ⟨rfl,rfl⟩) (by rw[List.length_append];omega)
 rw[ao5] at YO
 have ht1:=sD (o:=.box 103 [p,v]) h.t
 have ht2:=fun w=>sD (o:=.box 103 [.ref B.length 0,w]) h.t
 refine aB (fn:=QZ) rfl rfl rfl ?_
 unfold QZ
 rcases h.y with hyy|⟨q,hq,hyy,hqq⟩
 ·have Us:=sD (o:=.box 103 [p,v]) hyy
  have hyl:=iI (l:=y) (i:=i) (by omega)
  generalize y.getD i []=a at *
  generalize l.getD i []=b at *
  simp(disch:=omega)only[aP,aa,simprocAttr,ht1,ht2,Us,hyl,hl1,Th,YO,HF,G2,l1,ar,aoc,aob,an8,cond_true,cC,aq,ak,an3,an4,ab]
 ·have Us:=sD (o:=.box 103 [p,v]) hyy
  have hq1:=sD (o:=.box 103 [p,v]) hqq
  have hyl:=GU (y:=y) (i:=i) (by omega)
  generalize y.getD i []=a at *
  generalize l.getD i []=b at *
  simp(disch:=omega)only[aP,aa,simprocAttr,ht1,ht2,Us,hq1,hyl,hl1,Th,YO,HF,G2,l1,apT,Nat.zero_add,ar,aoc,aob,an8,cond_true,cC,aq,ak,an3,an4,ab]
theorem TC{n0:Nat}{l y:List bq}{B:ah}(h:JH n0 l y B)(hy:y.length=l.length+1)(h0:0<l.length)(w6:∀ s∈l,s.length<=40)(jF:∀ s∈y,s.length<=40)(Uf:l.length<=1000000) :
  aD A 44 [.func (.func 45) [] [.ref B.length 0,.ref (n0+1) 0,.ref n0 0],.ref n0 0] (B++[.box 103 [.di,.aj]])=some (.undef,some ⟨B++[.box 103 [.ref B.length 0,.slice (dr (jo l y l.length)) true]],B.length⟩):=by
 have ht:=fun o=>sD (o:=o) h.t
 refine aB (fn:=QY) rfl rfl rfl ?_
 unfold QY
 simp(disch:=omega)only[aP,aa,simprocAttr,ht,aW,l1,ar,aoc,aob,an8,cond_true,cC,aq,ak,an3,an4,ab]
 refine bM l.length 0 (fun i st=>∃ T p v lo,st=⟨T,B++[.box 103 [p,v]],lo,0⟩/\Bd B.length p v (jo l y i)/\(lo=B.length\/lo=B.length+1)/\(i=0\/(lo=B.length/\p=.ref B.length 0/\v=.slice (dr (jo l y i)) true))/\T 0=.func (.func 45) [] [.ref B.length 0,.ref (n0+1) 0,.ref n0 0]/\T 5=.int .i64 l.length/\T 6=.int .i64 i)
  (fun st=>∃ T,st=⟨T,B++[.box 103 [.ref B.length 0,.slice (dr (jo l y l.length)) true]],B.length,0⟩) (fun _=>False) ?_ ?_ (fun _ h=>h.elim) 0 _ (by omega) ?_
 ·rintro i st hi ⟨T,p,v,lo,rfl,hp,qp,CD,q0,q5,q6⟩
  by_cases bf:i<l.length
  ·have sn:=o9 w6 jF i
   have hjm:i*(2*40)<=1000000*(2*40):=aot _ (by omega)
   have he:=TD h i bf hy p v (jo l y i) hp w6 jF (by omega) Uf
   rw[<- nM] at he
   have F8:(bif decide (B.length<lo) then B.length else lo)=B.length:=by
    rcases qp with rfl|rfl
    ·simp
    ·simp
   simp(disch:=omega)only[aP,aa,simprocAttr,q0,q5,q6,he,F8,ar,aoc,aob,an8,cond_true,cC,aq,ak,an3,an4,ab]
   refine⟨bf,_,_,_,_,rfl,.inr ⟨rfl,rfl⟩,.inl rfl,.inr ⟨rfl,rfl,rfl⟩,?_,?_,?_⟩
   all_goals simp(disch:=omega)only[aN,aa,simprocAttr,q0,q5]
  ·obtain rfl:i=l.length:=by omega
   simp(disch:=omega)only[aP,aa,simprocAttr,q0,q5,q6,ar,aoc,aob,an8,cond_true]
   rcases CD with Mj|⟨rfl,rfl,rfl⟩
   ·omega
   ·exact⟨_,rfl⟩
 ·rintro st ⟨T,rfl⟩
  simp(disch:=omega)only[aP,aa,simprocAttr,HF,G2,l1,ar,aoc,aob,an8,cond_true]
 ·refine⟨_,_,_,_,rfl,.inl ⟨rfl,rfl,rfl⟩,.inr rfl,.inl rfl,?_,?_,?_⟩
  all_goals simp(disch:=omega)only[aN,aa,simprocAttr,aoI]
theorem Bg(l lay:List bq)(H:ah)(h0:0<l.length)(hl:l.length<=20000)(hb:∀ s∈l,s.length<=40)(jF:∀ s∈lay,s.length<=40)(Uf:lay.length<=1000000) :
  aD A 23 [.slice (strs l) false,.slice (strs lay) false] H=some (.str (mB l lay),none):=by
 have hy:=CQ (l:=l) jF
 have hyl:=GD (l:=l) (lay:=lay)
 have sn:=o9 hb hy l.length
 have hjm:l.length*(2*40)<=20000*(2*40):=aot _ hl
 have g2:=nB hy l.length
 have nE:decide (H.length+1<H.length)=false:=by simp
 have jh:decide (H.length+2<H.length)=false:=by simp
 have al0:decide (H.length+3<H.length)=false:=by simp
 refine aB (fn:=MD) rfl rfl rfl ?_
 refine fH 1 (fun st=>∃ T B,st=⟨T,B,H.length,0⟩/\JH H.length l (od l lay) B/\B.take H.length=H/\H.length+2<=B.length/\T 2=.ref H.length 0/\T 3=.ref (H.length+1) 0) ?_ ?_
 ·unfold MD
  simp only[aY.pre]
  by_cases hc:lay.length=l.length+1
  ·have e:od l lay=lay:=by unfold od;rw[if_pos hc]
   rw[e]
   simp(disch:=omega)only[aP,aa,simprocAttr,rr,l1,CA,HS,nE,aW,ar,aoc,aob,an8,cond_true,cC,aq,ak,an3,an4,ab]
   refine⟨_,_,rfl,⟨by simp,CA,.inl HS⟩,h2t,by simp,?_,?_⟩
   all_goals simp(disch:=omega)only[aN,aa,simprocAttr]
  ·have e:od l lay=lA l:=by unfold od;rw[if_neg hc]
   rw[e]
   have hu:=X0 l (H++[.cS [.slice (strs l) false],.cS [.slice (strs lay) false]]) (by omega)
   rw[l2,ao5] at hu
   have jW:((gD l).map AV.str).length=l.length+1:=by rw[aoA,mZ]
   have hq:(List.take (l.length*1) ((gD l).map AV.str)++[.str [10]]++List.drop (l.length*1+1) ((gD l).map AV.str))=(lA l).map .str:=by rw[apT,ao5];exact Bx l
   simp(disch:=omega)only[Ox,jy,gF,j0,iS,tG,cd,aE,dG,aF.eval,AS.cH,↓reduceIte,Nat.reduceEqDiff,Option.isSome,Option.isNone,cond_true,an8,Nat.reduceBEq,Nat.reduceAdd,Nat.reduceMul,aa,gP,eq_self,reduceCtorEq,rB,iG,gQ,fD,bound,kP,AS.cI,bQ,fm,dm,Nat.reduceLeDiff,im,putAt,Int.reduceEq,Int.reduceLT,Int.reduceLE,Int.reduceBEq,Int.reduceBNe,Int.reduceAdd,Int.reduceNeg,Int.reduceSub,Int.reduceMul,qW,qV,qU,qT,qS,qR,qY,qX,br,fX,Int.toNat_natCast,aps,rr,l1,CA,HS,nE,jh,aW,hu,h3a,h3b,h3c,s3c,apu,ao8,jW,s3b,hq,ar,aoc,aob,an8,cond_true,cC,aq,ak,an3,an4,ab]
   refine⟨_,_,rfl,⟨by simp,h3a,.inr ⟨H.length+2,by simp,by rw[tN];exact h3b,h3c⟩⟩,h3t,by simp,?_,?_⟩
   all_goals simp(disch:=omega)only[aN,aa,simprocAttr]
 ·rintro st ⟨T,B,rfl,hJ,hBt,hBl,q2,q3⟩
  unfold MD mB
  generalize od l lay=y at *
  have he:=TC hJ hyl h0 hb hy (by omega)
  have jN:=Nh B (.ref B.length 0) (jo l y l.length) (by omega)
  have Mn:decide (B.length<H.length)=false:=by simp;omega
  have j6:∀ o,(B++[o]).take H.length=H:=fun o=>by rw[apJ (by omega),hBt]
  have ht:=fun o=>sD (o:=o) hJ.t
  simp only[aY.post]
  rcases hJ.y with hyy|⟨q,hq,hyy,hqq⟩
  ·have Us:=fun o=>sD (o:=o) hyy
   have hyg:=iI (l:=y) (i:=l.length) (by omega)
   generalize y.getD l.length []=a at *
   simp(disch:=omega)only[aP,aa,simprocAttr,q2,q3,he,jN,Mn,ht,Us,hyg,aW,j6,ar,aoc,aob,an8,cond_true,cC,aq,ak,an3,an4,ab]
  ·have Us:=fun o=>sD (o:=o) hyy
   have hq1:=fun o=>sD (o:=o) hqq
   have hyg:=GU (y:=y) (i:=l.length) (by omega)
   generalize y.getD l.length []=a at *
   simp(disch:=omega)only[aP,aa,simprocAttr,q2,q3,he,jN,Mn,ht,Us,hq1,hyg,aW,j6,apT,Nat.zero_add,ar,aoc,aob,an8,cond_true,cC,aq,ak,an3,an4,ab]
theorem Ok{f:Fm}(hb:HP f)(H:ah):aD A 9 [.agg (cN f)] H=some (.str (ue f),none):=by
 have ht:=Nk hb (H++[.box 45 (cN f)])
 rw[cN] at ht ⊢
 refine aB (fn:=ir9) rfl rfl rfl ?_
 unfold ir9 ue
 by_cases hc:gn f=[]
 ·rw[if_pos hc]
  rw[hc,gv] at ht
  simp(disch:=omega)only[aP,aa,simprocAttr,ht,cr,an6,aq,ab]
 ·rw[if_neg hc]
  have dn:(((gn f).length:Int)==0)=false:=by
   cases h:gn f with
   | nil=>exact absurd h hc
   | cons a r=>simp;omega
  have h0:0<(gn f).length:=by cases h:gn f with|nil=>exact absurd h hc|cons a r=>simp
  have hj:=Bg (gn f) f.layout (H++[.box 45 [.int .i64 f.kind,.str f.name,.slice (f.a8.map dX) false,.str f.rn,.slice (az f.rk) false,.int .i64 f.body.kind,.int .i64 f.body.n,.str f.body.name,.str f.body.field,.str f.body.wn,.slice (az f.body.wk) false,.slice (au f.body.kids) false,.slice (strs f.body.names) false,.slice (strs f.layout) false]]) h0 (by have:=sd hb;omega) (zp hb) (fun s hs=>by have:=hb.lb s hs;omega) (by have:=hb.ll;omega)
  simp(disch:=omega)only[aP,aa,simprocAttr,ht,cr,aW,dn,hj,aq,ab]
theorem Ff{f:Fm}(hb:HP f):ue f=[]↔gn f=[]:=by
 constructor
 ·intro h
  cases hr:gn f with
  | nil=>rfl
  | cons a r =>
   exfalso
   have hp:dI f=true:=by
    unfold gn at hr
    split at hr
    ·assumption
    ·cases hr
   have ha:a=nN.getD f.kind.toNat []:=by
    unfold gn at hr
    rw[if_pos hp] at hr
    unfold nA at hr
    simp only[apu,apN] at hr
    exact hr.1.symm
   have DE:1<=a.length:=by
    obtain⟨k0,k5⟩:=hb.k
    have:f.kind.toNat=0\/f.kind.toNat=1\/f.kind.toNat=2\/f.kind.toNat=3\/f.kind.toNat=4\/f.kind.toNat=5:=by omega
    rw[ha]
    rcases this with e|e|e|e|e|e<;>rw[e]<;>decide
   unfold ue at h
   rw[if_neg (by rw[hr];simp),hr] at h
   have hl:=apS List.length h
   unfold mB at hl
   have Pm:∀ (l y:List bq) (i:Nat),(jo l y i).length<=(jo l y (i+1)).length:=fun l y i=>by rw[nM,List.length_append];omega
   have hle:∀ (l y:List bq) (i:Nat),(jo l y 1).length<=(jo l y (i+1)).length:=fun l y i=>by
    induction i with
    | zero=>exact aoa _
    | succ i ih=>exact aoS ih (Pm l y (i+1))
   have h1:=hle (a :: r) (od (a :: r) f.layout) r.length
   have h2:(jo (a :: r) (od (a :: r) f.layout) 1).length>=a.length:=by rw[nM];simp;omega
   rw[List.length_append,an5,an6] at hl
   omega
 ·intro h;unfold ue;rw[if_pos h]
theorem MR{s:So}(hb:To s)(H:ah):aD A 6 [.agg (iL s)] H=some (.str (gY s),none):=by
 have ht:=Pb hb (H++[.box 33 (iL s)])
 have hdl:=hb.dl
 have Uc:=hb.e
 have Pa:∀ i,(gX (s.defs.take i)).length<=3*1600040:=fun i=>by
  have h1:=AQ (l:=s.defs.take i) fun f hf=>hb.db f (apx hf)
  have h2:(s.defs.take i).length*1600040<=3*1600040:=aot _ (by rw[List.length_take];exact aoS (Nat.min_le_right _ _) hdl)
  exact aoS h1 h2
 have sn:=JC (l:=fB s) (lay:=s.head) (by have:=p7 hb;omega) (r6 hb) (fun u hu=>by have:=hb.hb u hu;omega)
 refine aB (fn:=ir6) rfl rfl rfl ?_
 rw[iL] at ht ⊢
 have F4:(H++[bZ.box 33 [.str s.name,.slice (strs s.cB) false,.slice (s.defs.map cN) false,.slice (strs s.head) false,.str s.fin]])[H.length]?=some (.box 33 [.str s.name,.slice (strs s.cB) false,.slice (s.defs.map cN) false,.slice (strs s.head) false,.str s.fin]):=cr
 have nH:(H++[bZ.box 33 [.str s.name,.slice (strs s.cB) false,.slice (s.defs.map cN) false,.slice (strs s.head) false,.str s.fin]]).take H.length=H:=rO
 have hjo:0<(fB s).length->aD A 23 [.slice (strs (fB s)) false,.slice (strs s.head) false] (H++[bZ.box 33 [.str s.name,.slice (strs s.cB) false,.slice (s.defs.map cN) false,.slice (strs s.head) false,.str s.fin]])=some (.str (mB (fB s) s.head),none):=fun h0=>Bg (fB s) s.head _ h0 (by have:=p7 hb;omega) (r6 hb) (fun u hu=>by have:=hb.hb u hu;omega) (by have:=hb.hl;omega)
 generalize hK:H++[bZ.box 33 [.str s.name,.slice (strs s.cB) false,.slice (s.defs.map cN) false,.slice (strs s.head) false,.str s.fin]]=K at ht hjo F4 nH
 by_cases hc:fB s=[]
 ·have e:gY s=[]:=by unfold gY;rw[if_pos (.inl hc)]
  rw[hc,gv] at ht
  rw[e]
  unfold ir6
  simp(disch:=omega)only[aP,aa,simprocAttr,hK,ht,F4,nH,an6,aq,ab]
 have dn:(((fB s).length:Int)==0)=false:=by
  cases h:fB s with
  | nil=>exact absurd h hc
  | cons a r=>simp;omega
 have hjo:=hjo (by cases h:fB s with|nil=>exact absurd h hc|cons a r=>simp)
 refine fH 3 (fun st=>∃ T,st=⟨T,K,H.length,0⟩/\T 1=.ref H.length 0/\T 4=.str (mB (fB s) s.head)) ?_ ?_
 ·unfold ir6
  simp only[aY.pre]
  simp(disch:=omega)only[aP,aa,simprocAttr,hK,ht,F4,aW,dn,hjo,aq,ab]
  exact⟨_,rfl,by simp(disch:=omega)only[aN,aa,simprocAttr],by simp(disch:=omega)only[aN,aa,simprocAttr]⟩
 ·rintro st ⟨T,rfl,e1,e4⟩
  obtain⟨J,hJ⟩:∃ J,J=mB (fB s) s.head:=⟨_,rfl⟩
  rw[<- hJ] at e4 sn
  unfold ir6
  simp only[aY.post]
  simp(disch:=omega)only[aP,aa,simprocAttr,e1,e4,F4,ny,aq,ab]
  refine bM s.defs.length 0 (fun i st=>∃ T g,st=⟨T,K,H.length,g⟩/\T 1=.ref H.length 0/\T 18=.slice (s.defs.map cN) false/\T 19=.int .i64 s.defs.length/\T 20=.int .i64 i/\T 4=.str (J++gX (s.defs.take i))/\∀ f∈s.defs.take i,gn f≠[])
   (fun st=>∃ T g,st=⟨T,K,H.length,g⟩/\T 1=.ref H.length 0/\T 4=.str (J++gX s.defs)/\∀ f∈s.defs,gn f≠[]) (fun st=>fin H.length [.tmp 2] st=some (.str (gY s),none)) ?_ ?_ ?_ 0 _ (ao9 _) ?_
  ·rintro i st hi ⟨T,g,rfl,e1,e18,e19,e20,e4,dA⟩
   by_cases bf:i<s.defs.length
   ·have hx:=an' bf
    have hm:=aoW bf
    have j6:=gE hx
    generalize s.defs[i]=u at hx hm j6
    have fE:=FQ hx
    have hu:=hb.db u hm
    have hdf:=Ok hu K
    have ah7:=x4 hu
    rw[cN] at fE hdf
    have NB:=Pa i
    have jZ:J++gX (s.defs.take i)++ue u=J++gX (s.defs.take (i+1)):=by rw[j6,x5,ao5]
    by_cases gR:gn u=[]
    ·have e:gY s=[]:=by unfold gY;rw[if_pos (.inr ⟨u,hm,gR⟩)]
     rw[(Ff hu).2 gR] at hdf
     simp(disch:=omega)only[aP,aa,simprocAttr,e1,e18,e19,e20,e4,fE,hdf,nH,e,aqu,aq,ab]
    ·have aaL:(ue u==[])=false:=by simpa using fun h=>gR ((Ff hu).1 h)
     have hlJ:(J++gX (s.defs.take i)).length<=10000000:=by rw[List.length_append];omega
     generalize J++gX (s.defs.take i)=acc at e4 jZ hlJ
     simp(disch:=omega)only[aP,aa,simprocAttr,e1,e18,e19,e20,e4,fE,hdf,aaL,aq,ab]
     refine⟨bf,_,_,rfl,?_,?_,?_,?_,?_,?_⟩
     all_goals first|(simp(disch:=omega)only[aN,aa,simprocAttr,e1,e18,e19,jZ];done)|skip
     rw[j6]
     intro f hf
     rcases aog.1 hf with hf|hf
     ·exact dA f hf
     ·rw[aos.1 hf];exact gR
   ·rw[aoJ (by omega)] at e4 dA
    simp(disch:=omega)only[aP,aa,simprocAttr,e1,e18,e19,e20,e4]
    exact⟨_,_,rfl,by simp(disch:=omega)only[aN,aa,simprocAttr,e1],by simp(disch:=omega)only[aN,aa,simprocAttr,e4],dA⟩
  ·rintro st ⟨T,g,rfl,e1,e4,dA⟩
   have e:gY s=J++gX s.defs++s.fin:=by
    unfold gY
    rw[if_neg,<- hJ]
    rintro (h|⟨f,hf,h⟩)
    ·exact hc h
    ·exact dA f hf h
   have NB:=Pa s.defs.length
   rw[apm] at NB
   rw[e]
   have hlJ:(J++gX s.defs).length<=10000000:=by rw[List.length_append];omega
   generalize J++gX s.defs=acc at e4 hlJ
   simp(disch:=omega)only[aP,aa,simprocAttr,e1,e4,F4,nH,aq,ab]
  ·intro st hs;exact hs
  ·refine⟨_,_,rfl,?_,?_,?_,?_,?_,by simp⟩
   all_goals simp(disch:=omega)only[aN,aa,simprocAttr,e1,e4,aoI,aoV,gX,aol,aph,aoZ]
theorem afz(l:List Int)(a n9 b:Int)(hl:∀ n∈l,zO n)(ha:zO a)(hh:zO n9)(hb:zO b):aD A 3 [.slice (ints l) false,.int .i64 a,.int .i64 n9,.int .i64 b] []=some (.bool true,none):=by
 obtain⟨x,hx,ex⟩:=Ss l hl []
 obtain⟨y,hy,ey⟩:=Y7 (by omega) hx ha hh hb []
 obtain⟨z,hz,ez⟩:=Y7 (by omega) hy hb ha hh []
 have dA:∀ s∈[x,y,z],To s:=by
  intro s hs
  simp only[aoN,apK,aqH] at hs
  rcases hs with rfl|rfl|rfl
  ·exact hx.B (by omega)
  ·exact hy.B (by omega)
  ·exact hz.B (by omega)
 obtain⟨L,hL⟩:∃ L,L=[x,y,z]:=⟨_,rfl⟩
 have wY:L.length=3:=by rw[hL];rfl
 have hLc:([[.str x.name,.slice (strs x.cB) false,.slice (x.defs.map cN) false,.slice (strs x.head) false,.str x.fin],[.str y.name,.slice (strs y.cB) false,.slice (y.defs.map cN) false,.slice (strs y.head) false,.str y.fin],[.str z.name,.slice (strs z.cB) false,.slice (z.defs.map cN) false,.slice (strs z.head) false,.str z.fin]]:List (List AV))=L.map iL:=by rw[hL];rfl
 rw[<- hL] at dA
 have sat:∀ (i:Nat) (s:So),L[i]?=some s->(L.map iL)[i]?=some [.str s.name,.slice (strs s.cB) false,.slice (s.defs.map cN) false,.slice (strs s.head) false,.str s.fin]:=fun i s h=>by rw[aor,h];rfl
 refine aB (fn:=ir3) rfl rfl rfl ?_
 refine fH 3 (fun st=>∃ T g,st=⟨T,[],0,g⟩/\T 11=.slice (L.map iL) true) ?_ ?_
 ·unfold ir3
  simp only[aY.pre]
  rw[iL] at ex ey ez
  rw[iL] at ey ez
  have zT:nb (L.map iL)=true:=tF fun r hr=>by simp only[aoy] at hr;obtain⟨n,_,rfl⟩:=hr;rfl
  simp(disch:=omega)only[aP,aa,simprocAttr,ex,ey,ez,hLc,zT,an6,aq,ab]
  exact⟨_,_,rfl,by simp(disch:=omega)only[aN,aa,simprocAttr]⟩
 ·rintro st ⟨T,g,rfl,xA⟩
  unfold ir3
  simp only[aY.post]
  simp(disch:=omega)only[aP,aa,simprocAttr,xA]
  refine bM 3 0 (fun i st=>∃ T g,st=⟨T,[],0,g⟩/\T 11=.slice (L.map iL) true/\T 12=.int .i64 i) (fun st=>∃ T g,st=⟨T,[],0,g⟩) (fun _=>False) ?_ ?_ (fun _ h=>h.elim) 0 _ (by omega) ?_
  ·rintro i st hi ⟨T,g,rfl,xA,Tj⟩
   have Pl:((L.map iL).length:Int)=3:=by rw[aoA,wY];rfl
   by_cases bf:i<3
   ·have hxi:=an' (show i<L.length by omega)
    have hm:=aoW (show i<L.length by omega)
    generalize L[i]=s at hxi hm
    have fE:=sat i s hxi
    have hs:=dA s hm
    have hdl:=hs.dl
    have c1:=Tz hs []
    have c2:=MR hs []
    have c3:=MS hs []
    rw[iL] at c1 c2 c3
    simp(disch:=omega)only[aP,aa,simprocAttr,xA,Tj,Pl,fE,c1,c2,c3,bne,aqu,aom,aq,ab]
    refine bM s.defs.length 2 (fun k st=>∃ T g,st=⟨T,[],0,g⟩/\T 11=.slice (L.map iL) true/\T 12=.int .i64 i/\T 13=.int .i64 k) (fun st=>∃ T g,st=⟨T,[],0,g⟩/\T 11=.slice (L.map iL) true/\T 12=.int .i64 i) (fun _=>False) ?_ ?_ (fun _ h=>h.elim) 0 _ (by omega) ?_
    ·rintro k st hk ⟨T,g,rfl,xA,Tj,q13⟩
     by_cases mV:k<s.defs.length
     ·have hxk:=an' mV
      have hmk:=aoW mV
      generalize s.defs[k]=u at hxk hmk
      have aev:=FQ hxk
      have hu:=hs.db u hmk
      have d1:=Ky hu []
      have d2:=Ok hu []
      have d3:=Ol hu []
      rw[cN] at aev d1 d2 d3
      simp(disch:=omega)only[aP,aa,simprocAttr,xA,Tj,q13,fE,ny,aev,d1,d2,d3,bne,aqu,aom,aq,ab]
      refine⟨mV,_,_,rfl,?_,?_,?_⟩
      all_goals simp(disch:=omega)only[aN,aa,simprocAttr,xA,Tj]
     ·simp(disch:=omega)only[aP,aa,simprocAttr,xA,Tj,q13,fE,ny,aq,ab]
      refine⟨_,_,rfl,?_,?_⟩
      all_goals simp(disch:=omega)only[aN,aa,simprocAttr,xA,Tj]
    ·rintro st ⟨T,g,rfl,xA,Tj⟩
     simp(disch:=omega)only[aP,aa,simprocAttr,xA,Tj]
     refine⟨bf,_,_,rfl,?_,?_⟩
     all_goals simp(disch:=omega)only[aN,aa,simprocAttr,xA]
    ·refine⟨_,_,rfl,?_,?_,?_⟩
     all_goals simp(disch:=omega)only[aN,aa,simprocAttr,xA,Tj,aoI]
   ·simp(disch:=omega)only[aP,aa,simprocAttr,xA,Tj,Pl]
    exact⟨_,_,rfl⟩
  ·rintro st ⟨T,g,rfl⟩
   have HX:aD A 12 [] []=some (.bool true,none):=ng (A:=A) (f:=12) rfl rfl
   simp(disch:=omega)only[aP,aa,simprocAttr,HX]
  ·refine⟨_,_,rfl,?_,?_⟩
   all_goals simp(disch:=omega)only[aN,aa,simprocAttr,xA,aoI]
end Go.Proofs.YtbdnnjjcdcacnaaGreatDoor
