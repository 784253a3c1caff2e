/-
  A part of the proof of ScopeFinds: V39, V40, V41, V42, V43, V44, V45, V46, V47, V48, V49, V50, AbsOKV.
-/
import Derived.Test.YthbncinhhdogpaaGreatDoorP13
set_option linter.unusedSimpArgs false
set_option linter.unusedVariables false
set_option linter.defProp false
set_option maxHeartbeats 4000000
set_option maxRecDepth 100000
namespace Go.Proofs.YthbncinhhdogpaaGreatDoor
open Go Go.Abs Go.Proofs
theorem Ua{l:List fa} : dT 1 (strs l):=fun r hr=>by
 simp only[strs,ap9] at hr
 obtain⟨a,_,rfl⟩:=hr
 exact⟨rfl,rfl⟩
theorem ud{l:List fa}{s:fa}{o:Bool}(h:l.length<=1000000):bt false 1 16 (.slice (strs l) true) (.slice [[.str s]] o)=some (.slice (strs (l++[s])) true):=by
 rw[nE Ua (dT.one rfl rfl) (by omega) (by simp[strs];omega)];simp[strs]
theorem T9{l:List fa}{i:Nat}{s:fa}(h:l[i]?=some s):(strs l)[i]?=some [.str s]:=by simp[strs,h]
theorem BH(l:List Int)(hl:∀ n∈l,pS n)(bad:Int)(i:Id)(c0 c1 c2 c3 c4 c5 c6 c7 c8 c9:AV)(pa:[c0,c1,c2,c3,c4,c5,c6,c7,c8,c9].all dp=true)
  (abA:([c0,c1,c2,c3,c4,c5,c6,c7,c8,c9].map n2).all dp=true) (wF:([c0,c1,c2,c3,c4,c5,c6,c7,c8,c9].map n2).map n2=[c0,c1,c2,c3,c4,c5,c6,c7,c8,c9].map n2)
  (ks:List Ex) (nn:Nat) (kc nc:AV) (hk:kc=.slice (bE ks) false\/(kc=.ae/\ks=[])) (hn:(∃ ns:List fa,nc=.slice (strs ns) false/\ns.length=nn)\/(nc=.ae/\nn=0)) (Be:ks.length<=1000) (H2:nn<=1000)
  (ih:∀ k∈ks,∀ H,∃ e',EN e'/\az A 14 [.agg (bk k),.slice (ints l) false,.int .i64 bad] H=some (.agg (bk e'),none)) (H:ag) :
  ∃ e',EN e'/\az A 14 [.agg [.int .i64 i.bK,.int .i64 i.seq,.int .i64 i.index,c0,c1,c2,c3,c4,c5,c6,c7,c8,c9,kc,nc],.slice (ints l) false,.int .i64 bad] H=some (.agg (bk e'),none):=by
 have key:∃ r,az A 14 [.agg [.int .i64 i.bK,.int .i64 i.seq,.int .i64 i.index,c0,c1,c2,c3,c4,c5,c6,c7,c8,c9,kc,nc],.slice (ints l) false,.int .i64 bad] H=some r/\∃ e',EN e'/\r=(.agg (bk e'),none):=by
  refine sg (fn:=RO) rfl rfl rfl rfl ?_
  unfold RO
  have dy:=pa
  simp only[List.all_cons,List.all_nil,Bool.and_true,Bool.and_eq_true] at dy
  obtain⟨k0,k1,k2,k3,k4,k5,k6,k7,k8,k9⟩:=dy
  have d0:=bQ k0
  have d1:=bQ k1
  have d2:=bQ k2
  have d3:=bQ k3
  have d4:=bQ k4
  have d5:=bQ k5
  have d6:=bQ k6
  have d7:=bQ k7
  have d8:=bQ k8
  have d9:=bQ k9
  have f0:=bY k0
  have f1:=bY k1
  have f2:=bY k2
  have f3:=bY k3
  have f4:=bY k4
  have f5:=bY k5
  have f6:=bY k6
  have f7:=bY k7
  have f8:=bY k8
  have f9:=bY k9
  have o0:=fun b=>fc (bM k0) b
  have o1:=fun b=>fc (bM k1) b
  have o2:=fun b=>fc (bM k2) b
  have o3:=fun b=>fc (bM k3) b
  have o4:=fun b=>fc (bM k4) b
  have o5:=fun b=>fc (bM k5) b
  have o6:=fun b=>fc (bM k6) b
  have o7:=fun b=>fc (bM k7) b
  have o8:=fun b=>fc (bM k8) b
  have o9:=fun b=>fc (bM k9) b
  have kd:kc.drop=kc/\aq kc=true/\yY (fun _=>AV.undef) .sl kc=some (.int .i64 ks.length)/\(∀ T,yY T .sl kc=some (.int .i64 ks.length)):=by
   rcases hk with rfl|⟨rfl,rfl⟩
   ·exact⟨rfl,rfl,by rw[DF,qh],fun T=>by rw[DF,qh]⟩
   ·exact⟨rfl,rfl,rfl,fun T=>rfl⟩
  have nd:nc.drop=nc/\aq nc=true/\(∀ T,yY T .sl nc=some (.int .i64 nn)):=by
   rcases hn with ⟨ns,rfl,rfl⟩|⟨rfl,rfl⟩
   ·exact⟨rfl,rfl,fun T=>by rw[DF];simp[strs]⟩
   ·exact⟨rfl,rfl,fun T=>rfl⟩
  obtain⟨kd1,kd2,_,kd3⟩:=kd
  obtain⟨nd1,nd2,nd3⟩:=nd
  have fin:∀ (es:List Ex) (q:List fa),es.length<=1000->q.length<=1000->(∀ e∈es,EN e)->∃ e',EN e'/\pB (.agg [.int .i64 i.bK,.int .i64 i.seq,.int .i64 i.index,c0,c1,c2,c3,c4,c5,c6,c7,c8,c9,.slice (bE es) false,.slice (strs q) false])=.agg (bk e'):=by
   intro es q h1 h2 h3
   have he:bk (.mk i ⟨[c0,c1,c2,c3,c4,c5,c6,c7,c8,c9].map n2,rfl,abA⟩ es q)=[.int .i64 i.bK,.int .i64 i.seq,.int .i64 i.index,c0,c1,c2,c3,c4,c5,c6,c7,c8,c9,.slice (bE es) false,.slice (strs q) false].map n2:=by
    rw[rq]
    simp only[Ex.id,Ex.Xy,Ex.kids,Ex.names,an,apZ,aqe,cw,fV,gY h3,kM,ap2,aqa]
   have hn:(bk (.mk i ⟨[c0,c1,c2,c3,c4,c5,c6,c7,c8,c9].map n2,rfl,abA⟩ es q)).map n2=bk (.mk i ⟨[c0,c1,c2,c3,c4,c5,c6,c7,c8,c9].map n2,rfl,abA⟩ es q):=by
    simp only[apZ,aqe,aqT,aqU] at wF
    obtain⟨m0,m1,m2,m3,m4,m5,m6,m7,m8,m9⟩:=wF
    rw[he]
    simp only[apZ,aqe,cw,fV,gY h3,kM,m0,m1,m2,m3,m4,m5,m6,m7,m8,m9]
   exact⟨_,⟨hn,.mk _ hn h1 h2 fun k hk=>(h3 k hk).b⟩,by rw[bX,he]⟩
  rcases hk with rfl|⟨rfl,HY⟩<;>rcases hn with ⟨ns,rfl,hnn⟩|⟨rfl,hnn⟩
  ·have qm:(strs ns).length=nn:=by simp[strs,hnn]
   have n7:(bE ks).length=ks.length:=qh
   simp(disch:=omega)only[aG,aa,simprocAttr,d0,d1,d2,d3,d4,d5,d6,d7,d8,d9,f0,f1,f2,f3,f4,f5,f6,f7,f8,f9,qm,n7]
   refine bd nn 0 (fun j=>Hd (fun T=>T 1=.slice (ints l) false/\T 2=.int .i64 bad/\T 3=.lbox 0 [.int .i64 i.bK,.int .i64 i.seq,.int .i64 i.index,c0,c1,c2,c3,c4,c5,c6,c7,c8,c9,.slice (bE ks) false,.slice (strs ns) false]/\T 6=.lbox 1 [.int .i64 0,.int .i64 0,.int .i64 0,.int .i64 0,.int .i64 0,.int .i64 0,.int .i64 0,.int .i64 0,.int .i64 0,.int .i64 0,.int .i64 0,.int .i64 0,.ae,.ae,.ae]/\T 8=.int .i64 j/\∃ q:List fa,q.length=j/\T 7=.slice (strs q) true) H H.length 2)
    (Hd (fun T=>T 1=.slice (ints l) false/\T 2=.int .i64 bad/\T 3=.lbox 0 [.int .i64 i.bK,.int .i64 i.seq,.int .i64 i.index,c0,c1,c2,c3,c4,c5,c6,c7,c8,c9,.slice (bE ks) false,.slice (strs ns) false]/\T 6=.lbox 1 [.int .i64 0,.int .i64 0,.int .i64 0,.int .i64 0,.int .i64 0,.int .i64 0,.int .i64 0,.int .i64 0,.int .i64 0,.int .i64 0,.int .i64 0,.int .i64 0,.ae,.ae,.ae]/\∃ q:List fa,q.length<=1000/\T 7=.slice (strs q) true) H H.length 2) (fun _=>False) ?_ ?_ (fun _ h=>h.elim) 0 _ (by omega) ?_
   ·rintro j s hj hs
    obtain⟨T,rfl,e1,e2,e3,e6,e8,q,hq,e7⟩:=hs.out
    by_cases hJ:j<nn
    ·obtain⟨x,rH,akI,vI⟩:∃ x,0<=x/\x<60/\az A 15 [.slice (ints l) false,.int .i64 (IntKind.i64.wrap (IntKind.i64.wrap (i.index+IntKind.i64.wrap (31*i.seq))+(j:Int))),.int .i64 60] H=some (.int .i64 x,none) :=
      ⟨_,(fZ (by omega)).1,(fZ (by omega)).2,Io l _ 60 H hl (by omega)⟩
     obtain⟨nm,uI⟩:∃ nm:fa,([[.str [97]],[.str [98]],[.str [97,49]],[.str [117]],[.str [97,86,101,114,121,76,111,110,103,78,97,109,101,49,50,51]],[.str [101]]]:List (List AV))[(x % 6).toNat]?=some [.str nm]:=by
      have h6:(x % 6).toNat<6:=by omega
      generalize (x % 6).toNat=y at h6
      have:y=0\/y=1\/y=2\/y=3\/y=4\/y=5:=by omega
      rcases this with rfl|rfl|rfl|rfl|rfl|rfl<;>exact⟨_,rfl⟩
     have jq:=fun s=>ud (l:=q) (s:=s) (o:=true) (by omega)
     cases hb:(x==59) with
     | false =>
      simp(disch:=omega)only[aG,aa,simprocAttr,d0,d1,d2,d3,d4,d5,d6,d7,d8,d9,f0,f1,f2,f3,f4,f5,f6,f7,f8,f9,qm,n7,e1,e2,e3,e8,e7,vI,uI,hb,jq]
      first|exact⟨hJ,e6,_,by simp[hq],rfl⟩|exact⟨hJ,e1,e2,e3,e6,_,by simp[hq],rfl⟩|exact⟨hJ,e2,e6,_,by simp[hq],rfl⟩
     | true =>
      cases jd:decide (bad>0) with
      | false =>
       simp(disch:=omega)only[aG,aa,simprocAttr,d0,d1,d2,d3,d4,d5,d6,d7,d8,d9,f0,f1,f2,f3,f4,f5,f6,f7,f8,f9,qm,n7,e1,e2,e3,e8,e7,vI,uI,hb,jd,jq]
       first|exact⟨hJ,e6,_,by simp[hq],rfl⟩|exact⟨hJ,e1,e2,e3,e6,_,by simp[hq],rfl⟩|exact⟨hJ,e2,e6,_,by simp[hq],rfl⟩
      | true =>
       simp(disch:=omega)only[aG,aa,simprocAttr,d0,d1,d2,d3,d4,d5,d6,d7,d8,d9,f0,f1,f2,f3,f4,f5,f6,f7,f8,f9,qm,n7,e1,e2,e3,e8,e7,vI,uI,hb,jd,jq]
       first|exact⟨hJ,e6,_,by simp[hq],rfl⟩|exact⟨hJ,e1,e2,e3,e6,_,by simp[hq],rfl⟩|exact⟨hJ,e2,e6,_,by simp[hq],rfl⟩
    ·simp(disch:=omega)only[aG,aa,simprocAttr,d0,d1,d2,d3,d4,d5,d6,d7,d8,d9,f0,f1,f2,f3,f4,f5,f6,f7,f8,f9,qm,n7,e1,e2,e3,e8]
     first|exact⟨rfl,rfl,rfl,e6,q,by omega,e7⟩|exact⟨e1,e2,e3,e6,q,by omega,e7⟩|exact⟨rfl,rfl,rfl,rfl,q,by omega,e7⟩|exact⟨e6,q,by omega,e7⟩
   ·rintro s hs
    obtain⟨T,rfl,e1,e2,e3,e6,q,hq,e7⟩:=hs.out
    simp(disch:=omega)only[aG,aa,simprocAttr,d0,d1,d2,d3,d4,d5,d6,d7,d8,d9,f0,f1,f2,f3,f4,f5,f6,f7,f8,f9,qm,n7,e1,e2,e3,e6,e7]
    refine bd ks.length 2 (fun j=>Hd (fun T=>T 1=.slice (ints l) false/\T 2=.int .i64 bad/\T 3=.lbox 0 [.int .i64 i.bK,.int .i64 i.seq,.int .i64 i.index,c0,c1,c2,c3,c4,c5,c6,c7,c8,c9,.slice (bE ks) false,.slice (strs q) false]/\T 6=.lbox 1 [.int .i64 0,.int .i64 0,.int .i64 0,.int .i64 0,.int .i64 0,.int .i64 0,.int .i64 0,.int .i64 0,.int .i64 0,.int .i64 0,.int .i64 0,.int .i64 0,.ae,.ae,.ae]/\T 12=.int .i64 j/\∃ es:List Ex,es.length=j/\(∀ e∈es,EN e)/\T 11=.slice (bE es) true) H H.length 2)
     (Hd (fun T=>T 3=.lbox 0 [.int .i64 i.bK,.int .i64 i.seq,.int .i64 i.index,c0,c1,c2,c3,c4,c5,c6,c7,c8,c9,.slice (bE ks) false,.slice (strs q) false]/\T 6=.lbox 1 [.int .i64 0,.int .i64 0,.int .i64 0,.int .i64 0,.int .i64 0,.int .i64 0,.int .i64 0,.int .i64 0,.int .i64 0,.int .i64 0,.int .i64 0,.int .i64 0,.ae,.ae,.ae]/\∃ es:List Ex,es.length<=1000/\(∀ e∈es,EN e)/\T 11=.slice (bE es) true) H H.length 2) (fun _=>False) ?_ ?_ (fun _ h=>h.elim) 0 _ (by omega) ?_
    ·rintro j s hj hs
     obtain⟨T,rfl,e1,e2,e3,e6,iO,es,rB,gp,mB⟩:=hs.out
     by_cases hJ:j<ks.length
     ·have rD:=PF (apy hJ)
      obtain⟨e',xt,Gm⟩:=ih ks[j] (aq7 hJ) H
      generalize ks[j]=kk at *
      have jq:=Ik (l:=es) (e:=e') (o:=true) (by omega)
      simp(disch:=omega)only[aG,aa,simprocAttr,bW,bZ,bF,ca,cM,bB,dQ,aw,av,aW,d0,d1,d2,d3,d4,d5,d6,d7,d8,d9,f0,f1,f2,f3,f4,f5,f6,f7,f8,f9,qm,n7,e1,e2,e3,mB,iO,rD,Gm,jq]
      refine⟨hJ,e6,_,by simp[rB],fun x hx=>(apC.1 hx).elim (gp x) (fun h=>by rw[apI.1 h];exact xt),rfl⟩
     ·have hjk:ks.length=j:=by omega
      simp(disch:=omega)only[aG,aa,simprocAttr,d0,d1,d2,d3,d4,d5,d6,d7,d8,d9,f0,f1,f2,f3,f4,f5,f6,f7,f8,f9,qm,n7,e1,e2,e3,mB,iO]
      first|exact⟨rfl,e6,es,by omega,gp,rfl⟩|exact⟨e6,es,by omega,gp,rfl⟩|exact⟨rfl,e6,es,by omega,gp,mB⟩|exact⟨e3,e6,es,by omega,gp,mB⟩|exact⟨e6,es,by omega,gp,mB⟩
    ·rintro s hs
     obtain⟨T,rfl,e3,e6,es,rB,gp,mB⟩:=hs.out
     simp(disch:=omega)only[aG,aa,simprocAttr,d0,d1,d2,d3,d4,d5,d6,d7,d8,d9,f0,f1,f2,f3,f4,f5,f6,f7,f8,f9,qm,n7,o0,o1,o2,o3,o4,o5,o6,o7,o8,o9,e3,e6,mB]
     exact fin es q rB hq gp
    ·simp(disch:=omega)only[aG,aa,simprocAttr,e1,e2,e3,e6,apK]
     exact⟨[],rfl,by simp,by rw[dj]⟩
   ·simp(disch:=omega)only[aG,aa,simprocAttr,apK]
    exact⟨[],rfl,rfl⟩
  ·have qm:nn=0:=hnn
   have n7:(bE ks).length=ks.length:=qh
   simp(disch:=omega)only[aG,aa,simprocAttr,d0,d1,d2,d3,d4,d5,d6,d7,d8,d9,f0,f1,f2,f3,f4,f5,f6,f7,f8,f9,qm,n7]
   refine bd nn 0 (fun j=>Hd (fun T=>T 1=.slice (ints l) false/\T 2=.int .i64 bad/\T 3=.lbox 0 [.int .i64 i.bK,.int .i64 i.seq,.int .i64 i.index,c0,c1,c2,c3,c4,c5,c6,c7,c8,c9,.slice (bE ks) false,.ae]/\T 6=.lbox 1 [.int .i64 0,.int .i64 0,.int .i64 0,.int .i64 0,.int .i64 0,.int .i64 0,.int .i64 0,.int .i64 0,.int .i64 0,.int .i64 0,.int .i64 0,.int .i64 0,.ae,.ae,.ae]/\T 8=.int .i64 j/\∃ q:List fa,q.length=j/\T 7=.slice (strs q) true) H H.length 2)
    (Hd (fun T=>T 1=.slice (ints l) false/\T 2=.int .i64 bad/\T 3=.lbox 0 [.int .i64 i.bK,.int .i64 i.seq,.int .i64 i.index,c0,c1,c2,c3,c4,c5,c6,c7,c8,c9,.slice (bE ks) false,.ae]/\T 6=.lbox 1 [.int .i64 0,.int .i64 0,.int .i64 0,.int .i64 0,.int .i64 0,.int .i64 0,.int .i64 0,.int .i64 0,.int .i64 0,.int .i64 0,.int .i64 0,.int .i64 0,.ae,.ae,.ae]/\∃ q:List fa,q.length<=1000/\T 7=.slice (strs q) true) H H.length 2) (fun _=>False) ?_ ?_ (fun _ h=>h.elim) 0 _ (by omega) ?_
   ·rintro j s hj hs
    obtain⟨T,rfl,e1,e2,e3,e6,e8,q,hq,e7⟩:=hs.out
    by_cases hJ:j<nn
    ·omega
    ·simp(disch:=omega)only[aG,aa,simprocAttr,d0,d1,d2,d3,d4,d5,d6,d7,d8,d9,f0,f1,f2,f3,f4,f5,f6,f7,f8,f9,qm,n7,e1,e2,e3,e8]
     first|exact⟨rfl,rfl,rfl,e6,q,by omega,e7⟩|exact⟨e1,e2,e3,e6,q,by omega,e7⟩|exact⟨rfl,rfl,rfl,rfl,q,by omega,e7⟩|exact⟨e6,q,by omega,e7⟩
   ·rintro s hs
    obtain⟨T,rfl,e1,e2,e3,e6,q,hq,e7⟩:=hs.out
    simp(disch:=omega)only[aG,aa,simprocAttr,d0,d1,d2,d3,d4,d5,d6,d7,d8,d9,f0,f1,f2,f3,f4,f5,f6,f7,f8,f9,qm,n7,e1,e2,e3,e6,e7]
    refine bd ks.length 2 (fun j=>Hd (fun T=>T 1=.slice (ints l) false/\T 2=.int .i64 bad/\T 3=.lbox 0 [.int .i64 i.bK,.int .i64 i.seq,.int .i64 i.index,c0,c1,c2,c3,c4,c5,c6,c7,c8,c9,.slice (bE ks) false,.slice (strs q) false]/\T 6=.lbox 1 [.int .i64 0,.int .i64 0,.int .i64 0,.int .i64 0,.int .i64 0,.int .i64 0,.int .i64 0,.int .i64 0,.int .i64 0,.int .i64 0,.int .i64 0,.int .i64 0,.ae,.ae,.ae]/\T 12=.int .i64 j/\∃ es:List Ex,es.length=j/\(∀ e∈es,EN e)/\T 11=.slice (bE es) true) H H.length 2)
     (Hd (fun T=>T 3=.lbox 0 [.int .i64 i.bK,.int .i64 i.seq,.int .i64 i.index,c0,c1,c2,c3,c4,c5,c6,c7,c8,c9,.slice (bE ks) false,.slice (strs q) false]/\T 6=.lbox 1 [.int .i64 0,.int .i64 0,.int .i64 0,.int .i64 0,.int .i64 0,.int .i64 0,.int .i64 0,.int .i64 0,.int .i64 0,.int .i64 0,.int .i64 0,.int .i64 0,.ae,.ae,.ae]/\∃ es:List Ex,es.length<=1000/\(∀ e∈es,EN e)/\T 11=.slice (bE es) true) H H.length 2) (fun _=>False) ?_ ?_ (fun _ h=>h.elim) 0 _ (by omega) ?_
    ·rintro j s hj hs
     obtain⟨T,rfl,e1,e2,e3,e6,iO,es,rB,gp,mB⟩:=hs.out
     by_cases hJ:j<ks.length
     ·have rD:=PF (apy hJ)
      obtain⟨e',xt,Gm⟩:=ih ks[j] (aq7 hJ) H
      generalize ks[j]=kk at *
      have jq:=Ik (l:=es) (e:=e') (o:=true) (by omega)
      simp(disch:=omega)only[aG,aa,simprocAttr,bW,bZ,bF,ca,cM,bB,dQ,aw,av,aW,d0,d1,d2,d3,d4,d5,d6,d7,d8,d9,f0,f1,f2,f3,f4,f5,f6,f7,f8,f9,qm,n7,e1,e2,e3,mB,iO,rD,Gm,jq]
      refine⟨hJ,e6,_,by simp[rB],fun x hx=>(apC.1 hx).elim (gp x) (fun h=>by rw[apI.1 h];exact xt),rfl⟩
     ·have hjk:ks.length=j:=by omega
      simp(disch:=omega)only[aG,aa,simprocAttr,d0,d1,d2,d3,d4,d5,d6,d7,d8,d9,f0,f1,f2,f3,f4,f5,f6,f7,f8,f9,qm,n7,e1,e2,e3,mB,iO]
      first|exact⟨rfl,e6,es,by omega,gp,rfl⟩|exact⟨e6,es,by omega,gp,rfl⟩|exact⟨rfl,e6,es,by omega,gp,mB⟩|exact⟨e3,e6,es,by omega,gp,mB⟩|exact⟨e6,es,by omega,gp,mB⟩
    ·rintro s hs
     obtain⟨T,rfl,e3,e6,es,rB,gp,mB⟩:=hs.out
     simp(disch:=omega)only[aG,aa,simprocAttr,d0,d1,d2,d3,d4,d5,d6,d7,d8,d9,f0,f1,f2,f3,f4,f5,f6,f7,f8,f9,qm,n7,o0,o1,o2,o3,o4,o5,o6,o7,o8,o9,e3,e6,mB]
     exact fin es q rB hq gp
    ·simp(disch:=omega)only[aG,aa,simprocAttr,e1,e2,e3,e6,apK]
     exact⟨[],rfl,by simp,by rw[dj]⟩
   ·simp(disch:=omega)only[aG,aa,simprocAttr,apK]
    exact⟨[],rfl,rfl⟩
  ·have qm:(strs ns).length=nn:=by simp[strs,hnn]
   have n7:ks.length=0:=by rw[HY];rfl
   simp(disch:=omega)only[aG,aa,simprocAttr,d0,d1,d2,d3,d4,d5,d6,d7,d8,d9,f0,f1,f2,f3,f4,f5,f6,f7,f8,f9,qm,n7]
   refine bd nn 0 (fun j=>Hd (fun T=>T 1=.slice (ints l) false/\T 2=.int .i64 bad/\T 3=.lbox 0 [.int .i64 i.bK,.int .i64 i.seq,.int .i64 i.index,c0,c1,c2,c3,c4,c5,c6,c7,c8,c9,.ae,.slice (strs ns) false]/\T 6=.lbox 1 [.int .i64 0,.int .i64 0,.int .i64 0,.int .i64 0,.int .i64 0,.int .i64 0,.int .i64 0,.int .i64 0,.int .i64 0,.int .i64 0,.int .i64 0,.int .i64 0,.ae,.ae,.ae]/\T 8=.int .i64 j/\∃ q:List fa,q.length=j/\T 7=.slice (strs q) true) H H.length 2)
    (Hd (fun T=>T 1=.slice (ints l) false/\T 2=.int .i64 bad/\T 3=.lbox 0 [.int .i64 i.bK,.int .i64 i.seq,.int .i64 i.index,c0,c1,c2,c3,c4,c5,c6,c7,c8,c9,.ae,.slice (strs ns) false]/\T 6=.lbox 1 [.int .i64 0,.int .i64 0,.int .i64 0,.int .i64 0,.int .i64 0,.int .i64 0,.int .i64 0,.int .i64 0,.int .i64 0,.int .i64 0,.int .i64 0,.int .i64 0,.ae,.ae,.ae]/\∃ q:List fa,q.length<=1000/\T 7=.slice (strs q) true) H H.length 2) (fun _=>False) ?_ ?_ (fun _ h=>h.elim) 0 _ (by omega) ?_
   ·rintro j s hj hs
    obtain⟨T,rfl,e1,e2,e3,e6,e8,q,hq,e7⟩:=hs.out
    by_cases hJ:j<nn
    ·obtain⟨x,rH,akI,vI⟩:∃ x,0<=x/\x<60/\az A 15 [.slice (ints l) false,.int .i64 (IntKind.i64.wrap (IntKind.i64.wrap (i.index+IntKind.i64.wrap (31*i.seq))+(j:Int))),.int .i64 60] H=some (.int .i64 x,none) :=
      ⟨_,(fZ (by omega)).1,(fZ (by omega)).2,Io l _ 60 H hl (by omega)⟩
     obtain⟨nm,uI⟩:∃ nm:fa,([[.str [97]],[.str [98]],[.str [97,49]],[.str [117]],[.str [97,86,101,114,121,76,111,110,103,78,97,109,101,49,50,51]],[.str [101]]]:List (List AV))[(x % 6).toNat]?=some [.str nm]:=by
      have h6:(x % 6).toNat<6:=by omega
      generalize (x % 6).toNat=y at h6
      have:y=0\/y=1\/y=2\/y=3\/y=4\/y=5:=by omega
      rcases this with rfl|rfl|rfl|rfl|rfl|rfl<;>exact⟨_,rfl⟩
     have jq:=fun s=>ud (l:=q) (s:=s) (o:=true) (by omega)
     cases hb:(x==59) with
     | false =>
      simp(disch:=omega)only[aG,aa,simprocAttr,d0,d1,d2,d3,d4,d5,d6,d7,d8,d9,f0,f1,f2,f3,f4,f5,f6,f7,f8,f9,qm,n7,e1,e2,e3,e8,e7,vI,uI,hb,jq]
      first|exact⟨hJ,e6,_,by simp[hq],rfl⟩|exact⟨hJ,e1,e2,e3,e6,_,by simp[hq],rfl⟩|exact⟨hJ,e2,e6,_,by simp[hq],rfl⟩
     | true =>
      cases jd:decide (bad>0) with
      | false =>
       simp(disch:=omega)only[aG,aa,simprocAttr,d0,d1,d2,d3,d4,d5,d6,d7,d8,d9,f0,f1,f2,f3,f4,f5,f6,f7,f8,f9,qm,n7,e1,e2,e3,e8,e7,vI,uI,hb,jd,jq]
       first|exact⟨hJ,e6,_,by simp[hq],rfl⟩|exact⟨hJ,e1,e2,e3,e6,_,by simp[hq],rfl⟩|exact⟨hJ,e2,e6,_,by simp[hq],rfl⟩
      | true =>
       simp(disch:=omega)only[aG,aa,simprocAttr,d0,d1,d2,d3,d4,d5,d6,d7,d8,d9,f0,f1,f2,f3,f4,f5,f6,f7,f8,f9,qm,n7,e1,e2,e3,e8,e7,vI,uI,hb,jd,jq]
       first|exact⟨hJ,e6,_,by simp[hq],rfl⟩|exact⟨hJ,e1,e2,e3,e6,_,by simp[hq],rfl⟩|exact⟨hJ,e2,e6,_,by simp[hq],rfl⟩
    ·simp(disch:=omega)only[aG,aa,simprocAttr,d0,d1,d2,d3,d4,d5,d6,d7,d8,d9,f0,f1,f2,f3,f4,f5,f6,f7,f8,f9,qm,n7,e1,e2,e3,e8]
     first|exact⟨rfl,rfl,rfl,e6,q,by omega,e7⟩|exact⟨e1,e2,e3,e6,q,by omega,e7⟩|exact⟨rfl,rfl,rfl,rfl,q,by omega,e7⟩|exact⟨e6,q,by omega,e7⟩
   ·rintro s hs
    obtain⟨T,rfl,e1,e2,e3,e6,q,hq,e7⟩:=hs.out
    simp(disch:=omega)only[aG,aa,simprocAttr,d0,d1,d2,d3,d4,d5,d6,d7,d8,d9,f0,f1,f2,f3,f4,f5,f6,f7,f8,f9,qm,n7,e1,e2,e3,e6,e7]
    refine bd ks.length 2 (fun j=>Hd (fun T=>T 1=.slice (ints l) false/\T 2=.int .i64 bad/\T 3=.lbox 0 [.int .i64 i.bK,.int .i64 i.seq,.int .i64 i.index,c0,c1,c2,c3,c4,c5,c6,c7,c8,c9,.ae,.slice (strs q) false]/\T 6=.lbox 1 [.int .i64 0,.int .i64 0,.int .i64 0,.int .i64 0,.int .i64 0,.int .i64 0,.int .i64 0,.int .i64 0,.int .i64 0,.int .i64 0,.int .i64 0,.int .i64 0,.ae,.ae,.ae]/\T 12=.int .i64 j/\∃ es:List Ex,es.length=j/\(∀ e∈es,EN e)/\T 11=.slice (bE es) true) H H.length 2)
     (Hd (fun T=>T 3=.lbox 0 [.int .i64 i.bK,.int .i64 i.seq,.int .i64 i.index,c0,c1,c2,c3,c4,c5,c6,c7,c8,c9,.ae,.slice (strs q) false]/\T 6=.lbox 1 [.int .i64 0,.int .i64 0,.int .i64 0,.int .i64 0,.int .i64 0,.int .i64 0,.int .i64 0,.int .i64 0,.int .i64 0,.int .i64 0,.int .i64 0,.int .i64 0,.ae,.ae,.ae]/\∃ es:List Ex,es.length<=1000/\(∀ e∈es,EN e)/\T 11=.slice (bE es) true) H H.length 2) (fun _=>False) ?_ ?_ (fun _ h=>h.elim) 0 _ (by omega) ?_
    ·rintro j s hj hs
     obtain⟨T,rfl,e1,e2,e3,e6,iO,es,rB,gp,mB⟩:=hs.out
     by_cases hJ:j<ks.length
     ·rw[HY] at hJ;simp at hJ
     ·have hjk:ks.length=j:=by omega
      simp(disch:=omega)only[aG,aa,simprocAttr,d0,d1,d2,d3,d4,d5,d6,d7,d8,d9,f0,f1,f2,f3,f4,f5,f6,f7,f8,f9,qm,n7,e1,e2,e3,mB,iO]
      first|exact⟨rfl,e6,es,by omega,gp,rfl⟩|exact⟨e6,es,by omega,gp,rfl⟩|exact⟨rfl,e6,es,by omega,gp,mB⟩|exact⟨e3,e6,es,by omega,gp,mB⟩|exact⟨e6,es,by omega,gp,mB⟩
    ·rintro s hs
     obtain⟨T,rfl,e3,e6,es,rB,gp,mB⟩:=hs.out
     simp(disch:=omega)only[aG,aa,simprocAttr,d0,d1,d2,d3,d4,d5,d6,d7,d8,d9,f0,f1,f2,f3,f4,f5,f6,f7,f8,f9,qm,n7,o0,o1,o2,o3,o4,o5,o6,o7,o8,o9,e3,e6,mB]
     exact fin es q rB hq gp
    ·simp(disch:=omega)only[aG,aa,simprocAttr,e1,e2,e3,e6,apK]
     exact⟨[],rfl,by simp,by rw[dj]⟩
   ·simp(disch:=omega)only[aG,aa,simprocAttr,apK]
    exact⟨[],rfl,rfl⟩
  ·have qm:nn=0:=hnn
   have n7:ks.length=0:=by rw[HY];rfl
   simp(disch:=omega)only[aG,aa,simprocAttr,d0,d1,d2,d3,d4,d5,d6,d7,d8,d9,f0,f1,f2,f3,f4,f5,f6,f7,f8,f9,qm,n7]
   refine bd nn 0 (fun j=>Hd (fun T=>T 1=.slice (ints l) false/\T 2=.int .i64 bad/\T 3=.lbox 0 [.int .i64 i.bK,.int .i64 i.seq,.int .i64 i.index,c0,c1,c2,c3,c4,c5,c6,c7,c8,c9,.ae,.ae]/\T 6=.lbox 1 [.int .i64 0,.int .i64 0,.int .i64 0,.int .i64 0,.int .i64 0,.int .i64 0,.int .i64 0,.int .i64 0,.int .i64 0,.int .i64 0,.int .i64 0,.int .i64 0,.ae,.ae,.ae]/\T 8=.int .i64 j/\∃ q:List fa,q.length=j/\T 7=.slice (strs q) true) H H.length 2)
    (Hd (fun T=>T 1=.slice (ints l) false/\T 2=.int .i64 bad/\T 3=.lbox 0 [.int .i64 i.bK,.int .i64 i.seq,.int .i64 i.index,c0,c1,c2,c3,c4,c5,c6,c7,c8,c9,.ae,.ae]/\T 6=.lbox 1 [.int .i64 0,.int .i64 0,.int .i64 0,.int .i64 0,.int .i64 0,.int .i64 0,.int .i64 0,.int .i64 0,.int .i64 0,.int .i64 0,.int .i64 0,.int .i64 0,.ae,.ae,.ae]/\∃ q:List fa,q.length<=1000/\T 7=.slice (strs q) true) H H.length 2) (fun _=>False) ?_ ?_ (fun _ h=>h.elim) 0 _ (by omega) ?_
   ·rintro j s hj hs
    obtain⟨T,rfl,e1,e2,e3,e6,e8,q,hq,e7⟩:=hs.out
    by_cases hJ:j<nn
    ·omega
    ·simp(disch:=omega)only[aG,aa,simprocAttr,d0,d1,d2,d3,d4,d5,d6,d7,d8,d9,f0,f1,f2,f3,f4,f5,f6,f7,f8,f9,qm,n7,e1,e2,e3,e8]
     first|exact⟨rfl,rfl,rfl,e6,q,by omega,e7⟩|exact⟨e1,e2,e3,e6,q,by omega,e7⟩|exact⟨rfl,rfl,rfl,rfl,q,by omega,e7⟩|exact⟨e6,q,by omega,e7⟩
   ·rintro s hs
    obtain⟨T,rfl,e1,e2,e3,e6,q,hq,e7⟩:=hs.out
    simp(disch:=omega)only[aG,aa,simprocAttr,d0,d1,d2,d3,d4,d5,d6,d7,d8,d9,f0,f1,f2,f3,f4,f5,f6,f7,f8,f9,qm,n7,e1,e2,e3,e6,e7]
    refine bd ks.length 2 (fun j=>Hd (fun T=>T 1=.slice (ints l) false/\T 2=.int .i64 bad/\T 3=.lbox 0 [.int .i64 i.bK,.int .i64 i.seq,.int .i64 i.index,c0,c1,c2,c3,c4,c5,c6,c7,c8,c9,.ae,.slice (strs q) false]/\T 6=.lbox 1 [.int .i64 0,.int .i64 0,.int .i64 0,.int .i64 0,.int .i64 0,.int .i64 0,.int .i64 0,.int .i64 0,.int .i64 0,.int .i64 0,.int .i64 0,.int .i64 0,.ae,.ae,.ae]/\T 12=.int .i64 j/\∃ es:List Ex,es.length=j/\(∀ e∈es,EN e)/\T 11=.slice (bE es) true) H H.length 2)
     (Hd (fun T=>T 3=.lbox 0 [.int .i64 i.bK,.int .i64 i.seq,.int .i64 i.index,c0,c1,c2,c3,c4,c5,c6,c7,c8,c9,.ae,.slice (strs q) false]/\T 6=.lbox 1 [.int .i64 0,.int .i64 0,.int .i64 0,.int .i64 0,.int .i64 0,.int .i64 0,.int .i64 0,.int .i64 0,.int .i64 0,.int .i64 0,.int .i64 0,.int .i64 0,.ae,.ae,.ae]/\∃ es:List Ex,es.length<=1000/\(∀ e∈es,EN e)/\T 11=.slice (bE es) true) H H.length 2) (fun _=>False) ?_ ?_ (fun _ h=>h.elim) 0 _ (by omega) ?_
    ·rintro j s hj hs
     obtain⟨T,rfl,e1,e2,e3,e6,iO,es,rB,gp,mB⟩:=hs.out
     by_cases hJ:j<ks.length
     ·rw[HY] at hJ;simp at hJ
     ·have hjk:ks.length=j:=by omega
      simp(disch:=omega)only[aG,aa,simprocAttr,d0,d1,d2,d3,d4,d5,d6,d7,d8,d9,f0,f1,f2,f3,f4,f5,f6,f7,f8,f9,qm,n7,e1,e2,e3,mB,iO]
      first|exact⟨rfl,e6,es,by omega,gp,rfl⟩|exact⟨e6,es,by omega,gp,rfl⟩|exact⟨rfl,e6,es,by omega,gp,mB⟩|exact⟨e3,e6,es,by omega,gp,mB⟩|exact⟨e6,es,by omega,gp,mB⟩
    ·rintro s hs
     obtain⟨T,rfl,e3,e6,es,rB,gp,mB⟩:=hs.out
     simp(disch:=omega)only[aG,aa,simprocAttr,d0,d1,d2,d3,d4,d5,d6,d7,d8,d9,f0,f1,f2,f3,f4,f5,f6,f7,f8,f9,qm,n7,o0,o1,o2,o3,o4,o5,o6,o7,o8,o9,e3,e6,mB]
     exact fin es q rB hq gp
    ·simp(disch:=omega)only[aG,aa,simprocAttr,e1,e2,e3,e6,apK]
     exact⟨[],rfl,by simp,by rw[dj]⟩
   ·simp(disch:=omega)only[aG,aa,simprocAttr,apK]
    exact⟨[],rfl,rfl⟩
 obtain⟨r,h1,e',h2,rfl⟩:=key
 exact⟨e',h2,h1⟩
theorem ten{l:List AV}(h:l.length=10):∃ c0 c1 c2 c3 c4 c5 c6 c7 c8 c9,l=[c0,c1,c2,c3,c4,c5,c6,c7,c8,c9]:=by
 rcases l with _|⟨a0,_|⟨a1,_|⟨a2,_|⟨a3,_|⟨a4,_|⟨a5,_|⟨a6,_|⟨a7,_|⟨a8,_|⟨a9,_|⟨OG,t⟩⟩⟩⟩⟩⟩⟩⟩⟩⟩⟩
 all_goals first|(simp at h;done)|exact⟨_,_,_,_,_,_,_,_,_,_,rfl⟩
theorem NY(l:List Int)(hl:∀ n∈l,pS n)(bad:Int){e:Ex}(he:BE e):∀ H,∃ e',EN e'/\az A 14 [.agg (bk e),.slice (ints l) false,.int .i64 bad] H=some (.agg (bk e'),none):=by
 induction he with
 | mk e h0 h1 h2 h3 ih =>
  intro H
  obtain⟨c0,c1,c2,c3,c4,c5,c6,c7,c8,c9,hc⟩:=ten e.Xy.len
  have pa:=e.Xy.ok
  rw[rq,hc,an] at h0 ⊢
  rw[hc] at pa
  simp only[ap2,aqa,apZ,aqe,aqT,aqU] at h0
  obtain⟨_,_,_,m0,m1,m2,m3,m4,m5,m6,m7,m8,m9,_,_⟩:=h0
  have hm:[c0,c1,c2,c3,c4,c5,c6,c7,c8,c9].map n2=[c0,c1,c2,c3,c4,c5,c6,c7,c8,c9]:=by simp only[apZ,aqe,m0,m1,m2,m3,m4,m5,m6,m7,m8,m9]
  exact BH l hl bad e.id c0 c1 c2 c3 c4 c5 c6 c7 c8 c9 pa (by rw[hm];exact pa) (by rw[hm,hm]) e.kids e.names.length _ _ (.inl rfl) (.inl ⟨e.names,rfl,rfl⟩) h1 h2 (fun k hk H=>ih k hk H) H
theorem aar(l:List Int)(hl:∀ n∈l,pS n)(bad:Int){d:Def}(hd:BD d)(H:ag):∃ e',EN e'/\az A 14 [.agg d.body.l,.slice (ints l) false,.int .i64 bad] H=some (.agg (bk e'),none):=by
 rcases hd with h|⟨e,he,h⟩
 ·rw[h]
  exact BH l hl bad ⟨0,0,0⟩ (.int .i64 0) (.int .i64 0) (.int .i64 0) (.int .i64 0) (.int .i64 0) (.int .i64 0) (.int .i64 0) (.int .i64 0) (.int .i64 0) .ae rfl rfl rfl [] 0 .ae .ae (.inr ⟨rfl,rfl⟩) (.inr ⟨rfl,rfl⟩) (by simp) (by omega) (fun k hk=>by simp at hk) H
 ·rw[h]
  exact NY l hl bad he.b H
section
def gn(d:Def)(loc:Nat):List AV:=an d.id++[.int .i64 d.kind]++an d.mod++[.str d.name,.sref loc 0 d.aZ.length 11]++d.res.l++d.body.l++d.tl.l
theorem kU{d:Def}{loc:Nat} : (gn d loc).length=31:=by simp[gn,an,d.res.len,d.body.len,d.tl.len]
def j3(i base j:Nat)(d:Def):List AV:=if j<i then gn d (base+1+j) else br d
theorem xS{i base j:Nat}{d:Def} : (j3 i base j d).length=31:=by unfold j3;split;exact kU;exact cx
def iv(es:List Def)(i base:Nat):List (List AV):=es.mapIdx fun j d=>j3 i base j d
theorem AL{es:List Def}{i base:Nat} : (iv es i base).length=es.length:=by simp[iv]
theorem uu{es:List Def}{i base j:Nat}{d:Def}(h:es[j]?=some d):(iv es i base)[j]?=some (j3 i base j d):=by simp[iv,h]
theorem lF{es:List Def}{i base:Nat} : ∀ r∈iv es i base,r.length=31:=by
 intro r hr
 simp only[iv,List.mem_mapIdx] at hr
 obtain⟨j,hj,rfl⟩:=hr
 exact xS
theorem IH{es:List Def}{base:Nat} : iv es 0 base=bz es:=by
 refine aqS fun j=>?_
 simp only[iv,bz,List.getElem?_mapIdx,apG,j3,arY,aqG]
theorem Mf{es:List Def}{i base:Nat}{d:Def}(hi:i<es.length):(iv es i base).set i (gn d (base+1+i))=iv (es.set i d) (i+1) base:=by
 refine aqS fun j=>?_
 rw[ap6]
 simp only[iv,List.getElem?_mapIdx,List.length_mapIdx,ap6]
 by_cases e:i=j
 ·subst e
  simp[hi,j3]
 ·simp only[e,aqG]
  cases h:es[j]? with
  | none=>rfl
  | some q =>
   simp only[Option.map_some,j3]
   by_cases hj:j<i
   ·rw[if_pos hj,if_pos (by omega)]
   ·rw[if_neg hj,if_neg (by omega)]
theorem O4{i base j:Nat}{d:Def} : ah false false 1 7 (j3 i base j d)=some (.str d.name):=by
 unfold j3
 split
 ·simp only[ah,apE]
  have:(gn d (base+1+j))[7]?=some (.str d.name):=by simp[gn,an]
  rw[this];rfl
 ·simp only[ah,xV];rfl
theorem O3{i base j:Nat}{d:Def} : ah false true 3 4 (j3 i base j d)=some (.agg (an d.mod)):=by
 unfold j3
 split
 ·have:((gn d (base+1+j)).drop 4).take 3=an d.mod:=by simp[gn,an]
  simp only[ah,kU,this,cond_true];rfl
 ·exact O9
theorem O2{base j:Nat}{d:Def}{i:Nat}(h:¬ j<i):ah false true 31 0 (j3 i base j d)=some (.agg (br d)):=by
 unfold j3
 rw[if_neg h]
 exact O'
section
variable {es:List Def}{i base j:Nat}{d:Def}
theorem afG(h:es[j]?=some d):ah false false 1 (j*31+7) (iv es i base).flatten=some (.str d.name) :=
 (gF (agg:=false) (sz:=1) lF (uu h) (by omega) (by omega) (by omega)).trans O4
theorem ai3(h:es[j]?=some d):ah false true 3 (j*31+4) (iv es i base).flatten=some (.agg (an d.mod)) :=
 (gF (agg:=true) (sz:=3) lF (uu h) (by omega) (by omega) (by omega)).trans O3
theorem ai4(h:es[j]?=some d)(hj:¬ j<i):ah false true 31 (j*31) (iv es i base).flatten=some (.agg (br d)) :=
 (gF (agg:=true) (j:=0) (sz:=31) lF (uu h) (by omega) (by omega) (by omega)).trans (O2 hj)
theorem aax(h:es[i]?=some d)(e:Def):putAt (iv es i base).flatten (i*31) (gn e (base+1+i))=(iv (es.set i e) (i+1) base).flatten:=by
 have h1:=nO (j:=0) (cs:=gn e (base+1+i)) lF (uu (i:=i) (base:=base) h) (by rw[kU];omega)
 rw[aqO] at h1
 have h2:putAt (j3 i base i d) 0 (gn e (base+1+i))=gn e (base+1+i):=by
  unfold putAt
  rw[are,aqa,kU,ar9 (by rw[xS];omega),aqt]
 rw[h1,h2,Mf (apw.1 h).1]
theorem UL:(iv es i base).flatten.length=es.length*31:=by rw[dx lF,AL]
end
def CO(o:ct)(cs:List AV):Prop:=o=.box aL cs\/o=.cj cs
def u7(d:Def):ct:=.box aL (bw d.aZ).flatten
theorem zB{l:List Slot} : ∀ r∈bw l,r.length=11:=u9.wide
theorem TG{B:AP}{T:ax}{H:ag}{lo gen:Nat}{os:List aj}{K:AS->Prop}{sz:Nat}{a v:ar} : WO B false (⟨none,none,.oY sz a v⟩ :: os) ⟨T,H,lo,gen⟩ K =
  bj (gA (lf ⟨T,H,lo,gen⟩ (a.addr B.aO T)) sz (a.addr B.aO T) (v.eval B.aO T)) fun s'=>WO B false os (s'.bH v) K:=by
 rw[fE]
 simp only[bA,au]
 cases gA (lf ⟨T,H,lo,gen⟩ (a.addr B.aO T)) sz (a.addr B.aO T) (v.eval B.aO T) with
 | none=>simp[bj]
 | some s'=>simp only[Option.map_some,apB,apE,aD];rfl
end
def PK5:bO:=iA (cu (cu (cu (cu (du (iA (cu (du (du (cu (iA (cu (cu (Ux.body))))))))))))))
def PD5:bO:=iA (cu (cu (cu (cu (cu (cu (du (iA (cu (du (du (cu (iA (cu (cu (Ux.body))))))))))))))))
def PH5:bO:=cu (cu (cu (cu (cu (cu (cu (cu (du (iA (cu (du (du (cu (iA (cu (cu (Ux.body)))))))))))))))))
theorem aad:PK5=(.seq (.region false [{ dst:=some 9,guard:=none,op:=.mov true false (.cr (.int (.i64) 0)) }]) (.block 2 (.loop (.seq (.seq (.region false [{ dst:=some 52,guard:=none,op:=.mov false false (.tmp 9) },{ dst:=some 53,guard:=none,op:=.fieldAddr 8 (.tmp 8) },{ dst:=some 54,guard:=none,op:=.load false false 1 (.tmp 53) },{ dst:=some 55,guard:=none,op:=.len (.sl) (.tmp 54) },{ dst:=some 56,guard:=none,op:=.bin (.lss) (.other) (.tmp 52) (.tmp 55) },{ dst:=some 57,guard:=none,op:=.mov true false (.tmp 56) },{ dst:=some 58,guard:=some (57,true),op:=.mov false false (.tmp 1) },{ dst:=some 59,guard:=some (57,true),op:=.mov false false (.tmp 7) },{ dst:=some 60,guard:=some (57,true),op:=.bin (.add) (.other) (.tmp 59) (.cr (.int (.i64) 5)) },{ dst:=some 61,guard:=some (57,true),op:=.call (.fn 15) [.tmp 58,.tmp 60,.cr (.int (.i64) 3)] },{ dst:=some 62,guard:=some (57,true),op:=.bin (.gtr) (.other) (.tmp 61) (.cr (.int (.i64) 0)) },{ dst:=some 63,guard:=none,op:=.pick (.tmp 57) (.tmp 62) (.cr (.bool false)) }]) (.cond (.tmp 63) (.skip) (.exit 2))) (.seq (.block 3 (.region false [{ dst:=none,guard:=none,op:=.j6 (.frame 8) (.tmp 8) },{ dst:=some 66,guard:=none,op:=.fieldAddr 8 (.tmp 8) },{ dst:=none,guard:=none,op:=.j6 (.frame 8) (.tmp 66) },{ dst:=some 67,guard:=none,op:=.load false false 1 (.tmp 66) },{ dst:=some 68,guard:=none,op:=.mov false false (.tmp 9) },{ dst:=some 69,guard:=none,op:=.mkslice false 1 [[.str []],[.str []],[.str []],[.str []],[.str []],[.str []]] [(0,.cr (.str [97])),(1,.cr (.str [117])),(2,.cr (.str [97,49])),(3,.cr (.str [98])),(4,.cr (.str [101])),(5,.cr (.str [120]))] },{ dst:=some 70,guard:=none,op:=.mov false false (.tmp 9) },{ dst:=some 71,guard:=none,op:=.mov false false (.tmp 1) },{ dst:=some 72,guard:=none,op:=.mov false false (.tmp 7) },{ dst:=some 73,guard:=none,op:=.bin (.add) (.other) (.tmp 72) (.cr (.int (.i64) 5)) },{ dst:=some 74,guard:=none,op:=.call (.fn 15) [.tmp 71,.tmp 73,.cr (.int (.i64) 6)] },{ dst:=some 75,guard:=none,op:=.bin (.add) (.other) (.tmp 70) (.tmp 74) },{ dst:=some 76,guard:=none,op:=.bin (.rem) (.other) (.tmp 75) (.cr (.int (.i64) 6)) },{ dst:=none,guard:=none,op:=.j6 (.heap) (.tmp 69) },{ dst:=some 77,guard:=none,op:=.ixSl 1 (.tmp 69) (.tmp 76) },{ dst:=none,guard:=none,op:=.j6 (.heap) (.tmp 77) },{ dst:=some 78,guard:=none,op:=.load false false 1 (.tmp 77) },{ dst:=none,guard:=none,op:=.j6 (.heap) (.tmp 67) },{ dst:=some 79,guard:=none,op:=.ixSl 11 (.tmp 67) (.tmp 68) },{ dst:=none,guard:=none,op:=.j6 (.heap) (.tmp 79) },{ dst:=some 80,guard:=none,op:=.fieldAddr 3 (.tmp 79) },{ dst:=none,guard:=none,op:=.j6 (.heap) (.tmp 80) },{ dst:=none,guard:=none,op:=.store 1 (.tmp 80) (.tmp 78) }])) (.region false [{ dst:=some 64,guard:=none,op:=.mov false false (.tmp 9) },{ dst:=some 65,guard:=none,op:=.bin (.add) (.other) (.tmp 64) (.cr (.int (.i64) 1)) },{ dst:=some 9,guard:=none,op:=.mov true false (.tmp 65) }])))))):=rfl
theorem aab:PD5=(.seq (.region false [{ dst:=some 11,guard:=none,op:=.mov true false (.cr (.int (.i64) 0)) }]) (.block 4 (.loop (.seq (.seq (.region false [{ dst:=some 83,guard:=none,op:=.mov false false (.tmp 11) },{ dst:=some 84,guard:=none,op:=.fieldAddr 1 (.tmp 3) },{ dst:=some 85,guard:=none,op:=.load false false 1 (.tmp 84) },{ dst:=some 86,guard:=none,op:=.len (.sl) (.tmp 85) },{ dst:=some 87,guard:=none,op:=.bin (.lss) (.other) (.tmp 83) (.tmp 86) }]) (.cond (.tmp 87) (.skip) (.exit 4))) (.seq (.block 5 (.region false [{ dst:=some 90,guard:=none,op:=.mov false false (.tmp 10) },{ dst:=some 91,guard:=none,op:=.mov true false (.tmp 90) },{ dst:=some 92,guard:=some (91,true),op:=.mov false false (.tmp 11) },{ dst:=some 93,guard:=some (91,true),op:=.mov false false (.tmp 7) },{ dst:=some 94,guard:=some (91,true),op:=.bin (.eql) (.other) (.tmp 92) (.tmp 93) },{ dst:=some 95,guard:=some (91,true),op:=.mov true false (.tmp 94) },{ dst:=none,guard:=some (95,false),op:=.j6 (.frame 3) (.tmp 3) },{ dst:=some 96,guard:=some (95,false),op:=.fieldAddr 1 (.tmp 3) },{ dst:=none,guard:=some (95,false),op:=.j6 (.frame 3) (.tmp 96) },{ dst:=some 97,guard:=some (95,false),op:=.load false false 1 (.tmp 96) },{ dst:=some 98,guard:=some (95,false),op:=.mov false false (.tmp 11) },{ dst:=none,guard:=some (95,false),op:=.j6 (.heap) (.tmp 97) },{ dst:=some 99,guard:=some (95,false),op:=.ixSl 31 (.tmp 97) (.tmp 98) },{ dst:=none,guard:=some (95,false),op:=.j6 (.heap) (.tmp 99) },{ dst:=some 100,guard:=some (95,false),op:=.fieldAddr 7 (.tmp 99) },{ dst:=none,guard:=some (95,false),op:=.j6 (.heap) (.tmp 100) },{ dst:=some 101,guard:=some (95,false),op:=.load false false 1 (.tmp 100) },{ dst:=none,guard:=some (95,false),op:=.j6 (.frame 8) (.tmp 8) },{ dst:=some 102,guard:=some (95,false),op:=.fieldAddr 7 (.tmp 8) },{ dst:=none,guard:=some (95,false),op:=.j6 (.frame 8) (.tmp 102) },{ dst:=some 103,guard:=some (95,false),op:=.load false false 1 (.tmp 102) },{ dst:=some 104,guard:=some (95,false),op:=.bin (.neq) (.other) (.tmp 101) (.tmp 103) },{ dst:=some 105,guard:=some (91,true),op:=.pick (.tmp 95) (.cr (.bool true)) (.tmp 104) },{ dst:=some 106,guard:=some (91,true),op:=.mov true false (.tmp 105) },{ dst:=none,guard:=some (106,false),op:=.j6 (.frame 3) (.tmp 3) },{ dst:=some 107,guard:=some (106,false),op:=.fieldAddr 1 (.tmp 3) },{ dst:=none,guard:=some (106,false),op:=.j6 (.frame 3) (.tmp 107) },{ dst:=some 108,guard:=some (106,false),op:=.load false false 1 (.tmp 107) },{ dst:=some 109,guard:=some (106,false),op:=.mov false false (.tmp 11) },{ dst:=none,guard:=some (106,false),op:=.j6 (.heap) (.tmp 108) },{ dst:=some 110,guard:=some (106,false),op:=.ixSl 31 (.tmp 108) (.tmp 109) },{ dst:=none,guard:=some (106,false),op:=.j6 (.heap) (.tmp 110) },{ dst:=some 111,guard:=some (106,false),op:=.fieldAddr 4 (.tmp 110) },{ dst:=none,guard:=some (106,false),op:=.j6 (.heap) (.tmp 111) },{ dst:=some 112,guard:=some (106,false),op:=.load false true 3 (.tmp 111) },{ dst:=none,guard:=some (106,false),op:=.j6 (.frame 8) (.tmp 8) },{ dst:=some 113,guard:=some (106,false),op:=.fieldAddr 4 (.tmp 8) },{ dst:=none,guard:=some (106,false),op:=.j6 (.frame 8) (.tmp 113) },{ dst:=some 114,guard:=some (106,false),op:=.load false true 3 (.tmp 113) },{ dst:=some 115,guard:=some (106,false),op:=.bin (.neq) (.flat [.i,.i,.i]) (.tmp 112) (.tmp 114) },{ dst:=some 116,guard:=some (91,true),op:=.pick (.tmp 106) (.cr (.bool true)) (.tmp 115) },{ dst:=some 117,guard:=none,op:=.pick (.tmp 91) (.tmp 116) (.cr (.bool false)) },{ dst:=some 10,guard:=none,op:=.mov true false (.tmp 117) }])) (.region false [{ dst:=some 88,guard:=none,op:=.mov false false (.tmp 11) },{ dst:=some 89,guard:=none,op:=.bin (.add) (.other) (.tmp 88) (.cr (.int (.i64) 1)) },{ dst:=some 11,guard:=none,op:=.mov true false (.tmp 89) }])))))):=rfl
theorem aac:PH5=(.region false [{ dst:=some 131,guard:=none,op:=.fieldAddr 1 (.tmp 3) },{ dst:=some 132,guard:=none,op:=.load false false 1 (.tmp 131) },{ dst:=some 133,guard:=none,op:=.mov false false (.tmp 7) },{ dst:=some 134,guard:=none,op:=.load false true 31 (.tmp 8) },{ dst:=some 135,guard:=none,op:=.ixSl 31 (.tmp 132) (.tmp 133) },{ dst:=none,guard:=none,op:=.oY 31 (.tmp 135) (.tmp 134) }]):=rfl
theorem N8{s:Slot}{nm:fa} : putAt (ff s) 3 [.str nm]=ff { s with name:=nm }:=by simp[putAt,ff,an]
theorem Kp{l:List Slot}{k:Nat}{s:Slot}{nm:fa}(h:l[k]?=some s):putAt (bw l).flatten (k*11+3) [.str nm]=(bw (l.set k { s with name:=nm })).flatten:=by
 rw[nO zB (HH h) (by simp),N8,bw,bw,List.map_set]
theorem Ko{l:List Slot} : (bw l).flatten.length=l.length*11:=by rw[dx zB,fA]
theorem aaA{d:Def}{loc:Nat} : (gn d loc)[8]?=some (.sref loc 0 d.aZ.length 11):=by simp[gn,an]
theorem afl(l:List Int)(hl:∀ n∈l,pS n){T:ax}{H0:ag}{L g g2 i loc:Nat}{d:Def}{sl:List Slot}{Q:bq->AS->Prop}(hH:H0[loc]?=some (.box aL (bw sl).flatten))(hL:L<=loc)(pP:sl.length=d.aZ.length)(an' : d.aZ.length<=100)(hi:i<=100)
  (e1:T 1=.slice (ints l) false) (e7:T 7=.int .i64 i) (e8:T 8=.lbox g2 (gn d loc))
  (hQ:∀ (T' : ax) (DL:List Slot),(T' 1=T 1/\T' 2=T 2/\T' 3=T 3/\T' 6=T 6/\T' 7=T 7/\T' 8=T 8)->DL.length=sl.length->Q .normal ⟨T',H0.set loc (.box aL (bw DL).flatten),L,g⟩) :
  W A PK5 ⟨T,H0,L,g⟩ Q:=by
 have aU:loc<H0.length:=(apw.1 hH).1
 have qP:H0.set loc (.box aL (bw sl).flatten)=H0:=by
  refine aqS fun j=>?_
  rw[ap6]
  split
  ·rename_i hj;subst hj;exact hH.symm
  ·rfl
 obtain⟨T0,Gl⟩:∃ T0,T0=T:=⟨_,rfl⟩
 rw[aad]
 have Bh:(bif decide (loc<L) then loc else L)=L:=by rw[aqy (by omega)];rfl
 simp(disch:=omega)only[aG,aa,simprocAttr]
 refine bd sl.length 2 (fun k s=>∃ T DL,s=⟨T,H0.set loc (.box aL (bw DL).flatten),L,g⟩/\DL.length=sl.length/\(T 1=.slice (ints l) false/\T 2=T0 2/\T 3=T0 3/\T 6=T0 6/\T 7=.int .i64 i/\T 8=.lbox g2 (gn d loc))/\T 9=.int .i64 k)
  (fun s=>∃ T DL,s=⟨T,H0.set loc (.box aL (bw DL).flatten),L,g⟩/\DL.length=sl.length/\(T 1=.slice (ints l) false/\T 2=T0 2/\T 3=T0 3/\T 6=T0 6/\T 7=.int .i64 i/\T 8=.lbox g2 (gn d loc))) (fun _=>False) ?_ ?_ (fun _ h=>h.elim) 0 _ (by omega) ?_
 ·rintro k s hk ⟨T1,DL,rfl,pb,⟨a1,a2,a3,a6,a7,a8⟩,a9⟩
  have h8:=aaA (d:=d) (loc:=loc)
  have hg:∀ o,(H0.set loc o)[loc]?=some o:=fun o=>ap5 aU
  obtain⟨x,rH,hx3,vI⟩:∃ x,0<=x/\x<3/\az A 15 [.slice (ints l) false,.int .i64 ((i:Int)+5),.int .i64 3] (H0.set loc (.box aL (bw DL).flatten))=some (.int .i64 x,none) :=
   ⟨_,(fZ (by omega)).1,(fZ (by omega)).2,Io l _ 3 _ hl (by omega)⟩
  by_cases gm:k<sl.length
  ·by_cases hx:x>0
   ·obtain⟨s0,hs0⟩:∃ s0,DL[k]?=some s0:=⟨_,apy (by omega)⟩
    obtain⟨y,K',hy6,MY⟩:∃ y,0<=y/\y<6/\az A 15 [.slice (ints l) false,.int .i64 ((i:Int)+5),.int .i64 6] (H0.set loc (.box aL (bw DL).flatten))=some (.int .i64 y,none) :=
     ⟨_,(fZ (by omega)).1,(fZ (by omega)).2,Io l _ 6 _ hl (by omega)⟩
    obtain⟨nm,uI⟩:∃ nm:fa,([[.str [97]],[.str [117]],[.str [97,49]],[.str [98]],[.str [101]],[.str [120]]]:List (List AV))[(((k:Int)+y) % 6).toNat]?=some [.str nm]:=by
     have h6:(((k:Int)+y) % 6).toNat<6:=by omega
     generalize (((k:Int)+y) % 6).toNat=y at h6
     have:y=0\/y=1\/y=2\/y=3\/y=4\/y=5:=by omega
     rcases this with rfl|rfl|rfl|rfl|rfl|rfl<;>exact⟨_,rfl⟩
    have pr:=Kp (nm:=nm) hs0
    simp only[putAt,ap3] at pr
    have pq:=Ko (l:=DL)
    have KY:decide (k*11+3+1<=DL.length*11)=true:=by simp;omega
    have Vt:decide (k*11+3<DL.length*11)=true:=by simp;omega
    have Be:decide (k<d.aZ.length)=true:=by simp;omega
    simp(disch:=omega)only[aG,aa,simprocAttr,a1,a7,a8,a9,h8,hg,vI,MY,hx,uI,pr,pq,KY,Vt,Be,Bh,List.set_set,kL]
    exact⟨gm,_,_,rfl,by rw[aqE];exact pb,by simp(disch:=omega)only[aG,aa,simprocAttr,a1,a2,a3,a6,a7,a8]⟩
   ·simp(disch:=omega)only[aG,aa,simprocAttr,a1,a7,a8,a9,h8,hg,vI,hx]
    exact⟨_,DL,rfl,pb,by simp(disch:=omega)only[aG,aa,simprocAttr,a1,a2,a3,a6,a7,a8]⟩
  ·simp(disch:=omega)only[aG,aa,simprocAttr,a1,a7,a8,a9,h8,hg]
   exact⟨_,DL,rfl,pb,by simp(disch:=omega)only[aG,aa,simprocAttr,a1,a2,a3,a6,a7,a8]⟩
 ·rintro s ⟨T1,DL,rfl,pb,a1,a2,a3,a6,a7,a8⟩
  simp(disch:=omega)only[aG,aa,simprocAttr]
  subst Gl
  exact hQ T1 DL ⟨by rw[a1,e1],a2,a3,a6,by rw[a7,e7],by rw[a8,e8]⟩ pb
 ·exact⟨_,sl,by rw[qP],rfl,by simp(disch:=omega)only[aG,aa,simprocAttr,e1,e7,e8,Gl,apK]⟩
theorem aaz{d:Def}{loc:Nat} : (gn d loc)[7]?=some (.str d.name):=by simp[gn,an]
theorem aay{d:Def}{loc:Nat} : ((gn d loc).drop 4).take 3=an d.mod:=by simp[gn,an]
theorem afj{T:ax}{H0:ag}{L g g2 i loc base bb:Nat}{mc:AV}{d:Def}{es:List Def}{b0:Bool}{o:ct}{Q:bq->AS->Prop}(hH:H0[base]?=some o)(ho:CO o (iv es i bb).flatten)(rB:es.length<=100)(hi:i<=100)
  (e3:T 3=.lbox 0 [mc,.sref base 0 es.length 31]) (e7:T 7=.int .i64 i) (e8:T 8=.lbox g2 (gn d loc)) (iE:T 10=.bool b0)
  (hQ:∀ (T' : ax) (b:Bool),(T' 1=T 1/\T' 2=T 2/\T' 3=T 3/\T' 6=T 6/\T' 7=T 7/\T' 8=T 8)->T' 10=.bool b->Q .normal ⟨T',H0,L,g⟩) :
  W A PD5 ⟨T,H0,L,g⟩ Q:=by
 obtain⟨T0,Gl⟩:∃ T0,T0=T:=⟨_,rfl⟩
 rw[aab]
 have h7:=aaz (d:=d) (loc:=loc)
 have h4:=aay (d:=d) (loc:=loc)
 rw[an] at h4
 simp(disch:=omega)only[aG,aa,simprocAttr]
 refine bd es.length 4 (fun k s=>∃ T b,s=⟨T,H0,L,g⟩/\(T 1=T0 1/\T 2=T0 2/\T 3=.lbox 0 [mc,.sref base 0 es.length 31]/\T 6=T0 6/\T 7=.int .i64 i/\T 8=.lbox g2 (gn d loc))/\T 10=.bool b/\T 11=.int .i64 k)
  (fun s=>∃ T b,s=⟨T,H0,L,g⟩/\(T 1=T0 1/\T 2=T0 2/\T 3=.lbox 0 [mc,.sref base 0 es.length 31]/\T 6=T0 6/\T 7=.int .i64 i/\T 8=.lbox g2 (gn d loc))/\T 10=.bool b) (fun _=>False) ?_ ?_ (fun _ h=>h.elim) 0 _ (by omega) ?_
 ·rintro k s hk ⟨T1,b,rfl,⟨a1,a2,a3,a6,a7,a8⟩,OG,a11⟩
  by_cases gm:k<es.length
  ·have hq:=apy gm
   generalize es[k]=q at hq
   have l7:=afG (i:=i) (base:=bb) hq
   have l4:=ai3 (i:=i) (base:=bb) hq
   rw[an] at l4
   have Be:decide (k<es.length)=true:=by simpa using gm
   rcases ho with rfl|rfl
   all_goals
    cases b with
    | false =>
     simp(disch:=omega)only[aG,aa,simprocAttr,a3,a7,a8,OG,a11]
     exact⟨gm,_,false,rfl,by simp(disch:=omega)only[aG,aa,simprocAttr,a1,a2,a3,a6,a7,a8]⟩
    | true =>
     cases c1:((k:Int)==i)<;>cases c2:(q.name==d.name)<;>cases c3:(q.mod==d.mod)
     all_goals
      simp(disch:=omega)only[aG,aa,simprocAttr,a3,a7,a8,OG,a11,hH,l7,l4,h7,h4,Be,kU,dr,fu,aY,c1,c2,c3]
      exact⟨gm,_,_,rfl,by simp(disch:=omega)only[aG,aa,simprocAttr,a1,a2,a3,a6,a7,a8];rfl⟩
  ·simp(disch:=omega)only[aG,aa,simprocAttr,a3,a7,a8,OG,a11]
   exact⟨_,b,rfl,by simp(disch:=omega)only[aG,aa,simprocAttr,a1,a2,a3,a6,a7,a8,OG]⟩
 ·rintro s ⟨T1,b,rfl,⟨a1,a2,a3,a6,a7,a8⟩,OG⟩
  simp(disch:=omega)only[aG,aa,simprocAttr]
  subst Gl
  exact hQ T1 b ⟨a1,a2,by rw[a3,e3],a6,by rw[a7,e7],by rw[a8,e8]⟩ OG
 ·exact⟨_,b0,rfl,by simp(disch:=omega)only[aG,aa,simprocAttr,e3,e7,e8,iE,Gl,apK]⟩
def PT5:bO:=cu (cu (cu (cu (du (iA (cu (du (du (cu (iA (cu (cu (Ux.body)))))))))))))
theorem aae:PT5=(.seq PK5 (.seq (.region false [{ dst:=some 81,guard:=none,op:=.mov false false (.tmp 2) },{ dst:=some 82,guard:=none,op:=.bin (.eql) (.other) (.tmp 81) (.cr (.int (.i64) 0)) },{ dst:=some 10,guard:=none,op:=.mov true false (.tmp 82) }]) (.seq PD5 (.seq (.seq (.region false [{ dst:=some 118,guard:=none,op:=.mov false false (.tmp 2) },{ dst:=some 119,guard:=none,op:=.bin (.eql) (.other) (.tmp 118) (.cr (.int (.i64) 0)) },{ dst:=some 120,guard:=none,op:=.mov true false (.tmp 119) },{ dst:=some 121,guard:=some (120,true),op:=.mov false false (.tmp 10) },{ dst:=some 122,guard:=some (120,true),op:=.un (.not) (.tmp 121) },{ dst:=some 123,guard:=none,op:=.pick (.tmp 120) (.tmp 122) (.cr (.bool false)) }]) (.cond (.tmp 123) (.region false [{ dst:=some 124,guard:=none,op:=.fieldAddr 1 (.tmp 3) },{ dst:=some 125,guard:=none,op:=.load false false 1 (.tmp 124) },{ dst:=some 126,guard:=none,op:=.mov false false (.tmp 7) },{ dst:=some 127,guard:=none,op:=.ixSl 31 (.tmp 125) (.tmp 126) },{ dst:=some 128,guard:=none,op:=.fieldAddr 7 (.tmp 127) },{ dst:=some 129,guard:=none,op:=.load false false 1 (.tmp 128) },{ dst:=some 130,guard:=none,op:=.fieldAddr 7 (.tmp 8) },{ dst:=none,guard:=none,op:=.store 1 (.tmp 130) (.tmp 129) }]) (.skip))) PH5)))):=rfl
theorem L3:Ux.body=(.seq (.region false [{ dst:=some 3,guard:=none,op:=.boxL (.tmp 0) },{ dst:=some 6,guard:=none,op:=.allocL [.ae,.ae] }]) (.seq (.region false [{ dst:=some 12,guard:=none,op:=.mkslice false 31 [] [] },{ dst:=some 13,guard:=none,op:=.fieldAddr 1 (.tmp 3) },{ dst:=some 14,guard:=none,op:=.load false false 1 (.tmp 13) },{ dst:=some 15,guard:=none,op:=.appendO 31 352 (.tmp 12) (.tmp 14) },{ dst:=some 16,guard:=none,op:=.fieldAddr 1 (.tmp 3) },{ dst:=none,guard:=none,op:=.store 1 (.tmp 16) (.tmp 15) }]) (.seq (.seq (.region false [{ dst:=some 7,guard:=none,op:=.mov true false (.cr (.int (.i64) 0)) }]) (.block 0 (.loop (.seq (.seq (.region false [{ dst:=some 17,guard:=none,op:=.mov false false (.tmp 7) },{ dst:=some 18,guard:=none,op:=.fieldAddr 1 (.tmp 3) },{ dst:=some 19,guard:=none,op:=.load false false 1 (.tmp 18) },{ dst:=some 20,guard:=none,op:=.len (.sl) (.tmp 19) },{ dst:=some 21,guard:=none,op:=.bin (.lss) (.other) (.tmp 17) (.tmp 20) }]) (.cond (.tmp 21) (.skip) (.exit 0))) (.seq (.block 1 (.seq (.region false [{ dst:=some 24,guard:=none,op:=.fieldAddr 1 (.tmp 3) },{ dst:=some 25,guard:=none,op:=.load false false 1 (.tmp 24) },{ dst:=some 26,guard:=none,op:=.mov false false (.tmp 7) },{ dst:=some 27,guard:=none,op:=.ixSl 31 (.tmp 25) (.tmp 26) },{ dst:=some 28,guard:=none,op:=.load false true 31 (.tmp 27) },{ dst:=some 8,guard:=none,op:=.allocL [.int (.i64) 0,.int (.i64) 0,.int (.i64) 0,.int (.i64) 0,.int (.i64) 0,.int (.i64) 0,.int (.i64) 0,.str [],.ae,.int (.i64) 0,.int (.i64) 0,.int (.i64) 0,.int (.i64) 0,.ae,.int (.i64) 0,.int (.i64) 0,.int (.i64) 0,.int (.i64) 0,.int (.i64) 0,.int (.i64) 0,.int (.i64) 0,.int (.i64) 0,.int (.i64) 0,.int (.i64) 0,.int (.i64) 0,.int (.i64) 0,.ae,.ae,.ae,.int (.i64) 0,.ae] },{ dst:=none,guard:=none,op:=.store 31 (.tmp 8) (.tmp 28) }]) (.seq (.region false [{ dst:=some 29,guard:=none,op:=.fieldAddr 14 (.tmp 8) },{ dst:=some 30,guard:=none,op:=.load false true 15 (.tmp 29) },{ dst:=some 31,guard:=none,op:=.mov false false (.tmp 1) },{ dst:=some 32,guard:=none,op:=.mov false false (.tmp 2) },{ dst:=some 33,guard:=none,op:=.call (.fn 14) [.tmp 30,.tmp 31,.tmp 32] },{ dst:=some 34,guard:=none,op:=.fieldAddr 14 (.tmp 8) },{ dst:=none,guard:=none,op:=.store 15 (.tmp 34) (.tmp 33) }]) (.seq (.seq (.region false [{ dst:=some 35,guard:=none,op:=.mov false false (.tmp 1) },{ dst:=some 36,guard:=none,op:=.mov false false (.tmp 7) },{ dst:=some 37,guard:=none,op:=.call (.fn 15) [.tmp 35,.tmp 36,.cr (.int (.i64) 4)] },{ dst:=some 38,guard:=none,op:=.bin (.eql) (.other) (.tmp 37) (.cr (.int (.i64) 1)) }]) (.cond (.tmp 38) (.region false [{ dst:=some 39,guard:=none,op:=.mkslice false 1 [[.str []],[.str []],[.str []],[.str []]] [(0,.cr (.str [102])),(1,.cr (.str [80,111,105,110,116])),(2,.cr (.str [97])),(3,.cr (.str [103]))] },{ dst:=some 40,guard:=none,op:=.mov false false (.tmp 1) },{ dst:=some 41,guard:=none,op:=.mov false false (.tmp 7) },{ dst:=some 42,guard:=none,op:=.bin (.add) (.other) (.tmp 41) (.cr (.int (.i64) 3)) },{ dst:=some 43,guard:=none,op:=.call (.fn 15) [.tmp 40,.tmp 42,.cr (.int (.i64) 4)] },{ dst:=some 44,guard:=none,op:=.ixSl 1 (.tmp 39) (.tmp 43) },{ dst:=some 45,guard:=none,op:=.load false false 1 (.tmp 44) },{ dst:=some 46,guard:=none,op:=.fieldAddr 7 (.tmp 8) },{ dst:=none,guard:=none,op:=.store 1 (.tmp 46) (.tmp 45) }]) (.skip))) (.seq (.region false [{ dst:=some 47,guard:=none,op:=.mkslice false 11 [] [] },{ dst:=some 48,guard:=none,op:=.fieldAddr 8 (.tmp 8) },{ dst:=some 49,guard:=none,op:=.load false false 1 (.tmp 48) },{ dst:=some 50,guard:=none,op:=.appendO 11 112 (.tmp 47) (.tmp 49) },{ dst:=some 51,guard:=none,op:=.fieldAddr 8 (.tmp 8) },{ dst:=none,guard:=none,op:=.store 1 (.tmp 51) (.tmp 50) }]) PT5))))) (.region false [{ dst:=some 22,guard:=none,op:=.mov false false (.tmp 7) },{ dst:=some 23,guard:=none,op:=.bin (.add) (.other) (.tmp 22) (.cr (.int (.i64) 1)) },{ dst:=some 7,guard:=none,op:=.mov true false (.tmp 23) }])))))) (.seq (.region false [{ dst:=some 136,guard:=none,op:=.load false true 2 (.tmp 3) },{ dst:=none,guard:=none,op:=.store 2 (.tmp 6) (.tmp 136) }]) (.ret))))):=rfl
theorem Mc{d:Def}{loc:Nat} : (gn d loc).map AV.drop=gn d loc:=by
 unfold gn
 simp only[arK,apZ,aqe,jV d.res.ok,jV d.body.ok,jV d.tl.ok,an]
 rfl
theorem IG{d:Def}{loc:Nat} : (gn d loc).all aq=true:=by
 unfold gn
 simp only[arX,List.all_cons,List.all_nil,mq d.res.ok,mq d.body.ok,mq d.tl.ok,an]
 rfl
theorem Me{d:Def}{loc:Nat} : (gn d loc).take 31=gn d loc:=aqn (aqJ kU)
theorem Md{d:Def}{loc:Nat}{n:fa} : List.take 7 (gn d loc)++[.str n]++List.drop 8 (gn d loc)=gn { d with name:=n } loc:=by simp[gn,an]
theorem UN{d:Def}{loc:Nat}{s:List Slot}(h:s.length=d.aZ.length):gn { d with aZ:=s } loc=gn d loc:=by simp[gn,h]
theorem afk{T:ax}{H:ag}{S:ag}{g g2 i:Nat}{mc:AV}{d e:Def}{es:List Def}{o:ct}{Q:bq->AS->Prop}(ho:CO o (iv es i H.length).flatten)(hd:es[i]?=some d)
  (e3:T 3=.lbox 0 [mc,.sref H.length 0 es.length 31]) (e7:T 7=.int .i64 i) (e8:T 8=.lbox g2 (gn e (H.length+1+i)))
  (hQ:∀ (T' : ax),(T' 1=T 1/\T' 2=T 2/\T' 3=T 3/\T' 6=T 6/\T' 7=T 7)->Q .normal ⟨T',H++.cj (iv (es.set i e) (i+1) H.length).flatten :: S,H.length,g⟩) :
  W A PH5 ⟨T,H++o :: S,H.length,g⟩ Q:=by
 rw[aac]
 have aU:i<es.length:=(apw.1 hd).1
 have oR:decide (i<es.length)=true:=by simpa using aU
 have hg:∀ o:ct,(H++o :: S)[H.length]?=some o:=fun o=>by simp
 have pe:∀ o o' : ct,(H++o :: S).set H.length o'=H++o' :: S:=fun o o'=>by simp
 have gr:(bif decide (H.length<H.length) then H.length else H.length)=H.length:=by simp
 have pr:=aax (i:=i) (base:=H.length) hd e
 simp only[putAt,kU] at pr
 have pq:=UL (es:=es) (i:=i) (base:=H.length)
 have KY:decide (i*31+31<=es.length*31)=true:=by simp;omega
 have akl:∀ cs T g,lf ⟨T,H++.box aL cs :: S,H.length,g⟩ (.ref H.length (i*31))=⟨T,H++.cj cs :: S,H.length,g⟩:=by
  intro cs T g
  simp[lf,AS.fC]
 have akm:∀ cs T g,lf ⟨T,H++.cj cs :: S,H.length,g⟩ (.ref H.length (i*31))=⟨T,H++.cj cs :: S,H.length,g⟩:=by
  intro cs T g
  simp[lf]
 rcases ho with rfl|rfl
 all_goals
  simp(disch:=omega)only[aG,aa,simprocAttr,e3,e7,e8,oR,TG,akl,akm,hg,pe,gr,kU,Mc,IG,Me,pq,KY,pr,gA]
  first|exact hQ _ (by simp(disch:=omega)only[aG,aa,simprocAttr])|skip
theorem afm(l:List Int)(hl:∀ n∈l,pS n){T:ax}{H:ag}{S:ag}{g g2 i:Nat}{bad:Int}{mc:AV}{d e:Def}{es:List Def}{o:ct}{Q:bq->AS->Prop}(ho:CO o (iv es i H.length).flatten)(hd:es[i]?=some d)(rB:es.length<=100)
  (hS:S.length=i) (he:e.aZ.length<=10)
  (e1:T 1=.slice (ints l) false) (e2:T 2=.int .i64 bad) (e3:T 3=.lbox 0 [mc,.sref H.length 0 es.length 31]) (e7:T 7=.int .i64 i) (e8:T 8=.lbox g2 (gn e (H.length+1+i)))
  (hQ:∀ (T' : ax) (e' : Def),(T' 1=T 1/\T' 2=T 2/\T' 3=T 3/\T' 6=T 6/\T' 7=T 7)->e'.id=e.id->e'.mod=e.mod->(e'.name=e.name\/e'.name=d.name)->e'.aZ.length=e.aZ.length ->
   Q .normal ⟨T',H++.cj (iv (es.set i e') (i+1) H.length).flatten :: (S++[u7 e']),H.length,g⟩) :
  W A PT5 ⟨T,H++o :: (S++[.box aL (bw e.aZ).flatten]),H.length,g⟩ Q:=by
 rw[aae]
 have aU:i<es.length:=(apw.1 hd).1
 have oR:decide (i<es.length)=true:=by simpa using aU
 have iU:∀ o o' : ct,(H++o :: (S++[o']))[H.length+1+i]?=some o':=fun o o'=>by
  rw[apM (by omega),show H.length+1+i-H.length=i+1 by omega,apT,<- hS,apM (apz _),aqD];rfl
 have dI:∀ o o' o'' : ct,(H++o :: (S++[o'])).set (H.length+1+i) o''=H++o :: (S++[o'']):=fun o o' o''=>by
  rw[aqc _ _ (by omega),show H.length+1+i-H.length=i+1 by omega,List.set_cons_succ,<- hS,aqc _ _ (apz _),aqD];rfl
 have hgb:∀ (o:ct) S,(H++o :: S)[H.length]?=some o:=fun o S=>by simp
 simp(disch:=omega)only[aG,aa,simprocAttr]
 refine afl l hl (g2:=g2) (loc:=H.length+1+i) (d:=e) (sl:=e.aZ) (iU _ _) (by omega) rfl (by omega) (by omega) e1 e7 e8 ?_
 rintro T1 sl ⟨a1,a2,a3,a6,a7,a8⟩ pP
 rw[dI]
 have b2:=a2.trans e2
 have b3:=a3.trans e3
 have b7:=a7.trans e7
 have b8:=a8.trans e8
 simp(disch:=omega)only[aG,aa,simprocAttr,b2]
 refine afj (g2:=g2) (loc:=H.length+1+i) (base:=H.length) (bb:=H.length) (i:=i) (mc:=mc) (d:=e) (es:=es) (b0:=bad==0) (hgb _ _) ho (by omega) (by omega) ?_ ?_ ?_ ?_ ?_
 ·simp(disch:=omega)only[aG,aa,simprocAttr,b3]
 ·simp(disch:=omega)only[aG,aa,simprocAttr,b7]
 ·simp(disch:=omega)only[aG,aa,simprocAttr,b8]
 ·simp(disch:=omega)only[aG,aa,simprocAttr]
 rintro T2 bo ⟨f1,f2,f3,f6,f7,f8⟩ f10
 simp(disch:=omega)only[aG,aa,simprocAttr] at f1 f2 f3 f6 f7 f8
 have g2':=f2.trans b2
 have g3':=f3.trans b3
 have g7':=f7.trans b7
 have g8':=f8.trans b8
 have l7:=afG (i:=i) (base:=H.length) hd
 have fF:∀ x:Def,x.aZ.length=sl.length->True:=fun _ _=>trivial
 have fin:∀ (T3:ax) (g3:Nat) (q:Def),q.id=e.id->q.mod=e.mod->(q.name=e.name\/q.name=d.name)->q.aZ=sl->(T3 1=T2 1/\T3 2=T2 2/\T3 3=T2 3/\T3 6=T2 6/\T3 7=T2 7)->T3 8=.lbox g3 (gn q (H.length+1+i)) ->
   W A PH5 ⟨T3,H++o :: (S++[.box aL (bw sl).flatten]),H.length,g⟩ Q:=by
  intro T3 g3 q h1 h2 h3 h4 h5 h8
  obtain⟨p1,p2,p3,p6,p7⟩:=h5
  refine afk (g2:=g3) (mc:=mc) (d:=d) (e:=q) ho hd (p3.trans g3') (p7.trans g7') h8 ?_
  rintro T4 ⟨q1,q2,q3,q6,q7⟩
  have:=hQ T4 q ⟨by rw[q1,p1,f1,a1],by rw[q2,p2,f2,a2],by rw[q3,p3,f3,a3],by rw[q6,p6,f6,a6],by rw[q7,p7,f7,a7]⟩ h1 h2 h3 (by rw[h4];exact pP)
  rw[u7,h4] at this
  exact this
 have h8a:gn e (H.length+1+i)=gn { e with aZ:=sl } (H.length+1+i):=(UN pP).symm
 cases hb:(bad==0) with
 | false =>
  simp(disch:=omega)only[aG,aa,simprocAttr,g2',hb,f10]
  refine fin _ g2 { e with aZ:=sl } rfl rfl (.inl rfl) rfl (by simp(disch:=omega)only[aG,aa,simprocAttr]) ?_
  simp(disch:=omega)only[aG,aa,simprocAttr,g8',h8a]
 | true =>
  cases bo with
  | true =>
   simp(disch:=omega)only[aG,aa,simprocAttr,g2',hb,f10]
   refine fin _ g2 { e with aZ:=sl } rfl rfl (.inl rfl) rfl (by simp(disch:=omega)only[aG,aa,simprocAttr]) ?_
   simp(disch:=omega)only[aG,aa,simprocAttr,g8',h8a]
  | false =>
   have hp7:=Md (d:={ e with aZ:=sl }) (loc:=H.length+1+i) (n:=d.name)
   rw[h8a] at g8'
   rcases ho with rfl|rfl
   all_goals
    simp(disch:=omega)only[aG,aa,simprocAttr,g2',g3',g7',g8',hb,f10,hgb,oR,l7,aY,kU,hp7,kL]
    refine fin _ g2 { e with aZ:=sl,name:=d.name } rfl rfl (.inr rfl) rfl (by simp(disch:=omega)only[aG,aa,simprocAttr]) ?_
    simp(disch:=omega)only[aG,aa,simprocAttr]
theorem Vl{H:ag}{base l z k:Nat}{o:ct}{R F:List (List AV)}(hb:base<=l)(hl:H[l]?=some o)(ho:j8 o=some R.flatten)(hR:∀ r∈R,r.length=z)(hF:(R.map fun r=>r.map fun x=>fh H base k x.drop)=F)(pa:dT z F)(hz:0<z)
  (M8:∀ r∈R,∀ x∈r,jU x=true):fh H base (k+1) (.sref l 0 R.length z)=.slice F false:=by
 have h1:(R.flatten.all fun x=>(fh H base k x.drop).plain&&jU x)=true:=by
  rw[apA]
  intro x hx
  obtain⟨r,hr,hx⟩:=arH.1 hx
  have hm:(r.map fun x=>fh H base k x.drop)∈F:=by rw[<- hF];exact List.mem_map_of_mem (f:=fun r=>r.map fun x=>fh H base k x.drop) hr
  have:=apA.1 (pa _ hm).2 _ (List.mem_map_of_mem (f:=fun x=>fh H base k x.drop) hx)
  rw[bM this,M8 r hr x hx];rfl
 have h2:(R.flatten.map fun x=>fh H base k x.drop)=F.flatten:=by rw[<- hF,List.map_flatten]
 have h4:R.flatten.length=R.length*z:=dx hR
 have h5:F.length=R.length:=by rw[<- hF,apQ]
 rw[fh]
 simp only[aqk hb,cond_true,hl,apB,ho,h1,h2,h4,h5,Nat.zero_add,aqh,aqk (apz _),Bool.and_true]
 rw[show Nat.blt 0 z=true by simpa [ap0] using hz,cond_true,<- h5,oh pa.wide]
theorem vS{H:ag}{base k:Nat}{l:List AV}(h:l.all dp=true):(l.map fun x=>fh H base k x.drop)=l:=by
 conv=>rhs;rw[<- List.map_id l]
 refine apY fun x hx=>?_
 have:=apA.1 h x hx
 rw[bQ this,nF this];rfl
theorem O5{H:ag}{base k loc:Nat}{d:Def}(hb:base<=loc)(hH:H[loc]?=some (u7 d)):((gn d loc).map fun x=>fh H base (k+1) x.drop)=br d:=by
 have hz:fh H base (k+1) (AV.sref loc 0 d.aZ.length 11).drop=.slice (bw d.aZ) false:=by
  have:=yz (k:=k) (z:=11) (rows:=bw d.aZ) hb hH rfl u9 (by omega)
  rw[fA] at this
  exact this
 unfold gn br
 simp only[arK,apZ,aqe,vS d.res.ok,vS d.body.ok,vS d.tl.ok,hz,an]
 rfl
theorem UM{loc:Nat}{d:Def} : ∀ x∈gn d loc,jU x=true:=by
 intro x hx
 unfold gn at hx
 simp only[apC,an,apO,aqA,art] at hx
 rcases hx with ((((((h|h|h)|h)|h|h|h)|h|h)|h)|h)|h
 all_goals first|(subst h;rfl)|exact j7 (apA.1 d.res.ok x h)|exact j7 (apA.1 d.body.ok x h)|exact j7 (apA.1 d.tl.ok x h)
def Ow(s:fa):Prop:=s∈iM++[[97]]
def CD(two:Bool)(es:List Def):Prop:=∀ (j:Nat) (e:Def),es[j]?=some e->e.id=lh ((bS two:Nat)+(j:Nat))/\(e.mod=lh 0\/(two=true/\e.mod=lh 1))/\Ow e.name
def CI(two:Bool)(i n:Nat)(es:List Def):Prop:=CD two es/\es.length=n/\∀ (j:Nat) (e:Def),es[j]?=some e->1<=e.aZ.length/\e.aZ.length<=3/\(i<=j->BD e)
theorem ac8{j:Nat}(h:j<8):Ow (iM.getD j []):=by
 have:j=0\/j=1\/j=2\/j=3\/j=4\/j=5\/j=6\/j=7:=by omega
 rcases this with rfl|rfl|rfl|rfl|rfl|rfl|rfl|rfl<;>(unfold Ow;decide)
theorem CI.set{two:Bool}{i n:Nat}{es:List Def}{d e:Def}(h:CI two i n es)(hd:es[i]?=some d)(h1:e.id=d.id)(h2:e.mod=d.mod)(h3:Ow e.name)(h4:e.aZ.length=d.aZ.length):CI two (i+1) n (es.set i e):=by
 obtain⟨hc,hl,hs⟩:=h
 refine⟨fun j q hj=>?_,by rw[aqE];exact hl,fun j q hj=>?_⟩
 ·rw[ap6] at hj
  split at hj
  ·rename_i jn;subst jn
   split at hj
   ·cases hj
    obtain⟨a1,a2,_⟩:=hc _ d hd
    rw[h1,h2];exact⟨a1,a2,h3⟩
   ·cases hj
  ·exact hc j q hj
 ·rw[ap6] at hj
  split at hj
  ·rename_i jn;subst jn
   split at hj
   ·cases hj
    obtain⟨a1,a2,_⟩:=hs _ d hd
    rw[h4];exact⟨a1,a2,fun h=>absurd h (by omega)⟩
   ·cases hj
  ·rename_i jn
   obtain⟨a1,a2,a3⟩:=hs j q hj
   exact⟨a1,a2,fun h=>a3 (by omega)⟩
def In5(H:ag)(l:List Int)(bad:Int)(mc:AV)(two:Bool)(n i:Nat)(T:ax)(s:AS):Prop:=∃ es o S g,s=⟨T,H++o :: S,H.length,g⟩/\CO o (iv es i H.length).flatten/\CI two i n es/\S.length=i /\
 (∀ (j:Nat) (e:Def),j<i->es[j]?=some e->S[j]?=some (u7 e))/\T 1=.slice (ints l) false/\T 2=.int .i64 bad/\T 3=.lbox 0 [mc,.sref H.length 0 n 31]/\T 6=.lbox 1 [.ae,.ae]
theorem UJ(l:List Int)(hl:∀ n∈l,pS n)(bad:Int)(ms:List Mod)(two:Bool)(ds:List Def)(jH:GD two ds)(h1:1<=ds.length)(h8:ds.length<=8)(pP:∀ (j:Nat) (d:Def),ds[j]?=some d->1<=d.aZ.length/\d.aZ.length<=3)(H:ag) :
  ∃ es,az A 5 [.agg (aF ⟨ms,ds⟩),.slice (ints l) false,.int .i64 bad] H=some (.agg (aF ⟨ms,es⟩),none)/\CD two es/\es.length=ds.length:=by
 have key:∃ r,az A 5 [.agg (aF ⟨ms,ds⟩),.slice (ints l) false,.int .i64 bad] H=some r/\∃ es,r=(.agg (aF ⟨ms,es⟩),none)/\CD two es/\es.length=ds.length:=by
  refine sf (fn:=Ux) rfl rfl rfl ?_
  rw[L3,aF]
  have gr:(bif decide (H.length<H.length) then H.length else H.length)=H.length:=by simp
  obtain⟨d0,dt,P6⟩:∃ d0 dt,ds=d0 :: dt:=by
   cases ds with
   | nil=>simp at h1
   | cons a t=>exact⟨a,t,rfl⟩
  have hao:∀ {B:AP} {T:ax} {gen t:Nat} {K:AS->Prop} {os:List aj},BY B 31 352 (.slice [] true) (.slice (bz ds) false) t os T H H.length gen K=WO B false os ⟨T.put t (.sref H.length 0 ds.length 31),H++[.box aL (bz ds).flatten],H.length,gen⟩ K:=by
   intro B T gen t K os
   have hp:=u1 (xp (l:=ds))
   have hlen:=cq (l:=ds)
   rw[P6] at hp hlen ⊢
   rw[show bz (d0 :: dt)=br d0 :: bz dt from rfl] at hp hlen ⊢
   rw[Ij (by unfold cC;simp only[List.length_cons,fM,List.head?_nil,List.head?_cons,Option.map_none,Option.map_some,Option.getD_none,Option.getD_some,cx,List.length_nil,cq,Nat.beq_refl,Bool.and_true,Bool.and_eq_true,Nat.ble_eq,Nat.zero_add];rw[P6] at h8;simp at h8;omega) hp]
   simp only[List.length_cons,cq]
   have:Nat.blt H.length H.length=false:=by
    cases h:Nat.blt H.length H.length with
    | true=>have:=Nat.le_of_ble_eq_true h;omega
    | false=>rfl
   rw[this];rfl
  simp(disch:=omega)only[aG,aa,simprocAttr,hao]
  refine bd ds.length 0 (fun i s=>∃ T,In5 H l bad (.slice (bD ms) false) two ds.length i T s/\T 7=.int .i64 i)
   (fun s=>∃ T,In5 H l bad (.slice (bD ms) false) two ds.length ds.length T s) (fun _=>False) ?_ ?_ (fun _ h=>h.elim) 0 _ (by omega) ?_
  ·rintro i s hi ⟨T,⟨es,o,S,g,rfl,ho,Ok,Uq,hS,e1,e2,e3,e6⟩,e7⟩
   have hgb:∀ (o:ct) S,(H++o :: S)[H.length]?=some o:=fun o S=>by simp
   by_cases jr:i<ds.length
   ·obtain⟨ZB,HV,fF⟩:=Ok
    obtain⟨d,hd⟩:∃ d,es[i]?=some d:=⟨_,apy (by omega)⟩
    obtain⟨Bk,hs3,KY⟩:=fF i d hd
    obtain⟨_,_,agE⟩:=ZB i d hd
    have lA:=ai4 (i:=i) (base:=H.length) hd (by omega)
    have oR:decide (i<ds.length)=true:=by simpa using jr
    obtain⟨e',xt,agJ⟩:=aar l hl bad (KY (apz _)) (H++o :: S)
    obtain⟨x,rH,hx4,vI⟩:∃ x,0<=x/\x<4/\az A 15 [.slice (ints l) false,.int .i64 (i:Int),.int .i64 4] (H++o :: S)=some (.int .i64 x,none) :=
     ⟨_,(fZ (by omega)).1,(fZ (by omega)).2,Io l _ 4 _ hl (by omega)⟩
    obtain⟨y,K',hy4,MY⟩:∃ x,0<=x/\x<4/\az A 15 [.slice (ints l) false,.int .i64 ((i:Int)+3),.int .i64 4] (H++o :: S)=some (.int .i64 x,none) :=
     ⟨_,(fZ (by omega)).1,(fZ (by omega)).2,Io l _ 4 _ hl (by omega)⟩
    obtain⟨nm,uI,akh⟩:∃ nm:fa,([[.str [102]],[.str [80,111,105,110,116]],[.str [97]],[.str [103]]]:List (List AV))[y.toNat]?=some [.str nm]/\Ow nm:=by
     have:y=0\/y=1\/y=2\/y=3:=by omega
     rcases this with rfl|rfl|rfl|rfl<;>exact⟨_,rfl,by unfold Ow;decide⟩
    have d14:=aaC (d:=d)
    have hbt:∀ b:Cells 15,b.l.take 15=b.l:=fun b=>aqn (by rw[b.len];omega)
    have p14:=Mi (d:=d) (b:=⟨bk e',bW,nM⟩)
    simp only at p14
    have agM:∀ {B:AP} {T:ax} {gen t:Nat} {K:AS->Prop} {os:List aj},BY B 11 112 (.slice [] true) (.slice (bw d.aZ) false) t os T (H++o :: S) H.length gen K=WO B false os ⟨T.put t (.sref (H.length+1+i) 0 d.aZ.length 11),H++o :: (S++[.box aL (bw d.aZ).flatten]),H.length,gen⟩ K:=by
     intro B T gen t K os
     obtain⟨a,sl,akv⟩:∃ a sl,d.aZ=a :: sl:=by
      cases hh:d.aZ with
      | nil=>rw[hh] at Bk;simp at Bk
      | cons a t=>exact⟨a,t,rfl⟩
     have hp:=u1 (u9 (l:=d.aZ))
     rw[akv] at hp hs3 ⊢
     rw[show bw (a :: sl)=ff a :: bw sl from rfl] at hp ⊢
     have hlen:(H++o :: S).length=H.length+1+i:=by simp[Uq];omega
     rw[Ij (by unfold cC;simp only[List.length_cons,fM,List.head?_nil,List.head?_cons,Option.map_none,Option.map_some,Option.getD_none,Option.getD_some,mw,List.length_nil,fA,Nat.beq_refl,Bool.and_true,Bool.and_eq_true,Nat.ble_eq,Nat.zero_add];simp at hs3;omega) hp,hlen]
     simp only[List.length_cons,fA]
     have:Nat.blt (H.length+1+i) H.length=false:=by
      cases h:Nat.blt (H.length+1+i) H.length with
      | true=>have:=Nat.le_of_ble_eq_true h;omega
      | false=>rfl
     rw[this]
     simp
    have step:∀ (T2:ax) (q:Def) (g2 g3:Nat),q.id=d.id->q.mod=d.mod->Ow q.name->q.aZ=d.aZ->(T2 1=T 1/\T2 2=T 2/\T2 3=T 3/\T2 6=T 6/\T2 7=T 7)->T2 8=.lbox g2 (gn q (H.length+1+i))->∀ Q:bq->AS->Prop,
      (∀ s',(∃ T,In5 H l bad (.slice (bD ms) false) two ds.length (i+1) T s'/\T 7=.int .i64 i)->Q .normal s')->W A PT5 ⟨T2,H++o :: (S++[.box aL (bw d.aZ).flatten]),H.length,g3⟩ Q:=by
     intro T2 q g2 g3 q1 q2 q3 q4 hT2 h8' Q hQ
     obtain⟨f1,f2,f3,f6,f7⟩:=hT2
     rw[<- q4]
     refine afm l hl (g2:=g2) (i:=i) (bad:=bad) (mc:=.slice (bD ms) false) (d:=d) (e:=q) (es:=es) ho hd (by omega) Uq (by rw[q4];omega) (by rw[f1,e1]) (by rw[f2,e2]) (by rw[f3,e3,HV]) (by rw[f7,e7]) h8' ?_
     rintro T3 e3' ⟨p1,p2,p3,p6,p7⟩ r1 r2 r3 r4
     refine hQ _ ⟨T3,⟨es.set i e3',_,_,g3,rfl,.inr rfl,CI.set ⟨ZB,HV,fF⟩ hd (by rw[r1,q1]) (by rw[r2,q2]) (by rcases r3 with r3|r3<;>rw[r3];exact q3;exact agE) (by rw[r4,q4]),by simp[Uq],?_,by rw[p1,f1,e1],by rw[p2,f2,e2],by rw[p3,f3,e3],by rw[p6,f6,e6]⟩,by rw[p7,f7,e7]⟩
     intro j q hj hjq
     rw[ap6] at hjq
     split at hjq
     ·rename_i jn;subst jn
      split at hjq
      ·cases hjq
       rw[<- Uq,apM (apz _),aqD];rfl
      ·cases hjq
     ·rename_i jn
      rw[apN (by omega)]
      exact hS j q (by omega) hjq
    have hc8:∀ q:Def,List.take 8 (br q)++[.sref (H.length+1+i) 0 q.aZ.length 11]++List.drop 9 (br q)=gn q (H.length+1+i):=fun q=>by simp[br,gn,an]
    have h7p:∀ (q:Def) (n:fa),List.take 7 (br q)++[.str n]++List.drop 8 (br q)=br { q with name:=n }:=fun q n=>Pa
    have h8q:∀ q:Def,(br q)[8]?=some (.slice (bw q.aZ) false):=fun q=>O6
    have hbo:d.body.l.map AV.drop=d.body.l:=jV d.body.ok
    rcases ho with rfl|rfl
    all_goals
     cases rI:(x==1) with
     | false =>
      simp(disch:=omega)only[aG,aa,simprocAttr,bW,bZ,bF,ca,cM,bB,dQ,aw,av,aW,e1,e2,e3,e7,hgb,oR,lA,aY,HV,cx,cv,cB,cd,di,d14,hbo,agJ,p14,vI,rI,h8q,agM,hc8]
      refine step _ { d with body:=⟨bk e',bW,nM⟩ } g (g+1) rfl rfl agE rfl (by simp(disch:=omega)only[aG,aa,simprocAttr,e1,e2,e3,e7]) (by simp(disch:=omega)only[aG,aa,simprocAttr]) _ ?_
      rintro s' ⟨T,⟨es,o,S,g,rfl,a1,a2,a3,a4,b1,b2,b3,b6⟩,b7⟩
      simp(disch:=omega)only[aG,aa,simprocAttr,b7]
      exact⟨jr,_,⟨es,o,S,g,rfl,a1,a2,a3,a4,by simp(disch:=omega)only[aG,aa,simprocAttr,b1,b2,b3,b6]⟩,by simp(disch:=omega)only[aG,aa,simprocAttr]⟩
     | true =>
      simp(disch:=omega)only[aG,aa,simprocAttr,bW,bZ,bF,ca,cM,bB,dQ,aw,av,aW,e1,e2,e3,e7,hgb,oR,lA,aY,HV,cx,cv,cB,cd,di,d14,hbo,agJ,p14,vI,rI,MY,uI,h7p,h8q,agM,hc8]
      refine step _ { d with body:=⟨bk e',bW,nM⟩,name:=nm } g (g+1) rfl rfl akh rfl (by simp(disch:=omega)only[aG,aa,simprocAttr,e1,e2,e3,e7]) (by simp(disch:=omega)only[aG,aa,simprocAttr]) _ ?_
      rintro s' ⟨T,⟨es,o,S,g,rfl,a1,a2,a3,a4,b1,b2,b3,b6⟩,b7⟩
      simp(disch:=omega)only[aG,aa,simprocAttr,b7]
      exact⟨jr,_,⟨es,o,S,g,rfl,a1,a2,a3,a4,by simp(disch:=omega)only[aG,aa,simprocAttr,b1,b2,b3,b6]⟩,by simp(disch:=omega)only[aG,aa,simprocAttr]⟩
   ·have:i=ds.length:=by omega
    subst this
    simp(disch:=omega)only[aG,aa,simprocAttr,e3,e7]
    exact⟨_,es,o,S,g,rfl,ho,Ok,Uq,hS,by simp(disch:=omega)only[aG,aa,simprocAttr,e1,e2,e3,e6]⟩
  ·rintro s ⟨T,es,o,S,g,rfl,ho,⟨ZB,HV,fF⟩,Uq,hS,e1,e2,e3,e6⟩
   have hlen:es.length=ds.length:=HV
   have hHj:∀ (j:Nat) (e:Def),es[j]?=some e->(H++o :: S)[H.length+1+j]?=some (u7 e):=by
    intro j e hj
    rw[apM (by omega),show H.length+1+j-H.length=j+1 by omega,apT]
    exact hS j e (by have:=(apw.1 hj).1;omega) hj
   have hHb:(H++o :: S)[H.length]?=some o:=by simp
   have hoc:j8 o=some (iv es ds.length H.length).flatten:=by rcases ho with rfl|rfl<;>rfl
   have hF:((iv es ds.length H.length).map fun r=>r.map fun x=>fh (H++o :: S) H.length 2 x.drop)=bz es:=by
    refine aqS fun j=>?_
    simp only[iv,bz,apG,List.getElem?_mapIdx]
    cases hj:es[j]? with
    | none=>rfl
    | some e =>
     have DZ:=(apw.1 hj).1
     simp only[Option.map_some,j3,if_pos (show j<ds.length by omega)]
     rw[O5 (k:=1) (by omega) (hHj j e hj)]
   have M8:∀ r∈iv es ds.length H.length,∀ x∈r,jU x=true:=by
    intro r hr
    obtain⟨j,hj⟩:=ap8.1 hr
    simp only[iv,List.getElem?_mapIdx] at hj
    cases hje:es[j]? with
    | none=>rw[hje] at hj;simp at hj
    | some e =>
     rw[hje] at hj
     have DZ:=(apw.1 hje).1
     simp only[Option.map_some,j3,if_pos (show j<ds.length by omega),apv] at hj
     rw[<- hj]
     exact UM
   have z2:fh (H++o :: S) H.length 3 (.sref H.length 0 ds.length 31)=.slice (bz es) false:=by
    have:=Vl (k:=2) (base:=H.length) (z:=31) (apz _) hHb hoc lF hF xp (by omega) M8
    rwa [AL,hlen] at this
   have hmp:(([.slice (bD ms) false,.sref H.length 0 ds.length 31]:List AV).map AV.drop).map (fh (H++o :: S) H.length 3)=aF ⟨ms,es⟩:=by
    have z1' : fh (H++o :: S) H.length 3 (AV.slice (bD ms) false).drop=.slice (bD ms) false:=rfl
    have z2' : fh (H++o :: S) H.length 3 (AV.sref H.length 0 ds.length 31).drop=.slice (bz es) false:=z2
    simp only[apZ,aqe,z1',z2',aF]
   simp(disch:=omega)only[aG,aa,simprocAttr,e3,e6]
   refine⟨(.agg (aF ⟨ms,es⟩),none),?_,es,rfl,ZB,HV⟩
   have hf:=vD (base:=H.length) (fn:=Ux) (tc:=6) (n:=2) (g:=1) (s:=⟨(T.put 136 (.agg [.slice (bD ms) false,.sref H.length 0 ds.length 31])).put 6 (.lbox 1 [.slice (bD ms) false,.sref H.length 0 ds.length 31]),H++o :: S,H.length,g⟩) (cs:=[.slice (bD ms) false,.sref H.length 0 ds.length 31]) rfl (by decide) (by simp[ax.put]) rfl (by unfold j9;simp) (by show (List.map _ (List.map AV.drop _)).all AV.plain=true;rw[hmp];rfl)
   rw[show (List.map (fh _ _ 3) (List.map AV.drop _))=_ from hmp] at hf
   unfold finish
   rw[hf,Option.map_some,nT (by decide)]
   simp
  ·refine⟨_,⟨ds,.box aL (bz ds).flatten,[],2,rfl,.inl (by rw[IH]),⟨fun j e hj=>?_,rfl,fun j e hj=>?_⟩,rfl,fun j e hj=>absurd hj (by omega),by simp(disch:=omega)only[aG,aa,simprocAttr]⟩,by simp(disch:=omega)only[aG,aa,simprocAttr,apK]⟩
   ·obtain⟨a1,a2,a3,a4⟩:=jH j e hj
    exact⟨a1,a2,by rw[a3];exact ac8 (by have:=(apw.1 hj).1;omega)⟩
   ·obtain⟨a1,a2,a3,a4⟩:=jH j e hj
    exact⟨(pP j e hj).1,(pP j e hj).2,fun _=>a4⟩
 obtain⟨r,h1,es,rfl,h2⟩:=key
 exact⟨es,h1,h2⟩
theorem Bl{n:Nat}(h:n<32):lh (n:Int)=⟨0,1,(n:Int)⟩:=by
 unfold lh
 have h1:((n:Int) / 32)=0:=by omega
 have h2:((n:Int) % 32)=n:=by omega
 rw[h1,h2];rfl
theorem VQ{a b:Nat}(ha:a<32)(hb:b<32)(h:lh (a:Int)=lh (b:Int)):a=b:=by
 rw[Bl ha,Bl hb] at h
 have:=ar0 Id.index h
 simp only at this
 omega
theorem G2(two:Bool)(l0 l1:List Id)(es:List Def):∀ m∈gq two l0 l1,dk ⟨gq two l0 l1,es⟩ m.id=some m:=by
 intro m hm
 cases two with
 | false =>
  simp only[gq,aqf,aqG,apI] at hm
  subst hm
  simp[dk,gq]
 | true =>
  simp only[gq,aqH,apO,aqA,art] at hm
  have bC:(lh 0==lh 1)=false:=by decide
  rcases hm with rfl|rfl
  ·simp[dk,gq]
  ·simp only[dk,gq,aqH,List.find?_cons,bC,arU]
theorem Pq{two:Bool}{es:List Def}(h:CD two es)(hl:es.length<=8)(ms:List Mod):∀ d∈es,kV ⟨ms,es⟩ d.id=some d:=by
 intro d hd
 obtain⟨j,hj⟩:=ap8.1 hd
 have DZ:=(apw.1 hj).1
 have uI:bS two<=2:=by cases two<;>decide
 unfold kV
 cases hf:es.find? (fun q=>q.id==d.id) with
 | none =>
  have:=List.find?_eq_none.1 hf d hd
  simp at this
 | some q =>
  obtain⟨k,hk⟩:=ap8.1 (List.mem_of_find?_eq_some hf)
  have Be:=(apw.1 hk).1
  have hid:q.id=d.id:=PS hf
  have h1:=(h j d hj).1
  have h2:=(h k q hk).1
  rw[h1,h2] at hid
  have e:bS two+k=bS two+j:=VQ (by omega) (by omega) (by simpa using hid)
  have:k=j:=by omega
  subst this
  rw[hj] at hk
  exact hk.symm
theorem ac9{s:fa}(h:Ow s):46∉s:=by
 unfold Ow iM at h
 simp only[ap2,aqa,apO,aqA,art] at h
 rcases h with rfl|rfl|rfl|rfl|rfl|rfl|rfl|rfl|rfl<;>decide
theorem XU{s:fa}(h:Ow s):s.length<=10:=by
 unfold Ow iM at h
 simp only[ap2,aqa,apO,aqA,art] at h
 rcases h with rfl|rfl|rfl|rfl|rfl|rfl|rfl|rfl|rfl<;>decide
theorem CD.mem{two:Bool}{es:List Def}(h:CD two es){d:Def}(hd:d∈es):∃ j:Nat,j<es.length/\d.id=lh ((bS two:Nat)+(j:Nat))/\(d.mod=lh 0\/(two=true/\d.mod=lh 1))/\Ow d.name:=by
 obtain⟨j,hj⟩:=ap8.1 hd
 exact⟨j,(apw.1 hj).1,h j d hj⟩
theorem AK:ju=jY->False:=by decide
theorem KJ:46∉ju:=by decide
theorem XA:46∉jY:=by decide
theorem KI:ju.length<=1000000:=by decide
theorem Xz:jY.length<=1000000:=by decide
theorem JU{two:Bool}{l0 l1:List Id}{es:List Def}(h:CD two es)(hl:es.length<=8):Zk ⟨gq two l0 l1,es⟩:=by
 refine⟨G2 two l0 l1 es,Pq h hl _,?_,?_,fun d hd=>?_,fun d hd=>?_⟩
 ·intro m hm n hn he
  cases two with
  | false =>
   simp only[gq,aqf,aqG,apI] at hm hn
   subst hm;subst hn;rfl
  | true =>
   simp only[gq,aqH,apO,aqA,art] at hm hn
   rcases hm with rfl|rfl<;>rcases hn with rfl|rfl<;>first|rfl|exact (AK he).elim|exact (AK he.symm).elim
 ·intro m hm
  cases two with
  | false =>
   simp only[gq,aqf,aqG,apI] at hm
   subst hm;exact KJ
  | true =>
   simp only[gq,aqH,apO,aqA,art] at hm
   rcases hm with rfl|rfl
   ·exact KJ
   ·exact XA
 ·obtain⟨j,_,_,_,hk⟩:=h.mem hd
  exact ac9 hk
 ·obtain⟨j,_,_,hm,_⟩:=h.mem hd
  rcases hm with hm|⟨ht,hm⟩
  ·exact⟨_,apP ..,hm.symm⟩
  ·subst ht
   exact⟨⟨lh 1,jY,[lh 0],dcC l1⟩,by simp[gq],hm.symm⟩
theorem S3{two:Bool}{l0 l1:List Id}{es:List Def}(h:CD two es)(hl:es.length<=8):Fit ⟨gq two l0 l1,es⟩:=by
 refine⟨?_,by show es.length<=12;omega,?_,?_,fun d hd=>?_⟩
 ·show (gq two l0 l1).length<=_
  rw[na];cases two<;>decide
 ·intro m hm
  cases two with
  | false =>
   simp only[gq,aqf,aqG,apI] at hm
   subst hm
   exact⟨by simp,by simp⟩
  | true =>
   simp only[gq,aqH,apO,aqA,art] at hm
   rcases hm with rfl|rfl
   ·exact⟨by simp,by simp⟩
   ·refine⟨by simp,fun x hx=>?_⟩
    rw[apI.1 hx]
    simp[dk,gq]
 ·intro m hm
  cases two with
  | false =>
   simp only[gq,aqf,aqG,apI] at hm
   subst hm;exact KI
  | true =>
   simp only[gq,aqH,apO,aqA,art] at hm
   rcases hm with rfl|rfl
   ·exact KI
   ·exact Xz
 ·obtain⟨j,_,_,_,hk⟩:=h.mem hd
  have:=XU hk
  omega
section
def XY(args:List AV)(H:ag):Option (AV × Option gk) :=
 match args,H with
 | [],[]=>some (.bool true,none)
 | _,_=>none
noncomputable def aaY:FuncId->Option ay
 | 3=>some ir3
 | 4=>some ir4
 | _=>none
noncomputable def ov9:FuncId->Option (List AV->ag->Option (AV × Option gk))
 | 3=>none
 | 4=>none
 | 12=>some XY
 | f=>some (az A f)
noncomputable def A9:AP:={ fns:=aaY,ov:=ov9,aO:=LI }
theorem c9{f:FuncId}(h:A9.ov f=some (az A f)){args:List AV}{H:ag}{r:AV × Option gk}(hr:az A f args H=some r)(hn:args.all qw=true:=by rfl):az A9 f args H=some r:=xL (g:=az A f) h hr hn
theorem acN:az A9 12 [] []=some (.bool true,none):=xL (g:=XY) rfl rfl
structure Made (p:Prog):Prop where
 fit:Fit p
 apart:Zk p
 ml:1<=p.mods.length/\p.mods.length<=2
 dl:p.defs.length<=8
 nb:∀ d∈p.defs,d.id.bK=0
theorem acO(l m:List Int)(hl:∀ n∈l,pS n)(hm:∀ n∈m,pS n)(bad:Int):∃ q p,Made p/\az A9 6 [.slice (ints l) false] []=some (.agg (aF q),none)/\az A9 5 [.agg (aF q),.slice (ints m) false,.int .i64 bad] []=some (.agg (aF p),none):=by
 obtain⟨two,l0,l1,ds,h1,jH,h4,h8,hs⟩:=adn l [] hl
 obtain⟨es,h2,ZB,HV⟩:=UJ m hm bad (gq two l0 l1) two ds jH (by omega) h8 hs []
 refine⟨_,_,⟨S3 (l0:=l0) (l1:=l1) ZB (by omega),JU ZB (by omega),?_,by show es.length<=8;omega,fun d hd=>?_⟩,c9 rfl h1,c9 rfl h2⟩
 ·show 1<=(gq two l0 l1).length/\(gq two l0 l1).length<=2
  rw[na];cases two<;>decide
 ·obtain⟨j,_,hid,_⟩:=ZB.mem hd
  rw[hid];rfl
section
variable {p:Prog}(hp:Made p)
include hp
theorem afQ(mod:Id)(name:fa)(hn:name.length<=4611686018427387904):∃ o,az A9 8 [.agg (aF p),.agg (an mod),.str name] []=some (.slice (al (fb p mod name)) o,none):=by
 obtain⟨o,h⟩:=PN p hp.fit mod name [] hn
 exact⟨o,c9 rfl h⟩
theorem aaX(mod:Id)(name:fa)(hn:name.length<=4611686018427387904):∃ o,az A9 9 [.agg (aF p),.agg (an mod),.str name] []=some (.slice (al (fb p mod name)) o,none):=by
 obtain⟨o,h⟩:=KS p mod name [] hp.fit.mods hp.fit.defs (fun m hm=>(hp.fit.fY m hm).1) hn
 rw[find_eq]
 exact⟨o,c9 rfl h⟩
theorem vE(mod:Id)(name:fa):(fb p mod name).length<=1000000:=by
 have hn:∀ mods name,(fi p mods name).length<=8:=fun mods name=>by
  rw[fi,qq]
  exact aqC (u0 _ _ _) hp.dl
 unfold fb
 split
 ·simp
 ·split
  ·have:=hn (List.filter (mj p (by assumption:fa × fa).1) (mod :: (by assumption:Mod).fY)) name
   exact aqC (hn _ _) (by omega)
  ·split
   ·exact aqC (hn _ _) (by omega)
   ·exact aqC (hn _ _) (by omega)
theorem wP(x:Id):(((dk p x).map (·.name)).getD []).length<=1000000:=by
 cases h:dk p x with
 | none=>simp
 | some m=>exact hp.fit.mn m (List.mem_of_find?_eq_some h)
theorem ahc(mod id:Id):az A9 10 [.agg (aF p),.agg (an mod),.agg (an id)] []=some (.str (gN fb p mod id),none):=by
 refine c9 rfl ?_
 cases hd:kV p id with
 | none =>
  have:gN fb p mod id=[]:=by rw[gN,hd]
  rw[this]
  exact XN p mod id [] hp.fit.mods (by have:=hp.dl;omega) hd
 | some d =>
  have:gN fb p mod id=if fb p mod d.name=[id] then d.name else if fb p mod (((dk p d.mod).map (·.name)).getD []++[46]++d.name)=[id] then ((dk p d.mod).map (·.name)).getD []++[46]++d.name else []:=by rw[gN,hd]
  rw[this]
  exact XO p mod id d d.name _ [] hp.fit.mods (by have:=hp.dl;omega) hd rfl rfl ⟨wP hp _,hp.fit.dn d (xT hd)⟩ (fun s hs=>PN p hp.fit mod s [] (by omega)) (fun s=>vE hp mod s)
theorem ac0(mod id:Id):az A9 11 [.agg (aF p),.agg (an mod),.agg (an id)] []=some (.str (gN fb p mod id),none):=by
 rw[XP]
 refine c9 rfl ?_
 cases hd:kV p id with
 | none =>
  have:gN iH p mod id=[]:=by rw[gN,hd]
  rw[this]
  exact Tf p mod id [] hp.fit.mods (by have:=hp.dl;omega) hd
 | some d =>
  have:gN iH p mod id=if iH p mod d.name=[id] then d.name else if iH p mod (((dk p d.mod).map (·.name)).getD []++[46]++d.name)=[id] then ((dk p d.mod).map (·.name)).getD []++[46]++d.name else []:=by rw[gN,hd]
  rw[this]
  exact Tg p mod id d d.name _ [] hp.fit.mods (by have:=hp.dl;omega) hd rfl rfl ⟨wP hp _,hp.fit.dn d (xT hd)⟩ (fun s hs=>KS p mod s [] hp.fit.mods hp.fit.defs (fun m hm=>(hp.fit.fY m hm).1) (by omega)) (fun s=>by rw[<- find_eq];exact vE hp mod s)
theorem ah2(a b:List Id)(ha:a.length<=1000000):az A9 7 [.slice (al a) false,.slice (al b) false] []=some (.bool (a==b),none):=have _:=hp;c9 rfl (vX a b [] ha)
end
end
def tw:Id:=⟨7,9,0⟩
theorem Made.no{p:Prog}(hp:Made p)(mod:Id):gN fb p mod tw=[]:=by
 have:kV p tw=none:=by
  unfold kV
  rw[List.find?_eq_none]
  intro d hd
  have:=hp.nb d hd
  simp only[aqI]
  intro e
  rw[e] at this
  revert this;decide
 rw[gN,this]
def Ay(name:fa):List fa:=[name,99 :: 111 :: 114 :: 101 :: 46 :: name,[99,111,114,101,46,102],[109,105,108,108,46,102],[46,102],[102,46],[97,46,98,46,99],[]]
theorem acL(l m:List Int)(bad:Int)(name:fa)(hl:∀ n∈l,pS n)(hm:∀ n∈m,pS n)(hn:name.length<=1000000000000):az A9 3 [.slice (ints l) false,.slice (ints m) false,.int .i64 bad,.str name] []=some (.bool true,none):=by
 obtain⟨q,p,hp,h6,h5⟩:=acO l m hl hm (bad.tmod 2)
 refine bT (fn:=ir3) rfl rfl rfl ?_
 unfold ir3
 have qm:=acN
 have tK:(aF q).map AV.drop=aF q:=rfl
 have vJ:∀ p:Prog,(aF p).length=2/\(aF p).map AV.drop=aF p/\(aF p).take 2=aF p/\(aF p).all aq=true/\(∀ b,(aF p).all (AV.aJ b)=true):=fun p=>⟨rfl,rfl,rfl,rfl,fun b=>rfl⟩
 obtain⟨r1,r2,r3,r4,r5⟩:=vJ p
 have lQ:=hp.dl
 have HZ:=hp.ml
 have hp2:aF p=[.slice (bD p.mods) false,.slice (bz p.defs) false]:=rfl
 have n1:=fun mod id=>ahc hp mod id
 have n2':=fun mod id=>ac0 hp mod id
 have f1:=fun mod name hn=>afQ hp mod name hn
 have f2:=fun mod name hn=>aaX hp mod name hn
 rw[hp2] at h5 r1 r2 r3 r4
 simp only[hp2] at r5 n1 n2' f1 f2
 have iw:List.length [(99:UInt8),111,114,101,46]=5:=rfl
 have hb8:([[.str name],[.str (99 :: 111 :: 114 :: 101 :: 46 :: name)],[.str [99,111,114,101,46,102]],[.str [109,105,108,108,46,102]],[.str [46,102]],[.str [102,46]],[.str [97,46,98,46,99]],[.str []]]:List (List AV))=strs (Ay name):=rfl
 have ZJ:(Ay name).length=8:=rfl
 have hbn:∀ s∈Ay name,s.length<=2000000000000:=by
  intro s hs
  simp only[Ay,apO,aqA,art] at hs
  rcases hs with rfl|rfl|rfl|rfl|rfl|rfl|rfl|rfl
  ·omega
  ·simp;omega
  all_goals decide
 simp(disch:=omega)only[aG,aa,simprocAttr,h6,h5,tK,r1,r2,r3,r4,r5,iw]
 refine bd p.defs.length 0 (fun i=>mz (fun T=>T 9=.lbox 0 [.slice (bD p.mods) false,.slice (bz p.defs) false]/\T 11=.int .i64 i/\∃ N:List fa,T 10=.slice (strs N) true/\N.length=8+i/\∀ s∈N,s.length<=2000000000000) [] 0)
  (mz (fun T=>T 9=.lbox 0 [.slice (bD p.mods) false,.slice (bz p.defs) false]/\∃ N:List fa,T 10=.slice (strs N) true/\N.length<=16/\∀ s∈N,s.length<=2000000000000) [] 0) (fun _=>False) ?_ ?_ (fun _ h=>h.elim) 0 _ (by omega) ?_
 ·rintro i s hi hs
  obtain⟨T,g,rfl,e9,mB,N,iE,hN,hNl⟩:=hs.out
  by_cases jr:i<p.defs.length
  ·have hdk:=apy jr
   have hdm:p.defs[i]∈p.defs:=aq7 jr
   generalize p.defs[i]=d at hdk hdm
   have hda:=qa hdk
   have hd7:((br d).drop 7)[0]?=some (.str d.name):=by rw[ap'];exact xV
   have ajG:=xV (d:=d)
   have jq:=ud (l:=N) (s:=d.name) (o:=true) (by omega)
   have hdn:=hp.fit.dn d hdm
   simp(disch:=omega)only[aG,aa,simprocAttr,e9,iE,mB,cq,hda,hd7,ajG,cx,cv,jq]
   exact⟨jr,_,rfl,by simp[hN];omega,fun s hs=>(apC.1 hs).elim (hNl s) (fun h=>by rw[apI.1 h];omega)⟩
  ·have:i=p.defs.length:=by omega
   subst this
   simp(disch:=omega)only[aG,aa,simprocAttr,e9,iE,mB,cq]
   exact⟨N,rfl,by omega,hNl⟩
 ·rintro s hs
  obtain⟨T,g,rfl,e9,N,iE,hN,hNl⟩:=hs.out
  have hb7:([[.int .i64 7,.int .i64 9,.int .i64 0]]:List (List AV))=al [tw]:=rfl
  simp(disch:=omega)only[aG,aa,simprocAttr,e9,iE,hb7,abU]
  refine bd p.mods.length 2 (fun i=>mz (fun T=>T 9=.lbox 0 [.slice (bD p.mods) false,.slice (bz p.defs) false]/\T 10=.slice (strs N) true/\T 13=.int .i64 i/\∃ M:List Id,T 12=.slice (al (tw :: M)) true/\M.length=i) [] 0)
   (mz (fun T=>T 9=.lbox 0 [.slice (bD p.mods) false,.slice (bz p.defs) false]/\T 10=.slice (strs N) true/\∃ M:List Id,T 12=.slice (al (tw :: M)) true/\M.length<=2) [] 0) (fun _=>False) ?_ ?_ (fun _ h=>h.elim) 0 _ (by omega) ?_
  ·rintro i s hi hs
   obtain⟨T,g,rfl,e9,iE,lr,M,iO,hM⟩:=hs.out
   by_cases jr:i<p.mods.length
   ·have hmk:=apy jr
    generalize p.mods[i]=mo at hmk
    have hma:=xu hmk
    have VB:=JY (m:=mo)
    rw[an] at VB
    have jq:=tu (l:=tw :: M) (i:=mo.id) (o:=true) (by simp;omega)
    simp(disch:=omega)only[aG,aa,simprocAttr,e9,iE,iO,lr,fI,hma,VB,dJ,dm,jq]
    first|exact⟨jr,M++[mo.id],rfl,by simp[hM]⟩|exact⟨jr,M++[mo.id],⟨rfl,rfl⟩,by simp[hM]⟩
   ·have:i=p.mods.length:=by omega
    subst this
    simp(disch:=omega)only[aG,aa,simprocAttr,e9,iE,iO,lr,fI]
    first|exact⟨M,rfl,by omega⟩|exact⟨M,⟨rfl,rfl⟩,by omega⟩
  ·rintro s hs
   obtain⟨T,g,rfl,e9,iE,M,iO,hM⟩:=hs.out
   have hMl:(al (tw :: M)).length=M.length+1:=by rw[ba];rfl
   have hNs:(strs N).length=N.length:=by simp[strs]
   have hM0:(al (tw :: M))[0]?=some [.int .i64 7,.int .i64 9,.int .i64 0]:=rfl
   simp(disch:=omega)only[aG,aa,simprocAttr,e9,iE,iO]
   refine bd (M.length+1) 4 (fun i=>mz (fun T=>T 9=.lbox 0 [.slice (bD p.mods) false,.slice (bz p.defs) false]/\T 10=.slice (strs N) true/\T 12=.slice (al (tw :: M)) true/\T 14=.int .i64 i) [] 0)
    (mz (fun T=>True) [] 0) (fun _=>False) ?_ ?_ (fun _ h=>h.elim) 0 _ (by omega) ?_
   ·rintro i s hi hs
    obtain⟨T,g,rfl,e9,iE,iO,sX⟩:=hs.out
    by_cases jr:i<M.length+1
    ·obtain⟨mo,hmo⟩:∃ mo,(tw :: M)[i]?=some mo:=⟨_,apy (by simp;omega)⟩
     have hma:=je hmo
     rw[an] at hma
     have hbn:=hp.no mo
     have n3:=n1 mo tw
     rw[hbn] at n3
     simp only[an] at n3
     have n3' : az A9 10 [.agg [.slice (bD p.mods) false,.slice (bz p.defs) false],.agg [.int .i64 mo.bK,.int .i64 mo.seq,.int .i64 mo.index],.agg [.int .i64 7,.int .i64 9,.int .i64 0]] []=some (.str [],none):=n3
     have hee:(([]:fa)==[])=true:=by decide
     simp(disch:=omega)only[aG,aa,simprocAttr,e9,iE,iO,sX,hMl]
     refine bd N.length 6 (fun j=>mz (fun T=>T 9=.lbox 0 [.slice (bD p.mods) false,.slice (bz p.defs) false]/\T 10=.slice (strs N) true/\T 12=.slice (al (tw :: M)) true/\T 14=.int .i64 i/\T 15=.int .i64 j) [] 0)
      (mz (fun T=>T 9=.lbox 0 [.slice (bD p.mods) false,.slice (bz p.defs) false]/\T 10=.slice (strs N) true/\T 12=.slice (al (tw :: M)) true/\T 14=.int .i64 i) [] 0) (fun _=>False) ?_ ?_ (fun _ h=>h.elim) 0 _ (by omega) ?_
     ·rintro j s hj hs
      obtain⟨T,g,rfl,e9,iE,iO,sX,IQ⟩:=hs.out
      by_cases hJ:j<N.length
      ·have hsj:=apy hJ
       have hsm:=hNl _ (aq7 hJ)
       generalize N[j]=nm at hsj hsm
       have hsa:=T9 hsj
       obtain⟨o1,k1⟩:=f1 mo nm (by omega)
       obtain⟨o2,k2⟩:=f2 mo nm (by omega)
       have hss:=ah2 hp (fb p mo nm) (fb p mo nm) (vE hp mo nm)
       rw[arU] at hss
       simp only[an] at k1 k2
       cases o1<;>cases o2
       all_goals
        simp(disch:=omega)only[aG,aa,simprocAttr,e9,iE,iO,sX,IQ,hMl,hNs,hma,hsa,k1,k2,hss]
        exact hJ
      ·have:j=N.length:=by omega
       subst this
       simp(disch:=omega)only[aG,aa,simprocAttr,e9,iE,iO,sX,IQ,hNs]
     ·rintro s hs
      obtain⟨T,g,rfl,e9,iE,iO,sX⟩:=hs.out
      simp(disch:=omega)only[aG,aa,simprocAttr,e9,iE,iO,sX]
      refine bd p.defs.length 8 (fun j=>mz (fun T=>T 9=.lbox 0 [.slice (bD p.mods) false,.slice (bz p.defs) false]/\T 10=.slice (strs N) true/\T 12=.slice (al (tw :: M)) true/\T 14=.int .i64 i/\T 16=.int .i64 j) [] 0)
       (mz (fun T=>T 9=.lbox 0 [.slice (bD p.mods) false,.slice (bz p.defs) false]/\T 10=.slice (strs N) true/\T 12=.slice (al (tw :: M)) true/\T 14=.int .i64 i) [] 0) (fun _=>False) ?_ ?_ (fun _ h=>h.elim) 0 _ (by omega) ?_
      ·rintro j s hj hs
       obtain⟨T,g,rfl,e9,iE,iO,sX,Zr⟩:=hs.out
       by_cases hJ:j<p.defs.length
       ·have hdk:=apy hJ
        generalize p.defs[j]=d at hdk
        have hda:=qa hdk
        have P6:=rp (d:=d)
        rw[an] at P6
        have a1:=n1 mo d.id
        have a2:=n2' mo d.id
        simp only[an] at a1 a2
        have hse:∀ s:fa,(s==s)=true:=fun s=>arU s
        simp(disch:=omega)only[aG,aa,simprocAttr,e9,iE,iO,sX,Zr,cq,hMl,hma,hda,P6,cx,cv,a1,a2,hse]
        exact hJ
       ·have:j=p.defs.length:=by omega
        subst this
        simp(disch:=omega)only[aG,aa,simprocAttr,e9,iE,iO,sX,Zr,cq]
      ·rintro s hs
       obtain⟨T,g,rfl,e9,iE,iO,sX⟩:=hs.out
       simp(disch:=omega)only[aG,aa,simprocAttr,e9,iE,iO,sX,hMl,hma,hM0,n3',hee]
       exact jr
      ·simp(disch:=omega)only[aG,aa,simprocAttr,e9,iE,iO,sX,apK]
     ·simp(disch:=omega)only[aG,aa,simprocAttr,e9,iE,iO,sX,apK]
    ·have:i=M.length+1:=by omega
     subst this
     simp(disch:=omega)only[aG,aa,simprocAttr,e9,iE,iO,sX,hMl]
   ·rintro s hs
    obtain⟨T,g,rfl,_⟩:=hs.out
    simp(disch:=omega)only[aG,aa,simprocAttr,qm]
   ·simp(disch:=omega)only[aG,aa,simprocAttr,e9,iE,iO,apK]
  ·simp(disch:=omega)only[aG,aa,simprocAttr,e9,iE,apK]
   first|exact⟨[],rfl,rfl⟩|exact⟨[],⟨rfl,rfl⟩,rfl⟩
 ·simp(disch:=omega)only[aG,aa,simprocAttr,apK]
  first|exact⟨Ay name,rfl,by rw[ZJ],hbn⟩|exact⟨Ay name,⟨rfl,rfl⟩,by rw[ZJ],hbn⟩
theorem fo{f:FuncId}{fn:Func}{i la:ay}{a b c:List Nat}(h:Tryz.prog.funcs[f]?=some fn)(k:lq Tryz.prog a b c fn=some i)(e:some i=some la):∃ fn bJ locals muts,Tryz.prog.funcs[f]?=some fn/\lq Tryz.prog bJ locals muts fn=some la:=by
 injection e with e
 subst e
 exact⟨_,_,_,_,h,k⟩
theorem CT(f:FuncId)(la:ay)(h:PQ f=some la):∃ fn bJ locals muts,Tryz.prog.funcs[f]?=some fn/\lq Tryz.prog bJ locals muts fn=some la:=by
 unfold PQ at h
 split at h
 ·exact fo Tryz.func3 Sx h
 ·exact fo Tryz.func4 SD h
 ·exact fo Tryz.func5 ab8 h
 ·exact fo Tryz.func7 acp h
 ·exact fo Tryz.func8 acx h
 ·exact fo Tryz.func9 acG h
 ·exact fo Tryz.func10 VT h
 ·exact fo Tryz.func11 VU h
 ·exact fo Tryz.func12 VV h
 ·exact fo Tryz.func13 VW h
 ·exact fo Tryz.func14 VX h
 ·exact fo Tryz.func15 VY h
 ·exact fo Tryz.func16 VZ h
 ·exact fo Tryz.func17 V0 h
 ·exact fo Tryz.func18 V1 h
 ·exact fo Tryz.func19 V2 h
 ·exact fo Tryz.func20 V3 h
 ·exact fo Tryz.func21 V4 h
 ·exact fo Tryz.func22 V5 h
 ·exact fo Tryz.func23 V6 h
 ·exact fo Tryz.func24 V7 h
 ·exact fo Tryz.func25 V8 h
 ·exact fo Tryz.func26 V9 h
 ·exact fo Tryz.func27 V' h
 ·exact fo Tryz.func28 Wa h
 ·exact fo Tryz.func29 Wb h
 ·exact fo Tryz.func30 Wc h
 ·exact fo Tryz.func31 Wd h
 ·exact fo Tryz.func32 We h
 ·exact fo Tryz.func33 Wf h
 ·exact fo Tryz.func34 Wg h
 ·exact fo Tryz.func35 Wh h
 ·exact fo Tryz.func36 Wi h
 ·exact fo Tryz.func37 Wj h
 ·exact fo Tryz.func38 Wk h
 ·exact fo Tryz.func39 Wl h
 ·exact fo Tryz.func40 Wm h
 ·exact fo Tryz.func41 Wn h
 ·exact fo Tryz.func42 Wo h
 ·exact fo Tryz.func43 Wp h
 ·exact fo Tryz.func44 Wq h
 ·exact fo Tryz.func45 Wr h
 ·exact fo Tryz.func46 Ws h
 ·exact fo Tryz.func47 Wt h
 ·exact fo Tryz.func48 Wu h
 ·exact fo Tryz.func49 Wv h
 ·exact fo Tryz.func50 Ww h
 ·exact fo Tryz.func51 Wx h
 ·exact fo Tryz.func52 Wy h
 ·exact fo Tryz.func53 Wz h
 ·exact fo Tryz.func54 WA h
 ·exact fo Tryz.func55 WB h
 ·exact fo Tryz.func56 WC h
 ·exact fo Tryz.func57 WD h
 ·exact fo Tryz.func58 WE h
 ·exact fo Tryz.func59 WG h
 ·exact fo Tryz.func60 WH h
 ·exact fo Tryz.func61 WI h
 ·exact fo Tryz.func62 WJ h
 ·exact fo Tryz.func63 WK h
 ·exact fo Tryz.func64 WL h
 ·exact fo Tryz.func65 WM h
 ·exact fo Tryz.func66 WQ h
 ·exact fo Tryz.func67 WR h
 ·exact fo Tryz.func68 WS h
 ·exact fo Tryz.func69 WT h
 ·exact fo Tryz.func70 WU h
 ·exact fo Tryz.func71 WV h
 ·exact fo Tryz.func72 WW h
 ·exact fo Tryz.func73 WX h
 ·exact fo Tryz.func74 WY h
 ·exact fo Tryz.func75 WZ h
 ·exact fo Tryz.func76 W0 h
 ·exact fo Tryz.func77 W1 h
 ·exact fo Tryz.func78 W2 h
 ·exact fo Tryz.func79 W3 h
 ·exact fo Tryz.func80 W5 h
 ·exact fo Tryz.func81 W6 h
 ·exact fo Tryz.func82 W7 h
 ·exact fo Tryz.func86 W8 h
 ·exact fo Tryz.func87 W9 h
 ·exact fo Tryz.func88 Xa h
 ·exact fo Tryz.func89 Xb h
 ·exact fo Tryz.func90 Xc h
 ·exact fo Tryz.func91 Xe h
 ·exact fo Tryz.func92 Xf h
 ·exact fo Tryz.func93 Xg h
 ·exact fo Tryz.func94 Xh h
 ·exact fo Tryz.func95 Xi h
 ·exact fo Tryz.func96 Xj h
 ·exact fo Tryz.func97 Xk h
 ·exact fo Tryz.func98 Xl h
 ·exact fo Tryz.func99 Xm h
 ·exact fo Tryz.func100 QD h
 ·exact fo Tryz.func101 QF h
 ·exact fo Tryz.func102 QH h
 ·exact fo Tryz.func103 QJ h
 ·exact fo Tryz.func104 QL h
 ·exact fo Tryz.func105 QN h
 ·exact fo Tryz.func106 QP h
 ·exact fo Tryz.func107 QR h
 ·exact fo Tryz.func108 QT h
 ·exact fo Tryz.func109 QV h
 ·exact fo Tryz.func110 QX h
 ·exact fo Tryz.func111 QZ h
 ·exact fo Tryz.func112 Q1 h
 ·exact fo Tryz.func113 Q3 h
 ·exact fo Tryz.func114 Q5 h
 ·exact fo Tryz.func115 Q7 h
 ·exact fo Tryz.func116 Q9 h
 ·exact fo Tryz.func119 Rb h
 ·exact fo Tryz.func120 Rd h
 ·exact fo Tryz.func121 Rf h
 ·exact fo Tryz.func122 Rh h
 ·exact fo Tryz.func123 Rj h
 ·exact fo Tryz.func124 Rl h
 ·exact fo Tryz.func125 Rn h
 ·exact fo Tryz.func126 Rp h
 ·exact fo Tryz.func127 Rr h
 ·exact fo Tryz.func128 Rt h
 ·exact fo Tryz.func129 Rv h
 ·exact fo Tryz.func130 Ry h
 ·exact fo Tryz.func131 GJ h
 ·exact fo Tryz.func132 RA h
 ·exact fo Tryz.func133 RC h
 ·exact fo Tryz.func134 RE h
 ·exact fo Tryz.func135 RG h
 ·exact fo Tryz.func137 RI h
 ·exact fo Tryz.func138 RL h
 ·exact fo Tryz.func139 RN h
 ·exact fo Tryz.func140 RQ h
 ·exact fo Tryz.func141 RS h
 ·exact fo Tryz.func143 RU h
 ·exact fo Tryz.func144 RW h
 ·exact fo Tryz.func146 RY h
 ·exact fo Tryz.func147 R0 h
 ·exact fo Tryz.func148 R2 h
 ·exact fo Tryz.func149 R4 h
 ·exact fo Tryz.func150 R7 h
 ·exact fo Tryz.func151 R9 h
 ·exact fo Tryz.func169 Sa h
 ·exact fo Tryz.func170 Sd h
 ·exact fo Tryz.func183 Sf h
 ·cases h
theorem Tr(f:FuncId)(g:List AV->ag->Option (AV × Option gk))(h:ov0 f=some g):jk Tryz.prog LI f g:=by
 unfold ov0 at h
 split at h
 ·injection h with h;subst h;exact wK
 ·injection h with h;subst h;exact uN
 ·cases h
theorem xw:nD Tryz.prog A0:=⟨by kernel_rfl,CT,Tr⟩
theorem TV:jk Tryz.prog LI 131 sD:=N5 xw Tryz.func131 GJ
theorem adb(f:FuncId)(g:List AV->ag->Option (AV × Option gk))(h:ov1 f=some g):jk Tryz.prog LI f g:=by
 unfold ov1 at h
 split at h
 ·injection h with h;subst h;exact TV
 ·injection h with h;subst h;exact wK
 ·injection h with h;subst h;exact uN
 ·cases h
theorem X0:nD Tryz.prog A1:=⟨xw.mixed,CT,adb⟩
theorem S2:jk Tryz.prog LI 12 XY:=by
 have h:=aaI X0 60 12
 intro args H r c he
 unfold XY at he
 split at he
 ·injection he with he
  injection he with e1 e2
  subst e1 e2
  exact h _ _ _ _ Nx
 ·cases he
theorem ahm:OB Tryz.prog A:=by
 refine⟨xw.mixed,fun f v h=>?_,Tr⟩
 have h' : fns f=some v:=h
 unfold fns at h'
 split at h'
 ·injection h' with h'
  subst h'
  exact⟨_,_,_,_,_,Tryz.func6,acd,.inr Nn⟩
 ·obtain⟨fn,a,b,c,h1,h2⟩:=CT f v h'
  exact⟨fn,a,b,c,v,h1,h2,.inl rfl⟩
theorem Vj(f:FuncId)(la:ay)(h:aaY f=some la):∃ fn bJ locals muts,Tryz.prog.funcs[f]?=some fn/\lq Tryz.prog bJ locals muts fn=some la:=by
 unfold aaY at h
 split at h
 ·exact fo Tryz.func3 Sx h
 ·exact fo Tryz.func4 SD h
 ·cases h
theorem ade(f:FuncId)(g:List AV->ag->Option (AV × Option gk))(h:ov9 f=some g):jk Tryz.prog A9.aO f g:=by
 unfold ov9 at h
 split at h
 ·cases h
 ·cases h
 ·injection h with h;subst h;exact S2
 ·injection h with h;subst h;exact OY ahm
theorem X1:nD Tryz.prog A9:=⟨xw.mixed,Vj,ade⟩
end Go.Proofs.YthbncinhhdogpaaGreatDoor
