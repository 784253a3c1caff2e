/-
  A part of the proof of ScopeFinds: V17, V18, V19, V20, V21, V22, V23, V24, V25, V26, V27, V28.
-/
import Derived.Test.YthbncinhhdogpaaGreatDoorP11
set_option linter.unusedSimpArgs false
set_option linter.unusedVariables false
set_option linter.defProp false
set_option maxHeartbeats 4000000
set_option maxRecDepth 100000
namespace Go.Proofs.YthbncinhhdogpaaGreatDoor
open Go Go.Abs Go.Proofs
theorem XN(p:Prog)(mod id:Id)(H:ag)(hm:p.mods.length<=1000000)(hd:p.defs.length<=1000000)(Qk:kV p id=none):az A 10 [.agg (aF p),.agg (an mod),.agg (an id)] H=some (.str [],none):=by
 refine bT (fn:=JD) rfl rfl rfl ?_
 unfold JD
 have h:=uw p id H hd
 rw[xU,Qk] at h
 simp only[zD] at h
 simp only[aF,an] at h ⊢
 simp(disch:=omega)only[aG,aa,simprocAttr,h]
theorem XO(p:Prog)(mod id:Id)(d:Def)(a b:fa)(H:ag)(hm:p.mods.length<=1000000)(hd:p.defs.length<=1000000)(P7:kV p id=some d)(ha:a=d.name)(hb:b=((dk p d.mod).map (·.name)).getD []++[46]++d.name)
  (hlen:(((dk p d.mod).map (·.name)).getD []).length<=1000000/\d.name.length<=1000000)
  (hf:∀ s:fa,s.length<=3000000->∃ o,az A 8 [.agg (aF p),.agg (an mod),.str s] H=some (.slice (al (fb p mod s)) o,none)) (pq:∀ s,(fb p mod s).length<=1000000) :
  az A 10 [.agg (aF p),.agg (an mod),.agg (an id)] H=some (.str (if fb p mod a=[id] then a else if fb p mod b=[id] then b else []),none):=by
 refine bT (fn:=JD) rfl rfl rfl ?_
 unfold JD
 have h:=uw p id H hd
 rw[xU,P7] at h
 simp only at h
 have yI:=pA p d.mod H hm
 have h4:=AN (d:=d)
 have h7:=xV (d:=d)
 have Ur:a.length<=3000000:=by rw[ha];omega
 have PZ:b.length<=3000000:=by rw[hb];simp only[apL,ap3];omega
 obtain⟨oa,hfa⟩:=hf a Ur
 obtain⟨ob,hfb⟩:=hf b PZ
 have P8:=yd (fb p mod a) [id] H (pq a)
 have P9:=yd (fb p mod b) [id] H (pq b)
 have K0:al [id]=[[.int .i64 id.bK,.int .i64 id.seq,.int .i64 id.index]]:=rfl
 rw[K0] at P8 P9
 have key:∀ mn:fa,mn=((dk p d.mod).map (·.name)).getD []->b=mn++[46]++a:=fun mn h=>by rw[hb,h,ha]
 rw[<- ha] at h7
 have hmr:∃ cs:List AV,jT p d.mod=.tuple [.agg cs,.bool (dk p d.mod).isSome]/\cs.length=6/\cs.map AV.drop=cs/\cs.take 6=cs/\cs.all aq=true/\(∀ B,cs.all (AV.aJ B)=true)/\cs[3]?=some (.str (((dk p d.mod).map (·.name)).getD [])):=by
  cases hx:dk p d.mod with
  | none=>exact⟨zM,by rw[jT,hx];rfl,rfl,rfl,rfl,rfl,fun _=>rfl,rfl⟩
  | some m=>exact⟨dw m,by rw[jT,hx];rfl,dJ,dm,dB,cV,fun _=>fw,G1⟩
 obtain⟨cs,c1,c2,c3,c4,c5,c6,c7⟩:=hmr
 rw[c1] at yI
 have gb:=key _ rfl
 generalize ((dk p d.mod).map (·.name)).getD []=mn at *
 generalize (dk p d.mod).isSome=ok at *
 have HZ:(mn++[46]).length=mn.length+1:=by simp
 rw[<- ha] at hlen
 simp only[aF,an] at h h4 yI hfa hfb ⊢
 simp(disch:=omega)only[aG,aa,simprocAttr,h,yI,h4,h7,cx,cv,cB,cd,di,c2,c3,c4,c5,c6,c7,HZ,<- gb]
 refine bd 2 0 (fun k=>mz (fun T=>T 3=.lbox 0 [.slice (bD p.mods) false,.slice (bz p.defs) false]/\T 4=.lbox 1 [.int .i64 mod.bK,.int .i64 mod.seq,.int .i64 mod.index]/\T 5=.lbox 2 [.int .i64 id.bK,.int .i64 id.seq,.int .i64 id.index]/\T 36=.slice [[.str a],[.str b]] true/\T 37=.int .i64 2/\T 38=.int .i64 k/\(1<=k->¬ fb p mod a=[id])/\(2<=k->¬ fb p mod b=[id])) H H.length)
  (mz (fun _=>(¬ fb p mod a=[id])/\¬ fb p mod b=[id]) H H.length) (mz (fun T=>T 6=.str (if fb p mod a=[id] then a else if fb p mod b=[id] then b else [])) H H.length) ?_ ?_ ?_ 0 _ (by omega) ?_
 ·rintro k s hk hs
  obtain⟨T,g,rfl,e3,e4,e5,Pm,e37,DT,n1,n2⟩:=hs.out
  have hk3:k=0\/k=1\/k=2:=by omega
  rcases hk3 with rfl|rfl|rfl
  ·by_cases hq:fb p mod a=[id]
   ·have Jv:(fb p mod a==[id])=true:=by rw[hq];simp
    rw[Jv] at P8
    simp only[apK] at DT
    cases oa
    all_goals
     simp(disch:=omega)only[aG,aa,simprocAttr,e3,e4,e5,Pm,e37,DT,hfa,P8,apH,if_pos hq]
   ·have Jv:(fb p mod a==[id])=false:=by simpa using hq
    rw[Jv] at P8
    simp only[apK] at DT
    cases oa
    all_goals
     simp(disch:=omega)only[aG,aa,simprocAttr,e3,e4,e5,Pm,e37,DT,hfa,P8,apH]
     simp[hq]
  ·have hqa:=n1 (by omega)
   have CC:T 38=.int .i64 1:=DT
   by_cases hq:fb p mod b=[id]
   ·have Jv:(fb p mod b==[id])=true:=by rw[hq];simp
    rw[Jv] at P9
    cases ob
    all_goals
     simp(disch:=omega)only[aG,aa,simprocAttr,e3,e4,e5,Pm,e37,CC,hfb,P9,apH,apT,if_neg hqa,if_pos hq]
   ·have Jv:(fb p mod b==[id])=false:=by simpa using hq
    rw[Jv] at P9
    cases ob
    all_goals
     simp(disch:=omega)only[aG,aa,simprocAttr,e3,e4,e5,Pm,e37,CC,hfb,P9,apH,apT]
     simp[hqa,hq]
  ·have CC:T 38=.int .i64 2:=DT
   simp(disch:=omega)only[aG,aa,simprocAttr,e3,e4,e5,Pm,e37,CC]
   exact⟨n1 (by omega),n2 (by omega)⟩
 ·rintro s hs
  obtain⟨T,g,rfl,n1,n2⟩:=hs.out
  simp(disch:=omega)only[aG,aa,simprocAttr,if_neg n1,if_neg n2]
 ·rintro s hs
  obtain⟨T,g,rfl,e6⟩:=hs.out
  simp(disch:=omega)only[aG,aa,simprocAttr,e6]
 ·simp(disch:=omega)only[aG,aa,simprocAttr,apK]
  simp
theorem Tf(p:Prog)(mod id:Id)(H:ag)(hm:p.mods.length<=1000000)(hd:p.defs.length<=1000000)(Qk:kV p id=none):az A 11 [.agg (aF p),.agg (an mod),.agg (an id)] H=some (.str [],none):=by
 refine bT (fn:=JE) rfl rfl rfl ?_
 unfold JE
 have h:=O7 p id H hd
 rw[xU,Qk] at h
 simp only[zD] at h
 simp only[aF,an] at h ⊢
 simp(disch:=omega)only[aG,aa,simprocAttr,h]
theorem Tg(p:Prog)(mod id:Id)(d:Def)(a b:fa)(H:ag)(hm:p.mods.length<=1000000)(hd:p.defs.length<=1000000)(P7:kV p id=some d)(ha:a=d.name)(hb:b=((dk p d.mod).map (·.name)).getD []++[46]++d.name)
  (hlen:(((dk p d.mod).map (·.name)).getD []).length<=1000000/\d.name.length<=1000000)
  (hf:∀ s:fa,s.length<=3000000->∃ o,az A 9 [.agg (aF p),.agg (an mod),.str s] H=some (.slice (al (iH p mod s)) o,none)) (pq:∀ s,(iH p mod s).length<=1000000) :
  az A 11 [.agg (aF p),.agg (an mod),.agg (an id)] H=some (.str (if iH p mod a=[id] then a else if iH p mod b=[id] then b else []),none):=by
 refine bT (fn:=JE) rfl rfl rfl ?_
 unfold JE
 have h:=O7 p id H hd
 rw[xU,P7] at h
 simp only at h
 have yI:=Bv p d.mod H hm
 have h4:=AN (d:=d)
 have h7:=xV (d:=d)
 have Ur:a.length<=3000000:=by rw[ha];omega
 have PZ:b.length<=3000000:=by rw[hb];simp only[apL,ap3];omega
 obtain⟨oa,hfa⟩:=hf a Ur
 obtain⟨ob,hfb⟩:=hf b PZ
 have P8:=vX (iH p mod a) [id] H (pq a)
 have P9:=vX (iH p mod b) [id] H (pq b)
 have K0:al [id]=[[.int .i64 id.bK,.int .i64 id.seq,.int .i64 id.index]]:=rfl
 rw[K0] at P8 P9
 have key:∀ mn:fa,mn=((dk p d.mod).map (·.name)).getD []->b=mn++[46]++a:=fun mn h=>by rw[hb,h,ha]
 rw[<- ha] at h7
 have hmr:∃ cs:List AV,jT p d.mod=.tuple [.agg cs,.bool (dk p d.mod).isSome]/\cs.length=6/\cs.map AV.drop=cs/\cs.take 6=cs/\cs.all aq=true/\(∀ B,cs.all (AV.aJ B)=true)/\cs[3]?=some (.str (((dk p d.mod).map (·.name)).getD [])):=by
  cases hx:dk p d.mod with
  | none=>exact⟨zM,by rw[jT,hx];rfl,rfl,rfl,rfl,rfl,fun _=>rfl,rfl⟩
  | some m=>exact⟨dw m,by rw[jT,hx];rfl,dJ,dm,dB,cV,fun _=>fw,G1⟩
 obtain⟨cs,c1,c2,c3,c4,c5,c6,c7⟩:=hmr
 rw[c1] at yI
 have gb:=key _ rfl
 generalize ((dk p d.mod).map (·.name)).getD []=mn at *
 generalize (dk p d.mod).isSome=ok at *
 have HZ:(mn++[46]).length=mn.length+1:=by simp
 rw[<- ha] at hlen
 simp only[aF,an] at h h4 yI hfa hfb ⊢
 simp(disch:=omega)only[aG,aa,simprocAttr,h,yI,h4,h7,cx,cv,cB,cd,di,c2,c3,c4,c5,c6,c7,HZ,<- gb]
 refine bd 2 0 (fun k=>mz (fun T=>T 3=.lbox 0 [.slice (bD p.mods) false,.slice (bz p.defs) false]/\T 4=.lbox 1 [.int .i64 mod.bK,.int .i64 mod.seq,.int .i64 mod.index]/\T 5=.lbox 2 [.int .i64 id.bK,.int .i64 id.seq,.int .i64 id.index]/\T 11=.slice [[.str a],[.str b]] true/\T 12=.int .i64 k/\(1<=k->¬ iH p mod a=[id])/\(2<=k->¬ iH p mod b=[id])) H H.length)
  (mz (fun _=>(¬ iH p mod a=[id])/\¬ iH p mod b=[id]) H H.length) (mz (fun T=>T 6=.str (if iH p mod a=[id] then a else if iH p mod b=[id] then b else [])) H H.length) ?_ ?_ ?_ 0 _ (by omega) ?_
 ·rintro k s hk hs
  obtain⟨T,g,rfl,e3,e4,e5,Pm,DT,n1,n2⟩:=hs.out
  have hk3:k=0\/k=1\/k=2:=by omega
  rcases hk3 with rfl|rfl|rfl
  ·by_cases hq:iH p mod a=[id]
   ·have Jv:(iH p mod a==[id])=true:=by rw[hq];simp
    rw[Jv] at P8
    simp only[apK] at DT
    cases oa
    all_goals
     simp(disch:=omega)only[aG,aa,simprocAttr,e3,e4,e5,Pm,DT,hfa,P8,apH,if_pos hq]
   ·have Jv:(iH p mod a==[id])=false:=by simpa using hq
    rw[Jv] at P8
    simp only[apK] at DT
    cases oa
    all_goals
     simp(disch:=omega)only[aG,aa,simprocAttr,e3,e4,e5,Pm,DT,hfa,P8,apH]
     simp[hq]
  ·have hqa:=n1 (by omega)
   have CC:T 12=.int .i64 1:=DT
   by_cases hq:iH p mod b=[id]
   ·have Jv:(iH p mod b==[id])=true:=by rw[hq];simp
    rw[Jv] at P9
    cases ob
    all_goals
     simp(disch:=omega)only[aG,aa,simprocAttr,e3,e4,e5,Pm,CC,hfb,P9,apH,apT,if_neg hqa,if_pos hq]
   ·have Jv:(iH p mod b==[id])=false:=by simpa using hq
    rw[Jv] at P9
    cases ob
    all_goals
     simp(disch:=omega)only[aG,aa,simprocAttr,e3,e4,e5,Pm,CC,hfb,P9,apH,apT]
     simp[hqa,hq]
  ·have CC:T 12=.int .i64 2:=DT
   simp(disch:=omega)only[aG,aa,simprocAttr,e3,e4,e5,Pm,CC]
   exact⟨n1 (by omega),n2 (by omega)⟩
 ·rintro s hs
  obtain⟨T,g,rfl,n1,n2⟩:=hs.out
  simp(disch:=omega)only[aG,aa,simprocAttr,if_neg n1,if_neg n2]
 ·rintro s hs
  obtain⟨T,g,rfl,e6⟩:=hs.out
  simp(disch:=omega)only[aG,aa,simprocAttr,e6]
 ·simp(disch:=omega)only[aG,aa,simprocAttr,apK]
  simp
theorem pw{x:Id} : ∀ {l:List Id},(kO l x).length<=l.length+1
 | []=>by simp[kO]
 | a :: l=>by
  have:=pw (x:=x) (l:=l)
  simp only[kO]
  split
  ·simp;omega
  ·split<;>simp
theorem vH:∀ {w q:List Id},(w.foldl kO q).length<=q.length+w.length
 | [],q=>by simp
 | a :: w,q=>by
  have:=vH (w:=w) (q:=kO q a)
  have h2:=pw (x:=a) (l:=q)
  simp only[aqr,List.length_cons]
  omega
theorem Ks{p:Prog}{mod:Id}{name:fa}{q:List Id}{e:Def} : (lN p mod name q e).length<=q.length+1:=by
 unfold lN
 split
 ·split
  ·exact pw
  ·omega
 ·omega
theorem yu{p:Prog}{mod:Id}{name:fa} : ∀ {w:List Def} {q:List Id},(w.foldl (lN p mod name) q).length<=q.length+w.length
 | [],q=>by simp
 | a :: w,q=>by
  have:=yu (p:=p) (mod:=mod) (name:=name) (w:=w) (q:=lN p mod name q a)
  have h2:=Ks (p:=p) (mod:=mod) (name:=name) (q:=q) (e:=a)
  simp only[aqr,List.length_cons]
  omega
theorem Lj{p:Prog}{mod:Id}{name:fa} : (qV p mod name).length<=p.defs.length:=by
 have:=yu (p:=p) (mod:=mod) (name:=name) (w:=p.defs) (q:=[])
 simpa [qV] using this
theorem HJ{p:Prog}{q:List Id}{x:Id} : (gf p q x).length<=q.length+1:=by
 unfold gf
 split<;>simp
theorem wA{p:Prog} : ∀ {w q:List Id},(w.foldl (gf p) q).length<=q.length+w.length
 | [],q=>by simp
 | a :: w,q=>by
  have:=wA (p:=p) (w:=w) (q:=gf p q a)
  have h2:=HJ (p:=p) (q:=q) (x:=a)
  simp only[aqr,List.length_cons]
  omega
theorem sJ{p:Prog}{mod:Id}(hu:∀ m∈p.mods,m.fY.length<=1000):(gE p mod).length<=1001:=by
 unfold gE
 cases hm:dk p mod with
 | none=>simp
 | some m =>
  have:=hu m (List.mem_of_find?_eq_some hm)
  have h2:=wA (p:=p) (w:=m.fY) (q:=[mod])
  simp only[ap3] at h2
  simp only
  omega
theorem Mh{p:Prog}{e:Def}(h:e∈p.defs):∃ d,kV p e.id=some d:=by
 cases hd:kV p e.id with
 | some d=>exact⟨d,rfl⟩
 | none =>
  have:=List.find?_eq_none.1 hd e h
  simp at this
theorem GA(p:Prog)(mod:Id)(name:fa)(H:ag)(hp:p.defs.length<=12):∃ o,az A 31 [.agg (aF p),.agg (an mod),.str name] H=some (.slice (al (qV p mod name)) o,none):=by
 have key:∃ r,az A 31 [.agg (aF p),.agg (an mod),.str name] H=some r/\∃ o,r=(.slice (al (qV p mod name)) o,none):=by
  refine js (fn:=Sr) rfl rfl rfl ?_
  unfold Sr
  have hdd:=fun x=>O7 p x H (by omega)
  simp only[aF] at hdd
  rw[aF,an]
  simp(disch:=omega)only[aG,aa,simprocAttr,cq]
  refine bd p.defs.length 0 (fun k=>mz (fun T=>T 2=.str name/\T 3=.lbox 0 [.slice (bD p.mods) false,.slice (bz p.defs) false]/\T 4=.lbox 1 [.int .i64 mod.bK,.int .i64 mod.seq,.int .i64 mod.index]/\T 8=.int .i64 k /\
    ∃ q o,T 7=.slice (al q) o/\q.length<=k/\qV p mod name=(p.defs.drop k).foldl (lN p mod name) q) H H.length)
   (mz (fun T=>∃ o,T 7=.slice (al (qV p mod name)) o) H H.length) (fun _=>False) ?_ ?_ (fun _ h=>h.elim) 0 _ (by omega) ?_
  ·rintro k s hk hs
   obtain⟨T,g,rfl,e2,e3,e4,e8,q,o,e7,hq,hc⟩:=hs.out
   by_cases gm:k<p.defs.length
   ·have hg:=qa (apy gm)
    obtain⟨d,hd⟩:=Mh (aq7 gm)
    rw[apV gm,aqr] at hc
    have pe:lN p mod name q p.defs[k]=if d.mod=mod/\d.name=name then kO q d.id else q:=by rw[lN,hd]
    rw[pe] at hc
    have hx:=hdd (p.defs[k]).id
    rw[xU,hd] at hx
    simp only at hx
    have Gs:=rp (d:=p.defs[k])
    generalize p.defs[k]=e at *
    have h0:=rp (d:=d)
    have h4:=AN (d:=d)
    have h7:=xV (d:=d)
    rw[an] at h0 h4 Gs hx
    obtain⟨o',Gt⟩:=yO q d.id H (by omega)
    rw[an] at Gt
    have hql:=pw (x:=d.id) (l:=q)
    cases hb:(d.mod==mod) with
    | false =>
     have bC:¬ (d.mod=mod/\d.name=name):=fun h=>by rw[h.1] at hb;simp at hb
     rw[if_neg bC] at hc
     simp(disch:=omega)only[aG,aa,simprocAttr,cq,e2,e3,e4,e8,e7,hg,hx,cx,cv,cB,cd,di,h0,h4,h7,Gs,dr,fu,hb]
     exact⟨gm,q,_,⟨rfl,rfl⟩,by omega,hc⟩
    | true =>
     have hm:=eq_of_beq hb
     cases hn:(d.name==name) with
     | false =>
      have bC:¬ (d.mod=mod/\d.name=name):=fun h=>by rw[h.2] at hn;simp at hn
      rw[if_neg bC] at hc
      simp(disch:=omega)only[aG,aa,simprocAttr,cq,e2,e3,e4,e8,e7,hg,hx,cx,cv,cB,cd,di,h0,h4,h7,Gs,dr,fu,hb,hn]
      exact⟨gm,q,_,⟨rfl,rfl⟩,by omega,hc⟩
     | true =>
      have hn':=eq_of_beq hn
      rw[if_pos ⟨hm,hn'⟩] at hc
      cases o'
      all_goals
       simp(disch:=omega)only[aG,aa,simprocAttr,cq,e2,e3,e4,e8,e7,hg,hx,cx,cv,cB,cd,di,h0,h4,h7,Gs,dr,fu,hb,hn,Gt]
       exact⟨gm,_,_,⟨rfl,rfl⟩,by omega,hc⟩
   ·have:k=p.defs.length:=by omega
    subst this
    rw[aqm,List.foldl_nil] at hc
    simp(disch:=omega)only[aG,aa,simprocAttr,cq,e2,e3,e4,e8,e7,hc]
    exact⟨_,rfl⟩
  ·rintro s hs
   obtain⟨T,g,rfl,o,e7⟩:=hs.out
   simp(disch:=omega)only[aG,aa,simprocAttr,e7]
   exact⟨_,rfl⟩
  ·simp(disch:=omega)only[aG,aa,simprocAttr,apK,aqh]
   exact⟨[],true,⟨rfl,rfl⟩,by simp,rfl⟩
 obtain⟨r,h1,o,rfl⟩:=key
 exact⟨o,h1⟩
theorem DK(p:Prog)(mod:Id)(H:ag)(hp:p.mods.length<=1000000)(hu:∀ m∈p.mods,m.fY.length<=1000):∃ o,az A 29 [.agg (aF p),.agg (an mod)] H=some (.slice (al (gE p mod)) o,none):=by
 have key:∃ r,az A 29 [.agg (aF p),.agg (an mod)] H=some r/\∃ o,r=(.slice (al (gE p mod)) o,none):=by
  refine js (fn:=Sp) rfl rfl rfl ?_
  unfold Sp
  have Ju:=fun x=>Bv p x H hp
  have h:=Ju mod
  simp only[aF] at Ju
  cases hm:dk p mod with
  | none =>
   rw[jT,hm] at h
   simp only[zM,aF,an] at h
   have:gE p mod=[]:=by rw[gE,hm]
   rw[this]
   simp only[aF,an]
   simp(disch:=omega)only[aG,aa,simprocAttr,h,nI]
   exact⟨_,rfl⟩
  | some m =>
   rw[jT,hm] at h
   simp only at h
   have hul:=hu m (List.mem_of_find?_eq_some hm)
   have hs:gE p mod=m.fY.foldl (gf p) [mod]:=by rw[gE,hm]
   rw[hs]
   have h4:=Tb (m:=m)
   have H2:yY (fun _=>AV.undef) .sl .ae=some (.int .i64 0):=rfl
   simp only[aF,an] at h ⊢
   generalize hU:m.fY=U at *
   cases U with
   | nil =>
    have hU' : ux ([]:List Id)=.ae:=rfl
    rw[hU'] at h4
    simp(disch:=omega)only[aG,aa,simprocAttr,h,dJ,dm,dB,cV,fw,List.foldl_nil]
    refine bd 0 0 (fun k=>mz (fun T=>T 5=.lbox 2 (dw m)/\T 8=.int .i64 0/\T 7=.slice [[.int .i64 mod.bK,.int .i64 mod.seq,.int .i64 mod.index]] true) H H.length)
     (mz (fun T=>T 7=.slice [[.int .i64 mod.bK,.int .i64 mod.seq,.int .i64 mod.index]] true) H H.length) (fun _=>False) ?_ ?_ (fun _ h=>h.elim) 0 _ (by omega) ?_
    ·rintro k s hk hs
     obtain⟨T,g,rfl,e5,e8,e7⟩:=hs.out
     simp(disch:=omega)only[aG,aa,simprocAttr,e5,e8,e7,h4,dJ,dm,dB,cV,fw]
    ·rintro s hs
     obtain⟨T,g,rfl,e7⟩:=hs.out
     simp(disch:=omega)only[aG,aa,simprocAttr,e7]
     exact⟨_,rfl,rfl⟩
    ·simp(disch:=omega)only[aG,aa,simprocAttr]
   | cons u U' =>
    have hU' : ux (u :: U')=.slice (al (u :: U')) false:=rfl
    rw[hU'] at h4
    generalize hW:u :: U'=W at *
    simp(disch:=omega)only[aG,aa,simprocAttr,h,dJ,dm,dB,cV,fw]
    refine bd W.length 0 (fun k=>mz (fun T=>T 2=.lbox 0 [.slice (bD p.mods) false,.slice (bz p.defs) false]/\T 5=.lbox 2 (dw m)/\T 8=.int .i64 k/\∃ q,T 7=.slice (al q) true/\q.length<=k+1/\W.foldl (gf p) [mod]=(W.drop k).foldl (gf p) q) H H.length)
     (mz (fun T=>T 7=.slice (al (W.foldl (gf p) [mod])) true) H H.length) (fun _=>False) ?_ ?_ (fun _ h=>h.elim) 0 _ (by omega) ?_
    ·rintro k s hk hs
     obtain⟨T,g,rfl,e2,e5,e8,q,e7,hq,hc⟩:=hs.out
     by_cases gm:k<W.length
     ·have hg:=je (apy gm)
      rw[apV gm,aqr] at hc
      have hx:=Ju W[k]
      generalize W[k]=x at *
      rw[an] at hg hx
      have hh:=af0 q x H (by omega)
      rw[an] at hh
      have jq:=tu (l:=q) (i:=x) (o:=true) (by omega)
      cases D0:dk p x with
      | none =>
       have pe:gf p q x=q:=by simp[gf,D0]
       rw[pe] at hc
       rw[jT,D0] at hx
       simp only[zM] at hx
       simp(disch:=omega)only[aG,aa,simprocAttr,e2,e5,e8,e7,h4,dJ,dm,dB,cV,fw,hg,hx,ba]
       first|exact⟨gm,q,rfl,by omega,hc⟩|exact⟨gm,q,⟨rfl,rfl⟩,by omega,hc⟩
      | some y =>
       rw[jT,D0] at hx
       simp only at hx
       cases hcq:q.contains x with
       | true =>
        have pe:gf p q x=q:=by unfold gf;rw[hcq];simp
        rw[pe] at hc
        rw[hcq] at hh
        simp(disch:=omega)only[aG,aa,simprocAttr,e2,e5,e8,e7,h4,dJ,dm,dB,cV,fw,hg,hx,ba,hh]
        first|exact⟨gm,q,rfl,by omega,hc⟩|exact⟨gm,q,⟨rfl,rfl⟩,by omega,hc⟩
       | false =>
        have pe:gf p q x=q++[x]:=by unfold gf;rw[hcq,D0];rfl
        rw[pe] at hc
        rw[hcq] at hh
        simp(disch:=omega)only[aG,aa,simprocAttr,e2,e5,e8,e7,h4,dJ,dm,dB,cV,fw,hg,hx,ba,hh,jq]
        first|exact⟨gm,_,rfl,by simp;omega,hc⟩|exact⟨gm,_,⟨rfl,rfl⟩,by simp;omega,hc⟩
     ·have:k=W.length:=by omega
      subst this
      rw[aqm,List.foldl_nil] at hc
      simp(disch:=omega)only[aG,aa,simprocAttr,e2,e5,e8,e7,h4,dJ,dm,dB,cV,fw,ba,hc]
    ·rintro s hs
     obtain⟨T,g,rfl,e7⟩:=hs.out
     simp(disch:=omega)only[aG,aa,simprocAttr,e7]
     exact⟨_,rfl⟩
    ·simp(disch:=omega)only[aG,aa,simprocAttr,apK,aqh]
     exact⟨[mod],rfl,by simp,rfl⟩
 obtain⟨r,h1,o,rfl⟩:=key
 exact⟨o,h1⟩
theorem Gy{l:List Id}{n:Nat} : (al l).drop n=al (l.drop n):=by simp[al,List.map_drop]
theorem F6(p:Prog)(mod:Id)(name:fa)(H:ag)(hp:p.mods.length<=1000000)(hd:p.defs.length<=12)(hu:∀ m∈p.mods,m.fY.length<=1000)(hn:name.length<=4611686018427387904)(r1 r2:fa)(tG:kN name=some (r1,r2)):∃ o,az A 9 [.agg (aF p),.agg (an mod),.str name] H=some (.slice (al ((gE p mod).foldl (dV p (some r1) r2) [])) o,none):=by
 have key:∃ r,az A 9 [.agg (aF p),.agg (an mod),.str name] H=some r/\∃ o,r=(.slice (al ((gE p mod).foldl (dV p (some r1) r2) [])) o,none):=by
  refine js (fn:=SM) rfl rfl rfl ?_
  unfold SM
  have Ju:=fun x=>Bv p x H hp
  have yH:=fun x f=>GA p x f H hd
  obtain⟨oS,hS⟩:=DK p mod H hp hu
  have hC:=sk name H hn
  have Uq:=sJ (p:=p) (mod:=mod) hu
  have MW:(al (gE p mod)).length=(gE p mod).length:=ba
  obtain⟨oI,hI⟩:=GA p mod name H hd
  have Vo:(al (qV p mod name)).length=(qV p mod name).length:=ba
  simp only[aF,an] at Ju yH hS hI ⊢
  generalize gE p mod=S at *
  rw[II,tG] at hC
  simp only at hC
  obtain⟨ow,how⟩:∃ oo,oo=oS:=⟨_,rfl⟩
  by_cases Zz:S.length=0
  all_goals
   cases oS
   all_goals
    simp(disch:=omega)only[aG,aa,simprocAttr,hS,hC,MW,Zz,gt_iff_lt,apK,Int.lt_irrefl]
    clear Zz
    refine bd S.length 0 (fun k=>mz (fun T=>T 3=.lbox 0 [.slice (bD p.mods) false,.slice (bz p.defs) false]/\T 7=.slice (al S) ow/\T 8=.str r1/\T 9=.str r2/\T 10=.bool true/\T 13=.int .i64 k/\∃ q o,T 12=.slice (al q) o/\q.length<=12*k/\S.foldl (dV p (some r1) r2) []=(S.drop k).foldl (dV p (some r1) r2) q) H H.length)
     (mz (fun T=>∃ o,T 12=.slice (al (S.foldl (dV p (some r1) r2) [])) o) H H.length) (fun _=>False) ?_ ?_ (fun _ h=>h.elim) 0 _ (by omega) ?_
    ·rintro k s hk hs
     obtain⟨T,g,rfl,e3,e7,e8,e9,iE,lr,q,o,iO,hq,hc⟩:=hs.out
     by_cases gm:k<S.length
     ·have hg:=je (apy gm)
      rw[apV gm,aqr] at hc
      have hx:=Ju S[k]
      obtain⟨o1,hin⟩:=yH S[k] r2
      have oR:=Lj (p:=p) (mod:=S[k]) (name:=r2)
      have ajY:(al (qV p S[k] r2)).length=(qV p S[k] r2).length:=ba
      generalize S[k]=x at *
      rw[an] at hg
      have hmr:∃ cs:List AV,jT p x=.tuple [.agg cs,.bool (dk p x).isSome]/\cs.length=6/\cs.map AV.drop=cs/\cs.take 6=cs/\cs.all aq=true/\(∀ B,cs.all (AV.aJ B)=true)/\cs[3]?=some (.str (((dk p x).map (·.name)).getD [])):=by
       cases hx:dk p x with
       | none=>exact⟨zM,by rw[jT,hx];rfl,rfl,rfl,rfl,rfl,fun _=>rfl,rfl⟩
       | some m=>exact⟨dw m,by rw[jT,hx];rfl,dJ,dm,dB,cV,fun _=>fw,G1⟩
      obtain⟨cs,c1,c2,c3,c4,c5,c6,c7⟩:=hmr
      rw[c1] at hx
      generalize M7:((dk p x).map (·.name)).getD []=mn at *
      generalize (dk p x).isSome=ok at *
      cases hy:(mn==r1) with
      | false =>
       have hy2:(mn != r1)=true:=by rw[bne,hy];rfl
       have pe:dV p (some r1) r2 q x=q:=by unfold dV;simp only[Option.all_some,M7,hy];rfl
       rw[pe] at hc
       simp(disch:=omega)only[aG,aa,simprocAttr,e3,e7,e8,e9,iE,lr,iO,hg,hx,c2,c3,c4,c5,c6,c7,hy,aq2,ba]
       exact⟨gm,_,_,⟨rfl,rfl⟩,by omega,hc⟩
      | true =>
       have hy2:(mn != r1)=false:=by rw[bne,hy];rfl
       have pe:dV p (some r1) r2 q x=(qV p x r2).foldl kO q:=by unfold dV;simp only[Option.all_some,M7,hy];rfl
       rw[pe] at hc
       generalize qV p x r2=w at *
       obtain⟨oo,Ah⟩:∃ oo,oo=o1:=⟨_,rfl⟩
       cases o1
       all_goals
        simp(disch:=omega)only[aG,aa,simprocAttr,e3,e7,e8,e9,iE,lr,iO,hg,hx,hin,c2,c3,c4,c5,c6,c7,hy,arv,ba]
        refine bd w.length 2 (fun j=>mz (fun T=>T 3=.lbox 0 [.slice (bD p.mods) false,.slice (bz p.defs) false]/\T 7=.slice (al S) ow/\T 8=.str r1/\T 9=.str r2/\T 10=.bool true/\T 13=.int .i64 k/\T 16=.slice (al w) oo/\T 17=.int .i64 j/\∃ q2 o,T 12=.slice (al q2) o/\q2.length<=12*k+j/\w.foldl kO q=(w.drop j).foldl kO q2) H H.length)
         (mz (fun T=>T 3=.lbox 0 [.slice (bD p.mods) false,.slice (bz p.defs) false]/\T 7=.slice (al S) ow/\T 8=.str r1/\T 9=.str r2/\T 10=.bool true/\T 13=.int .i64 k/\∃ o,T 12=.slice (al (w.foldl kO q)) o) H H.length) (fun _=>False) ?_ ?_ (fun _ h=>h.elim) 0 _ (by omega) ?_
        ·rintro j s hj hs
         obtain⟨T,g,rfl,e3,e7,e8,e9,iE,lr,Zr,e17,q2,o2,iO,hq2,w8⟩:=hs.out
         by_cases hJ:j<w.length
         ·have Om:=je (apy hJ)
          rw[apV hJ,aqr] at w8
          obtain⟨o3,Gt⟩:=yO q2 w[j] H (by omega)
          have ajZ:=pw (x:=w[j]) (l:=q2)
          generalize w[j]=z at *
          rw[an] at Om Gt
          cases o3
          all_goals
           simp(disch:=omega)only[aG,aa,simprocAttr,e3,e7,e8,e9,iE,lr,Zr,e17,iO,Om,Gt,ba]
           exact⟨hJ,_,_,⟨rfl,rfl⟩,by omega,w8⟩
         ·have:j=w.length:=by omega
          subst this
          rw[aqm,List.foldl_nil] at w8
          simp(disch:=omega)only[aG,aa,simprocAttr,e3,e7,e8,e9,iE,lr,Zr,e17,iO,w8,ba]
          exact⟨_,rfl⟩
        ·rintro s hs
         obtain⟨T,g,rfl,e3,e7,e8,e9,iE,lr,o4,iO⟩:=hs.out
         simp(disch:=omega)only[aG,aa,simprocAttr,e3,e7,e8,e9,iE,lr,iO]
         have pq:=vH (w:=w) (q:=q)
         exact⟨gm,_,_,⟨rfl,rfl⟩,by omega,hc⟩
        ·simp(disch:=omega)only[aG,aa,simprocAttr,e3,e7,e8,e9,iE,lr,iO,apK,aqh,Ah]
         exact⟨_,_,⟨rfl,rfl⟩,by omega,rfl⟩
     ·have:k=S.length:=by omega
      subst this
      rw[aqm,List.foldl_nil] at hc
      simp(disch:=omega)only[aG,aa,simprocAttr,e3,e7,e8,e9,iE,lr,iO,hc,ba]
      exact⟨_,rfl⟩
    ·rintro s hs
     obtain⟨T,g,rfl,o,iO⟩:=hs.out
     simp(disch:=omega)only[aG,aa,simprocAttr,iO]
     exact⟨_,rfl⟩
    ·simp(disch:=omega)only[aG,aa,simprocAttr,apK,aqh,how]
     exact⟨[],true,⟨rfl,rfl⟩,by simp,rfl⟩
 obtain⟨r,h1,o,rfl⟩:=key
 exact⟨o,h1⟩
theorem F7(p:Prog)(mod:Id)(name:fa)(H:ag)(hp:p.mods.length<=1000000)(hd:p.defs.length<=12)(hu:∀ m∈p.mods,m.fY.length<=1000)(hn:name.length<=4611686018427387904)(tG:kN name=none)(Zz:gE p mod=[]):∃ o,az A 9 [.agg (aF p),.agg (an mod),.str name] H=some (.slice (al (([]:List Id))) o,none):=by
 have key:∃ r,az A 9 [.agg (aF p),.agg (an mod),.str name] H=some r/\∃ o,r=(.slice (al (([]:List Id))) o,none):=by
  refine js (fn:=SM) rfl rfl rfl ?_
  unfold SM
  have Ju:=fun x=>Bv p x H hp
  have yH:=fun x f=>GA p x f H hd
  obtain⟨oS,hS⟩:=DK p mod H hp hu
  have hC:=sk name H hn
  have Uq:=sJ (p:=p) (mod:=mod) hu
  have MW:(al (gE p mod)).length=(gE p mod).length:=ba
  obtain⟨oI,hI⟩:=GA p mod name H hd
  have Vo:(al (qV p mod name)).length=(qV p mod name).length:=ba
  simp only[aF,an] at Ju yH hS hI ⊢
  rw[Zz] at hS
  rw[II,tG] at hC
  simp only at hC
  simp only[nI] at hS ⊢
  cases oS
  all_goals
   simp(disch:=omega)only[aG,aa,simprocAttr,hS,hC,List.length_nil,gt_iff_lt,apK,Int.lt_irrefl]
   refine bd 0 0 (fun k=>mz (fun T=>(∃ o,T 7=.slice [] o)/\T 12=.slice [] true/\T 13=.int .i64 0) H H.length) (mz (fun T=>T 12=.slice [] true) H H.length) (fun _=>False) ?_ ?_ (fun _ h=>h.elim) 0 _ (by omega) ?_
   ·rintro k s hk hs
    obtain⟨T,g,rfl,⟨o7,e7⟩,iO,lr⟩:=hs.out
    simp(disch:=omega)only[aG,aa,simprocAttr,e7,iO,lr,List.length_nil,apK,Int.lt_irrefl]
   ·rintro s hs
    obtain⟨T,g,rfl,iO⟩:=hs.out
    simp(disch:=omega)only[aG,aa,simprocAttr,iO]
    exact⟨_,rfl⟩
   ·simp(disch:=omega)only[aG,aa,simprocAttr]
    first|exact⟨_,rfl⟩|exact⟨_,rfl,rfl⟩|exact⟨⟨_,rfl⟩,rfl⟩
 obtain⟨r,h1,o,rfl⟩:=key
 exact⟨o,h1⟩
theorem CP(p:Prog)(mod:Id)(name:fa)(H:ag)(hp:p.mods.length<=1000000)(hd:p.defs.length<=12)(hu:∀ m∈p.mods,m.fY.length<=1000)(hn:name.length<=4611686018427387904)(tG:kN name=none)(Zz:0<(gE p mod).length)(Uo:qV p mod name=[]):∃ o,az A 9 [.agg (aF p),.agg (an mod),.str name] H=some (.slice (al (((gE p mod).drop 1).foldl (dV p none name) [])) o,none):=by
 have key:∃ r,az A 9 [.agg (aF p),.agg (an mod),.str name] H=some r/\∃ o,r=(.slice (al (((gE p mod).drop 1).foldl (dV p none name) [])) o,none):=by
  refine js (fn:=SM) rfl rfl rfl ?_
  unfold SM
  have Ju:=fun x=>Bv p x H hp
  have yH:=fun x f=>GA p x f H hd
  obtain⟨oS,hS⟩:=DK p mod H hp hu
  have hC:=sk name H hn
  have Uq:=sJ (p:=p) (mod:=mod) hu
  have MW:(al (gE p mod)).length=(gE p mod).length:=ba
  obtain⟨oI,hI⟩:=GA p mod name H hd
  have Vo:(al (qV p mod name)).length=(qV p mod name).length:=ba
  simp only[aF,an] at Ju yH hS hI ⊢
  generalize gE p mod=S at *
  rw[II,tG] at hC
  simp only at hC
  rw[Uo] at hI
  have hz:(al ([]:List Id)).length=0:=rfl
  have lQ:(S.drop 1).length+1=S.length:=by rw[aro];omega
  generalize hL:S.drop 1=L at *
  have htl:((al S).take S.length).drop 1=al L:=by rw[aqn (by omega),Gy,hL]
  have hdr:(al S).drop 1=al L:=by rw[Gy,hL]
  have hhd:fM 3 (al S)=true:=su qp.wide
  obtain⟨ow,how⟩:∃ oo,oo=false:=⟨_,rfl⟩
  cases oS<;>cases oI
  all_goals
   simp(disch:=omega)only[aG,aa,simprocAttr,hS,hC,hI,hz,MW,htl,hdr,hhd,gt_iff_lt,apK,Int.lt_irrefl]
   refine bd L.length 0 (fun k=>mz (fun T=>T 3=.lbox 0 [.slice (bD p.mods) false,.slice (bz p.defs) false]/\T 7=.slice (al L) ow/\T 8=.str ([]:fa)/\T 9=.str name/\T 10=.bool false/\T 13=.int .i64 k/\∃ q o,T 12=.slice (al q) o/\q.length<=12*k/\L.foldl (dV p none name) []=(L.drop k).foldl (dV p none name) q) H H.length)
    (mz (fun T=>∃ o,T 12=.slice (al (L.foldl (dV p none name) [])) o) H H.length) (fun _=>False) ?_ ?_ (fun _ h=>h.elim) 0 _ (by omega) ?_
   ·rintro k s hk hs
    obtain⟨T,g,rfl,e3,e7,e8,e9,iE,lr,q,o,iO,hq,hc⟩:=hs.out
    by_cases gm:k<L.length
    ·have hg:=je (apy gm)
     rw[apV gm,aqr] at hc
     have hx:=Ju L[k]
     obtain⟨o1,hin⟩:=yH L[k] name
     have oR:=Lj (p:=p) (mod:=L[k]) (name:=name)
     have ajY:(al (qV p L[k] name)).length=(qV p L[k] name).length:=ba
     generalize L[k]=x at *
     rw[an] at hg
     have hmr:∃ cs:List AV,jT p x=.tuple [.agg cs,.bool (dk p x).isSome]/\cs.length=6/\cs.map AV.drop=cs/\cs.take 6=cs/\cs.all aq=true/\(∀ B,cs.all (AV.aJ B)=true)/\cs[3]?=some (.str (((dk p x).map (·.name)).getD [])):=by
      cases hx:dk p x with
      | none=>exact⟨zM,by rw[jT,hx];rfl,rfl,rfl,rfl,rfl,fun _=>rfl,rfl⟩
      | some m=>exact⟨dw m,by rw[jT,hx];rfl,dJ,dm,dB,cV,fun _=>fw,G1⟩
     obtain⟨cs,c1,c2,c3,c4,c5,c6,c7⟩:=hmr
     rw[c1] at hx
     have pe:dV p none name q x=(qV p x name).foldl kO q:=by unfold dV;rfl
     rw[pe] at hc
     generalize qV p x name=w at *
     obtain⟨oo,Ah⟩:∃ oo,oo=o1:=⟨_,rfl⟩
     cases o1
     all_goals
      simp(disch:=omega)only[aG,aa,simprocAttr,e3,e7,e8,e9,iE,lr,iO,hg,hx,hin,c2,c3,c4,c5,c6,c7,ba]
      refine bd w.length 2 (fun j=>mz (fun T=>T 3=.lbox 0 [.slice (bD p.mods) false,.slice (bz p.defs) false]/\T 7=.slice (al L) ow/\T 8=.str ([]:fa)/\T 9=.str name/\T 10=.bool false/\T 13=.int .i64 k/\T 16=.slice (al w) oo/\T 17=.int .i64 j/\∃ q2 o,T 12=.slice (al q2) o/\q2.length<=12*k+j/\w.foldl kO q=(w.drop j).foldl kO q2) H H.length)
       (mz (fun T=>T 3=.lbox 0 [.slice (bD p.mods) false,.slice (bz p.defs) false]/\T 7=.slice (al L) ow/\T 8=.str ([]:fa)/\T 9=.str name/\T 10=.bool false/\T 13=.int .i64 k/\∃ o,T 12=.slice (al (w.foldl kO q)) o) H H.length) (fun _=>False) ?_ ?_ (fun _ h=>h.elim) 0 _ (by omega) ?_
      ·rintro j s hj hs
       obtain⟨T,g,rfl,e3,e7,e8,e9,iE,lr,Zr,e17,q2,o2,iO,hq2,w8⟩:=hs.out
       by_cases hJ:j<w.length
       ·have Om:=je (apy hJ)
        rw[apV hJ,aqr] at w8
        obtain⟨o3,Gt⟩:=yO q2 w[j] H (by omega)
        have ajZ:=pw (x:=w[j]) (l:=q2)
        generalize w[j]=z at *
        rw[an] at Om Gt
        cases o3
        all_goals
         simp(disch:=omega)only[aG,aa,simprocAttr,e3,e7,e8,e9,iE,lr,Zr,e17,iO,Om,Gt,ba]
         exact⟨hJ,_,_,⟨rfl,rfl⟩,by omega,w8⟩
       ·have:j=w.length:=by omega
        subst this
        rw[aqm,List.foldl_nil] at w8
        simp(disch:=omega)only[aG,aa,simprocAttr,e3,e7,e8,e9,iE,lr,Zr,e17,iO,w8,ba]
        exact⟨_,rfl⟩
      ·rintro s hs
       obtain⟨T,g,rfl,e3,e7,e8,e9,iE,lr,o4,iO⟩:=hs.out
       simp(disch:=omega)only[aG,aa,simprocAttr,e3,e7,e8,e9,iE,lr,iO]
       have pq:=vH (w:=w) (q:=q)
       exact⟨gm,_,_,⟨rfl,rfl⟩,by omega,hc⟩
      ·simp(disch:=omega)only[aG,aa,simprocAttr,e3,e7,e8,e9,iE,lr,iO,apK,aqh,Ah]
       exact⟨_,_,⟨rfl,rfl⟩,by omega,rfl⟩
    ·have:k=L.length:=by omega
     subst this
     rw[aqm,List.foldl_nil] at hc
     simp(disch:=omega)only[aG,aa,simprocAttr,e3,e7,e8,e9,iE,lr,iO,hc,ba]
     exact⟨_,rfl⟩
   ·rintro s hs
    obtain⟨T,g,rfl,o,iO⟩:=hs.out
    simp(disch:=omega)only[aG,aa,simprocAttr,iO]
    exact⟨_,rfl⟩
   ·simp(disch:=omega)only[aG,aa,simprocAttr,apK,aqh,how]
    exact⟨[],true,⟨rfl,rfl⟩,by simp,rfl⟩
 obtain⟨r,h1,o,rfl⟩:=key
 exact⟨o,h1⟩
theorem CN(p:Prog)(mod:Id)(name:fa)(H:ag)(hp:p.mods.length<=1000000)(hd:p.defs.length<=12)(hu:∀ m∈p.mods,m.fY.length<=1000)(hn:name.length<=4611686018427387904)(tG:kN name=none)(Zz:0<(gE p mod).length)(Uo:qV p mod name≠[]):∃ o,az A 9 [.agg (aF p),.agg (an mod),.str name] H=some (.slice (al (qV p mod name)) o,none):=by
 have key:∃ r,az A 9 [.agg (aF p),.agg (an mod),.str name] H=some r/\∃ o,r=(.slice (al (qV p mod name)) o,none):=by
  refine js (fn:=SM) rfl rfl rfl ?_
  unfold SM
  have Ju:=fun x=>Bv p x H hp
  have yH:=fun x f=>GA p x f H hd
  obtain⟨oS,hS⟩:=DK p mod H hp hu
  have hC:=sk name H hn
  have Uq:=sJ (p:=p) (mod:=mod) hu
  have MW:(al (gE p mod)).length=(gE p mod).length:=ba
  obtain⟨oI,hI⟩:=GA p mod name H hd
  have Vo:(al (qV p mod name)).length=(qV p mod name).length:=ba
  simp only[aF,an] at Ju yH hS hI ⊢
  generalize gE p mod=S at *
  rw[II,tG] at hC
  simp only at hC
  have yJ:0<(qV p mod name).length:=aqj.2 Uo
  cases oS<;>cases oI
  all_goals
   simp(disch:=omega)only[aG,aa,simprocAttr,hS,hC,hI,MW,Vo,gt_iff_lt]
   exact⟨_,rfl⟩
 obtain⟨r,h1,o,rfl⟩:=key
 exact⟨o,h1⟩
theorem KS(p:Prog)(mod:Id)(name:fa)(H:ag)(hp:p.mods.length<=1000000)(hd:p.defs.length<=12)(hu:∀ m∈p.mods,m.fY.length<=1000)(hn:name.length<=4611686018427387904):∃ o,az A 9 [.agg (aF p),.agg (an mod),.str name] H=some (.slice (al (iH p mod name)) o,none):=by
 unfold iH
 cases tG:kN name with
 | some r=>exact F6 p mod name H hp hd hu hn r.1 r.2 tG
 | none =>
  simp only
  by_cases Zz:(gE p mod).length=0
  ·have hSe:gE p mod=[]:=List.eq_nil_of_length_eq_zero Zz
   rw[if_neg (by rw[hSe];simp),hSe]
   exact F7 p mod name H hp hd hu hn tG hSe
  ·by_cases Uo:qV p mod name=[]
   ·rw[if_neg (by simp[Uo])]
    exact CP p mod name H hp hd hu hn tG (by omega) Uo
   ·rw[if_pos ⟨by omega,Uo⟩]
    exact CN p mod name H hp hd hu hn tG (by omega) Uo
structure Mk where
 pos:Int
 next:Int
 left:Int
 own:Int
structure Cx where
 mm:Nat
 pm:AV
 pd:AV
 l:List Int
def fG(c:Cx)(m:Mk):List AV:=[c.pm,c.pd,.slice (ints c.l) false,.int .i64 m.pos,.int .i64 m.next,.int .i64 m.left,.int .i64 m.own]
def cm(c:Cx)(m:Mk)(H:ag):ag:=H.set c.mm (.cj (fG c m))
def Oz(a:Nat)(H:ag):Prop:=∀ j cs,a<=j->H[j]?=some (.cj cs)->cs.all (AV.aJ H.length)=true
structure MH (c:Cx) (m:Mk) (H:ag):Prop where
 h0:H[c.mm]?=some (.cj (fG c m))
 out:Oz c.mm H
 hl:∀ n∈c.l,pS n
 fm:(c.pm=.ae\/∃ l n z,c.pm=.sref l 0 n z/\l<H.length)
 fd:(c.pd=.ae\/∃ l n z,c.pd=.sref l 0 n z/\l<H.length)
theorem MH.lt{c:Cx}{m:Mk}{H:ag}(h:MH c m H):c.mm<H.length:=(apw.1 h.h0).1
theorem aw{c:Cx}{m:Mk}{H:ag} : (cm c m H).length=H.length:=by unfold cm;simp
theorem av{c:Cx}{m:Mk}{H:ag} : (cm c m H).take H.length=cm c m H:=aqn (aqJ aw)
theorem aW{c:Cx}{m m' : Mk}{H:ag} : cm c m (cm c m' H)=cm c m H:=by unfold cm;rw[List.set_set]
theorem rW{c:Cx}{m:Mk}{H:ag}(h:c.mm<H.length):(cm c m H)[c.mm]?=some (.cj (fG c m)):=ap5 h
theorem qG{c:Cx}{m:Mk}{H:ag}{j:Nat}(h:c.mm≠j):(cm c m H)[j]?=H[j]?:=ap1 h
theorem pJ{c:Cx}{m:Mk}{H K:ag}(h:c.mm<H.length):cm c m (H++K)=cm c m H++K:=List.set_append_left _ _ h
theorem acT{c:Cx}{m m' : Mk}{b:Nat}(h:(fG c m).all (AV.aJ b)=true):(fG c m').all (AV.aJ b)=true:=by
 simp only[fG,List.all_cons,Bool.and_eq_true] at *
 exact⟨h.1,h.2.1,h.2.2.1,rfl,rfl,rfl,rfl,rfl⟩
theorem MH.set{c:Cx}{m m' : Mk}{H:ag}(h:MH c m H):MH c m' (cm c m' H):=by
 refine⟨rW h.lt,?_,h.hl,by rw[aw];exact h.fm,by rw[aw];exact h.fd⟩
 intro j cs hj fF
 rw[aw]
 by_cases e:c.mm=j
 ·subst e
  rw[rW h.lt] at fF
  cases fF
  exact acT (h.out _ _ (apz _) h.h0)
 ·rw[qG e] at fF
  exact h.out j cs hj fF
theorem Oz.j9{a:Nat}{H:ag}(h:Oz a H){base:Nat}(hb:base=H.length):j9 base a H=true:=by
 subst hb
 unfold Abs.j9
 cases Nat.beq a H.length with
 | true=>rfl
 | false =>
  simp only[apE]
  rw[arp,apA]
  intro o ho
  obtain⟨j,hj,rfl⟩:=List.mem_iff_getElem.1 ho
  rw[List.getElem_drop]
  have:=apy (l:=H) (i:=a+j) (by rw[aro] at hj;omega)
  generalize H[a+j]'(by rw[aro] at hj;omega)=o at *
  cases o with
  | cj cs=>exact h _ cs (by omega) this
  | _=>rfl
theorem MH.open{c:Cx}{m m' : Mk}{H:ag}(h:MH c m H):Abs.j9 H.length c.mm (cm c m' H)=true:=Oz.j9 (h.set (m':=m')).out aw.symm
theorem Lq{c:Cx}{m:Mk}{H:ag}(h:MH c m H)(n:Int)(hn:0<n):∃ x p,0<=x/\x<n/\az A 17 [.ref c.mm 0,.int .i64 n] H=some (.int .i64 x,some ⟨cm c { m with pos:=p } H,c.mm⟩):=by
 refine⟨Zn c.l (IntKind.i64.wrap (IntKind.i64.wrap (m.pos+1)-1)) n,IntKind.i64.wrap (m.pos+1),(fZ hn).1,(fZ hn).2,?_⟩
 refine bT (fn:=Sb) rfl rfl rfl ?_
 unfold Sb
 have h0:=h.h0
 have aU:=h.lt
 have vI:=fun i H=>Io c.l i n H h.hl hn
 have pe:∀ o:ct,(H.set c.mm o)[c.mm]?=some o:=fun o=>ap5 aU
 have cD:=h.open (m':={ m with pos:=IntKind.i64.wrap (m.pos+1) })
 have bC:Nat.beq c.mm H.length=false:=tQ (by omega)
 rw[cm,fG] at cD
 rw[fG] at h0
 rcases h.fm with e1|⟨l1,n1,z1,e1,_⟩<;>rcases h.fd with e2|⟨l2,n2,z2,e2,_⟩
 all_goals
  rw[e1,e2] at h0 cD
  simp(disch:=omega)only[aG,aa,simprocAttr,h0,pe,List.set_set,zx,sK,vI,cm,fG,aY,cD,bC,e1,e2]
  done
def lh(n:Int):Id:=⟨0,1+n / 32,n % 32⟩
theorem ag4{c:Cx}{m:Mk}{H:ag}(h:MH c m H)(hn:0<=m.next/\m.next<=1000000):az A 16 [.ref c.mm 0] H=some (.agg (an (lh m.next)),some ⟨cm c { m with next:=m.next+1 } H,c.mm⟩):=by
 refine bT (fn:=JF) rfl rfl rfl ?_
 unfold JF
 have h0:=h.h0
 have aU:=h.lt
 have pe:∀ o:ct,(H.set c.mm o)[c.mm]?=some o:=fun o=>ap5 aU
 have cD:=h.open (m':={ m with next:=m.next+1 })
 have bC:Nat.beq c.mm H.length=false:=tQ (by omega)
 have e1:m.next+1-1=m.next:=by omega
 rw[cm,fG] at cD
 rw[fG] at h0
 rcases h.fm with e3|⟨l1,n1,z1,e3,_⟩<;>rcases h.fd with e2|⟨l2,n2,z2,e2,_⟩
 all_goals
  rw[e3,e2] at h0 cD
  simp(disch:=omega)only[aG,aa,simprocAttr,h0,pe,List.set_set,zx,sK,cm,fG,aY,cD,bC,e1,e2,e3,an,lh]
  done
theorem ZZ{c:Cx}{m:Mk}{H:ag}(h:MH c m H):∃ (i:Id) (x:Int),i.bK=0/\az A 16 [.ref c.mm 0] H=some (.agg (an i),some ⟨cm c { m with next:=x } H,c.mm⟩):=by
 refine⟨⟨0,IntKind.i64.wrap (1+IntKind.i64.wrap ((IntKind.i64.wrap (IntKind.i64.wrap (m.next+1)-1)).tdiv 32)),(IntKind.i64.wrap (IntKind.i64.wrap (m.next+1)-1)).tmod 32⟩,IntKind.i64.wrap (m.next+1),rfl,?_⟩
 refine bT (fn:=JF) rfl rfl rfl ?_
 unfold JF
 have h0:=h.h0
 have aU:=h.lt
 have pe:∀ o:ct,(H.set c.mm o)[c.mm]?=some o:=fun o=>ap5 aU
 have cD:=h.open (m':={ m with next:=IntKind.i64.wrap (m.next+1) })
 have bC:Nat.beq c.mm H.length=false:=tQ (by omega)
 rw[cm,fG] at cD
 rw[fG] at h0
 rcases h.fm with e3|⟨l1,n1,z1,e3,_⟩<;>rcases h.fd with e2|⟨l2,n2,z2,e2,_⟩
 all_goals
  rw[e3,e2] at h0 cD
  simp(disch:=omega)only[aG,aa,simprocAttr,h0,pe,List.set_set,zx,sK,cm,fG,aY,cD,bC,e2,e3,an]
  try rfl
theorem cb{f:FuncId}{fn:ay}(ho:A.ov f=none)(hf:A.fns f=some fn){args:List AV}{H:ag}{r:AV × Option gk}(hn:Nat.beq args.length fn.np=true)(hm:fn.muts.elem 777777=true)
  (h:W A fn.body { T:=gD args,H,lo:=H.length,gen:=0 } (AO H.length fn.results fun x=>(pB x.1,x.2)=r)):az A f args H=some r:=by
 obtain⟨r',h1,h2⟩:=sg (P:=fun x=>x=r) ho hf hn hm h
 rw[h1,h2]
theorem bX{cs:List AV} : pB (.agg cs)=.agg (cs.map n2):=rfl
theorem ac5{e:List (List AV)} : pB (.slice e false)=.slice (e.map fun r=>r.map n1) false:=rfl
theorem ac6{e:List (List AV)} : pB (.slice e true)=.slice e true:=rfl
theorem cw{k:IntKind}{n:Int} : n2 (.int k n)=.int k n:=rfl
theorem cJ:n2 .ae=.slice [] false:=rfl
theorem fV{e:List (List AV)} : n2 (.slice e false)=.slice (e.map fun r=>r.map n1) false:=rfl
theorem zb{e:List (List AV)} : n2 (.slice e true)=.slice e true:=rfl
theorem Tc{k:IntKind}{n:Int} : n1 (.int k n)=.int k n:=rfl
theorem Te{l:fa} : n1 (.str l)=.str l:=rfl
theorem Z2{e:List (List AV)}{o:Bool} : n1 (.slice e o)=.slice e o:=rfl
def wZ(k:Int)(i:Id)(ks:List (List AV)):List AV:=[.int .i64 k,.int .i64 i.bK,.int .i64 i.seq,.int .i64 i.index,.slice ks false]
theorem JT(k:Int)(i:Id)(ks:List (List AV))(H:ag)(ho:((wZ k i ks).map n1)=wZ k i ks):az A 19 [.agg (wZ k i ks)] H=some (.agg (wZ 2 ⟨0,0,0⟩ [wZ k i ks]),none):=by
 refine cb (fn:=Sg) rfl rfl rfl rfl ?_
 unfold Sg
 rw[wZ] at ho ⊢
 simp(disch:=omega)only[aG,aa,simprocAttr,wZ,bX,cw,fV,ho]
theorem ahf(i:Id)(H:ag):az A 42 [.agg (an i)] H=some (.agg (wZ 3 i []),none):=by
 refine cb (fn:=Sz) rfl rfl rfl rfl ?_
 unfold Sz
 rw[an]
 simp(disch:=omega)only[aG,aa,simprocAttr,wZ,bX,cw,cJ]
theorem drop_drop{v:AV} : v.drop.drop=v.drop:=by cases v<;>rfl
theorem Br{agg:Bool}{sz j:Nat}{r:List AV} : ah false agg sz j r=ah false agg sz j (r.map AV.drop):=by
 unfold ah
 rw[apQ,<- List.map_drop,<- List.map_take,arB,apG]
 have:(AV.drop ∘ AV.drop)=AV.drop:=funext fun v=>drop_drop
 rw[this]
 cases agg with
 | true=>rfl
 | false =>
  simp only[apE,arl]
  cases r[j]? with
  | none=>rfl
  | some v=>simp[drop_drop]
def qM(e:List (List AV)):List (List AV):=e.map fun r=>r.map AV.drop
theorem tz{e f:List (List AV)}{z:Nat}(h:qM e=f)(hf:∀ r∈f,r.length=z):∀ r∈e,r.length=z:=by
 intro r hr
 have:r.map AV.drop∈f:=by rw[<- h];exact List.mem_map_of_mem hr
 simpa using hf _ this
theorem FK{e f:List (List AV)}{i:Nat}{q:List AV}(h:qM e=f)(hi:f[i]?=some q):∃ r,e[i]?=some r/\r.map AV.drop=q:=by
 subst h
 rw[qM,apG] at hi
 cases he:e[i]? with
 | none=>rw[he] at hi;simp at hi
 | some r=>rw[he] at hi;exact⟨r,rfl,by simpa using hi⟩
theorem Ml{e f:List (List AV)}(h:qM e=f):e.length=f.length:=by rw[<- h,qM,apQ]
theorem NC{l:List Mod} : ∀ r∈bD l,r.length=6:=Lo.wide
structure PH (c:Cx) (lm ld:Nat) (M D:List (List AV)) (ms:List Mod) (ds:List Def) (H:ag):Prop where
 pm:c.pm=.sref lm 0 ms.length 6
 pd:c.pd=.sref ld 0 ds.length 31
 hm:H[lm]?=some (.box aL M.flatten)
 hd:H[ld]?=some (.box aL D.flatten)
 rm:qM M=bD ms
 rd:qM D=bz ds
 n1:c.mm≠lm
 n2:c.mm≠ld
theorem PH.set{c:Cx}{lm ld:Nat}{M D:List (List AV)}{ms:List Mod}{ds:List Def}{H:ag}{m:Mk}(h:PH c lm ld M D ms ds H):PH c lm ld M D ms ds (cm c m H) :=
 ⟨h.pm,h.pd,by rw[qG h.n1];exact h.hm,by rw[qG h.n2];exact h.hd,h.rm,h.rd,h.n1,h.n2⟩
theorem PH.app{c:Cx}{lm ld:Nat}{M D:List (List AV)}{ms:List Mod}{ds:List Def}{H K:ag}(h:PH c lm ld M D ms ds H):PH c lm ld M D ms ds (H++K) :=
 ⟨h.pm,h.pd,by rw[apN (apw.1 h.hm).1];exact h.hm,by rw[apN (apw.1 h.hd).1];exact h.hd,h.rm,h.rd,h.n1,h.n2⟩
theorem PH.mod{c:Cx}{lm ld:Nat}{M D:List (List AV)}{ms:List Mod}{ds:List Def}{H:ag}(h:PH c lm ld M D ms ds H){i j sz:Nat}{e:Mod}{agg:Bool}(hi:ms[i]?=some e)(hj:j+sz<=6)(hjz:j<6) :
  ah false agg sz (i*6+j) M.flatten=ah false agg sz j (dw e):=by
 obtain⟨r,h1,h2⟩:=FK h.rm (xu hi)
 rw[gF (tz h.rm NC) h1 (by omega) hj hjz,Br,h2]
theorem PH.def{c:Cx}{lm ld:Nat}{M D:List (List AV)}{ms:List Mod}{ds:List Def}{H:ag}(h:PH c lm ld M D ms ds H){i j sz:Nat}{e:Def}{agg:Bool}(hi:ds[i]?=some e)(hj:j+sz<=31)(hjz:j<31) :
  ah false agg sz (i*31+j) D.flatten=ah false agg sz j (br e):=by
 obtain⟨r,h1,h2⟩:=FK h.rd (qa hi)
 rw[gF (tz h.rd Mj) h1 (by omega) hj hjz,Br,h2]
theorem O8{d:Def} : ah false true 3 0 (br d)=some (.agg (an d.id)):=by
 have:((br d).drop 0).take 3=an d.id:=afH
 simp only[ah,cx,this,cond_true];rfl
theorem O9{d:Def} : ah false true 3 4 (br d)=some (.agg (an d.mod)):=by
 have:((br d).drop 4).take 3=an d.mod:=AN
 simp only[ah,cx,this,cond_true];rfl
theorem O'{d:Def} : ah false true 31 0 (br d)=some (.agg (br d)):=by
 simp only[ah,cx,aqh,cB,cv,cond_true];rfl
theorem acZ{d:Mod} : ah false true 3 0 (dw d)=some (.agg (an d.id)):=by
 have:((dw d).drop 0).take 3=an d.id:=ag'
 simp only[ah,dJ,this,cond_true];rfl
def TyC(t:List AV):Prop:=t.length=5/\t.all dp=true/\t.map n2=t
theorem SW{c:Cx}{ld n:Nat}{D:List (List AV)}{m:Mk}{H:ag}(h:MH c m H)(Bi:c.pd=.sref ld 0 n 31)(wF:c.mm≠ld)(hhd:H[ld]?=some (.box aL D.flatten))(hd:2<=n)(i0 i1:Id)(l0:ah false true 3 (0*31) D.flatten=some (.agg (an i0)))(l1:ah false true 3 (1*31) D.flatten=some (.agg (an i1))) :
  ∃ (t:List AV) (m' : Mk),TyC t/\m'.next=m.next/\m'.own=m.own/\az A 18 [.ref c.mm 0] H=some (.agg t,some ⟨cm c m' H,c.mm⟩):=by
 obtain⟨x,p,rH,hx6,fN⟩:=Lq h 6 (by omega)
 have bC:Nat.beq c.mm H.length=false:=tQ (by have:=h.lt;omega)
 have cD:=h.open (m':={ m with pos:=p })
 have h0:=rW (c:=c) (m:={ m with pos:=p }) h.lt
 have hdd:(cm c { m with pos:=p } H)[ld]?=some (.box aL D.flatten):=by rw[qG wF];exact hhd
 rw[fG,Bi] at h0
 have aU:=h.lt
 rw[ars] at l0
 rw[ark] at l1
 have zO:=fun H=>ahf i0 H
 have qn:=fun H=>ahf i1 H
 have hli:=fun H=>JT 3 i1 [] H rfl
 have Qf:=fun H=>JT 0 ⟨0,0,0⟩ [] H rfl
 have h6:x=0\/x=1\/x=2\/x=3\/x=4\/x=5:=by omega
 simp only[wZ] at zO qn hli Qf
 rw[an] at l0 l1
 simp only[an] at zO qn
 rcases h6 with rfl|rfl|rfl|rfl|rfl|rfl
 ·refine⟨wZ 1 ⟨0,0,0⟩ [],{ m with pos:=p },⟨rfl,rfl,rfl⟩,rfl,rfl,cb (fn:=tL) rfl rfl rfl rfl ?_⟩
  unfold tL
  simp(disch:=omega)only[aG,aa,simprocAttr,fN,aw,av,cD,bC,wZ,bX,cw,cJ]
 ·refine⟨wZ 2 ⟨0,0,0⟩ [wZ 0 ⟨0,0,0⟩ []],{ m with pos:=p },⟨rfl,rfl,rfl⟩,rfl,rfl,cb (fn:=tL) rfl rfl rfl rfl ?_⟩
  unfold tL
  simp(disch:=omega)only[aG,aa,simprocAttr,fN,aw,av,cD,bC,wZ,bX,cw,cJ,Qf,fV,Tc,Z2]
 ·refine⟨wZ 3 i0 [],{ m with pos:=p },⟨rfl,rfl,rfl⟩,rfl,rfl,cb (fn:=tL) rfl rfl rfl rfl ?_⟩
  unfold tL
  simp(disch:=omega)only[aG,aa,simprocAttr,fN,aw,av,cD,bC,wZ,bX,cw,cJ,h0,aY,hdd,l0,zO,fV]
 ·refine⟨wZ 2 ⟨0,0,0⟩ [wZ 3 i1 []],{ m with pos:=p },⟨rfl,rfl,rfl⟩,rfl,rfl,cb (fn:=tL) rfl rfl rfl rfl ?_⟩
  unfold tL
  simp(disch:=omega)only[aG,aa,simprocAttr,fN,aw,av,cD,bC,wZ,bX,cw,cJ,h0,aY,hdd,l1,qn,hli,fV,Tc,Z2]
 ·refine⟨wZ 0 ⟨0,0,0⟩ [],{ m with pos:=p },⟨rfl,rfl,rfl⟩,rfl,rfl,cb (fn:=tL) rfl rfl rfl rfl ?_⟩
  unfold tL
  simp(disch:=omega)only[aG,aa,simprocAttr,fN,aw,av,cD,bC,wZ,bX,cw,cJ]
 ·refine⟨wZ 0 ⟨0,0,0⟩ [],{ m with pos:=p },⟨rfl,rfl,rfl⟩,rfl,rfl,cb (fn:=tL) rfl rfl rfl rfl ?_⟩
  unfold tL
  simp(disch:=omega)only[aG,aa,simprocAttr,fN,aw,av,cD,bC,wZ,bX,cw,cJ]
theorem SV{c:Cx}{lm ld:Nat}{M D:List (List AV)}{ms:List Mod}{ds:List Def}{m:Mk}{H:ag}(h:MH c m H)(hp:PH c lm ld M D ms ds H)(hd:2<=ds.length) :
  ∃ (t:List AV) (m' : Mk),TyC t/\m'.next=m.next/\m'.own=m.own/\az A 18 [.ref c.mm 0] H=some (.agg t,some ⟨cm c m' H,c.mm⟩):=by
 obtain⟨d0,P6⟩:∃ d,ds[0]?=some d:=⟨_,apy (by omega)⟩
 obtain⟨d1,hd1⟩:∃ d,ds[1]?=some d:=⟨_,apy (by omega)⟩
 exact SW h hp.pd hp.n2 hp.hd hd d0.id d1.id ((hp.def (j:=0) P6 (by omega) (by omega)).trans O8) ((hp.def (j:=0) hd1 (by omega) (by omega)).trans O8)
theorem OT(k:Int)(H:ag):az A 20 [.int .i64 k] H=some (.bool (k==2 || k==3 || k==4 || k==5),none):=by
 refine bT (fn:=Sh) rfl rfl rfl ?_
 unfold Sh
 cases h2:(k==2)<;>cases h3:(k==3)<;>cases h4:(k==4)<;>cases h5:(k==5)
 all_goals simp(disch:=omega)only[aG,aa,simprocAttr,h2,h3,h4,h5]
theorem Qz(k:Int)(H:ag):∃ i:Int,0<=i/\i<4/\az A 59 [.int .i64 k] H=some (.int .i64 i,none):=by
 by_cases h3:k=3
 ·refine⟨0,by omega,by omega,bT (fn:=yS) rfl rfl rfl ?_⟩
  unfold yS
  simp(disch:=omega)only[aG,aa,simprocAttr,h3]
 by_cases h7:k=7
 ·refine⟨1,by omega,by omega,bT (fn:=yS) rfl rfl rfl ?_⟩
  unfold yS
  simp(disch:=omega)only[aG,aa,simprocAttr,h7]
 by_cases h8:k=8
 ·refine⟨2,by omega,by omega,bT (fn:=yS) rfl rfl rfl ?_⟩
  unfold yS
  simp(disch:=omega)only[aG,aa,simprocAttr,h8]
 ·refine⟨3,by omega,by omega,bT (fn:=yS) rfl rfl rfl ?_⟩
  unfold yS
  simp(disch:=omega)only[aG,aa,simprocAttr,h3,h7,h8]
structure Vr where
 name:fa
 id:Id
 n:Int
def KL(v:Vr):List AV:=[.str v.name,.int .i64 v.id.bK,.int .i64 v.id.seq,.int .i64 v.id.index,.int .i64 v.n]
def dG(l:List Vr):List (List AV):=l.map KL
theorem ig{l:List Vr} : (dG l).length=l.length:=by simp[dG]
theorem aes{l:List Vr}{i:Nat}{e:Vr}(h:l[i]?=some e):(dG l)[i]?=some (KL e):=by simp[dG,h]
theorem Uf{l:List Vr} : dT 5 (dG l):=fun r hr=>by simp only[dG,ap9] at hr;obtain⟨e,_,rfl⟩:=hr;exact⟨rfl,rfl⟩
theorem zm(l:List Vr)(v:Vr)(H:ag)(hl:l.length<=1000):az A 21 [.slice (dG l) false,.str v.name,.agg (an v.id),.int .i64 v.n] H=some (.slice (dG (l++[v])) true,none):=by
 refine cb (fn:=Si) rfl rfl rfl rfl ?_
 unfold Si
 have h1:bt false 5 48 (.slice [] true) (.slice (dG l) false)=some (.slice (dG l) true):=nE (e:=[]) dT.nil Uf (by omega) (by rw[ig];simp;omega)
 have h2:bt false 5 48 (.slice (dG l) true) (.slice [[.str v.name,.int .i64 v.id.bK,.int .i64 v.id.seq,.int .i64 v.id.index,.int .i64 v.n]] true)=some (.slice (dG (l++[v])) true):=by
  rw[nE Uf (dT.one rfl rfl) (by omega) (by rw[ig];simp;omega)];simp[dG,KL]
 rw[an]
 simp(disch:=omega)only[aG,aa,simprocAttr,h1,h2,ac6]
theorem aee{c:Cx}{lm ld:Nat}{M D:List (List AV)}{ms:List Mod}{ds:List Def}{m:Mk}{H:ag}(h:MH c m H)(hp:PH c lm ld M D ms ds H)(own:Nat)(ho:m.own=own)(hd:own<ds.length)(w9:ds.length<=1000)(hm:0<ms.length)(k1 k2:Int) :
  ∃ (r:AV) (m' : Mk),(r=.tuple [.agg zD,.bool false]\/∃ d∈ds.take own,r=.tuple [.agg (br d),.bool true])/\m'.own=m.own/\az A 58 [.ref c.mm 0,.int .i64 k1,.int .i64 k2] H=some (r,some ⟨cm c m' H,c.mm⟩):=by
 obtain⟨x,p,rH,hx8,fN⟩:=Lq h 8 (by omega)
 have key:∃ r,az A 58 [.ref c.mm 0,.int .i64 k1,.int .i64 k2] H=some r/\((r.1=.tuple [.agg zD,.bool false]\/∃ d∈ds.take own,r.1=.tuple [.agg (br d),.bool true])/\r.2=some ⟨cm c { m with pos:=p } H,c.mm⟩):=by
  refine js (fn:=SG) rfl rfl rfl ?_
  unfold SG
  have bC:Nat.beq c.mm H.length=false:=tQ (by have:=h.lt;omega)
  have cD:=h.open (m':={ m with pos:=p })
  have h0:=rW (c:=c) (m:={ m with pos:=p }) h.lt
  have hdd:(cm c { m with pos:=p } H)[ld]?=some (.box aL D.flatten):=by rw[qG hp.n2];exact hp.hd
  have Ju:(cm c { m with pos:=p } H)[lm]?=some (.box aL M.flatten):=by rw[qG hp.n1];exact hp.hm
  have hlen:=aw (c:=c) (m:={ m with pos:=p }) (H:=H)
  have C6:=av (c:=c) (m:={ m with pos:=p }) (H:=H)
  rw[fG,hp.pd,hp.pm] at h0
  have aU:=h.lt
  obtain⟨m0,VB⟩:∃ d,ms[0]?=some d:=⟨_,apy (by omega)⟩
  obtain⟨do_,hdo⟩:∃ d,ds[own]?=some d:=⟨_,apy (by omega)⟩
  have l0:ah false true 3 0 M.flatten=some (.agg (an m0.id)):=(hp.mod (j:=0) VB (by omega) (by omega)).trans acZ
  have l1:ah false true 3 (own*31+4) D.flatten=some (.agg (an do_.mod)):=(hp.def (j:=4) hdo (by omega) (by omega)).trans O9
  have HZ:decide (0<ms.length)=true:=by simpa using hm
  have Qn:decide (own<ds.length)=true:=by simpa using hd
  generalize cm c { m with pos:=p } H=H1 at *
  rw[an] at l0 l1
  simp only[ho] at h0
  simp(disch:=omega)only[aG,aa,simprocAttr,fN]
  refine bd own 0 (fun i=>mz (fun T=>T 0=.ref c.mm 0/\T 1=.int .i64 k1/\T 2=.int .i64 k2/\T 6=.lbox 0 zD/\T 8=.int .i64 x/\T 9=.int .i64 i) H1 c.mm)
   (mz (fun T=>T 6=.lbox 0 zD) H1 c.mm) (mz (fun T=>∃ d∈ds.take own,T 6=.lbox 0 (br d)/\T 7=.bool true) H1 c.mm) ?_ ?_ ?_ 0 _ (by omega) ?_
  ·rintro i s hi hs
   obtain⟨T,g,rfl,e0,e1,e2,e6,e8,e9⟩:=hs.out
   by_cases jr:i<own
   ·have hx:∃ y:Nat,((i:Int)+x).tmod (own:Int)=y/\y<own:=by
     have h1:0<=((i:Int)+x).tmod (own:Int):=Int.tmod_nonneg _ (by omega)
     have h2:((i:Int)+x).tmod (own:Int)<own:=Int.tmod_lt_of_pos _ (by omega)
     exact⟨(((i:Int)+x).tmod (own:Int)).toNat,by omega,by omega⟩
    obtain⟨y,hy,hyo⟩:=hx
    have hy2:((i:Int)+x) % (own:Int)=y:=by rw[<- LJ (by omega)];exact hy
    have hdy:=apy (l:=ds) (i:=y) (by omega)
    have Qi:ds[y]∈ds.take own:=by
     rw[ap8]
     exact⟨y,by rw[List.getElem?_take_of_lt hyo];exact hdy⟩
    generalize ds[y]=d at *
    have l2:ah false true 31 (y*31) D.flatten=some (.agg (br d)):=(hp.def (j:=0) hdy (by omega) (by omega)).trans O'
    have h3:=afI (d:=d)
    have h4:=AN (d:=d)
    rw[an] at h4
    have hyl:decide (y<ds.length)=true:=by simp;omega
    have Na:¬ ((own:Int)=0):=by omega
    have e6':=e6
    rw[zD] at e6'
    cases c1:(d.kind==k1)<;>cases c2:(d.kind==k2)<;>cases c3:(d.mod==m0.id)<;>cases c4:(d.mod==do_.mod)
    all_goals
     simp(disch:=omega)only[aG,aa,simprocAttr,e0,e1,e2,e6',e8,e9,h0,aY,hdd,Ju,hy,hy2,l0,l1,l2,h3,h4,cx,cv,cB,cd,di,hyl,HZ,Qn,dr,fu,c1,c2,c3,c4,Na]
     first|exact⟨jr,rfl⟩|exact⟨d,Qi,rfl⟩|exact jr
   ·have:i=own:=by omega
    subst this
    simp(disch:=omega)only[aG,aa,simprocAttr,e0,e1,e2,e6,e8,e9,h0,aY]
  ·rintro s hs
   obtain⟨T,g,rfl,e6⟩:=hs.out
   rw[zD] at e6
   simp(disch:=omega)only[aG,aa,simprocAttr,e6,hlen,C6,cD,bC]
   exact .inl rfl
  ·rintro s hs
   obtain⟨T,g,rfl,d,hd,e6,e7⟩:=hs.out
   simp(disch:=omega)only[aG,aa,simprocAttr,e6,e7,hlen,C6,cD,bC,cx,cv,cB,cd,di]
   exact .inr ⟨d,hd,rfl⟩
  ·simp(disch:=omega)only[aG,aa,simprocAttr,zD,apK]
 obtain⟨⟨r1,r2⟩,h1,h2,h3⟩:=key
 simp only at h2 h3
 subst h3
 exact⟨r1,{ m with pos:=p },h2,rfl,h1⟩
section
structure GH (c:Cx) (lm ld:Nat) (M D:List (List AV)) (ms:List Mod) (ds:List Def) (own:Nat) (H:ag):Prop where
 mh:∀ m,MH c m (cm c m H)
 lt:c.mm<H.length
 ph:PH c lm ld M D ms ds H
 ol:own<ds.length
 dl:ds.length<=1000
 ml:0<ms.length
 sl:∀ d∈ds.take own,1<=d.aZ.length/\d.aZ.length<=10
section
variable {c:Cx}{lm ld:Nat}{M D:List (List AV)}{ms:List Mod}{ds:List Def}{own:Nat}{H:ag}
theorem GH.of(m0:Mk)(h:MH c m0 H)(hp:PH c lm ld M D ms ds H)(h1:own<ds.length)(h2:ds.length<=1000)(h3:0<ms.length)(h4:∀ d∈ds.take own,1<=d.aZ.length/\d.aZ.length<=10):GH c lm ld M D ms ds own H :=
 ⟨fun m=>h.set,h.lt,hp,h1,h2,h3,h4⟩
theorem GH.ph'(g:GH c lm ld M D ms ds own H)(m:Mk):PH c lm ld M D ms ds (cm c m H):=g.ph.set
theorem GH.open(g:GH c lm ld M D ms ds own H)(m:Mk):Abs.j9 H.length c.mm (cm c m H)=true:=Oz.j9 (g.mh m).out aw.symm
theorem GH.get(g:GH c lm ld M D ms ds own H)(m:Mk):(cm c m H)[c.mm]?=some (.cj (fG c m)):=rW g.lt
theorem GH.ne(g:GH c lm ld M D ms ds own H):Nat.beq c.mm H.length=false:=tQ (by have:=g.lt;omega)
theorem rO(g:GH c lm ld M D ms ds own H)(m:Mk)(n:Int)(hn:0<n):∃ x p,0<=x/\x<n/\az A 17 [.ref c.mm 0,.int .i64 n] (cm c m H)=some (.int .i64 x,some ⟨cm c { m with pos:=p } H,c.mm⟩):=by
 obtain⟨x,p,h1,h2,h3⟩:=Lq (g.mh m) n hn
 rw[aW] at h3
 exact⟨x,p,h1,h2,h3⟩
theorem yL(g:GH c lm ld M D ms ds own H)(m:Mk):∃ (i:Id) (x:Int),i.bK=0/\az A 16 [.ref c.mm 0] (cm c m H)=some (.agg (an i),some ⟨cm c { m with next:=x } H,c.mm⟩):=by
 obtain⟨i,x,h1,h3⟩:=ZZ (g.mh m)
 rw[aW] at h3
 exact⟨i,x,h1,h3⟩
theorem acK(g:GH c lm ld M D ms ds own H)(m:Mk)(h2:2<=ds.length):∃ (t:List AV) (m' : Mk),TyC t/\m'.next=m.next/\m'.own=m.own/\az A 18 [.ref c.mm 0] (cm c m H)=some (.agg t,some ⟨cm c m' H,c.mm⟩):=by
 obtain⟨t,m',h1,h2,h3,h4⟩:=SV (g.mh m) (g.ph' m) h2
 rw[aW] at h4
 exact⟨t,m',h1,h2,h3,h4⟩
theorem TR(g:GH c lm ld M D ms ds own H)(m:Mk)(ho:m.own=own)(k1 k2:Int) :
  ∃ (r:AV) (m' : Mk),(r=.tuple [.agg zD,.bool false]\/∃ d∈ds.take own,r=.tuple [.agg (br d),.bool true])/\m'.own=m.own/\az A 58 [.ref c.mm 0,.int .i64 k1,.int .i64 k2] (cm c m H)=some (r,some ⟨cm c m' H,c.mm⟩):=by
 obtain⟨r,m',h1,h2,h3⟩:=aee (g.mh m) (g.ph' m) own ho g.ol g.dl g.ml k1 k2
 rw[aW] at h3
 exact⟨r,m',h1,h2,h3⟩
theorem HF(m:Mk)(v:Int)(pm pd:AV)(h1:c.pm=pm)(h2:c.pd=pd):(cm c m H).set c.mm (.cj [pm,pd,.slice (ints c.l) false,.int .i64 m.pos,.int .i64 m.next,.int .i64 v,.int .i64 m.own])=cm c { m with left:=v } H:=by
 subst h1 h2
 unfold cm
 rw[List.set_set];rfl
end
def Dh(i:Id)(k n:Int)(r:Id)(t:List AV)(ht:TyC t)(ks:List Ex)(ns:List fa):Ex :=
 .mk i ⟨[.int .i64 k,.int .i64 n,.int .i64 r.bK,.int .i64 r.seq,.int .i64 r.index]++t,by simp[ht.1],by rw[arX,ht.2.1];rfl⟩ ks ns
def tyZ:List AV:=wZ 0 ⟨0,0,0⟩ []
theorem aer:TyC tyZ:=⟨rfl,rfl,rfl⟩
theorem l5{i:Id}{k n:Int}{r:Id}{t:List AV}{ht:TyC t}{ks:List Ex}{ns:List fa} : bk (Dh i k n r t ht ks ns)=[.int .i64 i.bK,.int .i64 i.seq,.int .i64 i.index,.int .i64 k,.int .i64 n,.int .i64 r.bK,.int .i64 r.seq,.int .i64 r.index]++t++[.slice (bE ks) false,.slice (strs ns) false]:=by
 simp[Dh,rq,Ex.id,Ex.Xy,Ex.kids,Ex.names,an]
def GZ(i:Id)(k n:Int)(r:Id)(ks:List Ex)(ns:List fa):Ex:=Dh i k n r tyZ aer ks ns
theorem cO{i:Id}{k n:Int}{r:Id}{ks:List Ex}{ns:List fa} : bk (GZ i k n r ks ns)=[.int .i64 i.bK,.int .i64 i.seq,.int .i64 i.index,.int .i64 k,.int .i64 n,.int .i64 r.bK,.int .i64 r.seq,.int .i64 r.index,.int .i64 0,.int .i64 0,.int .i64 0,.int .i64 0,.slice [] false,.slice (bE ks) false,.slice (strs ns) false]:=l5
inductive BE:Ex->Prop where
 | mk (e:Ex) (h0:(bk e).map n2=bk e) (h1:e.kids.length<=1000) (h2:e.names.length<=1000) (h3:∀ k∈e.kids,BE k):BE e
structure EN (e:Ex):Prop where
 n:(bk e).map n2=bk e
 b:BE e
theorem aha{x:AV}(h:n2 x=x):n1 x=x:=by
 cases x<;>first|rfl|(simp[n2] at h)
theorem Td:∀ {l:List AV},l.map n2=l->l.map n1=l
 | [],_=>rfl
 | a :: l,h=>by
  simp only[apZ,aqT] at h ⊢
  exact⟨aha h.1,Td h.2⟩
theorem EN.n1{e:Ex}(h:EN e):(bk e).map Abs.n1=bk e:=Td h.n
theorem gY{l:List Ex}(h:∀ e∈l,EN e):(bE l).map (fun r=>r.map n1)=bE l:=by
 rw[lG,arB]
 exact apY fun e he=>(h e he).n1
theorem kM{l:List fa} : (strs l).map (fun r=>r.map n1)=strs l:=by
 rw[strs,arB];rfl
theorem gP{i:Id}{k n:Int}{r:Id}{t:List AV}{ht:TyC t}{ks:List Ex}{ns:List fa}(h:∀ k∈ks,EN k)(hk:ks.length<=1000:=by simp)(hn:ns.length<=1000:=by simp):EN (Dh i k n r t ht ks ns):=by
 have h0:(bk (Dh i k n r t ht ks ns)).map n2=bk (Dh i k n r t ht ks ns):=by
  rw[l5]
  simp only[arK,apZ,aqe,ht.2.2,cw,fV,gY h,kM]
 exact⟨h0,.mk _ h0 hk hn fun k hk=>(h k hk).b⟩
section
variable {c:Cx}{lm ld:Nat}{M D:List (List AV)}{ms:List Mod}{ds:List Def}{own:Nat}{H:ag}
def ua(c:Cx)(H:ag)(n:Int)(env:List Vr)(m:Mk):Prop:=∃ (e:Ex) (m' : Mk),EN e/\m'.own=m.own/\az A 22 [.ref c.mm 0,.slice (dG env) false,.int .i64 n] (cm c m H)=some (.agg (bk e),some ⟨cm c m' H,c.mm⟩)
theorem yh(g:GH c lm ld M D ms ds own H)(n:Int)(env:List Vr)(m:Mk)(hn:pS n)(he:env.length<=1000)(x p:Int)(rH:0<=x)(hx:x<16)
  (fN:az A 17 [.ref c.mm 0,.int .i64 16] (cm c m H)=some (.int .i64 x,some ⟨cm c { m with pos:=p } H,c.mm⟩))
  (hc:n<=0\/IntKind.i64.wrap (m.left-1)<=0\/x<5):ua c H n env m:=by
 have bC:=g.ne
 have aU:=g.lt
 have cD:=fun m=>g.open m
 have gr:(bif decide (c.mm<c.mm) then c.mm else c.mm)=c.mm:=by simp
 have fQ:=fun m=>g.get m
 have dI:=fun (m:Mk) (v:Int)=>HF (c:=c) (H:=H) m v _ _ g.ph.pm g.ph.pd
 simp only[fG,g.ph.pd,g.ph.pm] at fQ
 have fT:=dI { m with pos:=p } (IntKind.i64.wrap (m.left-1))
 have hh:∀ (P:Prop),(∀ (b2 b1:Bool),(decide (n<=0)=true\/(decide (n<=0)=false/\(decide (IntKind.i64.wrap (m.left-1)<=0)=true\/(decide (IntKind.i64.wrap (m.left-1)<=0)=false/\decide (x<5)=true))))->P)->P:=by
  intro P hP
  refine hP true true ?_
  by_cases h1:n<=0
  ·exact .inl (by simpa using h1)
  ·by_cases h2:IntKind.i64.wrap (m.left-1)<=0
   ·exact .inr ⟨by simpa using h1,.inl (by simpa using h2)⟩
   ·exact .inr ⟨by simpa using h1,.inr ⟨by simpa using h2,by simp;omega⟩⟩
 by_cases hv:0<env.length/\x≠1/\x≠2
 ·obtain⟨y,p2,K',Qx,dz⟩:=rO g { m with pos:=p,left:=IntKind.i64.wrap (m.left-1) } env.length (by omega)
  obtain⟨i,nx,hi,hid⟩:=yL g { m with pos:=p2,left:=IntKind.i64.wrap (m.left-1) }
  obtain⟨z,rfl⟩:∃ z:Nat,y=z:=⟨y.toNat,by omega⟩
  have hz:=apy (l:=env) (i:=z) (by omega)
  generalize env[z]=v at hz
  have hzz:=aes hz
  rw[KL] at hzz
  rw[an] at hid
  refine⟨GZ i 2 v.n v.id [] [],{ m with pos:=p2,left:=IntKind.i64.wrap (m.left-1),next:=nx },gP (by simp),rfl,?_⟩
  refine cb (fn:=im) rfl rfl rfl rfl ?_
  unfold im
  refine hh _ fun _ _ hc=>?_
  rcases hc with h1|⟨h1,h2|⟨h2,h3⟩⟩
  ·simp(disch:=omega)only[aG,aa,simprocAttr,fN,dz,hid,fQ,fT,aw,av,cD,bC,gr,ig,aY,cO,bX,cw,cJ,dj,strs,hzz,h1]
  ·simp(disch:=omega)only[aG,aa,simprocAttr,fN,dz,hid,fQ,fT,aw,av,cD,bC,gr,ig,aY,cO,bX,cw,cJ,dj,strs,hzz,h1,h2]
  ·simp(disch:=omega)only[aG,aa,simprocAttr,fN,dz,hid,fQ,fT,aw,av,cD,bC,gr,ig,aY,cO,bX,cw,cJ,dj,strs,hzz,h1,h2,h3]
 ·
  have aoi:env.length=0\/x=1\/x=2:=by omega
  have alR:(0<env.length)\/env.length=0:=by omega
  have A' : (x != 1)=decide (x≠1):=by by_cases e:x=1<;>simp[e]
  have jd:(x != 2)=decide (x≠2):=by by_cases e:x=2<;>simp[e]
  have hv3:(env.length=0)\/(0<env.length/\x=1)\/(0<env.length/\x=2):=by omega
  by_cases bf:x % 2=0
  ·obtain⟨i,nx,hi,hid⟩:=yL g { m with pos:=p,left:=IntKind.i64.wrap (m.left-1) }
   obtain⟨y,p2,K',Qx,dz⟩:=rO g { m with pos:=p,left:=IntKind.i64.wrap (m.left-1),next:=nx } 2 (by omega)
   rw[an] at hid
   refine⟨GZ i 1 y ⟨0,0,0⟩ [] [],{ m with pos:=p2,left:=IntKind.i64.wrap (m.left-1),next:=nx },gP (by simp),rfl,?_⟩
   refine cb (fn:=im) rfl rfl rfl rfl ?_
   unfold im
   refine hh _ fun _ _ hc=>?_
   rcases hv3 with hv|⟨hv,rfl⟩|⟨hv,rfl⟩
   ·have hz:(env.length:Int)=0:=by omega
    rcases hc with h1|⟨h1,h2|⟨h2,h3⟩⟩
    ·simp(disch:=omega)only[aG,aa,simprocAttr,fN,dz,hid,fQ,fT,aw,av,cD,bC,gr,ig,aY,cO,bX,cw,cJ,dj,strs,hz,bf,gt_iff_lt,Int.lt_irrefl,h1]
    ·simp(disch:=omega)only[aG,aa,simprocAttr,fN,dz,hid,fQ,fT,aw,av,cD,bC,gr,ig,aY,cO,bX,cw,cJ,dj,strs,hz,bf,gt_iff_lt,Int.lt_irrefl,h1,h2]
    ·simp(disch:=omega)only[aG,aa,simprocAttr,fN,dz,hid,fQ,fT,aw,av,cD,bC,gr,ig,aY,cO,bX,cw,cJ,dj,strs,hz,bf,gt_iff_lt,Int.lt_irrefl,h1,h2,h3]
   ·omega
   ·have hz:(0:Int)<env.length:=by omega
    rcases hc with h1|⟨h1,h2|⟨h2,h3⟩⟩
    ·simp(disch:=omega)only[aG,aa,simprocAttr,fN,dz,hid,fQ,fT,aw,av,cD,bC,gr,ig,aY,cO,bX,cw,cJ,dj,strs,hz,bf,gt_iff_lt,bne_self_eq_false,h1]
    ·simp(disch:=omega)only[aG,aa,simprocAttr,fN,dz,hid,fQ,fT,aw,av,cD,bC,gr,ig,aY,cO,bX,cw,cJ,dj,strs,hz,bf,gt_iff_lt,bne_self_eq_false,h1,h2]
    ·simp(disch:=omega)only[aG,aa,simprocAttr,fN,dz,hid,fQ,fT,aw,av,cD,bC,gr,ig,aY,cO,bX,cw,cJ,dj,strs,hz,bf,gt_iff_lt,bne_self_eq_false,h1,h2,h3]
  ·obtain⟨i,nx,hi,hid⟩:=yL g { m with pos:=p,left:=IntKind.i64.wrap (m.left-1) }
   obtain⟨y,p2,K',Qx,dz⟩:=rO g { m with pos:=p,left:=IntKind.i64.wrap (m.left-1),next:=nx } 20 (by omega)
   rw[an] at hid
   refine⟨GZ i 0 (y-9) ⟨0,0,0⟩ [] [],{ m with pos:=p2,left:=IntKind.i64.wrap (m.left-1),next:=nx },gP (by simp),rfl,?_⟩
   refine cb (fn:=im) rfl rfl rfl rfl ?_
   unfold im
   refine hh _ fun _ _ hc=>?_
   rcases hv3 with hv|⟨hv,rfl⟩|⟨hv,rfl⟩
   ·have hz:(env.length:Int)=0:=by omega
    rcases hc with h1|⟨h1,h2|⟨h2,h3⟩⟩
    ·simp(disch:=omega)only[aG,aa,simprocAttr,fN,dz,hid,fQ,fT,aw,av,cD,bC,gr,ig,aY,cO,bX,cw,cJ,dj,strs,hz,bf,gt_iff_lt,Int.lt_irrefl,h1]
    ·simp(disch:=omega)only[aG,aa,simprocAttr,fN,dz,hid,fQ,fT,aw,av,cD,bC,gr,ig,aY,cO,bX,cw,cJ,dj,strs,hz,bf,gt_iff_lt,Int.lt_irrefl,h1,h2]
    ·simp(disch:=omega)only[aG,aa,simprocAttr,fN,dz,hid,fQ,fT,aw,av,cD,bC,gr,ig,aY,cO,bX,cw,cJ,dj,strs,hz,bf,gt_iff_lt,Int.lt_irrefl,h1,h2,h3]
   ·have hz:(0:Int)<env.length:=by omega
    rcases hc with h1|⟨h1,h2|⟨h2,h3⟩⟩
    ·simp(disch:=omega)only[aG,aa,simprocAttr,fN,dz,hid,fQ,fT,aw,av,cD,bC,gr,ig,aY,cO,bX,cw,cJ,dj,strs,hz,bf,gt_iff_lt,bne_self_eq_false,h1]
    ·simp(disch:=omega)only[aG,aa,simprocAttr,fN,dz,hid,fQ,fT,aw,av,cD,bC,gr,ig,aY,cO,bX,cw,cJ,dj,strs,hz,bf,gt_iff_lt,bne_self_eq_false,h1,h2]
    ·simp(disch:=omega)only[aG,aa,simprocAttr,fN,dz,hid,fQ,fT,aw,av,cD,bC,gr,ig,aY,cO,bX,cw,cJ,dj,strs,hz,bf,gt_iff_lt,bne_self_eq_false,h1,h2,h3]
   ·omega
end
end
section
section
variable {c:Cx}{lm ld:Nat}{M D:List (List AV)}{ms:List Mod}{ds:List Def}{own:Nat}{H:ag}
theorem Y2(n:Int)(env:List Vr)(H:ag)(r:AV):∃ o,az A 43 [.ref c.mm 0,.int .i64 0,.slice (dG env) false,.int .i64 n] H=some (.slice [] o,none):=by
 have key:∃ r,az A 43 [.ref c.mm 0,.int .i64 0,.slice (dG env) false,.int .i64 n] H=some r/\∃ o,r=(.slice [] o,none):=by
  refine sg (fn:=JG) rfl rfl rfl rfl ?_
  unfold JG
  simp(disch:=omega)only[aG,aa,simprocAttr]
  refine bd 0 0 (fun j=>Hd (fun T=>T 1=.int .i64 0/\T 9=.slice [] true/\T 10=.int .i64 0) H H.length 0) (Hd (fun T=>T 9=.slice [] true) H H.length 0) (fun _=>False) ?_ ?_ (fun _ h=>h.elim) 0 _ (by omega) ?_
  ·rintro j s hj hs
   obtain⟨T,rfl,e1,e9,iE⟩:=hs.out
   simp(disch:=omega)only[aG,aa,simprocAttr,e1,e9,iE,Int.lt_irrefl]
  ·rintro s hs
   obtain⟨T,rfl,e9⟩:=hs.out
   simp(disch:=omega)only[aG,aa,simprocAttr,e9]
   exact⟨_,rfl⟩
  ·simp(disch:=omega)only[aG,aa,simprocAttr]
 obtain⟨r,h1,o,rfl⟩:=key
 exact⟨o,h1⟩
theorem qH(g:GH c lm ld M D ms ds own H)(n:Int)(env:List Vr)(k:Nat)(ZH:1<=k)(hk:k<=1000)(ih:∀ m,m.own=(own:Int)->ua c H n env m)(m:Mk)(ho:m.own=(own:Int)) :
  ∃ (es:List Ex) (m' : Mk),es.length=k/\(∀ e∈es,EN e)/\m'.own=m.own/\az A 43 [.ref c.mm 0,.int .i64 k,.slice (dG env) false,.int .i64 n] (cm c m H)=some (.slice (bE es) false,some ⟨cm c m' H,c.mm⟩):=by
 have key:∃ r,az A 43 [.ref c.mm 0,.int .i64 k,.slice (dG env) false,.int .i64 n] (cm c m H)=some r/\∃ (es:List Ex) (m' : Mk),es.length=k/\(∀ e∈es,EN e)/\m'.own=m.own/\r=(.slice (bE es) false,some ⟨cm c m' H,c.mm⟩):=by
  refine sg (fn:=JG) rfl rfl rfl rfl ?_
  unfold JG
  have bC:=g.ne
  have aU:=g.lt
  have cD:=fun m=>g.open m
  have gr:(bif decide (c.mm<c.mm) then c.mm else c.mm)=c.mm:=by simp
  simp(disch:=omega)only[aG,aa,simprocAttr,aw]
  refine bd k 0 (fun j s=>∃ T m' es lo,s=⟨T,cm c m' H,lo,0⟩/\m'.own=m.own/\es.length=j/\(∀ e∈es,EN e)/\(lo=c.mm\/(lo=H.length/\j=0))/\T 0=.ref c.mm 0/\T 1=.int .i64 k/\T 2=.slice (dG env) false/\T 3=.int .i64 n/\T 9=.slice (bE es) true/\T 10=.int .i64 j)
   (fun s=>∃ T m' es,s=⟨T,cm c m' H,c.mm,0⟩/\m'.own=m.own/\es.length=k/\(∀ e∈es,EN e)/\T 9=.slice (bE es) true) (fun _=>False) ?_ ?_ (fun _ h=>h.elim) 0 _ (by omega) ?_
  ·rintro j s hj ⟨T,m1,es,lo,rfl,qn,rB,gp,qO,e0,e1,e2,e3,e9,iE⟩
   by_cases hJ:j<k
   ·obtain⟨e,m2,he,qW,hx⟩:=ih m1 (by rw[qn,ho])
    have jq:=Ik (l:=es) (e:=e) (o:=true) (by omega)
    have akb:(bif decide (c.mm<lo) then c.mm else lo)=c.mm:=by
     rcases qO with rfl|⟨rfl,_⟩
     ·simp
     ·simp[aU]
    simp(disch:=omega)only[aG,aa,simprocAttr,bW,bZ,bF,ca,cM,bB,dQ,aw,av,aW,e0,e1,e2,e3,e9,iE,hx,jq,akb]
    exact⟨hJ,_,m2,es++[e],_,rfl,by rw[qW,qn],by simp[rB],fun x hx=>(apC.1 hx).elim (gp x) (fun h=>by rw[apI.1 h];exact he),.inl rfl,by simp(disch:=omega)only[aG,aa,simprocAttr,bW,bZ,bF,ca,cM,bB,dQ,aw,av,aW,e0,e1,e2,e3,e9,iE]⟩
   ·have:j=k:=by omega
    subst this
    have abu:lo=c.mm:=by rcases qO with h|⟨_,h⟩;exact h;omega
    subst abu
    simp(disch:=omega)only[aG,aa,simprocAttr,e0,e1,e2,e3,e9,iE]
    exact⟨_,m1,es,rfl,qn,rB,gp,by simp(disch:=omega)only[aG,aa,simprocAttr,bW,bZ,bF,ca,cM,bB,dQ,aw,av,aW,e9]⟩
  ·rintro s ⟨T,m1,es,rfl,qn,rB,gp,e9⟩
   simp(disch:=omega)only[aG,aa,simprocAttr,e9,aw,av,cD,bC]
   exact⟨es,m1,rB,gp,qn,by rw[ac5,gY gp];trivial⟩
  ·exact⟨_,m,[],_,rfl,rfl,rfl,by simp,.inr ⟨rfl,rfl⟩,by simp(disch:=omega)only[aG,aa,simprocAttr,apK,dj]⟩
 obtain⟨r,h1,es,m',h2,h3,h4,rfl⟩:=key
 exact⟨es,m',h2,h3,h4,h1⟩
def Kx(f:FuncId)(c:Cx)(H:ag)(k n:Int)(env:List Vr)(m:Mk):Prop:=∃ (e:Ex) (m' : Mk),EN e/\m'.own=m.own/\az A f [.ref c.mm 0,.int .i64 k,.slice (dG env) false,.int .i64 n] (cm c m H)=some (.agg (bk e),some ⟨cm c m' H,c.mm⟩)
theorem rL(g:GH c lm ld M D ms ds own H)(k n:Int)(env:List Vr)(ih:∀ m,m.own=(own:Int)->ua c H n env m)(m:Mk)(ho:m.own=(own:Int)):Kx 45 c H k n env m:=by
 have bC:=g.ne
 have aU:=g.lt
 have cD:=fun m=>g.open m
 have gr:(bif decide (c.mm<c.mm) then c.mm else c.mm)=c.mm:=by simp
 obtain⟨i,nx,hi,hid⟩:=yL g m
 obtain⟨ix,anp,anq,ZG⟩:=Qz k (cm c { m with next:=nx } H)
 rw[an] at hid
 obtain⟨one,wH,alN⟩:∃ one:Int,([[AV.int .i64 2],[AV.int .i64 0],[AV.int .i64 0],[AV.int .i64 1]]:List (List AV))[ix.toNat]?=some [.int .i64 one]/\(one=2\/one=0\/one=1):=by
  have h:ix=0\/ix=1\/ix=2\/ix=3:=by omega
  rcases h with rfl|rfl|rfl|rfl
  ·exact⟨2,rfl,.inl rfl⟩
  ·exact⟨0,rfl,.inr (.inl rfl)⟩
  ·exact⟨0,rfl,.inr (.inl rfl)⟩
  ·exact⟨1,rfl,.inr (.inr rfl)⟩
 have agO:=fun k2=>TR g { m with next:=nx } ho one k2
 have hzt:zD.map AV.drop=zD:=rfl
 have hzf:zD.all aq=true:=rfl
 have rE:∃ k2:Int,(one=2/\k2=5)\/(one≠2/\k2=one):=by
  by_cases h:one=2
  ·exact⟨5,.inl ⟨h,rfl⟩⟩
  ·exact⟨one,.inr ⟨h,rfl⟩⟩
 obtain⟨k2,hk2⟩:=rE
 obtain⟨r,m1,hr,qn,zQ⟩:=agO k2
 rcases hr with rfl|⟨d,hd,rfl⟩
 ·refine⟨GZ i 1 1 ⟨0,0,0⟩ [] [],m1,gP (by simp),qn,cb (fn:=Da) rfl rfl rfl rfl ?_⟩
  unfold Da
  rw[zD] at zQ
  rcases hk2 with ⟨rfl,rfl⟩|⟨h2,rfl⟩
  ·simp(disch:=omega)only[aG,aa,simprocAttr,hid,ZG,wH,zQ,aw,av,cD,bC,gr,cO,bX,cw,cJ,dj,strs]
  ·simp(disch:=omega)only[aG,aa,simprocAttr,hid,ZG,wH,zQ,h2,aw,av,cD,bC,gr,cO,bX,cw,cJ,dj,strs]
 ·obtain⟨Bk,Ot⟩:=g.sl d hd
  have Qm:m1.own=(own:Int):=by rw[qn];exact ho
  have h0:=rp (d:=d)
  have h8:=O6 (d:=d)
  rw[an] at h0
  by_cases hk:k=8\/k=9
  ·obtain⟨y,p2,K',Qx,dz⟩:=rO g m1 d.aZ.length (by omega)
   obtain⟨es,m3,rB,gp,wG,kG⟩:=qH g n env 1 (by omega) (by omega) ih { m1 with pos:=p2 } Qm
   have oc:=gY gp
   refine⟨GZ i k y d.id es [],m3,gP gp (by omega),by rw[wG];exact qn,cb (fn:=Da) rfl rfl rfl rfl ?_⟩
   unfold Da
   have iJ:az A 43 [.ref c.mm 0,.int .i64 1,.slice (dG env) false,.int .i64 n] (cm c { m1 with pos:=p2 } H)=some (.slice (bE es) false,some ⟨cm c m3 H,c.mm⟩):=kG
   have K2:(k==8)=true\/((k==8)=false/\(k==9)=true):=by rcases hk with rfl|rfl<;>decide
   rcases hk2 with ⟨rfl,rfl⟩|⟨h2,rfl⟩<;>rcases K2 with hb|⟨hb,jd⟩
   ·simp(disch:=omega)only[aG,aa,simprocAttr,hid,ZG,wH,zQ,aw,av,cD,bC,gr,cO,bX,cw,cJ,fV,oc,strs,cx,cv,cB,cd,di,h0,h8,dz,iJ,fA,hb]
   ·simp(disch:=omega)only[aG,aa,simprocAttr,hid,ZG,wH,zQ,aw,av,cD,bC,gr,cO,bX,cw,cJ,fV,oc,strs,cx,cv,cB,cd,di,h0,h8,dz,iJ,fA,hb,jd]
   ·simp(disch:=omega)only[aG,aa,simprocAttr,hid,ZG,wH,zQ,h2,aw,av,cD,bC,gr,cO,bX,cw,cJ,fV,oc,strs,cx,cv,cB,cd,di,h0,h8,dz,iJ,fA,hb]
   ·simp(disch:=omega)only[aG,aa,simprocAttr,hid,ZG,wH,zQ,h2,aw,av,cD,bC,gr,cO,bX,cw,cJ,fV,oc,strs,cx,cv,cB,cd,di,h0,h8,dz,iJ,fA,hb,jd]
  ·obtain⟨es,m3,rB,gp,wG,kG⟩:=qH g n env d.aZ.length (by omega) (by omega) ih m1 Qm
   have oc:=gY gp
   refine⟨GZ i k 0 d.id es [],m3,gP gp (by omega),by rw[wG];exact qn,cb (fn:=Da) rfl rfl rfl rfl ?_⟩
   unfold Da
   have hb:(k==8)=false:=by simp;omega
   have jd:(k==9)=false:=by simp;omega
   rcases hk2 with ⟨rfl,rfl⟩|⟨h2,rfl⟩
   ·simp(disch:=omega)only[aG,aa,simprocAttr,hid,ZG,wH,zQ,aw,av,cD,bC,gr,cO,bX,cw,cJ,fV,oc,strs,cx,cv,cB,cd,di,h0,h8,kG,fA,hb,jd]
   ·simp(disch:=omega)only[aG,aa,simprocAttr,hid,ZG,wH,zQ,h2,aw,av,cD,bC,gr,cO,bX,cw,cJ,fV,oc,strs,cx,cv,cB,cd,di,h0,h8,kG,fA,hb,jd]
end
end
section
theorem XX{x:AV}{H:ag}{base k:Nat}(h:x.aJ base=true):fh H base k x=x:=by
 cases k with
 | zero=>rfl
 | succ k =>
  cases x with
  | sref l o n z =>
   have:Nat.ble base l=false:=by
    simp only[AV.aJ,ap0] at h
    cases hb:Nat.ble base l with
    | false=>rfl
    | true=>rw[Nat.ble_eq] at hb;omega
   simp only[fh,this,apE]
  | _=>rfl
theorem CA(cs:List AV):(cs.map AV.drop).map AV.drop=cs.map AV.drop:=by
 rw[arB];exact apY fun x _=>drop_drop
theorem vD{base tc n g:Nat}{fn:ay}{s:AS}{cs:List AV}(hr:fn.results=[.cell tc true n])(m8:fn.muts.elem 888888=false)
  (hT:s.T tc=.lbox g cs) (hn:cs.length=n) (cD:j9 base s.lo s.H=true) (mJ:((cs.map AV.drop).map (fh s.H base 3)).all AV.plain=true) :
  kX base fn s=some (.agg ((cs.map AV.drop).map (fh s.H base 3)),cond (Nat.beq s.lo base) none (some ⟨s.H.take base,s.lo⟩)):=by
 have h1:nV base s=true:=cD
 have hc:iZ s (.cell tc true n)=some (.agg (cs.map AV.drop)):=by
  simp only[iZ,hT,ah,cond_true,Nat.zero_add,hn,aqk (apz _),aqh]
  rw[<- hn,arp]
 unfold kX sn ou
 rw[h1,m8,hr]
 simp only[cond_true,apE]
 have hd:AV.aX (.agg (cs.map AV.drop))=.agg (cs.map AV.drop):=by simp only[AV.aX,CA]
 cases hl:(cs.map AV.drop).all (AV.aJ base) with
 | true =>
  have e:(cs.map AV.drop).map (fh s.H base 3)=cs.map AV.drop:=by
   conv=>rhs;rw[<- List.map_id (cs.map AV.drop)]
   exact apY fun x hx=>XX (apA.1 hl x hx)
  have h0:gZ base [.cell tc true n] s=some (.agg (cs.map AV.drop),cond (Nat.beq s.lo base) none (some ⟨s.H.take base,s.lo⟩)):=by
   have q1:mN s (.cell tc true n)=none:=rfl
   simp only[gZ,lg,q1,hc,hd,Option.map_some,apB,AV.leaves,AV.bp,hl,cond_true]
  rw[h0,e]
 | false =>
  have h0:gZ base [.cell tc true n] s=none:=by
   have q1:mN s (.cell tc true n)=none:=rfl
   simp only[gZ,lg,q1,hc,hd,Option.map_some,apB,AV.leaves,AV.bp,hl,apE]
  have hp:qj base [.cell tc true n] s=none:=by simp only[qj,List.length_cons,List.length_nil];rfl
  have hf:qi base [.cell tc true n] s=some (.agg ((cs.map AV.drop).map (fh s.H base 3)),cond (Nat.beq s.lo base) none (some ⟨s.H.take base,s.lo⟩)):=by
   have hx:((cs.map AV.drop).map (fh s.H base 3)).all (AV.aJ base)=true:=by
    rw[apA] at mJ ⊢
    exact fun x hx=>fc (mJ x hx) base
   simp only[qi,u3,hc,hd,Option.map_some,apB,MN,AV.leaves,AV.bp,hx,cond_true]
  rw[h0,hp,hf]
theorem ML{base tc n g:Nat}{fn:ay}{s:AS}{cs out:List AV}(hr:fn.results=[.cell tc true n])(m8:fn.muts.elem 888888=false)(m7:fn.muts.elem 777777=true)
  (hT:s.T tc=.lbox g cs) (hn:cs.length=n) (cD:j9 base s.lo s.H=true) (mJ:((cs.map AV.drop).map (fh s.H base 3)).all AV.plain=true) (ho:((cs.map AV.drop).map (fh s.H base 3)).map n2=out) :
  finish base fn s=some (.agg out,cond (Nat.beq s.lo base) none (some ⟨s.H.take base,s.lo⟩)):=by
 unfold finish
 rw[vD hr m8 hT hn cD mJ,Option.map_some,G7 m7,bX,ho]
theorem Cf{x:AV}{a b:Nat}(h:x.aJ a=true)(hab:a<=b):x.aJ b=true:=by
 cases x<;>simp only[AV.aJ,ap0] at h ⊢<;>first|exact h|omega
def ct.shut:ct->Bool
 | .cj _=>false
 | _=>true
section
variable {c:Cx}{lm ld:Nat}{M D:List (List AV)}{ms:List Mod}{ds:List Def}{own:Nat}{H:ag}
theorem MH.app{m:Mk}{K:ag}(h:MH c m H)(hK:∀ o∈K,ct.shut o=true):MH c m (H++K):=by
 refine⟨by rw[apN h.lt];exact h.h0,?_,h.hl,?_,?_⟩
 ·intro j cs hj fF
  by_cases e:j<H.length
  ·rw[apN e] at fF
   have:=h.out j cs hj fF
   rw[apA] at this ⊢
   exact fun x hx=>Cf (this x hx) (by simp)
  ·rw[apM (by omega)] at fF
   have:=hK _ (apF fF)
   simp[ct.shut] at this
 ·rcases h.fm with e|⟨l,n,z,e,hl⟩
  ·exact .inl e
  ·exact .inr ⟨l,n,z,e,by simp;omega⟩
 ·rcases h.fd with e|⟨l,n,z,e,hl⟩
  ·exact .inl e
  ·exact .inr ⟨l,n,z,e,by simp;omega⟩
theorem GH.app(g:GH c lm ld M D ms ds own H){K:ag}(hK:∀ o∈K,ct.shut o=true):GH c lm ld M D ms ds own (H++K) :=
 ⟨fun m=>by rw[pJ g.lt];exact (g.mh m).app hK,by have:=g.lt;simp;omega,g.ph.app,g.ol,g.dl,g.ml,g.sl⟩
end
def kT(q:List Ex):ag:=List.replicate (q.length-1) .dead++[.box aL (bE q).flatten]
theorem acJ{q:List Ex}(h:q≠[]):(kT q).length=q.length:=by
 have:0<q.length:=aqj.2 h
 simp[kT];omega
theorem Lm{q:List Ex} : ∀ o∈kT q,ct.shut o=true:=by
 intro o ho
 rcases apC.1 ho with h|h
 ·rw[(List.mem_replicate.1 h).2];rfl
 ·rw[apI.1 h];rfl
theorem SU{H:ag}{q:List Ex}(h:q≠[]):(H++kT q)[H.length+(q.length-1)]?=some (.box aL (bE q).flatten):=by
 rw[apM (by omega),Nat.add_sub_cancel_left,kT,apM (by simp)]
 simp
theorem PG{l:List Ex} : ∀ r∈bE l,r.length=15:=I5.wide
theorem Xo{H:ag}{q:List Ex}{e:Ex}(h:q≠[]):(H++kT q).set (H.length+(q.length-1)) .dead++[.box aL ((bE q).flatten++[bk e].flatten)]=H++kT (q++[e]):=by
 have hp:0<q.length:=aqj.2 h
 rw[aqc _ _ (by omega),Nat.add_sub_cancel_left,aqL]
 congr 1
 rw[kT,aqc _ _ (by simp),List.length_replicate,aqD,List.set_cons_zero,kT,apL,ap3,Nat.add_sub_cancel,<- F1,List.flatten_append]
 conv=>rhs;rw[show q.length=(q.length-1)+1 by omega,List.replicate_succ',aqL]
 simp
theorem acI{B:AP}{T:ax}{H:ag}{lo gen:Nat}{K:AS->Prop}{os:List aj}{t:Nat}{q:List Ex}{e:Ex}{o:Bool}(h:q≠[])(hq:q.length<=1000000)(qO:lo<=H.length) :
  BY B 15 168 (.sref (H.length+(q.length-1)) 0 q.length 15) (.slice [bk e] o) t os T (H++kT q) lo gen K=WO B false os ⟨T.put t (.sref (H.length+((q++[e]).length-1)) 0 (q++[e]).length 15),H++kT (q++[e]),lo,gen⟩ K:=by
 have hp:0<q.length:=aqj.2 h
 have pq:(bE q).flatten.length=q.length*15:=by rw[dx PG,qh]
 have hh:fM 15 [bk e]=true:=by unfold fM;simp[bW]
 have vJ:cH [bk e]=true:=by unfold cH;simp only[List.all_cons,List.all_nil,bB,Bool.and_self]
 rw[xn (SU h) pq (by simp;omega) (by simp;omega) hh vJ,Xo h]
 have hb:Nat.blt (H.length+(q.length-1)) lo=false:=by
  cases hb:Nat.blt (H.length+(q.length-1)) lo with
  | true=>have:=Nat.le_of_ble_eq_true hb;omega
  | false=>rfl
 have hl:(H++kT q).length=H.length+((q++[e]).length-1):=by rw[apL,acJ h];simp
 rw[hb,hl]
 simp
end
section
section
variable {c:Cx}{lm ld:Nat}{M D:List (List AV)}{ms:List Mod}{ds:List Def}{own:Nat}{H:ag}
theorem GH.Z7(g:GH c lm ld M D ms ds own H){m:Mk}{K:ag} : (cm c m (H++K)).take H.length=cm c m H:=by
 rw[pJ g.lt,List.take_left' aw]
theorem GH.ahg(g:GH c lm ld M D ms ds own H)(m:Mk){K:ag} : j9 H.length c.mm (cm c m (H++K))=true:=by
 have:=g.open m
 unfold j9 at this ⊢
 rw[g.Z7]
 rwa [av] at this
theorem Fg(g:GH c lm ld M D ms ds own H)(n:Int)(env:List Vr)(he:env.length<=900)(ih:∀ vy:List Vr,vy.length<=env.length+2->∀ m,m.own=(own:Int)->ua c H n vy m)(m:Mk)(ho:m.own=(own:Int)):Kx 44 c H 6 n env m:=by
 have bC:=g.ne
 have aU:=g.lt
 have cD:=fun m=>g.open m
 have gr:(bif decide (c.mm<c.mm) then c.mm else c.mm)=c.mm:=by simp
 obtain⟨i,nx,hi,hid⟩:=yL g m
 obtain⟨e1,m2,s6,qn,rI⟩:=ih env (by omega) { m with next:=nx } ho
 have mJ:=fun H=>zm env ⟨[117],i,0⟩ H (by omega)
 obtain⟨e2,m3,wF,qW,ZX⟩:=ih (env++[⟨[117],i,0⟩]) (by simp) m2 (by rw[qn];exact ho)
 rw[an] at hid
 simp only[an] at mJ
 have oc:([bk e1,bk e2]:List (List AV)).map (fun r=>r.map n1)=[bk e1,bk e2]:=by simp only[apZ,aqe,show (bk e1).map n1=bk e1 from s6.n1,show (bk e2).map n1=bk e2 from wF.n1]
 refine⟨GZ i 6 0 ⟨0,0,0⟩ [e1,e2] [[117]],m3,gP (by simp[s6,wF]),by rw[qW,qn],cb (fn:=yR) rfl rfl rfl rfl ?_⟩
 unfold yR
 simp(disch:=omega)only[aG,aa,simprocAttr,bW,bZ,bF,ca,cM,bB,dQ,aw,av,aW,hid,rI,mJ,ZX,aw,av,cD,bC,gr,cO,bX,cw,cJ,fV,zb,oc,bE,strs,Te]
theorem B4(g:GH c lm ld M D ms ds own H)(n:Int)(env:List Vr)(he:env.length<=900)(ih:∀ vy:List Vr,vy.length<=env.length+2->∀ m,m.own=(own:Int)->ua c H n vy m)(m:Mk)(ho:m.own=(own:Int)):Kx 44 c H 12 n env m:=by
 have bC:=g.ne
 have aU:=g.lt
 have cD:=fun m=>g.open m
 have gr:(bif decide (c.mm<c.mm) then c.mm else c.mm)=c.mm:=by simp
 obtain⟨i,nx,hi,hid⟩:=yL g m
 obtain⟨e1,m2,s6,qn,rI⟩:=ih env (by omega) { m with next:=nx } ho
 obtain⟨e2,m3,wF,qW,ZX⟩:=ih env (by omega) m2 (by rw[qn];exact ho)
 have mJ:=fun H=>zm env ⟨[120],i,0⟩ H (by omega)
 have agG:=fun H=>zm (env++[⟨[120],i,0⟩]) ⟨[97,99,99],i,1⟩ H (by simp;omega)
 obtain⟨e3,m4,hn3,wG,hx3⟩:=ih (env++[⟨[120],i,0⟩]++[⟨[97,99,99],i,1⟩]) (by simp) m3 (by rw[qW,qn];exact ho)
 rw[an] at hid
 simp only[an] at mJ agG
 have oc:([bk e1,bk e2,bk e3]:List (List AV)).map (fun r=>r.map n1)=[bk e1,bk e2,bk e3]:=by simp only[apZ,aqe,show (bk e1).map n1=bk e1 from s6.n1,show (bk e2).map n1=bk e2 from wF.n1,show (bk e3).map n1=bk e3 from hn3.n1]
 refine⟨GZ i 12 0 ⟨0,0,0⟩ [e1,e2,e3] [[120],[97,99,99]],m4,gP (by simp[s6,wF,hn3]),by rw[wG,qW,qn],cb (fn:=yR) rfl rfl rfl rfl ?_⟩
 unfold yR
 simp(disch:=omega)only[aG,aa,simprocAttr,bW,bZ,bF,ca,cM,bB,dQ,aw,av,aW,hid,rI,mJ,agG,ZX,hx3,aw,av,cD,bC,gr,cO,bX,cw,cJ,fV,zb,oc,bE,strs,Te]
theorem sU(g:GH c lm ld M D ms ds own H)(n:Int)(env:List Vr)(he:env.length<=900)(ih:∀ (H' : ag),GH c lm ld M D ms ds own H'->∀ vy:List Vr,vy.length<=env.length+2->∀ m,m.own=(own:Int)->ua c H' n vy m)(m:Mk)(ho:m.own=(own:Int)):Kx 44 c H 10 n env m:=by
 have bC:=g.ne
 have aU:=g.lt
 have cD:=fun m=>g.open m
 have gr:(bif decide (c.mm<c.mm) then c.mm else c.mm)=c.mm:=by simp
 obtain⟨i,nx,hi,hid⟩:=yL g m
 obtain⟨r,m1,hr,qn,zQ⟩:=TR g { m with next:=nx } ho 1 1
 rw[an] at hid
 rcases hr with rfl|⟨d,hd,rfl⟩
 ·refine⟨GZ i 0 7 ⟨0,0,0⟩ [] [],m1,gP (by simp),qn,cb (fn:=yR) rfl rfl rfl rfl ?_⟩
  unfold yR
  rw[zD] at zQ
  simp(disch:=omega)only[aG,aa,simprocAttr,hid,zQ,aw,av,cD,bC,gr,cO,bX,cw,cJ,dj,strs]
 ·obtain⟨Bk,Ot⟩:=g.sl d hd
  have Qm:m1.own=(own:Int):=by rw[qn];exact ho
  have h0:=rp (d:=d)
  have h8:=O6 (d:=d)
  rw[an] at h0
  obtain⟨e1,m2,s6,qW,rI⟩:=ih H g env (by omega) m1 Qm
  have anN:m2.own=(own:Int):=by rw[qW];exact Qm
  have key:∃ r,az A 44 [.ref c.mm 0,.int .i64 10,.slice (dG env) false,.int .i64 n] (cm c m H)=some r/\∃ (e:Ex) (m' : Mk),EN e/\m'.own=m.own/\r=(.agg (bk e),some ⟨cm c m' H,c.mm⟩):=by
   refine sf (fn:=yR) rfl rfl rfl ?_
   unfold yR
   have ZH:∀ m,cm c m H++[ct.box aL [bk e1].flatten]=cm c m (H++kT [e1]):=fun m=>by rw[pJ aU];simp[kT,bE]
   have hk2:∀ m,cm c m H++[ct.box aL (bk e1)]=cm c m (H++kT [e1]):=fun m=>by rw[pJ aU];simp[kT,bE]
   have vJ:cH [bk e1]=true:=by unfold cH;simp only[List.all_cons,List.all_nil,bB,Bool.and_self]
   have hk3:∀ m,cm c m H++[ct.box aL (bk e1++[])]=cm c m (H++kT [e1]):=fun m=>by rw[aqt];exact hk2 m
   have P0:(bif decide (H.length<c.mm) then H.length else c.mm)=c.mm:=by
    rw[aqy (by omega)];rfl
   simp(disch:=omega)only[aG,aa,simprocAttr,bW,bZ,bF,ca,cM,bB,dQ,aw,av,aW,hid,zQ,rI,aw,gr,cx,cv,cB,cd,di,h0,h8,ZH,hk2,hk3,vJ,P0]
   refine bd d.aZ.length 0 (fun j s=>∃ T m' q,s=⟨T,cm c m' (H++kT q),c.mm,3⟩/\m'.own=m.own/\q.length=j+1/\(∀ e∈q,EN e)/\T 0=.ref c.mm 0/\T 2=.slice (dG env) false/\T 3=.int .i64 n /\
     T 8=.lbox 0 [.int .i64 0,.int .i64 0,.int .i64 0,.int .i64 0,.int .i64 0,.int .i64 0,.int .i64 0,.int .i64 0,.int .i64 0,.int .i64 0,.int .i64 0,.int .i64 0,.ae,.ae,.ae] /\
     (∃ nm,T 9=.lbox 1 [.int .i64 i.bK,.int .i64 i.seq,.int .i64 i.index,.int .i64 10,.int .i64 0,.int .i64 d.id.bK,.int .i64 d.id.seq,.int .i64 d.id.index,.int .i64 0,.int .i64 0,.int .i64 0,.int .i64 0,.ae,.sref (H.length+(q.length-1)) 0 q.length 15,nm]/\((j=0/\nm=.ae)\/∃ l:List fa,nm=.slice (strs l) true/\l.length<=j)) /\
     T 10=.lbox 2 (br d)/\T 12=.int .i64 j)
    (fun s=>∃ T m' q,s=⟨T,cm c m' (H++kT q),c.mm,3⟩/\m'.own=m.own/\(q≠[]/\q.length<=100)/\(∀ e∈q,EN e) /\
     T 8=.lbox 0 [.int .i64 0,.int .i64 0,.int .i64 0,.int .i64 0,.int .i64 0,.int .i64 0,.int .i64 0,.int .i64 0,.int .i64 0,.int .i64 0,.int .i64 0,.int .i64 0,.ae,.ae,.ae] /\
     (∃ nm,T 9=.lbox 1 [.int .i64 i.bK,.int .i64 i.seq,.int .i64 i.index,.int .i64 10,.int .i64 0,.int .i64 d.id.bK,.int .i64 d.id.seq,.int .i64 d.id.index,.int .i64 0,.int .i64 0,.int .i64 0,.int .i64 0,.ae,.sref (H.length+(q.length-1)) 0 q.length 15,nm]/\(nm=.ae\/∃ l:List fa,nm=.slice (strs l) true/\l.length<=100)))
    (fun _=>False) ?_ ?_ (fun _ h=>h.elim) 0 _ (by omega) ?_
   ·rintro j s hj ⟨T,m3,q,rfl,wG,hq,gp,e0,e2,e3,e8,⟨nm,e9,uI⟩,iE,iO⟩
    by_cases hJ:j<d.aZ.length
    ·have hqn:q≠[]:=by intro h;rw[h] at hq;simp at hq
     have g':=g.app (K:=kT q) Lm
     have il:=g'.lt
     have mJ:=fun H=>zm env ⟨[118],i,j⟩ H (by omega)
     obtain⟨e4,m4,hn4,ho4,hx4⟩:=ih (H++kT q) g' (env++[⟨[118],i,j⟩]) (by simp) m3 (by rw[wG];exact ho)
     simp only[an] at mJ
     have yC:∀ {B:AP} {T:ax} {gen:Nat} {K:AS->Prop} {os:List aj} {t:Nat} {o:Bool},BY B 15 168 (.sref (H.length+(q.length-1)) 0 q.length 15) (.slice [bk e4] o) t os T (cm c m4 (H++kT q)) c.mm gen K=WO B false os ⟨T.put t (.sref (H.length+((q++[e4]).length-1)) 0 (q++[e4]).length 15),cm c m4 (H++kT (q++[e4])),c.mm,gen⟩ K:=by
      intro B T gen K os t o
      have:=acI (B:=B) (T:=T) (H:=cm c m4 H) (lo:=c.mm) (gen:=gen) (K:=K) (os:=os) (t:=t) (q:=q) (e:=e4) (o:=o) hqn (by omega) (by rw[aw];omega)
      rw[aw] at this
      rw[pJ aU,pJ aU,this]
     have Vx:∀ x∈q++[e4],EN x:=fun x hx=>(apC.1 hx).elim (gp x) (fun h=>by rw[apI.1 h];exact hn4)
     rcases uI with ⟨rfl,rfl⟩|⟨l,rfl,hl⟩
     ·simp only[apK] at mJ hx4
      have han:bt false 1 16 (.slice [] true) (.slice [[.str [118]]] true)=some (.slice (strs [[118]]) true):=rfl
      simp(disch:=omega)only[aG,aa,simprocAttr,bW,bZ,bF,ca,cM,bB,dQ,aw,av,aW,cQ,bU,aqu,aqv,ah,cx,cv,cB,cd,di,h8,fA,e0,e2,e3,e8,e9,iE,iO,mJ,hx4,yC,han,gr]
      exact⟨hJ,_,m4,q++[e4],rfl,by rw[ho4,wG],by simp[hq],Vx,by simp(disch:=omega)only[aG,aa,simprocAttr,e0,e2,e3,e8,e9,iE,iO];exact⟨_,rfl,.inr ⟨_,rfl,by simp⟩⟩⟩
     ·have han:bt false 1 16 (.slice (strs l) true) (.slice [[.str [118]]] true)=some (.slice (strs (l++[[118]])) true):=by
       rw[nE (z:=1) (fun r hr=>by simp only[strs,ap9] at hr;obtain⟨a,_,rfl⟩:=hr;exact⟨rfl,rfl⟩) (dT.one rfl rfl) (by omega) (by simp[strs];omega)];simp[strs]
      simp(disch:=omega)only[aG,aa,simprocAttr,bW,bZ,bF,ca,cM,bB,dQ,aw,av,aW,cQ,bU,aqu,aqv,ah,cx,cv,cB,cd,di,h8,fA,e0,e2,e3,e8,e9,iE,iO,mJ,hx4,yC,han,gr]
      exact⟨hJ,_,m4,q++[e4],rfl,by rw[ho4,wG],by simp[hq],Vx,by simp(disch:=omega)only[aG,aa,simprocAttr,e0,e2,e3,e8,e9,iE,iO];exact⟨_,rfl,.inr ⟨_,rfl,by simp;omega⟩⟩⟩
    ·have:j=d.aZ.length:=by omega
     subst this
     simp(disch:=omega)only[aG,aa,simprocAttr,bW,bZ,bF,ca,cM,bB,dQ,aw,av,aW,cx,cv,cB,cd,di,h8,fA,e0,e2,e3,e8,e9,iE,iO]
     exact⟨_,m3,q,rfl,wG,⟨by intro h;rw[h] at hq;simp at hq,by omega⟩,gp,by simp(disch:=omega)only[aG,aa,simprocAttr,e8],nm,by simp(disch:=omega)only[aG,aa,simprocAttr,e9],Or.imp (fun h=>h.2) (fun ⟨l,h,h2⟩=>⟨l,h,by omega⟩) uI⟩
   ·rintro s ⟨T,m3,q,rfl,wG,⟨hqn,hql⟩,gp,e8,nm,e9,uI⟩
    have g':=g.app (K:=kT q) Lm
    obtain⟨l,anz,hdn,hzn,wF,C1⟩:∃ l:List fa,l.length<=100/\nm.drop.drop=nm.drop/\(∀ H b k,fh H b k nm.drop=nm.drop)/\n2 nm.drop=.slice (strs l) false/\(nm.drop).plain=true:=by
     rcases uI with rfl|⟨l,rfl,hl2⟩
     ·exact⟨[],by simp,rfl,fun H b k=>by cases k<;>rfl,rfl,rfl⟩
     ·exact⟨l,hl2,rfl,fun H b k=>by cases k<;>rfl,by show AV.slice ((strs l).map fun r=>r.map n1) false=_;rw[kM],rfl⟩
    have hnf:aq nm.drop=true:=by rcases uI with rfl|⟨l,rfl,_⟩<;>rfl
    simp(disch:=omega)only[aG,aa,simprocAttr,bW,bZ,bF,ca,cM,bB,dQ,aw,av,aW,e8,e9,hdn,hnf]
    have hz:fh (cm c m3 (H++kT q)) H.length 3 (.sref (H.length+(q.length-1)) 0 q.length 15)=.slice (bE q) false:=by
     have h1:(cm c m3 (H++kT q))[H.length+(q.length-1)]?=some (.box aL (bE q).flatten):=by
      rw[qG (by omega)];exact SU hqn
     have:=yz (k:=2) (base:=H.length) (by omega) h1 rfl I5 (by omega)
     rwa [qh] at this
    have tJ:(([.int .i64 i.bK,.int .i64 i.seq,.int .i64 i.index,.int .i64 10,.int .i64 0,.int .i64 d.id.bK,.int .i64 d.id.seq,.int .i64 d.id.index,.int .i64 0,.int .i64 0,.int .i64 0,.int .i64 0,.ae,.sref (H.length+(q.length-1)) 0 q.length 15,nm.drop]:List AV).map AV.drop).map (fh (cm c m3 (H++kT q)) H.length 3) =
      [.int .i64 i.bK,.int .i64 i.seq,.int .i64 i.index,.int .i64 10,.int .i64 0,.int .i64 d.id.bK,.int .i64 d.id.seq,.int .i64 d.id.index,.int .i64 0,.int .i64 0,.int .i64 0,.int .i64 0,.ae,.slice (bE q) false,nm.drop]:=by
     have hi:∀ n,fh (cm c m3 (H++kT q)) H.length 3 (AV.int .i64 n).drop=.int .i64 n:=fun _=>rfl
     have hni:fh (cm c m3 (H++kT q)) H.length 3 AV.ae.drop=.ae:=rfl
     have Jy:fh (cm c m3 (H++kT q)) H.length 3 (AV.sref (H.length+(q.length-1)) 0 q.length 15).drop=.slice (bE q) false:=hz
     simp only[apZ,aqe,hi,hni,Jy,hdn,hzn]
    refine⟨_,ML (tc:=8) (n:=15) (g:=0) (cs:=[.int .i64 i.bK,.int .i64 i.seq,.int .i64 i.index,.int .i64 10,.int .i64 0,.int .i64 d.id.bK,.int .i64 d.id.seq,.int .i64 d.id.index,.int .i64 0,.int .i64 0,.int .i64 0,.int .i64 0,.ae,.sref (H.length+(q.length-1)) 0 q.length 15,nm.drop]) (out:=bk (GZ i 10 0 d.id q l)) rfl (by decide) (by decide) (by simp[ax.put]) rfl ?_ ?_ ?_,GZ i 10 0 d.id q l,m3,gP gp (by omega) (by omega),wG,?_⟩
    ·exact g.ahg m3
    ·show (List.map _ (List.map AV.drop _)).all AV.plain=true
     rw[tJ]
     simp only[List.all_cons,List.all_nil,C1]
     rfl
    ·show List.map n2 (List.map _ (List.map AV.drop _))=_
     rw[tJ,cO]
     simp only[apZ,aqe,cw,cJ,fV,gY gp,wF]
    ·show (_,cond (Nat.beq c.mm H.length) none (some (⟨(cm c m3 (H++kT q)).take H.length,c.mm⟩:gk)))=_
     rw[bC,g.Z7]
     rfl
   ·exact⟨_,m2,[e1],rfl,by rw[qW,qn],rfl,fun x hx=>by rw[apI.1 hx];exact s6,by simp(disch:=omega)only[aG,aa,simprocAttr,apK];exact⟨_,rfl,.inl rfl⟩⟩
  obtain⟨r,h1,e,m',h2,h3,rfl⟩:=key
  exact⟨e,m',h2,h3,h1⟩
end
end
section
section
variable {c:Cx}{lm ld:Nat}{M D:List (List AV)}{ms:List Mod}{ds:List Def}{own:Nat}
theorem PE(w9:2<=ds.length):∀ (h:Nat) (H:ag),GH c lm ld M D ms ds own H->∀ (env:List Vr),h<=100->env.length+2*h<=820->∀ m,m.own=(own:Int)->ua c H h env m
 | 0,H,g,env,hh,he,m,ho=>by
  obtain⟨x,p,rH,hx6,fN⟩:=rO g m 16 (by omega)
  exact yh g 0 env m ⟨by omega,by omega⟩ (by omega) x p rH hx6 fN (.inl (by omega))
 | h+1,H,g,env,hh,he,m,ho=>by
  obtain⟨x,p,rH,hx6,fN⟩:=rO g m 16 (by omega)
  by_cases hc:IntKind.i64.wrap (m.left-1)<=0\/x<5
  ·exact yh g _ env m ⟨by omega,by omega⟩ (by omega) x p rH hx6 fN (.inr hc)
  rw[show ((h+1:Nat):Int)=(h:Int)+1 by omega]
  have bC:=g.ne
  have aU:=g.lt
  have cD:=fun m=>g.open m
  have gr:(bif decide (c.mm<c.mm) then c.mm else c.mm)=c.mm:=by simp
  have fQ:=fun m=>g.get m
  have dI:=fun (m:Mk) (v:Int)=>HF (c:=c) (H:=H) m v _ _ g.ph.pm g.ph.pd
  simp only[fG,g.ph.pd,g.ph.pm] at fQ
  have fT:=dI { m with pos:=p } (IntKind.i64.wrap (m.left-1))
  have h1:decide ((h:Int)+1<=0)=false:=aqy (by omega)
  have h2:decide (IntKind.i64.wrap (m.left-1)<=0)=false:=by simp;omega
  have h3:decide (x<5)=false:=by simp;omega
  have qo:(h:Int)+1-1=h:=by omega
  have ih:∀ (H' : ag),GH c lm ld M D ms ds own H'->∀ vy:List Vr,vy.length<=env.length+2->∀ m,m.own=(own:Int)->ua c H' h vy m:=fun H' g' vy xt m ho=>PE w9 h H' g' vy (by omega) (by omega) m ho
  have ihH:=ih H g
  have Ov:∀ m,m.own=(own:Int)->ua c H h env m:=fun m ho=>ih H g env (by omega) m ho
  generalize VB:({ m with pos:=p,left:=IntKind.i64.wrap (m.left-1) } : Mk)=m0 at *
  have zO:m0.own=(own:Int):=by rw[<- VB];exact ho
  have Ah:m0.own=m.own:=by rw[<- VB]
  have h2:decide (m0.left<=0)=false:=by rw[<- VB];exact h2
  clear VB dI
  have hx:x=5\/x=6\/x=7\/x=8\/x=9\/x=10\/x=11\/x=12\/x=13\/x=14\/x=15:=by omega
  rcases hx with rfl|rfl|rfl|rfl|rfl|rfl|rfl|rfl|rfl|rfl|rfl
  ·obtain⟨i,nx,hi,hid⟩:=yL g m0
   obtain⟨y,p2,K',Qx,dz⟩:=rO g { m0 with next:=nx } 12 (by omega)
   rw[an] at hid
   by_cases hy:y=9\/y=11
   ·obtain⟨es,m3,rB,gp,wG,kG⟩:=qH g h env 1 (by omega) (by omega) Ov { m0 with pos:=p2,next:=nx } zO
    have iJ:az A 43 [.ref c.mm 0,.int .i64 1,.slice (dG env) false,.int .i64 h] (cm c { m0 with pos:=p2,next:=nx } H)=some (.slice (bE es) false,some ⟨cm c m3 H,c.mm⟩):=kG
    have oc:=gY gp
    refine⟨GZ i 4 y ⟨0,0,0⟩ es [],m3,gP gp (by omega),by rw[wG];exact Ah,cb (fn:=im) rfl rfl rfl rfl ?_⟩
    unfold im
    have hb:(y==9)=true\/((y==9)=false/\(y==11)=true):=by rcases hy with rfl|rfl<;>decide
    rcases hb with hb|⟨hb,jd⟩
    ·simp(disch:=omega)only[aG,aa,simprocAttr,bW,bZ,bF,ca,cM,bB,dQ,aw,av,aW,fN,fQ,fT,h1,h2,h3,aw,av,cD,bC,gr,aY,qo,strs,bX,cw,cJ,fV,hid,dz,hb,iJ,oc,cO]
    ·simp(disch:=omega)only[aG,aa,simprocAttr,bW,bZ,bF,ca,cM,bB,dQ,aw,av,aW,fN,fQ,fT,h1,h2,h3,aw,av,cD,bC,gr,aY,qo,strs,bX,cw,cJ,fV,hid,dz,hb,jd,iJ,oc,cO]
   ·obtain⟨es,m3,rB,gp,wG,kG⟩:=qH g h env 2 (by omega) (by omega) Ov { m0 with pos:=p2,next:=nx } zO
    have iJ:az A 43 [.ref c.mm 0,.int .i64 2,.slice (dG env) false,.int .i64 h] (cm c { m0 with pos:=p2,next:=nx } H)=some (.slice (bE es) false,some ⟨cm c m3 H,c.mm⟩):=kG
    have oc:=gY gp
    have hb:(y==9)=false:=by simp;omega
    have jd:(y==11)=false:=by simp;omega
    refine⟨GZ i 4 y ⟨0,0,0⟩ es [],m3,gP gp (by omega),by rw[wG];exact Ah,cb (fn:=im) rfl rfl rfl rfl ?_⟩
    unfold im
    simp(disch:=omega)only[aG,aa,simprocAttr,bW,bZ,bF,ca,cM,bB,dQ,aw,av,aW,fN,fQ,fT,h1,h2,h3,aw,av,cD,bC,gr,aY,qo,strs,bX,cw,cJ,fV,hid,dz,hb,jd,iJ,oc,cO]
  ·obtain⟨i,nx,hi,hid⟩:=yL g m0
   obtain⟨y,p2,K',Qx,dz⟩:=rO g { m0 with next:=nx } 12 (by omega)
   rw[an] at hid
   by_cases hy:y=9\/y=11
   ·obtain⟨es,m3,rB,gp,wG,kG⟩:=qH g h env 1 (by omega) (by omega) Ov { m0 with pos:=p2,next:=nx } zO
    have iJ:az A 43 [.ref c.mm 0,.int .i64 1,.slice (dG env) false,.int .i64 h] (cm c { m0 with pos:=p2,next:=nx } H)=some (.slice (bE es) false,some ⟨cm c m3 H,c.mm⟩):=kG
    have oc:=gY gp
    refine⟨GZ i 4 y ⟨0,0,0⟩ es [],m3,gP gp (by omega),by rw[wG];exact Ah,cb (fn:=im) rfl rfl rfl rfl ?_⟩
    unfold im
    have hb:(y==9)=true\/((y==9)=false/\(y==11)=true):=by rcases hy with rfl|rfl<;>decide
    rcases hb with hb|⟨hb,jd⟩
    ·simp(disch:=omega)only[aG,aa,simprocAttr,bW,bZ,bF,ca,cM,bB,dQ,aw,av,aW,fN,fQ,fT,h1,h2,h3,aw,av,cD,bC,gr,aY,qo,strs,bX,cw,cJ,fV,hid,dz,hb,iJ,oc,cO]
    ·simp(disch:=omega)only[aG,aa,simprocAttr,bW,bZ,bF,ca,cM,bB,dQ,aw,av,aW,fN,fQ,fT,h1,h2,h3,aw,av,cD,bC,gr,aY,qo,strs,bX,cw,cJ,fV,hid,dz,hb,jd,iJ,oc,cO]
   ·obtain⟨es,m3,rB,gp,wG,kG⟩:=qH g h env 2 (by omega) (by omega) Ov { m0 with pos:=p2,next:=nx } zO
    have iJ:az A 43 [.ref c.mm 0,.int .i64 2,.slice (dG env) false,.int .i64 h] (cm c { m0 with pos:=p2,next:=nx } H)=some (.slice (bE es) false,some ⟨cm c m3 H,c.mm⟩):=kG
    have oc:=gY gp
    have hb:(y==9)=false:=by simp;omega
    have jd:(y==11)=false:=by simp;omega
    refine⟨GZ i 4 y ⟨0,0,0⟩ es [],m3,gP gp (by omega),by rw[wG];exact Ah,cb (fn:=im) rfl rfl rfl rfl ?_⟩
    unfold im
    simp(disch:=omega)only[aG,aa,simprocAttr,bW,bZ,bF,ca,cM,bB,dQ,aw,av,aW,fN,fQ,fT,h1,h2,h3,aw,av,cD,bC,gr,aY,qo,strs,bX,cw,cJ,fV,hid,dz,hb,jd,iJ,oc,cO]
  ·obtain⟨i,nx,hi,hid⟩:=yL g m0
   rw[an] at hid
   obtain⟨es,m3,rB,gp,wG,kG⟩:=qH g h env 3 (by omega) (by omega) Ov { m0 with next:=nx } zO
   have iJ:az A 43 [.ref c.mm 0,.int .i64 3,.slice (dG env) false,.int .i64 h] (cm c { m0 with next:=nx } H)=some (.slice (bE es) false,some ⟨cm c m3 H,c.mm⟩):=kG
   have oc:=gY gp
   refine⟨GZ i 5 0 ⟨0,0,0⟩ es [],m3,gP gp (by omega),by rw[wG];exact Ah,cb (fn:=im) rfl rfl rfl rfl ?_⟩
   unfold im
   simp(disch:=omega)only[aG,aa,simprocAttr,bW,bZ,bF,ca,cM,bB,dQ,aw,av,aW,fN,fQ,fT,h1,h2,h3,aw,av,cD,bC,gr,aY,qo,strs,bX,cw,cJ,fV,hid,iJ,oc,cO]
  ·obtain⟨i,nx,hi,hid⟩:=yL g m0
   rw[an] at hid
   obtain⟨t,m1,ht,_,qn,rE⟩:=acK g { m0 with next:=nx } w9
   obtain⟨y,p2,K',Qx,dz⟩:=rO g m1 3 (by omega)
   have Qv:=ht
   obtain⟨Uu,H5,ht3⟩:=ht
   have htd:=jV H5
   have htf:=mq H5
   have htt:t.take 5=t:=aqn (by omega)
   have A':=fun b=>Dm H5 b
   rcases t with _|⟨t0,_|⟨t1,_|⟨t2,_|⟨t3,_|⟨t4,_|⟨t5,tr⟩⟩⟩⟩⟩⟩
   all_goals try (simp at Uu;done)
   have dy:=H5
   simp only[List.all_cons,List.all_nil,Bool.and_true,Bool.and_eq_true] at dy
   obtain⟨k0,k1,k2,k3,k4⟩:=dy
   have d0:=bQ k0
   have d1:=bQ k1
   have d2:=bQ k2
   have d3:=bQ k3
   have d4:=bQ k4
   have f0:=bY k0
   have f1:=bY k1
   have f2:=bY k2
   have f3:=bY k3
   have f4:=bY k4
   have o0:=fun b=>fc (bM k0) b
   have o1:=fun b=>fc (bM k1) b
   have o2:=fun b=>fc (bM k2) b
   have o3:=fun b=>fc (bM k3) b
   have o4:=fun b=>fc (bM k4) b
   have wF:=ht3
   simp only[apZ,aqe,aqT,aqU] at wF
   obtain⟨n0,n1',n2',n3',n4'⟩:=wF
   have hy:y=0\/y=1\/y=2:=by omega
   rcases hy with rfl|rfl|rfl
   ·obtain⟨o,kG⟩:=Y2 (c:=c) h env (cm c { m1 with pos:=p2 } H) .undef
    cases o
    all_goals
     refine⟨Dh i 11 0 ⟨0,0,0⟩ [t0,t1,t2,t3,t4] Qv [] [],{ m1 with pos:=p2 },gP (by simp),by rw[<- Ah];exact qn,cb (fn:=im) rfl rfl rfl rfl ?_⟩
     unfold im
     simp(disch:=omega)only[aG,aa,simprocAttr,bW,bZ,bF,ca,cM,bB,dQ,aw,av,aW,fN,fQ,fT,h1,h2,h3,aw,av,cD,bC,gr,aY,qo,strs,bX,cw,cJ,fV,zb,kG,hid,rE,dz,l5,d0,d1,d2,d3,d4,f0,f1,f2,f3,f4,o0,o1,o2,o3,o4,n0,n1',n2',n3',n4',ap2,aqa,dj]
     try (rw[l5];simp only[ap2,aqa,dj,strs,aqe])
   ·obtain⟨es,m3,rB,gp,wG,kG⟩:=qH g h env 1 (by omega) (by omega) Ov { m1 with pos:=p2 } (by rw[<- zO];exact qn)
    have iJ:az A 43 [.ref c.mm 0,.int .i64 1,.slice (dG env) false,.int .i64 h] (cm c { m1 with pos:=p2 } H)=some (.slice (bE es) false,some ⟨cm c m3 H,c.mm⟩):=kG
    have oc:=gY gp
    refine⟨Dh i 11 0 ⟨0,0,0⟩ [t0,t1,t2,t3,t4] Qv es [],m3,gP gp (by omega),by rw[wG,<- Ah];exact qn,cb (fn:=im) rfl rfl rfl rfl ?_⟩
    unfold im
    simp(disch:=omega)only[aG,aa,simprocAttr,bW,bZ,bF,ca,cM,bB,dQ,aw,av,aW,fN,fQ,fT,h1,h2,h3,aw,av,cD,bC,gr,aY,qo,strs,bX,cw,cJ,fV,zb,iJ,oc,hid,rE,dz,l5,d0,d1,d2,d3,d4,f0,f1,f2,f3,f4,o0,o1,o2,o3,o4,n0,n1',n2',n3',n4',ap2,aqa,dj]
    try (rw[l5];simp only[ap2,aqa,dj,strs,aqe])
   ·obtain⟨es,m3,rB,gp,wG,kG⟩:=qH g h env 2 (by omega) (by omega) Ov { m1 with pos:=p2 } (by rw[<- zO];exact qn)
    have iJ:az A 43 [.ref c.mm 0,.int .i64 2,.slice (dG env) false,.int .i64 h] (cm c { m1 with pos:=p2 } H)=some (.slice (bE es) false,some ⟨cm c m3 H,c.mm⟩):=kG
    have oc:=gY gp
    refine⟨Dh i 11 0 ⟨0,0,0⟩ [t0,t1,t2,t3,t4] Qv es [],m3,gP gp (by omega),by rw[wG,<- Ah];exact qn,cb (fn:=im) rfl rfl rfl rfl ?_⟩
    unfold im
    simp(disch:=omega)only[aG,aa,simprocAttr,bW,bZ,bF,ca,cM,bB,dQ,aw,av,aW,fN,fQ,fT,h1,h2,h3,aw,av,cD,bC,gr,aY,qo,strs,bX,cw,cJ,fV,zb,iJ,oc,hid,rE,dz,l5,d0,d1,d2,d3,d4,f0,f1,f2,f3,f4,o0,o1,o2,o3,o4,n0,n1',n2',n3',n4',ap2,aqa,dj]
    try (rw[l5];simp only[ap2,aqa,dj,strs,aqe])
  ·obtain⟨e,m2,gp,qW,hx⟩:=B4 g h env (by omega) ihH m0 zO
   have oc:(bk e).map n2=bk e:=gp.n
   refine⟨e,m2,gp,by rw[qW];exact Ah,cb (fn:=im) rfl rfl rfl rfl ?_⟩
   unfold im
   simp(disch:=omega)only[aG,aa,simprocAttr,bW,bZ,bF,ca,cM,bB,dQ,aw,av,aW,fN,fQ,fT,h1,h2,h3,aw,av,cD,bC,gr,aY,qo,strs,bX,hx,oc]
  ·obtain⟨e,m2,gp,qW,hx⟩:=sU g h env (by omega) ih m0 zO
   have oc:(bk e).map n2=bk e:=gp.n
   refine⟨e,m2,gp,by rw[qW];exact Ah,cb (fn:=im) rfl rfl rfl rfl ?_⟩
   unfold im
   simp(disch:=omega)only[aG,aa,simprocAttr,bW,bZ,bF,ca,cM,bB,dQ,aw,av,aW,fN,fQ,fT,h1,h2,h3,aw,av,cD,bC,gr,aY,qo,strs,bX,hx,oc]
  ·obtain⟨e,m2,gp,qW,hx⟩:=sU g h env (by omega) ih m0 zO
   have oc:(bk e).map n2=bk e:=gp.n
   refine⟨e,m2,gp,by rw[qW];exact Ah,cb (fn:=im) rfl rfl rfl rfl ?_⟩
   unfold im
   simp(disch:=omega)only[aG,aa,simprocAttr,bW,bZ,bF,ca,cM,bB,dQ,aw,av,aW,fN,fQ,fT,h1,h2,h3,aw,av,cD,bC,gr,aY,qo,strs,bX,hx,oc]
  ·obtain⟨y,p2,K',Qx,dz⟩:=rO g m0 2 (by omega)
   have hy:y=0\/y=1:=by omega
   rcases hy with rfl|rfl
   ·obtain⟨e,m2,gp,qW,hx⟩:=rL g 7 h env Ov { m0 with pos:=p2 } zO
    have oc:(bk e).map n2=bk e:=gp.n
    refine⟨e,m2,gp,by rw[qW];exact Ah,cb (fn:=im) rfl rfl rfl rfl ?_⟩
    unfold im
    simp(disch:=omega)only[aG,aa,simprocAttr,bW,bZ,bF,ca,cM,bB,dQ,aw,av,aW,fN,fQ,fT,h1,h2,h3,aw,av,cD,bC,gr,aY,qo,strs,bX,hx,oc,dz,apH,apT]
   ·obtain⟨e,m2,gp,qW,hx⟩:=rL g 8 h env Ov { m0 with pos:=p2 } zO
    have oc:(bk e).map n2=bk e:=gp.n
    refine⟨e,m2,gp,by rw[qW];exact Ah,cb (fn:=im) rfl rfl rfl rfl ?_⟩
    unfold im
    simp(disch:=omega)only[aG,aa,simprocAttr,bW,bZ,bF,ca,cM,bB,dQ,aw,av,aW,fN,fQ,fT,h1,h2,h3,aw,av,cD,bC,gr,aY,qo,strs,bX,hx,oc,dz,apH,apT]
  ·obtain⟨y,p2,K',Qx,dz⟩:=rO g m0 2 (by omega)
   have hy:y=0\/y=1:=by omega
   rcases hy with rfl|rfl
   ·obtain⟨e,m2,gp,qW,hx⟩:=rL g 9 h env Ov { m0 with pos:=p2 } zO
    have oc:(bk e).map n2=bk e:=gp.n
    refine⟨e,m2,gp,by rw[qW];exact Ah,cb (fn:=im) rfl rfl rfl rfl ?_⟩
    unfold im
    simp(disch:=omega)only[aG,aa,simprocAttr,bW,bZ,bF,ca,cM,bB,dQ,aw,av,aW,fN,fQ,fT,h1,h2,h3,aw,av,cD,bC,gr,aY,qo,strs,bX,hx,oc,dz,apH,apT]
   ·obtain⟨e,m2,gp,qW,hx⟩:=rL g 3 h env Ov { m0 with pos:=p2 } zO
    have oc:(bk e).map n2=bk e:=gp.n
    refine⟨e,m2,gp,by rw[qW];exact Ah,cb (fn:=im) rfl rfl rfl rfl ?_⟩
    unfold im
    simp(disch:=omega)only[aG,aa,simprocAttr,bW,bZ,bF,ca,cM,bB,dQ,aw,av,aW,fN,fQ,fT,h1,h2,h3,aw,av,cD,bC,gr,aY,qo,strs,bX,hx,oc,dz,apH,apT]
  ·obtain⟨e,m2,gp,qW,hx⟩:=rL g 3 h env Ov m0 zO
   have oc:(bk e).map n2=bk e:=gp.n
   refine⟨e,m2,gp,by rw[qW];exact Ah,cb (fn:=im) rfl rfl rfl rfl ?_⟩
   unfold im
   simp(disch:=omega)only[aG,aa,simprocAttr,bW,bZ,bF,ca,cM,bB,dQ,aw,av,aW,fN,fQ,fT,h1,h2,h3,aw,av,cD,bC,gr,aY,qo,strs,bX,hx,oc]
  ·obtain⟨e,m2,gp,qW,hx⟩:=Fg g h env (by omega) ihH m0 zO
   have oc:(bk e).map n2=bk e:=gp.n
   refine⟨e,m2,gp,by rw[qW];exact Ah,cb (fn:=im) rfl rfl rfl rfl ?_⟩
   unfold im
   simp(disch:=omega)only[aG,aa,simprocAttr,bW,bZ,bF,ca,cM,bB,dQ,aw,av,aW,fN,fQ,fT,h1,h2,h3,aw,av,cD,bC,gr,aY,qo,strs,bX,hx,oc]
end
end
section
def xl(rows:List (List AV)):ag:=match rows with|[]=>[]|_=>List.replicate (rows.length-1) .dead++[.box aL rows.flatten]
def aA(base z:Nat)(rows:List (List AV)):AV:=match rows with|[]=>.ae|_=>.sref (base+rows.length) 0 rows.length z
theorem pU{rows:List (List AV)} : (xl rows).length=rows.length:=by cases rows<;>simp[xl]
theorem KF{rows:List (List AV)} : ∀ o∈xl rows,ct.shut o=true:=by
 intro o ho
 cases rows with
 | nil=>simp[xl] at ho
 | cons r rows =>
  rcases apC.1 ho with h|h
  ·rw[(List.mem_replicate.1 h).2];rfl
  ·rw[apI.1 h];rfl
theorem KD{rows:List (List AV)}(h:rows≠[]):(xl rows)[rows.length-1]?=some (.box aL rows.flatten):=by
 cases rows with
 | nil=>exact absurd rfl h
 | cons r rows=>simp[xl]
theorem OH{rows BJ:List (List AV)}(h:rows≠[])(hl:BJ.length=rows.length):(xl rows).set (rows.length-1) (.box aL BJ.flatten)=xl BJ:=by
 cases rows with
 | nil=>exact absurd rfl h
 | cons r rows =>
  cases BJ with
  | nil=>simp at hl
  | cons r' BJ =>
   have:BJ.length=rows.length:=by simpa using hl
   simp[xl,this]
theorem KE{rows:List (List AV)}{r:List AV}(h:rows≠[]):(xl rows).set (rows.length-1) .dead++[.box aL (rows.flatten++r)]=xl (rows++[r]):=by
 cases rows with
 | nil=>exact absurd rfl h
 | cons q rows =>
  have:(xl (q :: rows)).set ((q :: rows).length-1) .dead=List.replicate (rows.length+1) .dead:=by
   simp[xl,List.replicate_succ']
  rw[this]
  simp[xl]
theorem jl{base z:Nat}{rows:List (List AV)}(h:rows≠[]):aA base z rows=.sref (base+rows.length) 0 rows.length z:=by
 cases rows with
 | nil=>exact absurd rfl h
 | cons r rows=>rfl
def pC(H:ag)(l:List Int)(M D:List (List AV)):Cx:=⟨H.length,.sref (H.length+M.length) 0 M.length 6,aA (H.length+M.length) 31 D,l⟩
def pH(H:ag)(l:List Int)(m:Mk)(M D:List (List AV)):ag:=H++.cj (fG (pC H l M D) m) :: (xl M++xl D)
section
variable {H:ag}{l:List Int}{m m' : Mk}{M D:List (List AV)}
theorem mL:(pH H l m M D).length=H.length+1+M.length+D.length:=by simp[pH,pU];omega
theorem mu:(pH H l m M D)[H.length]?=some (.cj (fG (pC H l M D) m)):=by simp[pH]
theorem te(hM:M≠[]):(pH H l m M D)[H.length+M.length]?=some (.box aL M.flatten):=by
 have:0<M.length:=aqj.2 hM
 rw[pH,apM (by omega),show H.length+M.length-H.length=(M.length-1)+1 by omega,apT,apN (by rw[pU];omega)]
 exact KD hM
theorem td(hD:D≠[]):(pH H l m M D)[H.length+M.length+D.length]?=some (.box aL D.flatten):=by
 have:0<D.length:=aqj.2 hD
 rw[pH,apM (by omega),show H.length+M.length+D.length-H.length=(M.length+(D.length-1))+1 by omega,apT,apM (by rw[pU];omega),pU,Nat.add_sub_cancel_left]
 exact KD hD
theorem Ly:(pH H l m M D).set H.length (.cj (fG (pC H l M D) m'))=pH H l m' M D:=by
 rw[pH,aqc _ _ (by omega),aqD,List.set_cons_zero];rfl
theorem qy:cm (pC H l M D) m' (pH H l m M D)=pH H l m' M D:=Ly
theorem akY{M' : List (List AV)}(h:M'.length=M.length):pC H l M' D=pC H l M D:=by unfold pC;rw[h]
theorem aaj{base z:Nat}{D' : List (List AV)}(h:D'.length=D.length):aA base z D'=aA base z D:=by
 cases D<;>cases D'<;>simp_all [aA]
theorem akX{D' : List (List AV)}(h:D'.length=D.length):pC H l M D'=pC H l M D:=by unfold pC;rw[aaj h]
theorem sF{M' : List (List AV)}(hM:M≠[])(h:M'.length=M.length):(pH H l m M D).set (H.length+M.length) (.box aL M'.flatten)=pH H l m M' D:=by
 have:0<M.length:=aqj.2 hM
 rw[pH,aqc _ _ (by omega),show H.length+M.length-H.length=(M.length-1)+1 by omega,List.set_cons_succ,List.set_append_left _ _ (by rw[pU];omega),OH hM h,pH,akY h]
theorem Dp{D' : List (List AV)}(hD:D≠[])(h:D'.length=D.length):(pH H l m M D).set (H.length+M.length+D.length) (.box aL D'.flatten)=pH H l m M D':=by
 have:0<D.length:=aqj.2 hD
 rw[pH,aqc _ _ (by omega),show H.length+M.length+D.length-H.length=(M.length+(D.length-1))+1 by omega,List.set_cons_succ,aqc _ _ (by rw[pU];omega),pU,Nat.add_sub_cancel_left,OH hD h,pH,akX h]
theorem XZ:∀ o∈xl M++xl D,ct.shut o=true:=fun o ho=>(apC.1 ho).elim (KF o) (KF o)
theorem BC(hl:∀ n∈l,pS n):MH (pC H l M D) m (pH H l m M D):=by
 have hd:(pC H l M D).pd=.ae\/∃ a n z,(pC H l M D).pd=.sref a 0 n z/\a<(pH H l m M D).length:=by
  cases D with
  | nil=>exact .inl rfl
  | cons r D=>exact .inr ⟨_,_,_,rfl,by rw[mL];simp only[List.length_cons];omega⟩
 refine⟨mu,?_,hl,.inr ⟨_,_,_,rfl,by rw[mL];omega⟩,hd⟩
 intro j cs hj fF
 have hJ:H.length<=j:=hj
 by_cases e:j=H.length
 ·subst e
  rw[mu] at fF
  cases fF
  have h1:AV.aJ (pH H l m M D).length (pC H l M D).pm=true:=by
   show Nat.blt (H.length+M.length) _=true
   rw[ap0,mL];omega
  have h2:AV.aJ (pH H l m M D).length (pC H l M D).pd=true:=by
   rcases hd with e|⟨a,n,z,e,h⟩
   ·rw[e];rfl
   ·rw[e];show Nat.blt a _=true;rw[ap0];exact h
  simp only[fG,List.all_cons,List.all_nil,h1,h2,aq6]
  rfl
 ·exfalso
  rw[pH,apM hJ,show j-H.length=(j-H.length-1)+1 by omega,apT] at fF
  have:=XZ _ (apF fF)
  simp[ct.shut] at this
end
def pX(H:ag)(l:List Int)(m:Mk)(M D:List (List AV))(r:List AV):ag:=H++.cj (fG (pC H l M D) m) :: (xl M++xl (D++[r]))
theorem ahi{H:ag}{l:List Int}{m:Mk}{M D:List (List AV)}{r:List AV} : (pX H l m M D r)[H.length]?=some (.cj (fG (pC H l M D) m)):=by simp[pX]
theorem adj{H:ag}{l:List Int}{m:Mk}{M D:List (List AV)}{r:List AV} : (pX H l m M D r).set H.length (.cj (fG (pC H l M (D++[r])) m))=pH H l m M (D++[r]):=by
 rw[pX,aqc _ _ (by omega),aqD,List.set_cons_zero];rfl
theorem adi{B:AP}{T:ax}{H:ag}{l:List Int}{m:Mk}{M D:List (List AV)}{r:List AV}{gen t:Nat}{K:AS->Prop}{os:List aj}{o:Bool}(hw:∀ q∈D,q.length=31)(hr:r.length=31)(hp:r.all AV.plain=true)(hD:D.length<=1000) :
  BY B 31 352 (aA (H.length+M.length) 31 D) (.slice [r] o) t os T (pH H l m M D) H.length gen K=WO B false os ⟨T.put t (.sref (H.length+M.length+(D++[r]).length) 0 (D++[r]).length 31),pX H l m M D r,H.length,gen⟩ K:=by
 have vJ:cH [r]=true:=by unfold cH;simp only[List.all_cons,List.all_nil,hp,Bool.and_self]
 have hlen:=mL (H:=H) (l:=l) (m:=m) (M:=M) (D:=D)
 have hb:∀ x,Nat.blt (H.length+x) H.length=false:=fun x=>by
  cases h:Nat.blt (H.length+x) H.length with
  | true=>have:=Nat.le_of_ble_eq_true h;omega
  | false=>rfl
 cases D with
 | nil =>
  show BY B 31 352 .ae _ t os T _ _ gen K=_
  rw[aal (by unfold cC;simp[fM,hr]) vJ,hlen]
  simp only[List.length_nil,aqO]
  rw[show H.length+1+M.length=H.length+(1+M.length) by omega,hb]
  simp only[apE,pH,pX,xl,aqt,aqL,ap2,aqa,ap3,List.length_nil,Nat.zero_add,aqq,ar6,List.length_cons,aqD,List.replicate_zero]
  rw[show H.length+(1+M.length)=H.length+M.length+1 by omega]
 | cons q D =>
  show BY B 31 352 (.sref (H.length+M.length+(q :: D).length) 0 (q :: D).length 31) _ t os T _ _ gen K=_
  have pq:(q :: D).flatten.length=(q :: D).length*31:=dx hw
  rw[xn (td (by simp)) pq (by simp only[List.length_cons,List.length_nil] at *;omega) (by simp only[List.length_cons,List.length_nil] at *;omega) (by unfold fM;simp[hr]) vJ,hlen]
  have dI:(pH H l m M (q :: D)).set (H.length+M.length+(q :: D).length) .dead++[.box aL ((q :: D).flatten++[r].flatten)]=pX H l m M (q :: D) r:=by
   have h1:=KE (rows:=q :: D) (r:=r) (by simp)
   rw[pH,aqc _ _ (by omega),show H.length+M.length+(q :: D).length-H.length=(M.length+((q :: D).length-1))+1 by simp;omega,List.set_cons_succ,aqc _ _ (by rw[pU];omega),pU,Nat.add_sub_cancel_left,pX,<- h1]
   simp only[aqL,ap2,aqq,ar6,aqt]
  have jd:=hb (M.length+(q :: D).length)
  rw[<- aq'] at jd
  rw[dI,jd]
  simp only[apE,apL,ap3,List.length_cons,List.length_nil]
  rw[show H.length+1+M.length+(D.length+1)=H.length+M.length+(D.length+1+(0+1)) by omega]
end
end Go.Proofs.YthbncinhhdogpaaGreatDoor
