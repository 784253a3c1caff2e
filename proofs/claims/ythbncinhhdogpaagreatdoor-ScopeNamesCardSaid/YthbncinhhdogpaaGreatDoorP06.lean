/-
  A part of the proof of ScopeNames: AbsDraw5, AbsDraw6.
-/
import Derived.Test.YthbncinhhdogpaaGreatDoorP05
set_option linter.unusedSimpArgs false
set_option linter.unusedVariables false
set_option linter.defProp false
namespace Go.Abs
section
section
variable {P:Program}{G:Nat->List AV}{base nt:Nat}{L:List Nat}{gh:Gh}{w w' : World}{a:Act}{s:AS}{H:ah}
theorem Ho.last{cf:cu}{ops:Array Oper}{is:List aj}(cX:qz L ops is){s s1 s2 s3 s' x:AS}{V:Nat->AV}{S:Nat->AS}{D:Nat->Option Nat}(hp:Ho G cf is s s1 s2 s3 s' V S D)
  {H0:ah} {gq:Gh} {w0:World} (hI:Inv G base nt L H0 gq w0 x gh w a) (PA:∀ d,d∈ay is->d<nt) (hx:NA G is s s2 s3 D V (fun i=>i<is.length) x) (hg:x.gen<=s1.gen) :
  Inv G base nt L H0 gq w0 s' gh w a:=by
 have nP:(ay is).Nodup:=l9 is (fun i j p q d hi hj je hp hq=>cX.once i j p q d hi hj je (gr hq) (gr hp))
 have lt:∀ {i:Nat} {o:aj},is[i]?=some o->i<is.length:=fun h=>(aoR.1 h).1
 obtain⟨x',r1,r2,r3,r4,r5,r6⟩:=Inv.Bb (ay is) x s1.gen hI nP (fun d hd=>by
  refine⟨PA d hd,?_⟩
  obtain⟨i,o,hi,ho⟩:=rk hd
  by_cases hS:∃ (j:Nat) (p:aj) (y:an),is[j]?=some p/\dP (ay is) p=some (d,y)
  ·obtain⟨j,p,y,hj,hs⟩:=hS
   obtain⟨g,_,z,vs,_,_,h⟩:=hx.bxS j p d y (lt hj) hj hs
   exact⟨_,_,h⟩
  ·obtain⟨g,h⟩:=hx.bxA i o d (lt hi) hi ho (fun j p e y _ hj hs Mi=>hS ⟨j,p,y,hj,by rw[hs,Mi]⟩)
   exact⟨_,_,h⟩) hg cX.some
 have h2H:s2.H=s.H:=by rw[hp.Zg.H,hp.H1]
 have ait:s2.lo=s.lo:=by rw[hp.Zg.lo,hp.lo1]
 have h2g:s2.gen=s1.gen:=hp.Zg.gen
 have eT:∀ t,x'.T t=s'.T t:=by
  intro t
  by_cases ht:t∈ay is
  ·obtain⟨i,o,hi,ho⟩:=rk ht
   obtain⟨k,hk,h3⟩:=hp.A3 i o t hi ho
   by_cases hS:∃ (j:Nat) (p:aj) (y:an),is[j]?=some p/\dP (ay is) p=some (t,y)
   ·obtain⟨j,p,y,hj,hs⟩:=hS
    obtain⟨g,k',z,vs,e1,e2,e3⟩:=hx.bxS j p t y (lt hj) hj hs
    obtain⟨sz,g2,z2,vs2,_,f1,f2,_,_,_,f3,_⟩:=hp.S4 j p t y hj hs
    rw[e1] at f1
    injection f1 with f1 f1'
    rw[e2] at f2
    injection f2 with f2
    subst f1' f2
    rw[h3] at e1
    injection e1 with e1 _
    rw[r6 k t hk _ _ e3,f3,<- f1,<- e1,h2g]
   ·obtain⟨g,h⟩:=hx.bxA i o t (lt hi) hi ho (fun j p e y _ hj hs Mi=>hS ⟨j,p,y,hj,by rw[hs,Mi]⟩)
    rw[r6 k t hk _ _ h,hp.T4 t (fun j p d y hj hs=>⟨fun h=>hS ⟨j,p,y,hj,by rw[hs,h]⟩,fun hm=>cX.sY j p d y hj hs t hm ht⟩),h3,h2g]
  ·rw[r5 t ht]
   by_cases Cr:Bo (ay is) is (fun i=>i<is.length) t
   ·rw[hx.spd t Cr]
    obtain⟨j,p,e,y,_,hj,hs,hm⟩:=Cr
    obtain⟨sz,g2,z2,vs2,_,_,_,_,_,_,_,f⟩:=hp.S4 j p e y hj hs
    rw[f t hm,hp.T3 t ht]
   ·rw[hp.T4 t (fun j p d y hj hs=>⟨fun h=>ht (h ▸ (gu hs).1),fun hm=>Cr ⟨j,p,d,y,lt hj,hj,hs,hm⟩⟩),hp.T3 t ht]
    by_cases hw:∃ i,D i=some t
    ·obtain⟨i,hi⟩:=hw
     obtain⟨q,hq,_,_⟩:=hp.aeo i t hi
     rw[hx.zq i (lt hq) t hi Cr,hp.Zg.zq i (lt hq) t hi]
    ·rw[hx.not t ht (fun i _ h=>hw ⟨i,h⟩) Cr,hp.Zg.not t (fun i _ h=>hw ⟨i,h⟩),hp.T1,if_neg ht]
 have nM:x'=s':=by
  have a1:x'.H=s'.H:=by rw[r2,hx.H,hp.H4,hp.H3,h2H]
  have a2:x'.lo=s'.lo:=by rw[r3,hx.lo,hp.lo4,hp.lo3,ait]
  have a3:x'.gen=s'.gen:=by rw[r4,hp.g4,hp.g3,h2g]
  have a4:x'.T=s'.T:=funext eT
  cases x';cases s'
  simp_all
 rw[<- nM]
 exact r1
theorem D1{cf:cu}(iu:cP P G cf){H0:ah}{gq:Gh}{w0:World}{bF locals muts:List Nat}{ops:Array Oper}(uQ:∀ x,x∈locals->x∈L)(uR:∀ x,x∈muts->x∈L)(Q:Exit->Act->World->Prop)
  {is:List aj} (hI:Inv G base nt L H0 gq w0 s gh w a) (hc:fA P bF locals muts nt ops ops.toList=some is) (cX:qz L ops is) {s1 s2 s3 s' : AS}
  (h1:bK G cf false (lE (ay is)) s=some s1) (h2:bK G cf true (oW (ay is) is) s1=some s2) (h3:bK G cf false (rl is) s2=some s3) (h4:bK G cf false (wj (ay is) is) s3=some s')
  (hQ:∀ a' aH w',Inv G base nt L H0 gq w0 s' aH w' a'->Q .normal a' w'):wpAny P .any ops Q ops.size (Array.replicate ops.size false) a w:=by
 obtain⟨V,S,D,hp⟩:=pieces cX h1 h2 h3 h4
 obtain⟨hlen,nX⟩:=gm hc
 have Hg:=hp.aeo
 have uh:∀ i j d,i≠j->D i=some d->D j≠some d:=by
  intro i j d je hi hj
  obtain⟨p,hp,_,AJ⟩:=Hg i d hi
  obtain⟨q,hq,_,te⟩:=Hg j d hj
  exact cX.once i j p q d hp hq je te AJ
 have tu:∀ {i:Nat} {o:aj},is[i]?=some o->∃ o',ops[i]?=some o':=fun h=>⟨_,ao2 (by rw[cX.len];exact (aoR.1 h).1)⟩
 have PA:∀ d,d∈ay is->d<nt:=by
  intro d hd
  obtain⟨i,io,hi,ho⟩:=rk hd
  obtain⟨o,kX⟩:=tu hi
  obtain⟨io',jT,bk⟩:=nX i o (by simpa using kX)
  rw[hi] at jT
  injection jT with jT
  subst jT
  obtain⟨_,_,Mh,aU⟩:=gL bk
  exact aU d (by rw[<- Mh];exact gr ho)
 have hI0:=hI
 have main:∀ (n:Nat) (listed:Array Bool) (x:AS) (gh:Gh) (w:World) (a:Act),listed.size=ops.size->(∀ l:List Nat,l.Nodup->(∀ i,i∈l->i<ops.size/\listed.getD i true=false)->l.length<=n) ->
   (∀ j o,ops[j]?=some o->listed.getD j false=true->∀ e,e∈o.after->Region.binds .any e=true->listed.getD e.on false=true) ->
   (∀ l:List Nat,l.Nodup->(∀ i,i∈l->listed.getD i true=false/\∃ o,is[i]?=some o/\(fy o).isSome=true)->x.gen+l.length<=s1.gen) ->
   NA G is s s2 s3 D V (fun i=>listed.getD i false=true) x->Inv G base nt L H0 gq w0 x gh w a->wpAny P .any ops Q n listed a w:=by
  intro n
  induction n with
  | zero =>
   intro listed x gh w a gA ta fD FQ hA hI
   have dq:∀ i,i<ops.size->listed.getD i false=true:=by
    intro i hi
    cases hb:listed.getD i true with
    | true =>
     have:i<listed.size:=by omega
     simpa [this] using hb
    | false =>
     have:=ta [i] (by simp) (fun j hj=>by simp at hj;subst hj;exact⟨hi,hb⟩)
     simp at this
   have lk:Region.ready .any ops listed=[]:=by
    cases hr:Region.ready .any ops listed with
    | nil=>rfl
    | cons i r =>
     have hm:i∈Region.ready .any ops listed:=by rw[hr];exact ao9
     obtain⟨h1,o,h2,_⟩:=mem_ready.1 hm
     have aU:=(aoY.1 h2).1
     have:=dq i aU
     have gW:i<listed.size:=by omega
     simp[gW] at this h1
     rw[this] at h1
     cases h1
   refine⟨lk,hQ a gh w (hp.last cX hI PA ?_ (by simpa using FQ [] (by simp) (by simp)))⟩
   have x5:(fun i=>listed.getD i false=true)=fun i=>i<is.length:=by
    funext i
    refine propext ⟨fun h=>?_,fun h=>dq i (by rw[cX.len];exact h)⟩
    have aU:i<listed.size:=by
     rcases ap7 i listed.size with h'|h'
     ·exact h'
     ·simp[aqf h'] at h
    rw[<- cX.len];omega
   rw[x5] at hA
   exact hA
  | succ n ih =>
   intro listed x gh w a gA ta fD FQ hA hI
   refine⟨fun lk=>?_,fun i hi=>?_⟩
   ·have dq:∀ i,i<ops.size->listed.getD i false=true:=by
     intro i
     induction i using Nat.strongRecOn with
     | _ i AN =>
      intro aU
      have gW:i<listed.size:=by omega
      cases hb:listed.getD i true with
      | true=>simpa [gW] using hb
      | false =>
       exfalso
       have ho:=ao2 aU
       have:i∈Region.ready .any ops listed:=mem_ready.2 ⟨hb,_,ho,fun e he iE=>by
        have wG:=cX.back i _ ho e he iE
        exact AN e.on wG (by omega)⟩
       rw[lk] at this
       cases this
    refine hQ a gh w (hp.last cX hI PA ?_ (by simpa using FQ [] (by simp) (by simp)))
    have x5:(fun i=>listed.getD i false=true)=fun i=>i<is.length:=by
     funext i
     refine propext ⟨fun h=>?_,fun h=>dq i (by rw[cX.len];exact h)⟩
     have aU:i<listed.size:=by
      rcases ap7 i listed.size with h'|h'
      ·exact h'
      ·simp[aqf h'] at h
     rw[<- cX.len];omega
    rw[x5] at hA
    exact hA
   ·obtain⟨zF,o,ho,me⟩:=mem_ready.1 hi
    have aU:=(aoY.1 ho).1
    have gW:i<listed.size:=by omega
    obtain⟨io,kX,bk⟩:=nX i o (by simpa using ho)
    have Mm:i<is.length:=by rw[<- cX.len];exact aU
    have qu:¬ (listed.getD i false=true):=by
     simp[gW] at zF ⊢
     exact zF
    have Mh:=(gL bk).2.2.1
    have dB:∀ j,(listed.setIfInBounds i true).getD j false=true↔(listed.getD j false=true\/j=i):=by
     intro j
     by_cases hJ:i=j
     ·subst hJ
      simp[gW]
     ·rw[getD_set_ne false hJ]
      simp[ap3 hJ]
    have af1:(fun j=>(listed.setIfInBounds i true).getD j false=true)=fun j=>listed.getD j false=true\/j=i:=funext fun j=>propext (dB j)
    have ko:∀ l:List Nat,(∀ j,j∈l->(listed.setIfInBounds i true).getD j true=false)->i∉l/\∀ j,j∈l->listed.getD j true=false:=by
     intro l hl
     have oL:i∉l:=by
      intro hm
      have:=hl i hm
      simp[gW] at this
     refine⟨oL,fun j hj=>?_⟩
     have h1:=hl j hj
     have hJ:i≠j:=by rintro rfl;exact oL hj
     rw[getD_set_ne true hJ] at h1
     exact h1
    have go:∀ (x' : AS) (aH:Gh) (w' : World) (a' : Act),NA G is s s2 s3 D V (fun j=>listed.getD j false=true\/j=i) x'->Inv G base nt L H0 gq w0 x' aH w' a' ->
      (x'.gen=x.gen\/(x'.gen=x.gen+1/\(fy io).isSome=true))->wpAny P .any ops Q n (listed.setIfInBounds i true) a' w':=by
     intro x' aH w' a' hA' iG IK
     refine ih (listed.setIfInBounds i true) x' aH w' a' (by simpa using gA) (fun l nP hl=>?_) (fun j o' mG hj e he iE=>?_) (fun l nP hl=>?_) (by rw[af1];exact hA') iG
     ·obtain⟨oL,Km⟩:=ko l (fun j hj=>(hl j hj).2)
      have:=ta (i :: l) (ap5.2 ⟨oL,nP⟩) (fun j hj=>by
       rcases ao8.1 hj with rfl|hj
       ·exact⟨aU,zF⟩
       ·exact⟨(hl j hj).1,Km j hj⟩)
      simp at this
      omega
     ·rcases (dB j).1 hj with h|rfl
      ·exact (dB _).2 (.inl (fD j o' mG h e he iE))
      ·rw[ho] at mG
       injection mG with mG
       subst mG
       exact (dB _).2 (.inl (me e he iE))
     ·obtain⟨oL,Km⟩:=ko l (fun j hj=>(hl j hj).1)
      rcases IK with IK|⟨IK,ajc⟩
      ·rw[IK]
       exact FQ l nP (fun j hj=>⟨Km j hj,(hl j hj).2⟩)
      ·have:=FQ (i :: l) (ap5.2 ⟨oL,nP⟩) (fun j hj=>by
        rcases ao8.1 hj with rfl|hj
        ·exact⟨zF,io,kX,ajc⟩
        ·exact⟨Km j hj,(hl j hj).2⟩)
       simp at this
       omega
    have waits:∀ (j:Nat) (q:aj) (t:Nat),is[j]?=some q->i≠j->q.dst=some t->t∈io.looks->j<i->listed.getD j false=true:=by
     intro j q t hq je te ht hJ
     obtain⟨o',mG⟩:=tu hq
     rcases cX.look i j o o' io q t ho mG kX hq je te ht with ⟨_,e,he,iE,Mq⟩|⟨amG,_⟩
     ·have:=me e he iE
      rw[Mq] at this
      exact this
     ·omega
    have stored:∀ (j:Nat) (p q:aj) (d t k:Nat) (y:an),listed.getD j false=true->is[j]?=some p->dP (ay is) p=some (d,y)->is[k]?=some q->q.dst=some t->t=d\/t∈y.tmps->listed.getD k false=true:=by
     intro j p q d t k y hj jQ hs hq te ht
     obtain⟨oj,hoj⟩:=tu jQ
     obtain⟨ok,oD⟩:=tu hq
     have Hl:=cX.SX j k p q d y t jQ hq hs te ht
     have nL:t∈p.looks:=by
      obtain⟨_,sz,hpo⟩:=gu hs
      rw[hpo]
      rcases ht with rfl|ht
      ·simp[aj.looks,fc.tmps,an.tmps]
      ·simp[aj.looks,fc.tmps,ht]
     rcases cX.look j k oj ok p q t hoj oD jQ hq (by omega) te nL with ⟨_,e,he,iE,Mq⟩|⟨h,_⟩
     ·have:=fD j oj hoj hj e he iE
      rw[Mq] at this
      exact this
     ·omega
    unfold wpOp
    rw[ho]
    cases hP:AQ (ay is) io with
    | true =>
     obtain⟨hDi,aiW⟩:=hp.DP i io kX hP
     have FK:=hp.wr i (by omega)
     have qo:qq (S i) x io.looks:=by
      refine⟨by rw[FK.H,hp.H1,hA.H],fun t ht=>?_,fun b=>?_⟩
      ·have UR:=cX.qT i io kX hP t ht
       have NL:¬ Bo (ay is) is (fun j=>listed.getD j false=true) t:=by
        rintro ⟨j,p,e,y,hj,jQ,hs,hm⟩
        have hJ:j≠i:=by rintro rfl;exact qu hj
        exact cX.Dd j i p io e y jQ kX hJ hs t hm ht
       by_cases hw:∃ j,D j=some t
       ·obtain⟨j,hj⟩:=hw
        have uniq:∀ k,D k=some t->k=j:=by
         intro k hk
         by_cases Hl:k=j
         ·exact Hl
         ·exact absurd hj (uh k j t Hl hk)
        obtain⟨q,hq,_,te⟩:=Hg j t hj
        by_cases je:i=j
        ·subst je
         rw[FK.not t (fun k hk hd=>by have:=uniq k hd;omega),hA.not t UR (fun k hk hd=>by rw[uniq k hd] at hk;exact qu hk) NL,hp.T1,if_neg UR]
        ·obtain⟨o',mG⟩:=tu hq
         rcases cX.look i j o o' io q t ho mG kX hq je te ht with ⟨hJ,e,he,iE,Mq⟩|⟨hJ,e,he,iE,Mq⟩
         ·have UH:=me e he iE
          rw[Mq] at UH
          rw[FK.zq j hJ t hj,hA.zq j UH t hj NL]
         ·have UH:¬ (listed.getD j false=true):=by
           intro h
           have:=fD j o' mG h e he iE
           rw[Mq] at this
           exact qu this
          rw[FK.not t (fun k hk hd=>by have:=uniq k hd;omega),hA.not t UR (fun k hk hd=>by rw[uniq k hd] at hk;exact UH hk) NL,hp.T1,if_neg UR]
       ·rw[FK.not t (fun k _ hd=>hw ⟨k,hd⟩),hA.not t UR (fun k _ hd=>hw ⟨k,hd⟩) NL,hp.T1,if_neg UR]
      ·by_cases hw:∃ j,D j=some b
       ·obtain⟨j,hj⟩:=hw
        obtain⟨q,hq,hqP,te⟩:=Hg j b hj
        have hbL:=cX.MZ j q b hq hqP te
        have hbM:b∉ay is:=fun h=>hbL (cX.inL b h)
        have hsb:aO (s.T b)=none:=by
         cases hg:aO (s.T b) with
         | none=>rfl
         | some k=>exact absurd (hI0.F.obj b (by rw[hg];rfl)) hbL
        refine .inr ?_
        by_cases hJ:j<i
        ·rw[FK.zq j hJ b hj];exact hp.gV j (by omega)
        ·rw[FK.not b (fun k hk hd=>by
          by_cases Hl:k=j
          ·omega
          ·exact uh k j b Hl hd hj),hp.T1,if_neg hbM]
         exact hsb
       ·have e1:(S i).T b=s1.T b:=FK.not b (fun k _ hd=>hw ⟨k,hd⟩)
        by_cases hbM:b∈ay is
        ·refine .inr ?_
         rw[e1,hp.T1,if_pos hbM]
         rfl
        ·rw[e1,hp.T1,if_neg hbM]
         by_cases NL:Bo (ay is) is (fun j=>listed.getD j false=true) b
         ·rw[hA.spd b NL,hp.Zg.not b (fun k _ hd=>hw ⟨k,hd⟩),hp.T1,if_neg hbM]
          generalize s.T b=X
          cases X<;>first|exact .inr rfl|exact .inl rfl
         ·exact .inl (hA.not b hbM (fun k _ hd=>hw ⟨k,hd⟩) NL).symm
     have bc:=vQ qo (fun t h=>h) aiW
     refine ky iu hI bk uQ uR bc _ Q (fun a' aH w' iG=>?_)
     rw[<- Mh,<- hDi] at iG
     refine go _ aH w' a' (hA.pure cX kX hP hDi Hg (fun j p d y t hj jQ hs ht hd=>qu (stored j p io d t i y hj jQ hs kX hd (.inr ht)))) iG (.inl (gG _ _ _).2.1)
    | false =>
     cases hsA:fy io with
     | some d =>
      have ajb:=pe hsA
      have bc:kj G cf false x io=some (.lbox x.gen (rG io),{ x with gen:=x.gen+1 }):=by
       rw[ajb]
       simp[kj,aq,rG]
      refine ky iu hI bk uQ uR bc _ Q (fun a' aH w' iG=>?_)
      rw[<- Mh,gr hsA] at iG
      refine go _ aH w' a' (hA.alloc cX kX hsA Hg (fun j p e y hj jQ hs Mi=>qu (stored j p io e d i y hj jQ hs kX (gr hsA) (.inl Mi.symm)))) iG (.inr ⟨(gG _ _ _).2.1,by simp[hsA]⟩)
     | none =>
      have hsS:(dP (ay is) io).isSome=true:=by
       cases hs:dP (ay is) io with
       | some _=>rfl
       | none=>simp[AQ,hsA,hs] at hP
      obtain⟨⟨d,y⟩,hs⟩:=apI.1 hsS
      obtain⟨sz,g2,z2,vs,f0,f1,f2,f3,f4,f5,_,_⟩:=hp.S4 i io d y kX hs
      have Hi:=(gu hs).1
      have NP:=cX.sY i io d y kX hs
      obtain⟨i0,q0,NJ,Mr⟩:=rk Hi
      have lO:d∈io.looks:=by rw[f0];simp[aj.looks,fc.tmps,an.tmps]
      have hyl:∀ t,t∈y.tmps->t∈io.looks:=fun t ht=>by rw[f0];simp[aj.looks,fc.tmps,ht]
      have ai7:=cX.SX i i0 io q0 d y d kX NJ hs (gr Mr) (.inl rfl)
      have hA0:=waits i0 q0 d NJ (by omega) (gr Mr) lO ai7
      obtain⟨g,hxd⟩:=hA.bxA i0 q0 d hA0 NJ Mr (fun j p e y' hj jQ qy Mi=>by
       have hJ:j≠i:=by rintro rfl;exact qu hj
       exact cX.adn j i p io e y' d y jQ kX hJ qy hs Mi)
      obtain⟨k0,_,h3d⟩:=hp.A3 i0 q0 d NJ Mr
      have hz:z2=rG q0:=by
       rw[h3d] at f1
       injection f1 with _ f1
       exact f1.symm
      subst hz
      have hy2:∀ t,t∈y.tmps->x.T t=s2.T t:=by
       intro t ht
       have UR:=NP t ht
       have NL:¬ Bo (ay is) is (fun j=>listed.getD j false=true) t:=by
        rintro ⟨j,p,e,y',hj,jQ,qy,hm⟩
        have hJ:j≠i:=by rintro rfl;exact qu hj
        exact cX.Dd j i p io e y' jQ kX hJ qy t hm (hyl t ht)
       by_cases hw:∃ j,D j=some t
       ·obtain⟨j,hj⟩:=hw
        obtain⟨q,hq,hqP,te⟩:=Hg j t hj
        have hJ:=cX.SX i j io q d y t kX hq hs te (.inr ht)
        rw[hA.zq j (waits j q t hq (by omega) te (hyl t ht) hJ) t hj NL,hp.Zg.zq j (aoR.1 hq).1 t hj]
       ·rw[hA.not t UR (fun k _ hd=>hw ⟨k,hd⟩) NL,hp.Zg.not t (fun k _ hd=>hw ⟨k,hd⟩),hp.T1,if_neg UR]
      have hye:y.eval G x.T=y.eval G s3.T:=(eval_eq fun t ht=>by rw[hy2 t ht,hp.T3 t (NP t ht)])
      have bc:kj G cf false x io=some (.undef,(x.br d (.lbox g (putAt (rG q0) 0 vs))).bD y):=by
       rw[f0]
       simp only[kj]
       rw[JP hxd (by rw[hye];exact f2) f3 f4 f5]
       rfl
      refine ky iu hI bk uQ uR bc _ Q (fun a' aH w' iG=>?_)
      have NH:o.dst=none:=by rw[<- Mh,f0]
      rw[NH] at iG
      refine go _ aH w' a' (hA.store cX kX hs Hg qu f1 f2 hy2) iG (.inl (by rw[(pf _ _).2.1];rfl))
 refine main ops.size _ s gh w a (by simp) (fun l nP hl=>?_) (fun j o hj h=>?_) (fun l nP hl=>?_) ?_ hI
 ·exact mV ops.size l nP (fun i hi=>(hl i hi).1)
 ·exfalso
  have:(Array.replicate ops.size false).getD j false=false:=by
   by_cases h:j<ops.size<;>simp[h]
  rw[this] at h
  cases h
 ·rw[hp.g1]
  have key:(l.map fun i=>((is[i]?).bind fy).getD 0).length<=(ay is).length:=by
   refine A4 _ _ ?_ (fun d hd=>?_)
   ·rw[List.nodup_iff_pairwise_ne,List.pairwise_map]
    refine List.Pairwise.imp_of_mem ?_ (List.nodup_iff_pairwise_ne.1 nP)
    intro i j hi hj je hd
    obtain⟨_,p,jQ,hpA⟩:=hl i hi
    obtain⟨_,q,hq,hqA⟩:=hl j hj
    obtain⟨d,AJ⟩:=apI.1 hpA
    obtain⟨e,hqe⟩:=apI.1 hqA
    simp only[jQ,hq,aoW,AJ,hqe,Option.getD_some] at hd
    subst hd
    exact cX.once i j p q d jQ hq je (gr hqe) (gr AJ)
   ·obtain⟨i,hi,rfl⟩:=apu.1 hd
    obtain⟨_,p,jQ,hpA⟩:=hl i hi
    obtain⟨d,AJ⟩:=apI.1 hpA
    simp only[jQ,aoW,AJ,Option.getD_some]
    exact rW jQ AJ
  simp only[ao'] at key
  omega
 ·have jg:∀ i,¬ ((Array.replicate ops.size false).getD i false=true):=by
   intro i h
   have:(Array.replicate ops.size false).getD i false=false:=by
    by_cases h:i<ops.size<;>simp[h]
   rw[this] at h
   cases h
  exact⟨rfl,rfl,fun i hi=>absurd hi (jg i),fun t _ _ _=>rfl,fun t ht=>by obtain⟨j,_,_,_,hj,_⟩:=ht;exact absurd hj (jg j),fun i _ _ hi=>absurd hi (jg i),fun j _ _ _ hj=>absurd hj (jg j)⟩
end
end
section
structure To (e:qj) (s x:AS):Prop where
 T:∀ t,t∈e.rs->x.T t=s.T t
 H:e.rh=true\/e.wh=true->x.H=s.H/\x.lo=s.lo
 G:e.wg=true->x.gen=s.gen
structure dG (e:qj) (s1 x x1:AS):Prop where
 T:∀ t,t∈e.ws->x1.T t=s1.T t
 T' : ∀ t,t∉e.ws->x1.T t=x.T t
 H:e.wh=true->x1.H=s1.H/\x1.lo=s1.lo
 H' : e.wh=false->x1.H=x.H/\x1.lo=x.lo
 G:e.wg=true->x1.gen=s1.gen
 G' : e.wg=false->x1.gen=x.gen
theorem dG.stay{e:qj}{s x:AS}(h:To e s x)(hw:∀ t,t∈e.ws->t∈e.rs):dG e s x x :=
 ⟨fun t ht=>h.T t (hw t ht),fun _ _=>rfl,fun hh=>h.H (.inr hh),fun _=>⟨rfl,rfl⟩,fun hg=>h.G hg,fun _=>rfl⟩
section
variable {G:Nat->List AV}{cf:cu}{s x:AS}{e:qj}
theorem N4(h:∀ t,t∈e.rs->x.T t=s.T t){y:an}(hy:∀ t,t∈y.tmps->t∈e.rs):y.eval G x.T=y.eval G s.T:=by
 cases y<;>try rfl
 rename_i t
 exact h t (hy t (by simp[an.tmps]))
theorem xb(h:∀ t,t∈e.rs->x.T t=s.T t){y:an}(hy:∀ t,t∈y.tmps->t∈e.rs):y.addr G x.T=y.addr G s.T:=by
 cases y<;>try rfl
 rename_i t
 simp only[an.addr]
 rw[h t (hy t (by simp[an.tmps]))]
def di(pc:Bool):fc->fc
 | .call f xs=>cond pc (.tJ f xs) (.call f xs)
 | o=>o
theorem wk(pc:Bool)(o:aj):iB pc o=⟨o.dst,o.guard,di pc o.op⟩:=by
 obtain⟨d,g,op⟩:=o
 cases op<;>simp only[iB,di]
 cases pc<;>rfl
theorem dE(s:AS)(t:Nat)(v:AV)(k:Nat):(s.br t v).T k=if k=t then v else s.T k:=db s.T t v k
theorem yq{c:NB}{Y:AV}(h:bZ s Y=true)(hc:fG c Y=true)(hT:∀ b,b∈gb c->x.T b=s.T b):bZ x Y=true:=by
 cases Y<;>simp only[bZ] at h ⊢<;>try (cases h;done)
 case lref b g off =>
  cases c with
  | frame b' =>
   simp only[fG,dR,apc] at hc
   subst hc
   rw[hT b' (ao3.2 rfl)];exact h
  | _=>cases hc
 case eref=>cases c<;>cases hc
theorem Wz{pc:Bool}{c:NB}{op:fc}(he:xE pc c op=some e)(hc:∀ y,(∃ t a z,op=.load t a z y)\/(∃ z v,op=.store z y v)\/op=.nilCheck y\/(∃ f,op=.fieldAddr f y)\/(∃ n z i,op=.ixArr n z y i)->fG c (y.addr G s.T)=true)
  (IG:∀ y,(∃ z i,op=.ixSl z y i)\/(∃ k,op=.len k y)->fG .heap (y.addr G s.T)=true)
  {z:AV} {so:Option AS} (bc:aq G cf s (di pc op)=some (z,so)) (ha:To e s x) :
  ∃ xo,aq G cf x op=some (z,xo)/\dG e (so.getD s) x (xo.getD x)/\(∀ t,t∈e.ws->t∈e.rs):=by
 have stay:(∀ t,t∈e.ws->t∈e.rs)->so=none->aq G cf x op=some (z,none)->∃ xo,aq G cf x op=some (z,xo)/\dG e (so.getD s) x (xo.getD x)/\(∀ t,t∈e.ws->t∈e.rs):=by
  rintro hw rfl h
  exact⟨none,h,dG.stay ha hw,hw⟩
 have ev:∀ {y:an},(∀ t,t∈y.tmps->t∈e.rs)->y.eval G x.T=y.eval G s.T:=fun hy=>N4 ha.T hy
 have ad:∀ {y:an},(∀ t,t∈y.tmps->t∈e.rs)->y.addr G x.T=y.addr G s.T:=fun hy=>xb ha.T hy
 have ri:∀ {X:Option AV} {w:AV} {o:Option AS},X.map (fun v=>(v,(none:Option AS)))=some (w,o)->o=none:=by
  intro X w o h
  cases X with
  | none=>cases h
  | some v=>simp at h;exact h.2.symm
 cases op<;>simp only[xE] at he<;>try (cases he;done)
 case mov take obj y =>
  cases obj with
  | true=>cases he
  | false =>
   simp only[aoZ,aoQ] at he
   subst he
   have hw:∀ t,t∈(cond take y.tmps [])->t∈y.tmps:=by cases take<;>simp
   simp only[di,aq] at bc ⊢
   cases y with
   | tmp t =>
    have ht:=ha.T t (by simp[an.tmps])
    simp only[kV] at bc ⊢
    rw[ht]
    generalize s.T t=X at bc ht
    cases X
    case slice el own =>
     cases hto:(take&&own) with
     | false =>
      simp only[hto,aoZ,aoQ,aoS] at bc
      obtain⟨rfl,rfl⟩:=bc
      exact⟨none,by simp only[hto,aoZ],dG.stay ha hw,hw⟩
     | true =>
      simp only[Bool.and_eq_true] at hto
      obtain⟨rfl,rfl⟩:=hto
      simp only[Bool.and_self,cond_true,aoQ,aoS] at bc
      obtain⟨rfl,rfl⟩:=bc
      refine⟨some (x.br t (.slice el false)),rfl,⟨fun k hk=>?_,fun k hk=>?_,fun h=>(by cases h),fun _=>⟨rfl,rfl⟩,fun h=>(by cases h),fun _=>rfl⟩,hw⟩
      ·simp only[cond_true,an.tmps,ao3] at hk
       simp only[Option.getD_some,dE,hk,ap4]
      ·simp only[cond_true,an.tmps,ao3] at hk
       simp only[Option.getD_some,dE,if_neg hk]
    case lsl g el =>
     cases take with
     | true =>
      simp only[cond_true,aoZ] at bc
      obtain⟨h0,bc⟩:=ab bc
      simp only[aoQ,aoS] at bc
      obtain⟨rfl,rfl⟩:=bc
      refine⟨some (x.br t (.slice el false)),by simp only[h0,cond_true,aoZ],⟨fun k hk=>?_,fun k hk=>?_,fun h=>(by cases h),fun _=>⟨rfl,rfl⟩,fun h=>(by cases h),fun _=>rfl⟩,hw⟩
      ·simp only[cond_true,an.tmps,ao3] at hk
       simp only[Option.getD_some,dE,hk,ap4]
      ·simp only[cond_true,an.tmps,ao3] at hk
       simp only[Option.getD_some,dE,if_neg hk]
     | false =>
      simp only[aoZ,aoQ,aoS] at bc
      obtain⟨rfl,rfl⟩:=bc
      exact⟨none,rfl,dG.stay ha hw,hw⟩
    case iter=>cases bc
    all_goals
     simp only[aoQ,aoS] at bc
     obtain⟨rfl,rfl⟩:=bc
     exact⟨none,rfl,dG.stay ha hw,hw⟩
   | _ =>
    simp only[kV,aoQ,aoS] at bc
    obtain⟨rfl,rfl⟩:=bc
    exact⟨none,rfl,dG.stay ha hw,hw⟩
 case allocL zs =>
  simp only[aoQ] at he
  subst he
  simp only[di,aq,aoQ,aoS] at bc
  obtain⟨rfl,rfl⟩:=bc
  have hg:=ha.G rfl
  refine⟨some { x with gen:=x.gen+1 },by simp only[aq,hg],⟨fun k hk=>(by cases hk),fun _ _=>rfl,fun h=>(by cases h),fun _=>⟨rfl,rfl⟩,fun _=>?_,fun h=>(by cases h)⟩,fun k hk=>(by cases hk)⟩
  simp[hg]
 case boxL y =>
  simp only[aoQ] at he
  subst he
  simp only[di,aq,aoO,aoS] at bc
  obtain⟨cs,fi,rfl,rfl⟩:=bc
  have hg:=ha.G rfl
  refine⟨some { x with gen:=x.gen+1 },by simp only[aq,hg,ev (y:=y) (fun t h=>h),fi,Option.map_some],⟨fun k hk=>(by cases hk),fun _ _=>rfl,fun h=>(by cases h),fun _=>⟨rfl,rfl⟩,fun _=>?_,fun h=>(by cases h)⟩,fun k hk=>(by cases hk)⟩
  simp[hg]
 case build zs ps =>
  simp only[aoQ] at he
  subst he
  have e1:(ps.map fun p=>(p.1,p.2.1,(p.2.2.eval G x.T).drop))=ps.map fun p=>(p.1,p.2.1,(p.2.2.eval G s.T).drop):=aph fun p hp=>by
   rw[ev (y:=p.2.2) (fun t h=>by simp only[fc.tmps,apT];exact⟨p,hp,h⟩)]
  simp only[di,aq,aoO,aoS] at bc
  obtain⟨E,hE,rfl,rfl⟩:=bc
  exact stay (fun t h=>by cases h) rfl (by simp only[aq,e1,hE,Option.map_some])
 case mkslice b sz zs ps =>
  simp only[aoQ] at he
  subst he
  have e1:(ps.map fun p=>(p.1,(p.2.eval G x.T).drop))=ps.map fun p=>(p.1,(p.2.eval G s.T).drop):=aph fun p hp=>by
   rw[ev (y:=p.2) (fun t h=>by simp only[fc.tmps,apT];exact⟨p,hp,h⟩)]
  simp only[di,aq,aoP] at bc
  obtain⟨E,hE,bc⟩:=bc
  obtain⟨h0,bc⟩:=ab bc
  simp only[aoQ,aoS] at bc
  obtain⟨rfl,rfl⟩:=bc
  exact stay (fun t h=>by cases h) rfl (by simp only[aq,e1,hE,aoW,h0,cond_true])
 case bin o q y1 y2 =>
  simp only[aoQ] at he
  subst he
  simp only[di,aq] at bc
  have sF:=ri bc
  subst sF
  exact stay (fun t h=>by cases h) rfl (by simp only[aq];rw[ev (y:=y1) (fun t h=>aoX.2 (.inl h)),ev (y:=y2) (fun t h=>aoX.2 (.inr h))];exact bc)
 case mm o y1 y2 =>
  simp only[aoQ] at he
  subst he
  simp only[di,aq] at bc
  have sF:=ri bc
  subst sF
  exact stay (fun t h=>by cases h) rfl (by simp only[aq];rw[ev (y:=y1) (fun t h=>aoX.2 (.inl h)),ev (y:=y2) (fun t h=>aoX.2 (.inr h))];exact bc)
 case un o y =>
  simp only[aoQ] at he
  subst he
  simp only[di,aq] at bc
  have sF:=ri bc
  subst sF
  exact stay (fun t h=>by cases h) rfl (by simp only[aq];rw[ev (y:=y) (fun t h=>h)];exact bc)
 case nilS o y =>
  simp only[aoQ] at he
  subst he
  simp only[di,aq] at bc
  have sF:so=none:=by
   simp only[aoO,aoS] at bc
   obtain⟨_,_,_,h⟩:=bc
   exact h.symm
  subst sF
  exact stay (fun t h=>by cases h) rfl (by simp only[aq];rw[ev (y:=y) (fun t h=>h)];exact bc)
 case slice k y lo hi mx =>
  simp only[aoQ] at he
  subst he
  simp only[di,aq] at bc
  have sF:=ri bc
  subst sF
  have opt:∀ o:Option an,(∀ t,t∈o.toList.flatMap an.tmps->t∈(fc.slice k y lo hi mx).tmps)->o.map (·.eval G x.T)=o.map (·.eval G s.T):=by
   intro o ho
   cases o with
   | none=>rfl
   | some q=>simp only[Option.map_some];rw[ev (y:=q) (fun t hm=>ho t (by simp[hm]))]
  exact stay (fun t h=>by cases h) rfl (by
   simp only[aq]
   rw[ev (y:=y) (fun t hm=>by simp only[fc.tmps,aoX];exact .inl (.inl (.inl hm))),
    opt lo (fun t hm=>by simp only[fc.tmps,aoX];exact .inl (.inl (.inr hm))),
    opt hi (fun t hm=>by simp only[fc.tmps,aoX];exact .inl (.inr hm)),
    opt mx (fun t hm=>by simp only[fc.tmps,aoX];exact .inr hm)]
   exact bc)
 case conv o y =>
  simp only[aoQ] at he
  subst he
  simp only[di,aq] at bc
  have sF:=ri bc
  subst sF
  exact stay (fun t h=>by cases h) rfl (by simp only[aq];rw[ev (y:=y) (fun t h=>h)];exact bc)
 case pick c0 a0 b0 =>
  simp only[aoQ] at he
  subst he
  simp only[di,aq] at bc
  have h1:=ev (y:=c0) (fun t h=>by simp[h])
  have h2:=ad (y:=a0) (fun t h=>by simp[h])
  have h3:=ad (y:=b0) (fun t h=>by simp[h])
  split at bc
  ·rename_i hb
   simp only[aoQ,aoS] at bc
   obtain⟨rfl,rfl⟩:=bc
   exact stay (fun t h=>by cases h) rfl (by simp only[aq,h1,h2,h3,hb])
  ·cases bc
 case field agg off sz y =>
  simp only[aoQ] at he
  subst he
  simp only[di,aq] at bc
  have h1:=ev (y:=y) (fun t h=>h)
  split at bc
  ·rename_i hb
   have sF:=ri bc
   subst sF
   exact stay (fun t h=>by cases h) rfl (by simp only[aq,h1,hb];exact bc)
  ·cases bc
 case index agg n sz y i =>
  simp only[aoQ] at he
  subst he
  simp only[di,aq,aoP] at bc
  obtain⟨k,hk,bc⟩:=bc
  obtain⟨h0,bc⟩:=ab bc
  have h1:=ev (y:=y) (fun t h=>by simp[h])
  have h2:=ev (y:=i) (fun t h=>by simp[h])
  split at bc
  ·rename_i hb
   have sF:=ri bc
   subst sF
   exact stay (fun t h=>by cases h) rfl (by simp only[aq,h1,h2,hk,aoW,h0,cond_true,hb];exact bc)
  ·cases bc
 case indexStr y i =>
  simp only[aoQ] at he
  subst he
  simp only[di,aq] at bc
  have h1:=ev (y:=y) (fun t h=>by simp[h])
  have h2:=ev (y:=i) (fun t h=>by simp[h])
  split at bc
  ·rename_i l hb
   simp only[aoP,aoO,aoS] at bc
   obtain⟨k,hk,b,Mf,rfl,rfl⟩:=bc
   exact stay (fun t h=>by cases h) rfl (by simp only[aq,h1,h2,hb,hk,aoW,Mf,Option.map_some])
  ·cases bc
 case extract y i =>
  simp only[aoQ] at he
  subst he
  simp only[di,aq] at bc
  have h1:=ev (y:=y) (fun t h=>h)
  split at bc
  ·rename_i vs hb
   simp only[aoO,aoS] at bc
   obtain⟨v,hv,rfl,rfl⟩:=bc
   exact stay (fun t h=>by cases h) rfl (by simp only[aq,h1,hb,hv,Option.map_some])
  ·cases bc
 case mkfunc f a b =>
  simp only[aoQ] at he
  subst he
  simp only[di,aq] at bc
  obtain⟨h0,bc⟩:=ab bc
  simp only[aoQ,aoS] at bc
  obtain⟨rfl,rfl⟩:=bc
  have ha:∀ y,y∈a->y.addr G x.T=y.addr G s.T:=fun y hy=>ad (y:=y) (fun t h=>by
   simp only[fc.tmps,aoX,apT];exact .inl ⟨y,hy,h⟩)
  have hb:∀ y,y∈b->y.addr G x.T=y.addr G s.T:=fun y hy=>ad (y:=y) (fun t h=>by
   simp only[fc.tmps,aoX,apT];exact .inr ⟨y,hy,h⟩)
  have e1:(a.map fun a=>a.addr G x.T)=a.map fun a=>a.addr G s.T:=aph ha
  have e2:(b.map fun a=>a.addr G x.T)=b.map fun a=>a.addr G s.T:=aph hb
  have e3:(a.map fun a=>(a.addr G x.T).drop)=a.map fun a=>(a.addr G s.T).drop:=aph fun y hy=>by rw[ha y hy]
  have e4:(b.map fun a=>(a.addr G x.T).drop)=b.map fun a=>(a.addr G s.T).drop:=aph fun y hy=>by rw[hb y hy]
  exact stay (fun t h=>by cases h) rfl (by simp only[aq];rw[e1,e2,e3,e4,h0,cond_true])
 case load take agg sz y =>
  simp only[aoQ] at he
  subst he
  have ig:=hc y (.inl ⟨take,agg,sz,rfl⟩)
  simp only[di,aq] at bc ⊢
  rw[ad (y:=y) (fun t h=>aoX.2 (.inl h))]
  generalize y.addr G s.T=Y at bc ig
  have hw:∀ t,t∈(cond (take&&!agg) (gb c) [])->t∈y.tmps++gb c:=by
   intro t ht
   cases hb:(take&&!agg) with
   | false=>rw[hb] at ht;cases ht
   | true=>rw[hb] at ht;exact aoX.2 (.inr ht)
  cases Y<;>simp only[cM] at bc<;>try (cases bc;done)
  case eptr cs =>
   simp only[aoO,aoS] at bc
   obtain⟨v,hv,rfl,rfl⟩:=bc
   exact⟨none,by simp only[cM,hv,Option.map_some],dG.stay ha hw,hw⟩
  case ref loc off =>
   cases c with
   | frame b=>cases ig
   | TA=>cases ig
   | heap =>
    obtain⟨hH,hl⟩:=ha.H (.inl rfl)
    split at bc
    ·rename_i ty cs Kg
     simp only[aoO,aoS] at bc
     obtain⟨v,hv,rfl,rfl⟩:=bc
     by_cases hta:take=true/\agg=false
     ·obtain⟨rfl,rfl⟩:=hta
      refine⟨some (x.fp ⟨s.H.set loc (.box ty (bP off cs)),loc⟩),by simp only[cM,hH,Kg,hv,Option.map_some,aqq,Bool.and_self,cond_true],⟨fun k hk=>(by cases hk),fun k hk=>rfl,fun _=>⟨rfl,?_⟩,fun h=>(by cases h),fun h=>(by cases h),fun _=>rfl⟩,hw⟩
      simp only[aqq,Bool.and_self,cond_true,Option.getD_some,AS.fp,hl]
     ·have hb:(take&&!agg)=false:=by cases take<;>cases agg<;>simp_all
      have sF:∀ A:AS,(cond (take&&!agg) (some A) none:Option AS)=none:=fun A=>by rw[hb];rfl
      rw[sF]
      exact⟨none,by simp only[cM,hH,Kg,hv,Option.map_some,sF],dG.stay ha hw,hw⟩
    ·rename_i cs Kg
     simp only[aoO,aoS] at bc
     obtain⟨v,hv,rfl,rfl⟩:=bc
     exact⟨none,by simp only[cM,hH,Kg,hv,Option.map_some],dG.stay ha hw,hw⟩
    ·rename_i cs Kg
     simp only[aoO,aoS] at bc
     obtain⟨v,hv,rfl,rfl⟩:=bc
     exact⟨none,by simp only[cM,hH,Kg,hv,Option.map_some],dG.stay ha hw,hw⟩
    ·cases bc
  case lref b g off =>
   cases c with
   | TA=>cases ig
   | heap=>cases ig
   | frame b' =>
    simp only[fG,dR,apc] at ig
    subst ig
    have hTb:=ha.T b' (aoX.2 (.inr (ao3.2 rfl)))
    split at bc
    ·rename_i g' cs hT
     obtain⟨h0,bc⟩:=ab bc
     simp only[aoO,aoS] at bc
     obtain⟨v,hv,rfl,rfl⟩:=bc
     rw[hT] at hTb
     by_cases hta:take=true/\agg=false
     ·obtain⟨rfl,rfl⟩:=hta
      refine⟨some (x.br b' (.lbox g (bP off cs))),by simp only[cM,hTb,h0,cond_true,hv,Option.map_some,aqq,Bool.and_self],⟨fun k hk=>?_,fun k hk=>?_,fun h=>(by cases h),fun _=>⟨rfl,rfl⟩,fun h=>(by cases h),fun _=>rfl⟩,hw⟩
      ·simp only[aqq,Bool.and_self,cond_true,gb,ao3] at hk
       simp only[aqq,Bool.and_self,cond_true,Option.getD_some,dE,hk,ap4]
      ·simp only[aqq,Bool.and_self,cond_true,gb,ao3] at hk
       simp only[Option.getD_some,dE,if_neg hk]
     ·have hb:(take&&!agg)=false:=by cases take<;>cases agg<;>simp_all
      have sF:∀ A:AS,(cond (take&&!agg) (some A) none:Option AS)=none:=fun A=>by rw[hb];rfl
      rw[sF]
      exact⟨none,by simp only[cM,hTb,h0,cond_true,hv,Option.map_some,sF],dG.stay ha hw,hw⟩
    ·cases bc
  case eref=>cases c<;>cases ig
 case nilCheck y =>
  simp only[aoQ] at he
  subst he
  have ig:=hc y (.inr (.inr (.inl rfl)))
  simp only[di,aq] at bc ⊢
  rw[ad (y:=y) (fun t h=>aoX.2 (.inl h))]
  generalize y.addr G s.T=Y at bc ig
  obtain⟨h0,bc⟩:=ab bc
  simp only[aoQ,aoS] at bc
  obtain⟨rfl,rfl⟩:=bc
  have h1:=yq h0 ig (fun b hb=>ha.T b (aoX.2 (.inr hb)))
  exact⟨none,by simp only[h1,cond_true],dG.stay ha (fun t h=>by cases h),fun t h=>by cases h⟩
 case fieldAddr off y =>
  simp only[aoQ] at he
  subst he
  have ig:=hc y (.inr (.inr (.inr (.inl ⟨off,rfl⟩))))
  simp only[di,aq] at bc ⊢
  rw[ad (y:=y) (fun t h=>aoX.2 (.inl h))]
  generalize y.addr G s.T=Y at bc ig
  obtain⟨h0,bc⟩:=ab bc
  have sF:=ri bc
  subst sF
  have h1:=yq h0 ig (fun b hb=>ha.T b (aoX.2 (.inr hb)))
  exact⟨none,by simp only[h1,cond_true];exact bc,dG.stay ha (fun t h=>by cases h),fun t h=>by cases h⟩
 case ixArr n sz y i =>
  simp only[aoQ] at he
  subst he
  have ig:=hc y (.inr (.inr (.inr (.inr ⟨n,sz,i,rfl⟩))))
  simp only[di,aq,aoP] at bc ⊢
  obtain⟨k,hk,bc⟩:=bc
  rw[ad (y:=y) (fun t h=>by simp[h]),ev (y:=i) (fun t h=>by simp[h])]
  generalize y.addr G s.T=Y at bc ig
  obtain⟨h0,bc⟩:=ab bc
  simp only[Bool.and_eq_true] at h0
  have sF:=ri bc
  subst sF
  have h1:=yq h0.2 ig (fun b hb=>ha.T b (by simp[hb]))
  exact⟨none,⟨k,hk,by simp only[h0.1,h1,Bool.and_self,cond_true];exact bc⟩,dG.stay ha (fun t h=>by cases h),fun t h=>by cases h⟩
 case ixSl sz y i =>
  simp only[aoQ] at he
  subst he
  have ig:=IG y (.inl ⟨sz,i,rfl⟩)
  simp only[di,aq] at bc ⊢
  rw[ad (y:=y) (fun t h=>aoX.2 (.inl h)),ev (y:=i) (fun t h=>aoX.2 (.inr h))]
  generalize y.addr G s.T=Y at bc ig
  cases Y<;>try (cases bc;done)
  case slice el own =>
   simp only[aoP] at bc
   obtain⟨k,hk,r,hr,bc⟩:=bc
   obtain⟨h0,bc⟩:=ab bc
   simp only[aoQ,aoS] at bc
   obtain⟨rfl,rfl⟩:=bc
   exact⟨none,by simp only[hk,aoW,hr,h0,cond_true],dG.stay ha (fun t h=>by cases h),fun t h=>by cases h⟩
  case sref l o m zz =>
   simp only[aoP] at bc
   obtain⟨k,hk,bc⟩:=bc
   obtain⟨h0,bc⟩:=ab bc
   simp only[aoQ,aoS] at bc
   obtain⟨rfl,rfl⟩:=bc
   exact⟨none,by simp only[hk,aoW,h0,cond_true],dG.stay ha (fun t h=>by cases h),fun t h=>by cases h⟩
  case lsr=>cases ig
 case len k y =>
  simp only[aoQ] at he
  subst he
  have ig:=IG y (.inr ⟨k,rfl⟩)
  simp only[di,aq] at bc ⊢
  rw[ad (y:=y) (fun t h=>h)]
  generalize y.addr G s.T=Y at bc ig
  cases Y
  case lsr=>cases ig
  all_goals
   have sF:=ri bc
   subst sF
   exact⟨none,bc,dG.stay ha (fun t h=>by cases h),fun t h=>by cases h⟩
 case store sz y v =>
  simp only[aoQ] at he
  subst he
  have ig:=hc y (.inr (.inl ⟨sz,v,rfl⟩))
  have hw:∀ t,t∈v.tmps++gb c->t∈y.tmps++v.tmps++gb c:=fun t ht=>by
   rcases aoX.1 ht with h|h
   ·exact aoX.2 (.inl (aoX.2 (.inr h)))
   ·exact aoX.2 (.inr h)
  have hv:=ev (y:=v) (fun t h=>aoX.2 (.inl (aoX.2 (.inr h))))
  have hvT:∀ t,t∈v.tmps->x.T t=s.T t:=fun t h=>ha.T t (aoX.2 (.inl (aoX.2 (.inr h))))
  simp only[di,aq,aoO,aoS] at bc ⊢
  obtain⟨s1,bc,rfl,rfl⟩:=bc
  rw[ad (y:=y) (fun t h=>aoX.2 (.inl (aoX.2 (.inl h)))),hv]
  generalize y.addr G s.T=Y at bc ig
  have sp:∀ (s1 x1:AS),(∀ t,t∈v.tmps->x1.T t=s1.T t)->(∀ t,t∈v.tmps->(x1.bD v).T t=(s1.bD v).T t)/\(∀ t,t∉v.tmps->(x1.bD v).T t=x1.T t)/\(∀ t,t∉v.tmps->(s1.bD v).T t=s1.T t):=by
   intro s1 x1 h
   cases v with
   | tmp t0 =>
    have h0:=h t0 (by simp[an.tmps])
    by_cases ho:∃ el,s1.T t0=.slice el true
    ·obtain⟨el,ho⟩:=ho
     rw[sg s1 t0 ho,sg x1 t0 (h0.trans ho)]
     refine⟨fun t ht=>?_,fun t ht=>?_,fun t ht=>?_⟩
     ·simp only[an.tmps,ao3] at ht
      rw[dE,dE,if_pos ht,if_pos ht]
     ·simp only[an.tmps,ao3] at ht
      rw[dE,if_neg ht]
     ·simp only[an.tmps,ao3] at ht
      rw[dE,if_neg ht]
    ·have mG:∀ el,s1.T t0≠.slice el true:=fun el h=>ho ⟨el,h⟩
     rw[mY s1 t0 mG,mY x1 t0 (fun el h=>mG el (h0.symm.trans h))]
     exact⟨h,fun _ _=>rfl,fun _ _=>rfl⟩
   | _=>exact⟨fun t ht=>by simp[an.tmps] at ht,fun _ _=>rfl,fun _ _=>rfl⟩
  simp only[gl] at bc ⊢
  split at bc
  ·cases bc
  rename_i vs po
  obtain⟨h0,afn⟩:=ab bc
  clear bc
  have bc:=afn
  clear afn
  cases Y<;>(try dsimp only at bc ⊢)<;>try (cases bc;done)
  case ref loc off =>
   cases c with
   | frame b=>cases ig
   | TA=>cases ig
   | heap =>
    obtain⟨hH,hl⟩:=ha.H (.inl rfl)
    split at bc
    ·rename_i ty cs Kg
     obtain⟨h1,bc⟩:=ab bc
     injection bc with bc
     subst bc
     obtain⟨k1,k2,k3⟩:=sp (s.fp ⟨s.H.set loc (.box ty (putAt cs off vs)),loc⟩) (x.fp ⟨x.H.set loc (.box ty (putAt cs off vs)),loc⟩) hvT
     refine⟨some ((x.fp ⟨x.H.set loc (.box ty (putAt cs off vs)),loc⟩).bD v),⟨x.fp ⟨x.H.set loc (.box ty (putAt cs off vs)),loc⟩,by simp only[po,h0,cond_true,hH,Kg,h1],trivial,rfl⟩,⟨fun k hk=>?_,fun k hk=>?_,fun _=>?_,fun h=>(by cases h),fun h=>(by cases h),fun _=>?_⟩,hw⟩
     ·exact k1 k (by simpa [gb] using hk)
     ·exact k2 k (by simpa [gb] using hk)
     ·obtain⟨q1,_,q3⟩:=gk (x.fp ⟨x.H.set loc (.box ty (putAt cs off vs)),loc⟩) v
      obtain⟨r1,_,r3⟩:=gk (s.fp ⟨s.H.set loc (.box ty (putAt cs off vs)),loc⟩) v
      exact⟨q1.trans (Eq.trans (by simp only[AS.fp,hH]) r1.symm),q3.trans (Eq.trans (by simp only[AS.fp,hl]) r3.symm)⟩
     ·obtain⟨_,q2,_⟩:=gk (x.fp ⟨x.H.set loc (.box ty (putAt cs off vs)),loc⟩) v
      exact q2.trans rfl
    ·rename_i cs Kg
     obtain⟨h1,bc⟩:=ab bc
     injection bc with bc
     subst bc
     obtain⟨k1,k2,k3⟩:=sp (s.fp ⟨s.H.set loc (.ca (putAt cs off vs)),loc⟩) (x.fp ⟨x.H.set loc (.ca (putAt cs off vs)),loc⟩) hvT
     refine⟨some ((x.fp ⟨x.H.set loc (.ca (putAt cs off vs)),loc⟩).bD v),⟨x.fp ⟨x.H.set loc (.ca (putAt cs off vs)),loc⟩,by simp only[po,h0,cond_true,hH,Kg,h1],trivial,rfl⟩,⟨fun k hk=>?_,fun k hk=>?_,fun _=>?_,fun h=>(by cases h),fun h=>(by cases h),fun _=>?_⟩,hw⟩
     ·exact k1 k (by simpa [gb] using hk)
     ·exact k2 k (by simpa [gb] using hk)
     ·obtain⟨q1,_,q3⟩:=gk (x.fp ⟨x.H.set loc (.ca (putAt cs off vs)),loc⟩) v
      obtain⟨r1,_,r3⟩:=gk (s.fp ⟨s.H.set loc (.ca (putAt cs off vs)),loc⟩) v
      exact⟨q1.trans (Eq.trans (by simp only[AS.fp,hH]) r1.symm),q3.trans (Eq.trans (by simp only[AS.fp,hl]) r3.symm)⟩
     ·obtain⟨_,q2,_⟩:=gk (x.fp ⟨x.H.set loc (.ca (putAt cs off vs)),loc⟩) v
      exact q2.trans rfl
    ·cases bc
  case lref b g off =>
   cases c with
   | TA=>cases ig
   | heap=>cases ig
   | frame b' =>
    simp only[fG,dR,apc] at ig
    subst ig
    have hTb:=ha.T b' (aoX.2 (.inr (ao3.2 rfl)))
    split at bc
    ·rename_i g' cs hT
     obtain⟨h1,bc⟩:=ab bc
     injection bc with bc
     subst bc
     rw[hT] at hTb
     have ajL:∀ t,t∈v.tmps->(x.br b' (.lbox g (putAt cs off vs))).T t=(s.br b' (.lbox g (putAt cs off vs))).T t:=fun t ht=>by rw[dE,dE,hvT t ht]
     obtain⟨k1,k2,k3⟩:=sp _ _ ajL
     refine⟨some ((x.br b' (.lbox g (putAt cs off vs))).bD v),⟨x.br b' (.lbox g (putAt cs off vs)),by simp only[po,h0,cond_true,hTb,h1],trivial,rfl⟩,⟨fun k hk=>?_,fun k hk=>?_,fun h=>(by cases h),fun _=>?_,fun h=>(by cases h),fun _=>?_⟩,hw⟩
     ·by_cases Tt:k∈v.tmps
      ·exact k1 k Tt
      ·have Kl:k=b':=by
        rcases aoX.1 hk with h|h
        ·exact absurd h Tt
        ·exact ao3.1 h
       show ((x.br b' _).bD v).T k=((s.br b' _).bD v).T k
       rw[k2 k Tt,k3 k Tt,dE,dE,if_pos Kl,if_pos Kl]
     ·have Tt:k∉v.tmps:=fun h=>hk (aoX.2 (.inl h))
      have Kl:k≠b':=fun h=>hk (aoX.2 (.inr (ao3.2 h)))
      show ((x.br b' _).bD v).T k=x.T k
      rw[k2 k Tt,dE,if_neg Kl]
     ·obtain⟨q1,_,q3⟩:=gk (x.br b' (.lbox g (putAt cs off vs))) v
      exact⟨q1.trans rfl,q3.trans rfl⟩
     ·obtain⟨_,q2,_⟩:=gk (x.br b' (.lbox g (putAt cs off vs))) v
      exact q2.trans rfl
    ·cases bc
  case eref=>cases c<;>cases ig
 case append isB wr sz bytes y1 y2 =>
  cases wr with
  | true=>cases he
  | false =>
   simp only[aoZ,aoQ] at he
   subst he
   have hw:∀ t,t∈y1.tmps->t∈y1.tmps++y2.tmps:=fun t h=>aoX.2 (.inl h)
   have h2:=ev (y:=y2) (fun t h=>aoX.2 (.inr h))
   simp only[di,aq] at bc ⊢
   cases y1 with
   | tmp t =>
    have ht:=ha.T t (by simp[an.tmps])
    simp only[fe] at bc ⊢
    rw[ht,h2]
    split at bc
    ·simp only[aoP] at bc
     obtain⟨f,_,bc⟩:=bc
     simp at bc
    ·rename_i el own hT
     simp only[aoZ,aoO,aoS] at bc
     obtain⟨z',hz,rfl,rfl⟩:=bc
     refine⟨some (x.br t (.slice el false)),by simp only[aoZ,hz,Option.map_some],⟨fun k hk=>?_,fun k hk=>?_,fun h=>(by cases h),fun _=>⟨rfl,rfl⟩,fun h=>(by cases h),fun _=>rfl⟩,hw⟩
     ·simp only[an.tmps,ao3] at hk
      simp only[Option.getD_some,dE,hk,ap4]
     ·simp only[an.tmps,ao3] at hk
      simp only[Option.getD_some,dE,if_neg hk]
    ·simp only[aoZ,aoO,aoS] at bc
     obtain⟨z',hz,rfl,rfl⟩:=bc
     exact⟨some x,by simp only[aoZ,hz,Option.map_some],dG.stay ha hw,hw⟩
    ·cases bc
   | _ =>
    simp only[fe,aoZ] at bc ⊢
    have sF:=ri bc
    subst sF
    rw[h2]
    exact⟨none,bc,dG.stay ha hw,hw⟩
 case appendO sz bytes y1 y2 =>
  simp only[aoQ] at he
  subst he
  obtain⟨hH,hl⟩:=ha.H (.inl rfl)
  simp only[di,aq] at bc ⊢
  rw[ad (y:=y1) (fun t h=>aoX.2 (.inl h)),ev (y:=y2) (fun t h=>aoX.2 (.inr h))]
  simp only[il] at bc ⊢
  split at bc
  ·rename_i v hn
   simp only[aoQ,aoS] at bc
   obtain⟨rfl,rfl⟩:=bc
   exact⟨none,rfl,dG.stay ha (fun t h=>by cases h),fun t h=>by cases h⟩
  simp only[gU,aoP] at bc ⊢
  obtain⟨f,hf,bc⟩:=bc
  have fin:∀ (c0:fQ),dG ⟨y1.tmps++y2.tmps,[],true,true,false⟩ (s.fp c0) x (x.fp c0):=fun c0=>⟨fun k hk=>(by cases hk),fun _ _=>rfl,fun _=>⟨rfl,by simp only[AS.fp,hl]⟩,fun h=>(by cases h),fun h=>(by cases h),fun _=>rfl⟩
  split at bc
  ·obtain⟨h0,bc⟩:=ab bc
   simp only[aoQ,aoS] at bc
   obtain⟨rfl,rfl⟩:=bc
   rename_i hY
   exact⟨some (x.fp ⟨s.H++[cj.box aJ f.flatten],s.H.length⟩),⟨f,hf,by simp only[h0,cond_true,hH]⟩,fin ⟨s.H++[cj.box aJ f.flatten],s.H.length⟩,fun t h=>by cases h⟩
  ·obtain⟨h0,bc⟩:=ab bc
   simp only[aoQ,aoS] at bc
   obtain⟨rfl,rfl⟩:=bc
   rename_i hY
   exact⟨some (x.fp ⟨s.H++[cj.box aJ f.flatten],s.H.length⟩),⟨f,hf,by simp only[h0,cond_true,hH]⟩,fin ⟨s.H++[cj.box aJ f.flatten],s.H.length⟩,fun t h=>by cases h⟩
  ·rename_i l o n zz hY
   split at bc
   ·rename_i ty cs Kg
    obtain⟨h0,bc⟩:=ab bc
    simp only[aoQ,aoS] at bc
    obtain⟨rfl,rfl⟩:=bc
    exact⟨some (x.fp ⟨s.H.set l .dead++[cj.box aJ (cs++f.flatten)],l⟩),⟨f,hf,by simp only[hH,Kg,h0,cond_true]⟩,fin ⟨s.H.set l .dead++[cj.box aJ (cs++f.flatten)],l⟩,fun t h=>by cases h⟩
   ·cases bc
  ·cases bc
 case copyO y1 y2 =>
  simp only[aoQ] at he
  subst he
  obtain⟨hH,hl⟩:=ha.H (.inl rfl)
  simp only[di,aq] at bc ⊢
  rw[ad (y:=y1) (fun t h=>aoX.2 (.inl h)),ev (y:=y2) (fun t h=>aoX.2 (.inr h))]
  simp only[pF] at bc ⊢
  have fin:∀ (c0:fQ),dG ⟨y1.tmps++y2.tmps,[],true,true,false⟩ (s.fp c0) x (x.fp c0):=fun c0=>⟨fun k hk=>(by cases hk),fun _ _=>rfl,fun _=>⟨rfl,by simp only[AS.fp,hl]⟩,fun h=>(by cases h),fun h=>(by cases h),fun _=>rfl⟩
  split at bc
  ·rename_i l o n zz f own hY hZ
   split at bc
   ·rename_i cs Kg
    obtain⟨h0,bc⟩:=ab bc
    simp only[aoQ,aoS] at bc
    obtain⟨rfl,rfl⟩:=bc
    exact⟨some (x.fp ⟨s.H.set l (.ca (putAt cs o (f.take (Nat.min f.length n)).flatten)),l⟩),by simp only[hH,Kg,h0,cond_true],fin ⟨s.H.set l (.ca (putAt cs o (f.take (Nat.min f.length n)).flatten)),l⟩,fun t h=>by cases h⟩
   ·cases bc
  ·simp only[aoQ,aoS] at bc
   obtain⟨rfl,rfl⟩:=bc
   exact⟨none,rfl,dG.stay ha (fun t h=>by cases h),fun t h=>by cases h⟩
  ·cases bc
 case call f args =>
  simp only[aoQ] at he
  subst he
  obtain⟨hH,hl⟩:=ha.H (.inl rfl)
  have hf:=ev (y:=f) (fun t h=>by simp only[fc.tmps,aoX];exact .inl h)
  have had:∀ y,y∈args->y.addr G x.T=y.addr G s.T:=fun y hy=>ad (y:=y) (fun t h=>by simp only[fc.tmps,aoX,apT];exact .inr ⟨y,hy,h⟩)
  have e1:(args.map fun a=>a.addr G x.T)=args.map fun a=>a.addr G s.T:=aph had
  have e2:(args.map fun a=>(a.addr G x.T).aX)=args.map fun a=>(a.addr G s.T).aX:=aph fun y hy=>by rw[had y hy]
  have Ks:∀ t,t∈([]:List Nat)->t∈(fc.call f args).tmps:=fun t h=>by cases h
  cases pc with
  | true =>
   simp only[di,cond_true,aq] at bc ⊢
   rw[hf,e1,e2,hH]
   split at bc
   ·obtain⟨h0,bc⟩:=ab bc
    simp only[aoP] at bc
    obtain⟨r,hr,bc⟩:=bc
    split at bc
    ·rename_i h2
     simp only[aoQ,aoS] at bc
     obtain⟨rfl,rfl⟩:=bc
     exact⟨none,by simp only[h0,cond_true,hr,Option.map_some,h2,Option.map_none],dG.stay ha Ks,Ks⟩
    ·cases bc
   ·cases bc
  | false =>
   simp only[di,aoZ,aq] at bc ⊢
   rw[hf,e1,e2,hH]
   split at bc
   ·obtain⟨h0,bc⟩:=ab bc
    simp only[aoO,aoS] at bc
    obtain⟨r,hr,rfl,rfl⟩:=bc
    refine⟨r.2.map x.fp,by simp only[h0,cond_true,hr,Option.map_some],?_,Ks⟩
    cases h2:r.2 with
    | none=>exact dG.stay ha Ks
    | some c0=>exact⟨fun k hk=>(by cases hk),fun _ _=>rfl,fun _=>⟨rfl,by simp only[Option.map_some,Option.getD_some,AS.fp,hl]⟩,fun h=>(by cases h),fun h=>(by cases h),fun _=>rfl⟩
   ·cases bc
theorem Fg{pc:Bool}{c:NB}{op:fc}(he:xE pc c op=some e):∀ t,t∈e.ws->t∈e.rs:=by
 intro t ht
 cases op<;>simp only[xE] at he<;>try (cases he;done)
 case mov take obj y =>
  cases obj with
  | true=>cases he
  | false =>
   simp only[aoZ,aoQ] at he
   subst he
   cases take with
   | true=>exact ht
   | false=>cases ht
 case load take agg sz y =>
  simp only[aoQ] at he
  subst he
  cases hb:(take&&!agg) with
  | true=>simp only[hb,cond_true] at ht;exact aoX.2 (.inr ht)
  | false=>simp only[hb,aoZ] at ht;cases ht
 case store sz y v =>
  simp only[aoQ] at he
  subst he
  rcases aoX.1 ht with h|h
  ·exact aoX.2 (.inl (aoX.2 (.inr h)))
  ·exact aoX.2 (.inr h)
 case append isB wr sz bytes y1 y2 =>
  cases wr with
  | true=>cases he
  | false =>
   simp only[aoZ,aoQ] at he
   subst he
   exact aoX.2 (.inl ht)
 all_goals
  simp only[aoQ] at he
  subst he
  cases ht
theorem pS{mode pc:Bool}{is:List aj}{L:List Nat}{o:aj}(he:vO mode pc is L o=some e)
  (hc:∀ c y,qk mode is L o.op=some (c,y)->(∀ g w,o.guard=some (g,w)->s.T g=.bool w)->fG c (y.addr G s.T)=true) {s1:AS}
  (bc:bt G cf false s (iB pc o)=some s1) (ha:To e s x):∃ x1,bt G cf false x o=some x1/\dG e s1 x x1/\(∀ t,t∈e.ws->t∈o.dst.toList\/t∈e.rs):=by
 simp only[vO,aoO] at he
 obtain⟨e0,he0,rfl⟩:=he
 rw[wk] at bc
 have ha0:To e0 s x:=⟨fun t ht=>ha.T t (aoX.2 (.inr ht)),ha.H,ha.G⟩
 have C7:∀ (q:AS) (d:Option Nat) (v:AV) (k:Nat),(q.bM d v).T k=if k∈d.toList then v else q.T k:=by
  intro q d v k
  cases d with
  | none=>simp[AS.bM]
  | some d=>simp only[AS.bM,dE,Option.toList_some,ao3]
 have put:∀ (v:AV) (s2 x2:AS),dG e0 s2 x x2->(∀ t,t∈e0.ws->t∈e0.rs) ->
   dG ⟨(match o.guard with|some (g,_)=>[g]|none=>[])++e0.rs,o.dst.toList++e0.ws,e0.rh,e0.wh,e0.wg⟩ (s2.bM o.dst v) x (x2.bM o.dst v)/\(∀ t,t∈o.dst.toList++e0.ws->t∈o.dst.toList\/t∈(match o.guard with|some (g,_)=>[g]|none=>[])++e0.rs):=by
  intro v s2 x2 hM hw
  refine⟨⟨fun t ht=>?_,fun t ht=>?_,fun h=>?_,fun h=>?_,fun h=>?_,fun h=>?_⟩,fun t ht=>?_⟩
  ·rw[C7,C7]
   by_cases hd:t∈o.dst.toList
   ·rw[if_pos hd,if_pos hd]
   ·rw[if_neg hd,if_neg hd]
    rcases aoX.1 ht with h|h
    ·exact absurd h hd
    ·exact hM.T t h
  ·rw[C7,if_neg (fun h=>ht (aoX.2 (.inl h)))]
   exact hM.T' t (fun h=>ht (aoX.2 (.inr h)))
  ·rw[(gG s2 o.dst v).1,(gG s2 o.dst v).2.2,(gG x2 o.dst v).1,(gG x2 o.dst v).2.2];exact hM.H h
  ·rw[(gG x2 o.dst v).1,(gG x2 o.dst v).2.2];exact hM.H' h
  ·rw[(gG s2 o.dst v).2.1,(gG x2 o.dst v).2.1];exact hM.G h
  ·rw[(gG x2 o.dst v).2.1];exact hM.G' h
  ·rcases aoX.1 ht with h|h
   ·exact .inl h
   ·exact .inr (aoX.2 (.inr (hw t h)))
 have run:(∀ g w,o.guard=some (g,w)->s.T g=.bool w)->((aq G cf s (di pc o.op)).bind fun r=>match r.2 with
   | none=>cond (false&&(aO r.1).isSome) none (some (s.bM o.dst r.1))
   | some s'=>cond false none (some (s'.bM o.dst r.1)))=some s1 ->
   ∃ x1,((aq G cf x o.op).bind fun r=>match r.2 with
    | none=>cond (false&&(aO r.1).isSome) none (some (x.bM o.dst r.1))
    | some s'=>cond false none (some (s'.bM o.dst r.1)))=some x1/\dG ⟨(match o.guard with|some (g,_)=>[g]|none=>[])++e0.rs,o.dst.toList++e0.ws,e0.rh,e0.wh,e0.wg⟩ s1 x x1 /\
    (∀ t,t∈o.dst.toList++e0.ws->t∈o.dst.toList\/t∈(match o.guard with|some (g,_)=>[g]|none=>[])++e0.rs):=by
  intro hg hr
  simp only[aoP] at hr
  obtain⟨⟨z,so⟩,hz,hr⟩:=hr
  obtain⟨xo,h1,h2,h3⟩:=Wz he0 (fun y hy=>by
    have key:∃ c,qk mode is L o.op=some (c,y):=by
     rcases hy with ⟨t,a,z,h⟩|⟨z,v,h⟩|h|⟨f,h⟩|⟨n,z,i,h⟩<;>rw[h]<;>exact⟨_,rfl⟩
    obtain⟨c,hk⟩:=key
    rw[hk]
    exact hc c y hk hg)
   (fun y hy=>by
    have key:qk mode is L o.op=some (.heap,y):=by
     rcases hy with ⟨z,i,h⟩|⟨k,h⟩<;>rw[h]<;>rfl
    exact hc _ y key hg) hz ha0
  have AL:s1=(so.getD s).bM o.dst z:=by
   cases so with
   | none=>simp only[aqb,aoZ,aoQ] at hr;exact hr.symm
   | some s2=>simp only[aoZ,aoQ] at hr;exact hr.symm
  subst AL
  obtain⟨p1,p2⟩:=put z _ _ h2 h3
  refine⟨(xo.getD x).bM o.dst z,?_,p1,p2⟩
  rw[h1]
  cases xo with
  | none=>rfl
  | some x2=>rfl
 unfold bt at bc ⊢
 cases ju:o.guard with
 | none =>
  rw[ju] at run
  simp only[ju] at bc ⊢
  exact run (fun g w h=>by cases h) bc
 | some gw =>
  obtain⟨g,w⟩:=gw
  have hxg:x.T g=s.T g:=ha.T g (by rw[ju];exact aoX.2 (.inl (ao3.2 rfl)))
  simp only[ju] at bc ⊢
  rw[hxg]
  rw[ju] at run put
  have skip:some (s.bM o.dst .undef)=some s1->∃ x1,some (x.bM o.dst .undef)=some x1/\dG ⟨[g]++e0.rs,o.dst.toList++e0.ws,e0.rh,e0.wh,e0.wg⟩ s1 x x1/\(∀ t,t∈o.dst.toList++e0.ws->t∈o.dst.toList\/t∈[g]++e0.rs):=by
   intro h
   injection h with h
   subst h
   obtain⟨p1,p2⟩:=put .undef s x (dG.stay ha0 (Fg he0)) (Fg he0)
   exact⟨_,rfl,p1,p2⟩
  generalize hX:s.T g=X at bc
  cases X with
  | bool b =>
   simp only at bc ⊢
   cases hb:(b==w) with
   | true =>
    rw[hb] at bc
    simp only[cond_true] at bc ⊢
    exact run (fun g' w' h=>by injection h with h;injection h with h1 h2;subst h1 h2;rw[hX];congr 1;simpa using hb) bc
   | false =>
    rw[hb] at bc
    simp only[aoZ] at bc ⊢
    exact skip bc
  | tuple vs =>
   cases vs with
   | nil=>exact skip bc
   | cons v vs=>cases bc
  | _=>cases bc
end
section
variable {α:Type}{S:Nat->AS}{f:AS->α}{w X:Nat->Prop}{n k:Nat}{x x1:AS}
def wA(S:Nat->AS)(f:AS->α)(w X:Nat->Prop)(x:AS):Prop :=
 (∃ i,X i/\w i/\(∀ j,X j->w j->j<=i)/\f x=f (S (i+1)))\/((∀ j,X j->¬ w j)/\f x=f (S 0))
theorem pA(hf:∀ j,j<n->¬ w j->f (S (j+1))=f (S j)){a:Nat} : ∀ (b:Nat),a<=b->b<=n->(∀ j,a<=j->j<b->¬ w j)->f (S b)=f (S a):=by
 intro b
 induction b with
 | zero=>intro h _ _;rw[show a=0 by omega]
 | succ b ih =>
  intro h1 h2 h3
  rcases ap7 b a with h|h
  ·rw[show a=b+1 by omega]
  ·rw[hf b (by omega) (h3 b h (by omega)),ih h (by omega) (fun j a1 a2=>h3 j a1 (by omega))]
theorem jZ(hf:∀ j,j<n->¬ w j->f (S (j+1))=f (S j))(hk:k<=n)(hC:wA S f w X x)(h1:∀ j,j<k->w j->X j)(h2:∀ j,X j->w j->j<k):f x=f (S k):=by
 rcases hC with ⟨i,hX,hw,hm,he⟩|⟨jg,he⟩
 ·rw[he]
  refine (pA hf k (h2 i hX hw) hk (fun j a b Mt=>?_)).symm
  have:=hm j (h1 j b Mt) Mt
  omega
 ·rw[he]
  exact (pA hf k (apZ _) hk (fun j a b Mt=>jg j (h1 j b Mt) Mt)).symm
theorem lg(hw:w k)(hm:∀ j,X j->w j->j<=k)(he:f x1=f (S (k+1))):wA S f w (fun j=>X j\/j=k) x1 :=
 .inl ⟨k,.inr rfl,hw,fun j hj Mt=>by rcases hj with h|h;exact hm j h Mt;omega,he⟩
theorem mQ(hw:¬ w k)(hC:wA S f w X x)(he:f x1=f x):wA S f w (fun j=>X j\/j=k) x1:=by
 rcases hC with ⟨i,hX,Y3,hm,h⟩|⟨jg,h⟩
 ·exact .inl ⟨i,.inl hX,Y3,fun j hj Mt=>by
   rcases hj with h'|h'
   ·exact hm j h' Mt
   ·subst h';exact absurd Mt hw,by rw[he,h]⟩
 ·exact .inr ⟨fun j hj Mt=>by
   rcases hj with h'|h'
   ·exact jg j h' Mt
   ·subst h';exact hw Mt,by rw[he,h]⟩
theorem lf{Y:Nat->Prop}(h:∀ j,X j↔Y j)(hC:wA S f w X x):wA S f w Y x:=by
 rcases hC with ⟨i,hX,Y3,hm,h'⟩|⟨jg,h'⟩
 ·exact .inl ⟨i,(h i).1 hX,Y3,fun j hj=>hm j ((h j).2 hj),h'⟩
 ·exact .inr ⟨fun j hj=>jg j ((h j).2 hj),h'⟩
structure sO (S:Nat->AS) (E:Nat->qj) (X:Nat->Prop) (x:AS):Prop where
 T:∀ t,wA S (fun s=>s.T t) (fun j=>t∈(E j).ws) X x
 H:wA S (fun s=>(s.H,s.lo)) (fun j=>(E j).wh=true) X x
 G:wA S (fun s=>s.gen) (fun j=>(E j).wg=true) X x
structure zV (S:Nat->AS) (E:Nat->qj) (n:Nat):Prop where
 T:∀ t j,j<n->¬ (t∈(E j).ws)->(S (j+1)).T t=(S j).T t
 H:∀ j,j<n->¬ ((E j).wh=true)->((S (j+1)).H,(S (j+1)).lo)=((S j).H,(S j).lo)
 G:∀ j,j<n->¬ ((E j).wg=true)->(S (j+1)).gen=(S j).gen
theorem lq{x y:List Nat}{t:Nat}(h1:t∈x)(h2:t∈y):meets x y=true:=by
 simp only[meets,List.any_eq_true]
 exact⟨t,h1,by simpa using h2⟩
theorem HD{E:Nat->qj}(hK:zV S E n)(hk:k<n)(hB:sO S E X x)(hX:¬ X k)(h1:∀ j,j<k->conflict (E k) (E j)=true->X j)(h2:∀ j,k<j->conflict (E j) (E k)=true->¬ X j):To (E k) (S k) x:=by
 have lt:∀ j,X j->j<k\/k<j:=fun j h=>by
  rcases aqo j k with a|a|a
  ·exact .inl a
  ·subst a;exact absurd h hX
  ·exact .inr a
 refine⟨fun t ht=>?_,fun hh=>?_,fun hg=>?_⟩
 ·refine jZ (fun j=>hK.T t j) (aqS hk) (hB.T t) (fun j hj hw=>h1 j hj ?_) (fun j hj hw=>?_)
  ·simp only[conflict,lq hw ht,aqO,aqP]
  ·rcases lt j hj with a|a
   ·exact a
   ·exact absurd hj (h2 j a (by simp only[conflict,lq hw ht,aqO,aqP]))
 ·have:=jZ (fun j=>hK.H j) (aqS hk) hB.H (fun j hj hw=>h1 j hj (by
   rcases hh with h|h<;>simp[conflict,hw,h])) (fun j hj hw=>by
   rcases lt j hj with a|a
   ·exact a
   ·exact absurd hj (h2 j a (by rcases hh with h|h<;>simp[conflict,hw,h])))
  simp only[aoS] at this
  exact this
 ·exact jZ (fun j=>hK.G j) (aqS hk) hB.G (fun j hj hw=>h1 j hj (by simp[conflict,hw,hg])) (fun j hj hw=>by
   rcases lt j hj with a|a
   ·exact a
   ·exact absurd hj (h2 j a (by simp[conflict,hw,hg])))
theorem DE{E:Nat->qj}(hB:sO S E X x)(hX:¬ X k)(h2:∀ j,k<j->conflict (E j) (E k)=true->¬ X j)(hM:dG (E k) (S (k+1)) x x1):sO S E (fun j=>X j\/j=k) x1:=by
 have le:∀ j,X j->(k<j->conflict (E j) (E k)=true)->j<=k:=fun j h hc=>by
  rcases ap7 k j with a|a
  ·exact absurd h (h2 j a (hc a))
  ·exact a
 refine⟨fun t=>?_,?_,?_⟩
 ·by_cases ht:t∈(E k).ws
  ·exact lg ht (fun j hj hw=>le j hj fun _=>by simp only[conflict,lq hw ht,aqO,aqP]) (hM.T t ht)
  ·exact mQ ht (hB.T t) (hM.T' t ht)
 ·by_cases hh:(E k).wh=true
  ·exact lg hh (fun j hj hw=>le j hj fun _=>by simp[conflict,hw,hh]) (by simp only[hM.H hh])
  ·have:=hM.H' (by simpa using hh)
   exact mQ hh hB.H (by simp only[this])
 ·by_cases hg:(E k).wg=true
  ·exact lg hg (fun j hj hw=>le j hj fun _=>by simp[conflict,hw,hg]) (hM.G hg)
  ·exact mQ hg hB.G (hM.G' (by simpa using hg))
theorem HE{E:Nat->qj}(hK:zV S E n)(hB:sO S E X x)(hX:∀ j,X j↔j<n):x=S n:=by
 have hT:x.T=(S n).T:=funext fun t=>jZ (fun j=>hK.T t j) (aoU _) (hB.T t) (fun j hj _=>(hX j).2 hj) (fun j hj _=>(hX j).1 hj)
 have hH:=jZ (fun j=>hK.H j) (aoU _) hB.H (fun j hj _=>(hX j).2 hj) (fun j hj _=>(hX j).1 hj)
 have hG:=jZ (fun j=>hK.G j) (aoU _) hB.G (fun j hj _=>(hX j).2 hj) (fun j hj _=>(hX j).1 hj)
 simp only[aoS] at hH
 obtain⟨h1,h2⟩:=hH
 cases x
 generalize S n=y at hT h1 h2 hG
 cases y
 simp only at hT h1 h2 hG
 subst hT h1 h2 hG
 rfl
theorem DD{E:Nat->qj}(hX:∀ j,¬ X j):sO S E X (S 0) :=
 ⟨fun _=>.inr ⟨fun j h=>absurd h (hX j),rfl⟩,.inr ⟨fun j h=>absurd h (hX j),rfl⟩,.inr ⟨fun j h=>absurd h (hX j),rfl⟩⟩
end
theorem yP(ops:List Oper):∀ (k:Nat) (o:Oper),ops[k]?=some o->∀ p,p∈(p5 ops).getD k []->∃ e,e∈o.after.toList/\Region.binds .any e=true/\(p=e.on\/p∈(p5 ops).getD e.on []):=by
 have key:∀ (l r:List Oper) (t:List (List Nat)),t.length=l.length->(∀ (k:Nat) (o:Oper),l[k]?=some o->∀ p,p∈t.getD k []->∃ e,e∈o.after.toList/\Region.binds .any e=true/\(p=e.on\/p∈t.getD e.on [])) ->
   let t':=r.foldl (fun t o=>t++[(o.after.toList.flatMap fun e=>cond (Region.binds .any e) (e.on :: t.getD e.on []) []).eraseDups]) t
   ∀ (k:Nat) (o:Oper),(l++r)[k]?=some o->∀ p,p∈t'.getD k []->∃ e,e∈o.after.toList/\Region.binds .any e=true/\(p=e.on\/p∈t'.getD e.on []):=by
  intro l r
  induction r generalizing l with
  | nil=>intro t hl h;simpa using h
  | cons o r ih =>
   intro t hl h
   have:=ih (l++[o]) (t++[(o.after.toList.flatMap fun e=>cond (Region.binds .any e) (e.on :: t.getD e.on []) []).eraseDups]) (by simp[hl]) (fun k o' hk p hp=>?_)
   ·simpa using this
   ·have grow:∀ (v:List Nat) (i q:Nat),q∈t.getD i []->q∈(t++[v]).getD i []:=by
     intro v i q hq
     have:i<t.length:=by
      rcases ap7 i t.length with h|h
      ·exact h
      ·rw[apg,aqc h] at hq;cases hq
     rw[apg,ao7 this,<- apg];exact hq
    rcases aqo k l.length with a|a|a
    ·rw[ao7 a] at hk
     rw[apg,ao7 (by omega),<- apg] at hp
     obtain⟨e,h1,h2,h3⟩:=h k o' hk p hp
     exact⟨e,h1,h2,h3.imp id (grow _ _ _)⟩
    ·subst a
     simp only[ao5 (aoU _),apW,ao4,aoQ] at hk
     subst hk
     rw[apg,ao5 (by omega),hl,apW] at hp
     simp only[ao4,Option.getD_some,List.mem_eraseDups,apT] at hp
     obtain⟨e,h1,hp⟩:=hp
     cases hb:Region.binds .any e with
     | false=>rw[hb] at hp;cases hp
     | true =>
      rw[hb] at hp
      simp only[cond_true,ao8] at hp
      exact⟨e,h1,hb,hp.imp id (grow _ _ _)⟩
    ·rw[ao5 (by omega)] at hk
     have:k-l.length≠0:=by omega
     obtain⟨m,hm⟩:=Nat.exists_eq_succ_of_ne_zero this
     rw[hm] at hk
     simp at hk
 have:=key [] ops [] rfl (fun k o hk=>by simp at hk)
 simpa [p5] using this
theorem uF{ops:List Oper}{X:Nat->Prop}(ko:∀ (i:Nat) (o:Oper),ops[i]?=some o->∀ e,e∈o.after.toList->Region.binds .any e=true->e.on<i)
  (hX:∀ (i:Nat) (o:Oper),ops[i]?=some o->X i->∀ e,e∈o.after.toList->Region.binds .any e=true->X e.on) :
  ∀ (k:Nat),X k->∀ p,p∈(p5 ops).getD k []->X p:=by
 intro k
 induction k using Nat.strongRecOn with
 | _ k ih =>
  intro hk p hp
  cases ho:ops[k]? with
  | none =>
   exfalso
   have hlen:∀ (r:List Oper) (t:List (List Nat)),(r.foldl (fun t o=>t++[(o.after.toList.flatMap fun e=>cond (Region.binds .any e) (e.on :: t.getD e.on []) []).eraseDups]) t).length=t.length+r.length:=by
    intro r
    induction r with
    | nil=>intro t;simp
    | cons o r ih=>intro t;rw[aqt,ih];simp;omega
   have h1:(p5 ops).length=ops.length:=by rw[p5,hlen];simp
   rw[apg,aqc (by rw[h1];exact List.getElem?_eq_none_iff.1 ho)] at hp
   cases hp
  | some o =>
   obtain⟨e,h1,h2,h3⟩:=yP ops k o ho p hp
   have h4:=hX k o ho hk e h1 h2
   rcases h3 with h3|h3
   ·rw[h3];exact h4
   ·exact ih e.on (ko k o ho e h1 h2) h4 p h3
theorem GR{ops:List Oper}{X:Nat->Prop}(ko:∀ (i:Nat) (o:Oper),ops[i]?=some o->∀ e,e∈o.after.toList->Region.binds .any e=true->e.on<i)
  (hX:∀ (i:Nat) (o:Oper),ops[i]?=some o->X i->∀ e,e∈o.after.toList->Region.binds .any e=true->X e.on)
  {k:Nat} {o:Oper} (ho:ops[k]?=some o) (hr:∀ e,e∈o.after.toList->Region.binds .any e=true->X e.on):∀ p,p∈(p5 ops).getD k []->X p:=by
 intro p hp
 obtain⟨e,h1,h2,h3⟩:=yP ops k o ho p hp
 rcases h3 with h3|h3
 ·rw[h3];exact hr e h1 h2
 ·exact uF ko hX e.on (hr e h1 h2) p h3
section
variable {G:Nat->List AV}{cf:cu}
theorem JB{pc:Bool}{op:fc}{s:AS}{r:AV × Option AS}(h:aq G cf s (di pc op)=some r):aq G cf s op=some r:=by
 cases op<;>try exact h
 rename_i f xs
 cases pc with
 | false=>exact h
 | true =>
  simp only[di,cond_true,aq] at h ⊢
  split at h
  ·obtain⟨h0,h⟩:=ab h
   simp only[aoP] at h
   obtain⟨⟨v,c⟩,h1,h⟩:=h
   simp only[h0,cond_true,h1,Option.map_some]
   cases c with
   | none=>exact h
   | some c=>cases h
  ·cases h
theorem qa{pc:Bool}{o:aj}{s s1:AS}(h:bt G cf false s (iB pc o)=some s1):bt G cf false s o=some s1:=by
 rw[wk] at h
 have run:((aq G cf s (di pc o.op)).bind fun r=>match r.2 with
   | none=>cond (false&&(aO r.1).isSome) none (some (s.bM o.dst r.1))
   | some s'=>cond false none (some (s'.bM o.dst r.1)))=some s1->((aq G cf s o.op).bind fun r=>match r.2 with
   | none=>cond (false&&(aO r.1).isSome) none (some (s.bM o.dst r.1))
   | some s'=>cond false none (some (s'.bM o.dst r.1)))=some s1:=by
  intro h
  simp only[aoP] at h
  obtain⟨r,hr,h⟩:=h
  rw[JB hr]
  exact h
 unfold bt at h ⊢
 cases ju:o.guard with
 | none=>simp only[ju] at h ⊢;exact run h
 | some gw =>
  obtain⟨g,w⟩:=gw
  simp only[ju] at h ⊢
  generalize s.T g=X at h ⊢
  cases X with
  | bool b =>
   simp only at h ⊢
   cases hb:(b==w) with
   | true=>rw[hb] at h;simp only[cond_true] at h ⊢;exact run h
   | false=>rw[hb] at h;exact h
  | tuple vs=>cases vs with
   | nil=>exact h
   | cons v vs=>cases h
  | _=>cases h
theorem uq{mode pc:Bool}{is:List aj}{L:List Nat} : ∀ (l:List aj) (s s' : AS),bK G cf false (inter mode pc is L l) s=some s' ->
  ∃ S:Nat->AS,S 0=s/\S l.length=s'/\∀ (i:Nat) (o:aj),l[i]?=some o->(∀ c y,qk mode is L o.op=some (c,y)->(∀ g w,o.guard=some (g,w)->(S i).T g=.bool w)->fG c (y.addr G (S i).T)=true) /\
   bt G cf false (S i) (iB pc o)=some (S (i+1)):=by
 intro l
 induction l with
 | nil =>
  intro s s' h
  simp only[inter,bK,aoQ] at h
  exact⟨fun _=>s,rfl,h,fun i o hi=>by simp at hi⟩
 | cons o l ih =>
  intro s s' h
  have body:∀ s1,bt G cf false s (iB pc o)=some s1->bK G cf false (inter mode pc is L l) s1=some s'->(∀ c y,qk mode is L o.op=some (c,y)->(∀ g w,o.guard=some (g,w)->s.T g=.bool w)->fG c (y.addr G s.T)=true) ->
    ∃ S:Nat->AS,S 0=s/\S (o :: l).length=s'/\∀ (i:Nat) (o' : aj),(o :: l)[i]?=some o'->(∀ c y,qk mode is L o'.op=some (c,y)->(∀ g w,o'.guard=some (g,w)->(S i).T g=.bool w)->fG c (y.addr G (S i).T)=true) /\
     bt G cf false (S i) (iB pc o')=some (S (i+1)):=by
   intro s1 h1 h2 h3
   obtain⟨S,a,b,c⟩:=ih s1 s' h2
   refine⟨fun i=>match i with|0=>s|i+1=>S i,rfl,b,fun i o' hi=>?_⟩
   cases i with
   | zero =>
    simp only[ao4,aoQ] at hi
    subst hi
    exact⟨h3,by rw[h1];exact ari some a.symm⟩
   | succ i=>exact c i o' (by simpa using hi)
  simp only[inter] at h
  split at h
  ·rename_i c x hk
   simp only[bK,aoP] at h
   obtain⟨s0,h0,s1,h1,h2⟩:=h
   have jR:s0=s/\((∀ g w,o.guard=some (g,w)->s.T g=.bool w)->fG c (x.addr G s.T)=true):=by
    have run:((aq G cf s (.jR c x)).bind fun r=>match r.2 with
      | none=>cond (false&&(aO r.1).isSome) none (some (s.bM none r.1))
      | some s'=>cond false none (some (s'.bM none r.1)))=some s0->s0=s/\fG c (x.addr G s.T)=true:=by
     intro h
     simp only[aq] at h
     cases hc:fG c (x.addr G s.T) with
     | false=>rw[hc] at h;cases h
     | true=>rw[hc] at h;simp[AS.bM] at h;exact⟨h.symm,rfl⟩
    unfold bt at h0
    cases ju:o.guard with
    | none=>simp only[ju] at h0;exact⟨(run h0).1,fun _=>(run h0).2⟩
    | some gw =>
     obtain⟨g,w⟩:=gw
     simp only[ju] at h0
     generalize hX:s.T g=X at h0
     cases X with
     | bool b =>
      simp only at h0
      cases hb:(b==w) with
      | true=>rw[hb] at h0;exact⟨(run h0).1,fun _=>(run h0).2⟩
      | false =>
       rw[hb] at h0
       simp only[aoZ,AS.bM,aoQ] at h0
       refine⟨h0.symm,fun hg=>?_⟩
       have:=hg g w rfl
       rw[hX] at this
       injection this with this
       subst this
       simp at hb
     | tuple vs =>
      cases vs with
      | nil =>
       simp only[AS.bM,aoQ] at h0
       refine⟨h0.symm,fun hg=>?_⟩
       have:=hg g w rfl
       rw[hX] at this
       cases this
      | cons v vs=>cases h0
     | _=>cases h0
   obtain⟨rfl,aiM⟩:=jR
   refine body s1 h1 h2 (fun c' y iV=>?_)
   rw[hk] at iV
   injection iV with iV
   injection iV with e1 e2
   subst e1 e2
   exact aiM
  ·rename_i hk
   simp only[bK,aoP] at h
   obtain⟨s1,h1,h2⟩:=h
   exact body s1 h1 h2 (fun c' y iV=>by rw[hk] at iV;cases iV)
theorem xF{mode pc:Bool}{is:List aj}{L:List Nat} : ∀ {l:List aj} {es:List qj},oh mode pc is L l=some es->es.length=l.length/\∀ (i:Nat) (o:aj),l[i]?=some o->vO mode pc is L o=some (es.getD i default)
 | [],es,h=>by simp[oh] at h;subst h;exact⟨rfl,fun i o hi=>by simp at hi⟩
 | o :: l,es,h=>by
  simp only[oh,aoP,aoO] at h
  obtain⟨e,he,tX,h',rfl⟩:=h
  obtain⟨h1,h2⟩:=xF h'
  refine⟨by simp[h1],fun i o' hi=>?_⟩
  cases i with
  | zero=>simp only[ao4,aoQ] at hi;subst hi;simpa using he
  | succ i=>simpa using h2 i o' (by simpa using hi)
theorem Fk{s s1:AS}{o:aj}(h:bt G cf false s o=some s1):∃ z s2,kj G cf false s o=some (z,s2)/\s1=s2.bM o.dst z:=by
 have run:((aq G cf s o.op).bind fun r=>match r.2 with
   | none=>cond (false&&(aO r.1).isSome) none (some (s.bM o.dst r.1))
   | some s'=>cond false none (some (s'.bM o.dst r.1)))=some s1->∃ z s2,((aq G cf s o.op).bind fun r=>match r.2 with
   | none=>cond (false&&(aO r.1).isSome) none (some (r.1,s))
   | some s'=>cond false none (some (r.1,s')))=some (z,s2)/\s1=s2.bM o.dst z:=by
  intro h
  simp only[aoP] at h
  obtain⟨⟨z,so⟩,hr,h⟩:=h
  rw[hr]
  cases so with
  | none=>simp at h;exact⟨z,s,rfl,h.symm⟩
  | some s2=>simp at h;exact⟨z,s2,rfl,h.symm⟩
 unfold bt at h
 unfold kj
 cases ju:o.guard with
 | none=>simp only[ju] at h ⊢;exact run h
 | some gw =>
  obtain⟨g,w⟩:=gw
  simp only[ju] at h ⊢
  generalize s.T g=X at h ⊢
  cases X with
  | bool b =>
   simp only at h ⊢
   cases hb:(b==w) with
   | true=>rw[hb] at h;simp only[cond_true] at h ⊢;exact run h
   | false=>rw[hb] at h;simp only[aoZ,aoQ] at h ⊢;exact⟨_,_,rfl,h.symm⟩
  | tuple vs=>cases vs with
   | nil=>simp only[aoQ] at h ⊢;exact⟨_,_,rfl,h.symm⟩
   | cons v vs=>cases h
  | _=>cases h
end
section
variable {P:Program}{G:Nat->List AV}{base nt:Nat}{L:List Nat}{gh:Gh}{w w' : World}{a:Act}{s:AS}{H:ah}
theorem D2{cf:cu}(iu:cP P G cf){H0:ah}{gq:Gh}{w0:World}{bF locals muts:List Nat}{ops:Array Oper}(uQ:∀ x,x∈locals->x∈L)(uR:∀ x,x∈muts->x∈L)(Q:Exit->Act->World->Prop)
  {is:List aj} {mode pc:Bool} {M:List Nat} {es:List qj} (hI:Inv G base nt L H0 gq w0 s gh w a) (hc:fA P bF locals muts nt ops ops.toList=some is) (qS:oh mode pc is M is=some es) (cX:rp ops.toList es=true)
  {s' : AS} (he:bK G cf false (inter mode pc is M is) s=some s')
  (hQ:∀ a' aH w',Inv G base nt L H0 gq w0 s' aH w' a'->Q .normal a' w'):wpAny P .any ops Q ops.size (Array.replicate ops.size false) a w:=by
 obtain⟨S,h0,hn,hS⟩:=uq is s s' he
 obtain⟨hlen,nX⟩:=gm hc
 obtain⟨afl,UE⟩:=xF qS
 have gA:ops.size=is.length:=by simpa using hlen
 let E:Nat->qj:=fun i=>es.getD i default
 simp only[rp,Bool.and_eq_true,aoV] at cX
 obtain⟨hb0,cX⟩:=cX
 have ko:∀ (i:Nat) (o:Oper),ops.toList[i]?=some o->∀ e,e∈o.after.toList->Region.binds .any e=true->e.on<i:=by
  intro i o hi e he hb
  have:=hb0 (o,i) (by rw[apn];exact⟨i,by rw[aqC,hi];simp⟩)
  rw[aqG] at this
  have:=this e (by simpa using he)
  simpa [hb,api] using this
 have FO:∀ i j,j<i->i<is.length->conflict (E i) (E j)=true->j∈(p5 ops.toList).getD i []:=by
  intro i j hJ hi iu
  have gi:es[i]?=some (E i):=by
   have:i<es.length:=by omega
   simp[E,this]
  have gj:es[j]?=some (E j):=by
   have:j<es.length:=by omega
   simp[E,this]
  have:=cX (E i,i) (by rw[apn];exact⟨i,by rw[aqC,gi];simp⟩) (E j,j) (by rw[apn];exact⟨j,by rw[aqC,gj];simp⟩)
  simp only[iu,show Nat.blt j i=true by simpa [api] using hJ,aq1,aq',arx] at this
  simpa using this
 have kX:∀ i,i<is.length->∃ io,is[i]?=some io:=fun i hi=>⟨_,aoT hi⟩
 have xc:∀ (e:qj) (q:AS),To e q q:=fun e q=>⟨fun _ _=>rfl,fun _=>⟨rfl,rfl⟩,fun _=>rfl⟩
 have hK:zV S E is.length:=by
  have mv:∀ j,j<is.length->dG (E j) (S (j+1)) (S j) (S (j+1)):=by
   intro j hj
   obtain⟨io,hi⟩:=kX j hj
   obtain⟨x1,h1,h2,_⟩:=pS (UE j io hi) (hS j io hi).1 (hS j io hi).2 (xc _ (S j))
   rw[qa (hS j io hi).2] at h1
   injection h1 with h1
   rw[<- h1] at h2
   exact h2
  refine⟨fun t j hj hw=>(mv j hj).T' t hw,fun j hj hw=>?_,fun j hj hw=>(mv j hj).G' (by simpa using hw)⟩
  have:=(mv j hj).H' (by simpa using hw)
  simp only[this]
 have fin:∀ (listed:Array Bool) (x:AS),listed.size=ops.size->(∀ i,i<ops.size->listed.getD i false=true)->sO S E (fun i=>listed.getD i false=true) x->x=s':=by
  intro listed x Tu dq hB
  rw[<- hn]
  refine HE hK hB (fun i=>⟨fun h=>?_,fun h=>dq i (by omega)⟩)
  have aU:i<listed.size:=by
   rcases ap7 i listed.size with h'|h'
   ·exact h'
   ·simp[aqf h'] at h
  omega
 have main:∀ (n:Nat) (listed:Array Bool) (x:AS) (gh:Gh) (w:World) (a:Act),listed.size=ops.size->(∀ l:List Nat,l.Nodup->(∀ i,i∈l->i<ops.size/\listed.getD i true=false)->l.length<=n) ->
   (∀ j o,ops[j]?=some o->listed.getD j false=true->∀ e,e∈o.after->Region.binds .any e=true->listed.getD e.on false=true) ->
   sO S E (fun i=>listed.getD i false=true) x->Inv G base nt L H0 gq w0 x gh w a->wpAny P .any ops Q n listed a w:=by
  intro n
  induction n with
  | zero =>
   intro listed x gh w a Tu ta fD hB hI
   have dq:∀ i,i<ops.size->listed.getD i false=true:=by
    intro i hi
    cases hb:listed.getD i true with
    | true =>
     have:i<listed.size:=by omega
     simpa [this] using hb
    | false =>
     have:=ta [i] (by simp) (fun j hj=>by simp at hj;subst hj;exact⟨hi,hb⟩)
     simp at this
   have lk:Region.ready .any ops listed=[]:=by
    cases hr:Region.ready .any ops listed with
    | nil=>rfl
    | cons i r =>
     have hm:i∈Region.ready .any ops listed:=by rw[hr];exact ao9
     obtain⟨h1,o,h2,_⟩:=mem_ready.1 hm
     have aU:=(aoY.1 h2).1
     have:=dq i aU
     have gW:i<listed.size:=by omega
     simp[gW] at this h1
     rw[this] at h1
     cases h1
   refine⟨lk,?_⟩
   rw[fin listed x Tu dq hB] at hI
   exact hQ a gh w hI
  | succ n ih =>
   intro listed x gh w a Tu ta fD hB hI
   refine⟨fun lk=>?_,fun i hi=>?_⟩
   ·have dq:∀ i,i<ops.size->listed.getD i false=true:=by
     intro i
     induction i using Nat.strongRecOn with
     | _ i AN =>
      intro aU
      have gW:i<listed.size:=by omega
      cases hb:listed.getD i true with
      | true=>simpa [gW] using hb
      | false =>
       exfalso
       have ho:=ao2 aU
       have:i∈Region.ready .any ops listed:=mem_ready.2 ⟨hb,_,ho,fun e he iE=>by
        have wG:=ko i _ (by rw[aps];exact ho) e (by simpa using he) iE
        exact AN e.on wG (by omega)⟩
       rw[lk] at this
       cases this
    rw[fin listed x Tu dq hB] at hI
    exact hQ a gh w hI
   ·obtain⟨zF,o,ho,me⟩:=mem_ready.1 hi
    have aU:=(aoY.1 ho).1
    have gW:i<listed.size:=by omega
    obtain⟨io,kX,bk⟩:=nX i o (by simpa using ho)
    have qu:¬ (listed.getD i false=true):=by
     simp[gW] at zF ⊢
     exact zF
    have FN:∀ (j:Nat) (o:Oper),ops.toList[j]?=some o->listed.getD j false=true->∀ e,e∈o.after.toList->Region.binds .any e=true->listed.getD e.on false=true :=
     fun j o ho h e he hb=>fD j o (by simpa using ho) h e (by simpa using he) hb
    have ready:=GR (X:=fun i=>listed.getD i false=true) ko FN (k:=i) (o:=o) (by simpa using ho) (fun e he hb=>me e (by simpa using he) hb)
    have later:∀ j,i<j->conflict (E j) (E i)=true->¬ (listed.getD j false=true):=by
     intro j je hcj hj
     have hjs:j<is.length:=by
      rcases ap7 j listed.size with h'|h'
      ·omega
      ·simp[aqf h'] at hj
     exact qu (uF (X:=fun i=>listed.getD i false=true) ko FN j hj i (FO j i je hjs hcj))
    have hA:To (E i) (S i) x:=HD hK (by omega) hB qu (fun j hj hcj=>ready j (FO i j hj (by omega) hcj)) later
    obtain⟨x1,qZ,hM,_⟩:=pS (UE i io kX) (hS i io kX).1 (hS i io kX).2 hA
    obtain⟨z,s2,bc,rfl⟩:=Fk qZ
    unfold wpOp
    rw[ho]
    refine ky iu hI bk uQ uR bc _ Q (fun a' aH w' iG=>?_)
    rw[<- (gL bk).2.2.1] at iG
    have dB:∀ j,(listed.setIfInBounds i true).getD j false=true↔(listed.getD j false=true\/j=i):=by
     intro j
     by_cases hJ:i=j
     ·subst hJ
      simp[gW]
     ·rw[getD_set_ne false hJ]
      simp[ap3 hJ]
    have hB':=DE hB qu later hM
    refine ih (listed.setIfInBounds i true) _ aH w' a' (by simpa using Tu) (fun l nP hl=>?_) (fun j o' mG hj e he iE=>?_) ?_ iG
    ·have oL:i∉l:=by
      intro hm
      have:=(hl i hm).2
      simp[gW] at this
     have:=ta (i :: l) (ap5.2 ⟨oL,nP⟩) (fun j hj=>by
      rcases ao8.1 hj with rfl|hj
      ·exact⟨aU,zF⟩
      ·have h1:=hl j hj
       have hJ:i≠j:=by rintro rfl;exact oL hj
       rw[getD_set_ne true hJ] at h1
       exact h1)
     simp at this
     omega
    ·rcases (dB j).1 hj with h|rfl
     ·exact (dB _).2 (.inl (fD j o' mG h e he iE))
     ·rw[ho] at mG
      injection mG with mG
      subst mG
      exact (dB _).2 (.inl (me e he iE))
    ·have x5:∀ j,(listed.getD j false=true\/j=i)↔(listed.setIfInBounds i true).getD j false=true:=fun j=>(dB j).symm
     exact⟨fun t=>lf x5 (hB'.T t),lf x5 hB'.H,lf x5 hB'.G⟩
 refine main ops.size _ s gh w a (by simp) (fun l nP hl=>?_) (fun j o hj h=>?_) ?_ hI
 ·exact mV ops.size l nP (fun i hi=>(hl i hi).1)
 ·exfalso
  have:(Array.replicate ops.size false).getD j false=false:=by
   by_cases h:j<ops.size<;>simp[h]
  rw[this] at h
  cases h
 ·have jg:∀ i,¬ ((Array.replicate ops.size false).getD i false=true):=by
   intro i h
   have:(Array.replicate ops.size false).getD i false=false:=by
    by_cases h:i<ops.size<;>simp[h]
   rw[this] at h
   cases h
  rw[<- h0]
  exact DD jg
end
theorem xy{draw:Bool}{L:List Nat}{ops:List Oper}{is:List aj}{c:bJ}(h:cond draw (xx L ops is) none=some c) :
  draw=true/\∃ mode pc es,oh mode pc is L is=some es/\rp ops es=true/\c=.region false (inter mode pc is L is):=by
 cases draw with
 | false=>cases h
 | true =>
  refine⟨rfl,?_⟩
  simp only[cond_true,xx] at h
  obtain⟨_,h⟩:=ab h
  have one:∀ mode pc,SZ mode pc L ops is=some c->∃ mode pc es,oh mode pc is L is=some es/\rp ops es=true/\c=.region false (inter mode pc is L is):=by
   intro mode pc h
   simp only[SZ,aoP] at h
   obtain⟨es,h1,h⟩:=h
   obtain⟨h2,h⟩:=ab h
   injection h with h
   exact⟨mode,pc,es,h1,h2,h.symm⟩
  split at h
  ·rename_i c' hc;injection h with h;subst h;exact one _ _ hc
  ·split at h
   ·rename_i c' hc
    injection h with h
    subst h
    cases hc7:L.elem 999997 with
    | true=>rw[hc7] at hc;cases hc
    | false=>rw[hc7] at hc;exact one _ _ hc
   ·cases hb:L.elem 999999 with
    | true=>rw[hb] at h;cases h
    | false=>rw[hb] at h;exact one _ _ h
end
end Go.Abs
