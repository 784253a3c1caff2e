/-
  A part of the proof of ScopeFinds: AbsDraw5, AbsDraw6.
-/
import Derived.Test.YthbncinhhdogpaaGreatDoorP05
set_option linter.unusedSimpArgs false
set_option linter.unusedVariables false
set_option linter.defProp false
namespace Go.Abs
section
section
variable {P:Program}{G:Nat->List AV}{base nt:Nat}{L:List Nat}{gh:Gh}{w w' : World}{a:Act}{s:AS}{H:ag}
theorem H6.last{cf:cA}{ops:Array Oper}{is:List aj}(da:qX L ops is){s s1 s2 s3 s' x:AS}{V:Nat->AV}{S:Nat->AS}{D:Nat->Option Nat}(hp:H6 G cf is s s1 s2 s3 s' V S D)
  {H0:ag} {gC:Gh} {w0:World} (hI:Inv G base nt L H0 gC w0 x gh w a) (Ql:∀ d,d∈aB is->d<nt) (hx:Og G is s s2 s3 D V (fun i=>i<is.length) x) (hg:x.gen<=s1.gen) :
  Inv G base nt L H0 gC w0 s' gh w a:=by
 have od:(aB is).Nodup:=mF is (fun i j p q d hi hj jn hp hq=>da.once i j p q d hi hj jn (gG hq) (gG hp))
 have lt:∀ {i:Nat} {o:aj},is[i]?=some o->i<is.length:=fun h=>(apw.1 h).1
 obtain⟨x',r1,r2,r3,r4,r5,r6⟩:=Inv.BG (aB is) x s1.gen hI od (fun d hd=>by
  refine⟨Ql d hd,?_⟩
  obtain⟨i,o,hi,ho⟩:=rP hd
  by_cases hS:∃ (j:Nat) (p:aj) (y:ar),is[j]?=some p/\dU (aB is) p=some (d,y)
  ·obtain⟨j,p,y,hj,hs⟩:=hS
   obtain⟨g,_,z,vs,_,_,h⟩:=hx.bxS j p d y (lt hj) hj hs
   exact⟨_,_,h⟩
  ·obtain⟨g,h⟩:=hx.bxA i o d (lt hi) hi ho (fun j p e y _ hj hs M4=>hS ⟨j,p,y,hj,by rw[hs,M4]⟩)
   exact⟨_,_,h⟩) hg da.some
 have h2H:s2.H=s.H:=by rw[hp.Z8.H,hp.H1]
 have ajh:s2.lo=s.lo:=by rw[hp.Z8.lo,hp.lo1]
 have h2g:s2.gen=s1.gen:=hp.Z8.gen
 have eT:∀ t,x'.T t=s'.T t:=by
  intro t
  by_cases ht:t∈aB is
  ·obtain⟨i,o,hi,ho⟩:=rP ht
   obtain⟨k,hk,h3⟩:=hp.A3 i o t hi ho
   by_cases hS:∃ (j:Nat) (p:aj) (y:ar),is[j]?=some p/\dU (aB is) p=some (t,y)
   ·obtain⟨j,p,y,hj,hs⟩:=hS
    obtain⟨g,k',z,vs,e1,e2,e3⟩:=hx.bxS j p t y (lt hj) hj hs
    obtain⟨sz,g2,z2,vs2,_,f1,f2,_,_,_,f3,_⟩:=hp.S4 j p t y hj hs
    rw[e1] at f1
    injection f1 with f1 f1'
    rw[e2] at f2
    injection f2 with f2
    subst f1' f2
    rw[h3] at e1
    injection e1 with e1 _
    rw[r6 k t hk _ _ e3,f3,<- f1,<- e1,h2g]
   ·obtain⟨g,h⟩:=hx.bxA i o t (lt hi) hi ho (fun j p e y _ hj hs M4=>hS ⟨j,p,y,hj,by rw[hs,M4]⟩)
    rw[r6 k t hk _ _ h,hp.T4 t (fun j p d y hj hs=>⟨fun h=>hS ⟨j,p,y,hj,by rw[hs,h]⟩,fun hm=>da.sY j p d y hj hs t hm ht⟩),h3,h2g]
  ·rw[r5 t ht]
   by_cases C5:BU (aB is) is (fun i=>i<is.length) t
   ·rw[hx.spd t C5]
    obtain⟨j,p,e,y,_,hj,hs,hm⟩:=C5
    obtain⟨sz,g2,z2,vs2,_,_,_,_,_,_,_,f⟩:=hp.S4 j p e y hj hs
    rw[f t hm,hp.T3 t ht]
   ·rw[hp.T4 t (fun j p d y hj hs=>⟨fun h=>ht (h ▸ (gH hs).1),fun hm=>C5 ⟨j,p,d,y,lt hj,hj,hs,hm⟩⟩),hp.T3 t ht]
    by_cases hw:∃ i,D i=some t
    ·obtain⟨i,hi⟩:=hw
     obtain⟨q,hq,_,_⟩:=hp.aff i t hi
     rw[hx.z6 i (lt hq) t hi C5,hp.Z8.z6 i (lt hq) t hi]
    ·rw[hx.not t ht (fun i _ h=>hw ⟨i,h⟩) C5,hp.Z8.not t (fun i _ h=>hw ⟨i,h⟩),hp.T1,if_neg ht]
 have n8:x'=s':=by
  have a1:x'.H=s'.H:=by rw[r2,hx.H,hp.H4,hp.H3,h2H]
  have a2:x'.lo=s'.lo:=by rw[r3,hx.lo,hp.lo4,hp.lo3,ajh]
  have a3:x'.gen=s'.gen:=by rw[r4,hp.g4,hp.g3,h2g]
  have a4:x'.T=s'.T:=funext eT
  cases x';cases s'
  simp_all
 rw[<- n8]
 exact r1
theorem FB{cf:cA}(iI:cU P G cf){H0:ag}{gC:Gh}{w0:World}{bJ locals muts:List Nat}{ops:Array Oper}(vg:∀ x,x∈locals->x∈L)(vh:∀ x,x∈muts->x∈L)(Q:Exit->Act->World->Prop)
  {is:List aj} (hI:Inv G base nt L H0 gC w0 s gh w a) (hc:fL P bJ locals muts nt ops ops.toList=some is) (da:qX L ops is) {s1 s2 s3 s' : AS}
  (h1:bP G cf false (lU (aB is)) s=some s1) (h2:bP G cf true (pD (aB is) is) s1=some s2) (h3:bP G cf false (rQ is) s2=some s3) (h4:bP G cf false (wQ (aB is) is) s3=some s')
  (hQ:∀ a' aK w',Inv G base nt L H0 gC w0 s' aK w' a'->Q .normal a' w'):wpAny P .any ops Q ops.size (Array.replicate ops.size false) a w:=by
 obtain⟨V,S,D,hp⟩:=pieces da h1 h2 h3 h4
 obtain⟨hlen,ox⟩:=gB hc
 have HS:=hp.aff
 have uK:∀ i j d,i≠j->D i=some d->D j≠some d:=by
  intro i j d jn hi hj
  obtain⟨p,hp,_,Bi⟩:=HS i d hi
  obtain⟨q,hq,_,tK⟩:=HS j d hj
  exact da.once i j p q d hp hq jn tK Bi
 have tR:∀ {i:Nat} {o:aj},is[i]?=some o->∃ o',ops[i]?=some o':=fun h=>⟨_,apJ (by rw[da.len];exact (apw.1 h).1)⟩
 have Ql:∀ d,d∈aB is->d<nt:=by
  intro d hd
  obtain⟨i,io,hi,ho⟩:=rP hd
  obtain⟨o,ly⟩:=tR hi
  obtain⟨io',jr,bn⟩:=ox i o (by simpa using ly)
  rw[hi] at jr
  injection jr with jr
  subst jr
  obtain⟨_,_,M3,aU⟩:=gX bn
  exact aU d (by rw[<- M3];exact gG ho)
 have Uo:=hI
 have main:∀ (n:Nat) (listed:Array Bool) (x:AS) (gh:Gh) (w:World) (a:Act),listed.size=ops.size->(∀ l:List Nat,l.Nodup->(∀ i,i∈l->i<ops.size/\listed.getD i true=false)->l.length<=n) ->
   (∀ j o,ops[j]?=some o->listed.getD j false=true->∀ e,e∈o.after->Region.binds .any e=true->listed.getD e.on false=true) ->
   (∀ l:List Nat,l.Nodup->(∀ i,i∈l->listed.getD i true=false/\∃ o,is[i]?=some o/\(fJ o).isSome=true)->x.gen+l.length<=s1.gen) ->
   Og G is s s2 s3 D V (fun i=>listed.getD i false=true) x->Inv G base nt L H0 gC w0 x gh w a->wpAny P .any ops Q n listed a w:=by
  intro n
  induction n with
  | zero =>
   intro listed x gh w a gM tI fP Gr hA hI
   have dy:∀ i,i<ops.size->listed.getD i false=true:=by
    intro i hi
    cases hb:listed.getD i true with
    | true =>
     have:i<listed.size:=by omega
     simpa [this] using hb
    | false =>
     have:=tI [i] (by simp) (fun j hj=>by simp at hj;subst hj;exact⟨hi,hb⟩)
     simp at this
   have lH:Region.ready .any ops listed=[]:=by
    cases hr:Region.ready .any ops listed with
    | nil=>rfl
    | cons i r =>
     have hm:i∈Region.ready .any ops listed:=by rw[hr];exact apP
     obtain⟨h1,o,h2,_⟩:=mem_ready.1 hm
     have aU:=(apD.1 h2).1
     have:=dy i aU
     have il:i<listed.size:=by omega
     simp[il] at this h1
     rw[this] at h1
     cases h1
   refine⟨lH,hQ a gh w (hp.last da hI Ql ?_ (by simpa using Gr [] (by simp) (by simp)))⟩
   have yG:(fun i=>listed.getD i false=true)=fun i=>i<is.length:=by
    funext i
    refine propext ⟨fun h=>?_,fun h=>dy i (by rw[da.len];exact h)⟩
    have aU:i<listed.size:=by
     rcases aqP i listed.size with h'|h'
     ·exact h'
     ·simp[aqV h'] at h
    rw[<- da.len];omega
   rw[yG] at hA
   exact hA
  | succ n ih =>
   intro listed x gh w a gM tI fP Gr hA hI
   refine⟨fun lH=>?_,fun i hi=>?_⟩
   ·have dy:∀ i,i<ops.size->listed.getD i false=true:=by
     intro i
     induction i using Nat.strongRecOn with
     | _ i Bm =>
      intro aU
      have il:i<listed.size:=by omega
      cases hb:listed.getD i true with
      | true=>simpa [il] using hb
      | false =>
       exfalso
       have ho:=apJ aU
       have:i∈Region.ready .any ops listed:=mem_ready.2 ⟨hb,_,ho,fun e he iR=>by
        have xc:=da.back i _ ho e he iR
        exact Bm e.on xc (by omega)⟩
       rw[lH] at this
       cases this
    refine hQ a gh w (hp.last da hI Ql ?_ (by simpa using Gr [] (by simp) (by simp)))
    have yG:(fun i=>listed.getD i false=true)=fun i=>i<is.length:=by
     funext i
     refine propext ⟨fun h=>?_,fun h=>dy i (by rw[da.len];exact h)⟩
     have aU:i<listed.size:=by
      rcases aqP i listed.size with h'|h'
      ·exact h'
      ·simp[aqV h'] at h
     rw[<- da.len];omega
    rw[yG] at hA
    exact hA
   ·obtain⟨Ai,o,ho,mI⟩:=mem_ready.1 hi
    have aU:=(apD.1 ho).1
    have il:i<listed.size:=by omega
    obtain⟨io,ly,bn⟩:=ox i o (by simpa using ho)
    have M6:i<is.length:=by rw[<- da.len];exact aU
    have qU:¬ (listed.getD i false=true):=by
     simp[il] at Ai ⊢
     exact Ai
    have M3:=(gX bn).2.2.1
    have dI:∀ j,(listed.setIfInBounds i true).getD j false=true↔(listed.getD j false=true\/j=i):=by
     intro j
     by_cases iz:i=j
     ·subst iz
      simp[il]
     ·rw[getD_set_ne false iz]
      simp[aqM iz]
    have agP:(fun j=>(listed.setIfInBounds i true).getD j false=true)=fun j=>listed.getD j false=true\/j=i:=funext fun j=>propext (dI j)
    have kF:∀ l:List Nat,(∀ j,j∈l->(listed.setIfInBounds i true).getD j true=false)->i∉l/\∀ j,j∈l->listed.getD j true=false:=by
     intro l hl
     have oR:i∉l:=by
      intro hm
      have:=hl i hm
      simp[il] at this
     refine⟨oR,fun j hj=>?_⟩
     have h1:=hl j hj
     have iz:i≠j:=by rintro rfl;exact oR hj
     rw[getD_set_ne true iz] at h1
     exact h1
    have go:∀ (x' : AS) (aK:Gh) (w' : World) (a' : Act),Og G is s s2 s3 D V (fun j=>listed.getD j false=true\/j=i) x'->Inv G base nt L H0 gC w0 x' aK w' a' ->
      (x'.gen=x.gen\/(x'.gen=x.gen+1/\(fJ io).isSome=true))->wpAny P .any ops Q n (listed.setIfInBounds i true) a' w':=by
     intro x' aK w' a' hA' iT Jp
     refine ih (listed.setIfInBounds i true) x' aK w' a' (by simpa using gM) (fun l od hl=>?_) (fun j o' mY hj e he iR=>?_) (fun l od hl=>?_) (by rw[agP];exact hA') iT
     ·obtain⟨oR,K3⟩:=kF l (fun j hj=>(hl j hj).2)
      have:=tI (i :: l) (aqN.2 ⟨oR,od⟩) (fun j hj=>by
       rcases apO.1 hj with rfl|hj
       ·exact⟨aU,Ai⟩
       ·exact⟨(hl j hj).1,K3 j hj⟩)
      simp at this
      omega
     ·rcases (dI j).1 hj with h|rfl
      ·exact (dI _).2 (.inl (fP j o' mY h e he iR))
      ·rw[ho] at mY
       injection mY with mY
       subst mY
       exact (dI _).2 (.inl (mI e he iR))
     ·obtain⟨oR,K3⟩:=kF l (fun j hj=>(hl j hj).1)
      rcases Jp with Jp|⟨Jp,aj4⟩
      ·rw[Jp]
       exact Gr l od (fun j hj=>⟨K3 j hj,(hl j hj).2⟩)
      ·have:=Gr (i :: l) (aqN.2 ⟨oR,od⟩) (fun j hj=>by
        rcases apO.1 hj with rfl|hj
        ·exact⟨Ai,io,ly,aj4⟩
        ·exact⟨K3 j hj,(hl j hj).2⟩)
       simp at this
       omega
    have waits:∀ (j:Nat) (q:aj) (t:Nat),is[j]?=some q->i≠j->q.dst=some t->t∈io.looks->j<i->listed.getD j false=true:=by
     intro j q t hq jn tK ht iz
     obtain⟨o',mY⟩:=tR hq
     rcases da.look i j o o' io q t ho mY ly hq jn tK ht with ⟨_,e,he,iR,Na⟩|⟨ano,_⟩
     ·have:=mI e he iR
      rw[Na] at this
      exact this
     ·omega
    have stored:∀ (j:Nat) (p q:aj) (d t k:Nat) (y:ar),listed.getD j false=true->is[j]?=some p->dU (aB is) p=some (d,y)->is[k]?=some q->q.dst=some t->t=d\/t∈y.tmps->listed.getD k false=true:=by
     intro j p q d t k y hj j5 hs hq tK ht
     obtain⟨oj,hoj⟩:=tR j5
     obtain⟨ok,pa⟩:=tR hq
     have HX:=da.TQ j k p q d y t j5 hq hs tK ht
     have n7:t∈p.looks:=by
      obtain⟨_,sz,hpo⟩:=gH hs
      rw[hpo]
      rcases ht with rfl|ht
      ·simp[aj.looks,fq.tmps,ar.tmps]
      ·simp[aj.looks,fq.tmps,ht]
     rcases da.look j k oj ok p q t hoj pa j5 hq (by omega) tK n7 with ⟨_,e,he,iR,Na⟩|⟨h,_⟩
     ·have:=fP j oj hoj hj e he iR
      rw[Na] at this
      exact this
     ·omega
    unfold wpOp
    rw[ho]
    cases hP:Bo (aB is) io with
    | true =>
     obtain⟨hDi,ajN⟩:=hp.DP i io ly hP
     have Gk:=hp.wr i (by omega)
     have qP:qS (S i) x io.looks:=by
      refine⟨by rw[Gk.H,hp.H1,hA.H],fun t ht=>?_,fun b=>?_⟩
      ·have VJ:=da.rC i io ly hP t ht
       have Oo:¬ BU (aB is) is (fun j=>listed.getD j false=true) t:=by
        rintro ⟨j,p,e,y,hj,j5,hs,hm⟩
        have iz:j≠i:=by rintro rfl;exact qU hj
        exact da.DI j i p io e y j5 ly iz hs t hm ht
       by_cases hw:∃ j,D j=some t
       ·obtain⟨j,hj⟩:=hw
        have uniq:∀ k,D k=some t->k=j:=by
         intro k hk
         by_cases HX:k=j
         ·exact HX
         ·exact absurd hj (uK k j t HX hk)
        obtain⟨q,hq,_,tK⟩:=HS j t hj
        by_cases jn:i=j
        ·subst jn
         rw[Gk.not t (fun k hk hd=>by have:=uniq k hd;omega),hA.not t VJ (fun k hk hd=>by rw[uniq k hd] at hk;exact qU hk) Oo,hp.T1,if_neg VJ]
        ·obtain⟨o',mY⟩:=tR hq
         rcases da.look i j o o' io q t ho mY ly hq jn tK ht with ⟨iz,e,he,iR,Na⟩|⟨iz,e,he,iR,Na⟩
         ·have Vy:=mI e he iR
          rw[Na] at Vy
          rw[Gk.z6 j iz t hj,hA.z6 j Vy t hj Oo]
         ·have Vy:¬ (listed.getD j false=true):=by
           intro h
           have:=fP j o' mY h e he iR
           rw[Na] at this
           exact qU this
          rw[Gk.not t (fun k hk hd=>by have:=uniq k hd;omega),hA.not t VJ (fun k hk hd=>by rw[uniq k hd] at hk;exact Vy hk) Oo,hp.T1,if_neg VJ]
       ·rw[Gk.not t (fun k _ hd=>hw ⟨k,hd⟩),hA.not t VJ (fun k _ hd=>hw ⟨k,hd⟩) Oo,hp.T1,if_neg VJ]
      ·by_cases hw:∃ j,D j=some b
       ·obtain⟨j,hj⟩:=hw
        obtain⟨q,hq,hqP,tK⟩:=HS j b hj
        have hbL:=da.NK j q b hq hqP tK
        have hbM:b∉aB is:=fun h=>hbL (da.inL b h)
        have hsb:aP (s.T b)=none:=by
         cases hg:aP (s.T b) with
         | none=>rfl
         | some k=>exact absurd (Uo.F.obj b (by rw[hg];rfl)) hbL
        refine .inr ?_
        by_cases iz:j<i
        ·rw[Gk.z6 j iz b hj];exact hp.gV j (by omega)
        ·rw[Gk.not b (fun k hk hd=>by
          by_cases HX:k=j
          ·omega
          ·exact uK k j b HX hd hj),hp.T1,if_neg hbM]
         exact hsb
       ·have e1:(S i).T b=s1.T b:=Gk.not b (fun k _ hd=>hw ⟨k,hd⟩)
        by_cases hbM:b∈aB is
        ·refine .inr ?_
         rw[e1,hp.T1,if_pos hbM]
         rfl
        ·rw[e1,hp.T1,if_neg hbM]
         by_cases Oo:BU (aB is) is (fun j=>listed.getD j false=true) b
         ·rw[hA.spd b Oo,hp.Z8.not b (fun k _ hd=>hw ⟨k,hd⟩),hp.T1,if_neg hbM]
          generalize s.T b=X
          cases X<;>first|exact .inr rfl|exact .inl rfl
         ·exact .inl (hA.not b hbM (fun k _ hd=>hw ⟨k,hd⟩) Oo).symm
     have bf:=wx qP (fun t h=>h) ajN
     refine kK iI hI bn vg vh bf _ Q (fun a' aK w' iT=>?_)
     rw[<- M3,<- hDi] at iT
     refine go _ aK w' a' (hA.pure da ly hP hDi HS (fun j p d y t hj j5 hs ht hd=>qU (stored j p io d t i y hj j5 hs ly hd (.inr ht)))) iT (.inl (gS _ _ _).2.1)
    | false =>
     cases hsA:fJ io with
     | some d =>
      have aj3:=pK hsA
      have bf:kD G cf false x io=some (.lbox x.gen (sa io),{ x with gen:=x.gen+1 }):=by
       rw[aj3]
       simp[kD,au,sa]
      refine kK iI hI bn vg vh bf _ Q (fun a' aK w' iT=>?_)
      rw[<- M3,gG hsA] at iT
      refine go _ aK w' a' (hA.alloc da ly hsA HS (fun j p e y hj j5 hs M4=>qU (stored j p io e d i y hj j5 hs ly (gG hsA) (.inl M4.symm)))) iT (.inr ⟨(gS _ _ _).2.1,by simp[hsA]⟩)
     | none =>
      have hsS:(dU (aB is) io).isSome=true:=by
       cases hs:dU (aB is) io with
       | some _=>rfl
       | none=>simp[Bo,hsA,hs] at hP
      obtain⟨⟨d,y⟩,hs⟩:=aqp.1 hsS
      obtain⟨sz,g2,z2,vs,f0,f1,f2,f3,f4,f5,_,_⟩:=hp.S4 i io d y ly hs
      have HU:=(gH hs).1
      have Ou:=da.sY i io d y ly hs
      obtain⟨i0,q0,Gs,Nb⟩:=rP HU
      have lQ:d∈io.looks:=by rw[f0];simp[aj.looks,fq.tmps,ar.tmps]
      have hyl:∀ t,t∈y.tmps->t∈io.looks:=fun t ht=>by rw[f0];simp[aj.looks,fq.tmps,ht]
      have ajW:=da.TQ i i0 io q0 d y d ly Gs hs (gG Nb) (.inl rfl)
      have hA0:=waits i0 q0 d Gs (by omega) (gG Nb) lQ ajW
      obtain⟨g,hxd⟩:=hA.bxA i0 q0 d hA0 Gs Nb (fun j p e y' hj j5 pb M4=>by
       have iz:j≠i:=by rintro rfl;exact qU hj
       exact da.aed j i p io e y' d y j5 ly iz pb hs M4)
      obtain⟨k0,_,h3d⟩:=hp.A3 i0 q0 d Gs Nb
      have hz:z2=sa q0:=by
       rw[h3d] at f1
       injection f1 with _ f1
       exact f1.symm
      subst hz
      have hy2:∀ t,t∈y.tmps->x.T t=s2.T t:=by
       intro t ht
       have VJ:=Ou t ht
       have Oo:¬ BU (aB is) is (fun j=>listed.getD j false=true) t:=by
        rintro ⟨j,p,e,y',hj,j5,pb,hm⟩
        have iz:j≠i:=by rintro rfl;exact qU hj
        exact da.DI j i p io e y' j5 ly iz pb t hm (hyl t ht)
       by_cases hw:∃ j,D j=some t
       ·obtain⟨j,hj⟩:=hw
        obtain⟨q,hq,hqP,tK⟩:=HS j t hj
        have iz:=da.TQ i j io q d y t ly hq hs tK (.inr ht)
        rw[hA.z6 j (waits j q t hq (by omega) tK (hyl t ht) iz) t hj Oo,hp.Z8.z6 j (apw.1 hq).1 t hj]
       ·rw[hA.not t VJ (fun k _ hd=>hw ⟨k,hd⟩) Oo,hp.Z8.not t (fun k _ hd=>hw ⟨k,hd⟩),hp.T1,if_neg VJ]
      have hye:y.eval G x.T=y.eval G s3.T:=(eval_eq fun t ht=>by rw[hy2 t ht,hp.T3 t (Ou t ht)])
      have bf:kD G cf false x io=some (.undef,(x.bu d (.lbox g (putAt (sa q0) 0 vs))).bH y):=by
       rw[f0]
       simp only[kD]
       rw[Kt hxd (by rw[hye];exact f2) f3 f4 f5]
       rfl
      refine kK iI hI bn vg vh bf _ Q (fun a' aK w' iT=>?_)
      have P6:o.dst=none:=by rw[<- M3,f0]
      rw[P6] at iT
      refine go _ aK w' a' (hA.store da ly hs HS qU f1 f2 hy2) iT (.inl (by rw[(pL _ _).2.1];rfl))
 refine main ops.size _ s gh w a (by simp) (fun l od hl=>?_) (fun j o hj h=>?_) (fun l od hl=>?_) ?_ hI
 ·exact nz ops.size l od (fun i hi=>(hl i hi).1)
 ·exfalso
  have:(Array.replicate ops.size false).getD j false=false:=by
   by_cases h:j<ops.size<;>simp[h]
  rw[this] at h
  cases h
 ·rw[hp.g1]
  have key:(l.map fun i=>((is[i]?).bind fJ).getD 0).length<=(aB is).length:=by
   refine By _ _ ?_ (fun d hd=>?_)
   ·rw[List.nodup_iff_pairwise_ne,List.pairwise_map]
    refine List.Pairwise.imp_of_mem ?_ (List.nodup_iff_pairwise_ne.1 od)
    intro i j hi hj jn hd
    obtain⟨_,p,j5,hpA⟩:=hl i hi
    obtain⟨_,q,hq,hqA⟩:=hl j hj
    obtain⟨d,Bi⟩:=aqp.1 hpA
    obtain⟨e,hqe⟩:=aqp.1 hqA
    simp only[j5,hq,apB,Bi,hqe,Option.getD_some] at hd
    subst hd
    exact da.once i j p q d j5 hq jn (gG hqe) (gG Bi)
   ·obtain⟨i,hi,rfl⟩:=ap9.1 hd
    obtain⟨_,p,j5,hpA⟩:=hl i hi
    obtain⟨d,Bi⟩:=aqp.1 hpA
    simp only[j5,apB,Bi,Option.getD_some]
    exact sB j5 Bi
  simp only[apQ] at key
  omega
 ·have jI:∀ i,¬ ((Array.replicate ops.size false).getD i false=true):=by
   intro i h
   have:(Array.replicate ops.size false).getD i false=false:=by
    by_cases h:i<ops.size<;>simp[h]
   rw[this] at h
   cases h
  exact⟨rfl,rfl,fun i hi=>absurd hi (jI i),fun t _ _ _=>rfl,fun t ht=>by obtain⟨j,_,_,_,hj,_⟩:=ht;exact absurd hj (jI j),fun i _ _ hi=>absurd hi (jI i),fun j _ _ _ hj=>absurd hj (jI j)⟩
end
end
section
structure Ul (e:qK) (s x:AS):Prop where
 T:∀ t,t∈e.rs->x.T t=s.T t
 H:e.rh=true\/e.wh=true->x.H=s.H/\x.lo=s.lo
 G:e.wg=true->x.gen=s.gen
structure dN (e:qK) (s1 x x1:AS):Prop where
 T:∀ t,t∈e.ws->x1.T t=s1.T t
 T' : ∀ t,t∉e.ws->x1.T t=x.T t
 H:e.wh=true->x1.H=s1.H/\x1.lo=s1.lo
 H' : e.wh=false->x1.H=x.H/\x1.lo=x.lo
 G:e.wg=true->x1.gen=s1.gen
 G' : e.wg=false->x1.gen=x.gen
theorem dN.stay{e:qK}{s x:AS}(h:Ul e s x)(hw:∀ t,t∈e.ws->t∈e.rs):dN e s x x :=
 ⟨fun t ht=>h.T t (hw t ht),fun _ _=>rfl,fun hh=>h.H (.inr hh),fun _=>⟨rfl,rfl⟩,fun hg=>h.G hg,fun _=>rfl⟩
section
variable {G:Nat->List AV}{cf:cA}{s x:AS}{e:qK}
theorem OI(h:∀ t,t∈e.rs->x.T t=s.T t){y:ar}(hy:∀ t,t∈y.tmps->t∈e.rs):y.eval G x.T=y.eval G s.T:=by
 cases y<;>try rfl
 rename_i t
 exact h t (hy t (by simp[ar.tmps]))
theorem xE(h:∀ t,t∈e.rs->x.T t=s.T t){y:ar}(hy:∀ t,t∈y.tmps->t∈e.rs):y.addr G x.T=y.addr G s.T:=by
 cases y<;>try rfl
 rename_i t
 simp only[ar.addr]
 rw[h t (hy t (by simp[ar.tmps]))]
def dq(pc:Bool):fq->fq
 | .call f xs=>cond pc (.uf f xs) (.call f xs)
 | o=>o
theorem wR(pc:Bool)(o:aj):iN pc o=⟨o.dst,o.guard,dq pc o.op⟩:=by
 obtain⟨d,g,op⟩:=o
 cases op<;>simp only[iN,dq]
 cases pc<;>rfl
theorem dL(s:AS)(t:Nat)(v:AV)(k:Nat):(s.bu t v).T k=if k=t then v else s.T k:=df s.T t v k
theorem yZ{c:Oh}{Y:AV}(h:cg s Y=true)(hc:fS c Y=true)(hT:∀ b,b∈gv c->x.T b=s.T b):cg x Y=true:=by
 cases Y<;>simp only[cg] at h ⊢<;>try (cases h;done)
 case lref b g off =>
  cases c with
  | frame b' =>
   simp only[fS,dX,apS] at hc
   subst hc
   rw[hT b' (apI.2 rfl)];exact h
  | _=>cases hc
 case eref=>cases c<;>cases hc
theorem Xu{pc:Bool}{c:Oh}{op:fq}(he:x7 pc c op=some e)(hc:∀ y,(∃ t a z,op=.load t a z y)\/(∃ z v,op=.store z y v)\/op=.nilCheck y\/(∃ f,op=.fieldAddr f y)\/(∃ n z i,op=.ixArr n z y i)->fS c (y.addr G s.T)=true)
  (w8:∀ y,(∃ z i,op=.ixSl z y i)\/(∃ k,op=.len k y)->fS .heap (y.addr G s.T)=true)
  {z:AV} {so:Option AS} (bf:au G cf s (dq pc op)=some (z,so)) (ha:Ul e s x) :
  ∃ xo,au G cf x op=some (z,xo)/\dN e (so.getD s) x (xo.getD x)/\(∀ t,t∈e.ws->t∈e.rs):=by
 have stay:(∀ t,t∈e.ws->t∈e.rs)->so=none->au G cf x op=some (z,none)->∃ xo,au G cf x op=some (z,xo)/\dN e (so.getD s) x (xo.getD x)/\(∀ t,t∈e.ws->t∈e.rs):=by
  rintro hw rfl h
  exact⟨none,h,dN.stay ha hw,hw⟩
 have ev:∀ {y:ar},(∀ t,t∈y.tmps->t∈e.rs)->y.eval G x.T=y.eval G s.T:=fun hy=>OI ha.T hy
 have ad:∀ {y:ar},(∀ t,t∈y.tmps->t∈e.rs)->y.addr G x.T=y.addr G s.T:=fun hy=>xE ha.T hy
 have rN:∀ {X:Option AV} {w:AV} {o:Option AS},X.map (fun v=>(v,(none:Option AS)))=some (w,o)->o=none:=by
  intro X w o h
  cases X with
  | none=>cases h
  | some v=>simp at h;exact h.2.symm
 cases op<;>simp only[x7] at he<;>try (cases he;done)
 case mov take obj y =>
  cases obj with
  | true=>cases he
  | false =>
   simp only[apE,apv] at he
   subst he
   have hw:∀ t,t∈(cond take y.tmps [])->t∈y.tmps:=by cases take<;>simp
   simp only[dq,au] at bf ⊢
   cases y with
   | tmp t =>
    have ht:=ha.T t (by simp[ar.tmps])
    simp only[lu] at bf ⊢
    rw[ht]
    generalize s.T t=X at bf ht
    cases X
    case slice el own =>
     cases hto:(take&&own) with
     | false =>
      simp only[hto,apE,apv,apx] at bf
      obtain⟨rfl,rfl⟩:=bf
      exact⟨none,by simp only[hto,apE],dN.stay ha hw,hw⟩
     | true =>
      simp only[Bool.and_eq_true] at hto
      obtain⟨rfl,rfl⟩:=hto
      simp only[Bool.and_self,cond_true,apv,apx] at bf
      obtain⟨rfl,rfl⟩:=bf
      refine⟨some (x.bu t (.slice el false)),rfl,⟨fun k hk=>?_,fun k hk=>?_,fun h=>(by cases h),fun _=>⟨rfl,rfl⟩,fun h=>(by cases h),fun _=>rfl⟩,hw⟩
      ·simp only[cond_true,ar.tmps,apI] at hk
       simp only[Option.getD_some,dL,hk,aqH]
      ·simp only[cond_true,ar.tmps,apI] at hk
       simp only[Option.getD_some,dL,if_neg hk]
    case lsl g el =>
     cases take with
     | true =>
      simp only[cond_true,apE] at bf
      obtain⟨h0,bf⟩:=ab bf
      simp only[apv,apx] at bf
      obtain⟨rfl,rfl⟩:=bf
      refine⟨some (x.bu t (.slice el false)),by simp only[h0,cond_true,apE],⟨fun k hk=>?_,fun k hk=>?_,fun h=>(by cases h),fun _=>⟨rfl,rfl⟩,fun h=>(by cases h),fun _=>rfl⟩,hw⟩
      ·simp only[cond_true,ar.tmps,apI] at hk
       simp only[Option.getD_some,dL,hk,aqH]
      ·simp only[cond_true,ar.tmps,apI] at hk
       simp only[Option.getD_some,dL,if_neg hk]
     | false =>
      simp only[apE,apv,apx] at bf
      obtain⟨rfl,rfl⟩:=bf
      exact⟨none,rfl,dN.stay ha hw,hw⟩
    case iter=>cases bf
    all_goals
     simp only[apv,apx] at bf
     obtain⟨rfl,rfl⟩:=bf
     exact⟨none,rfl,dN.stay ha hw,hw⟩
   | _ =>
    simp only[lu,apv,apx] at bf
    obtain⟨rfl,rfl⟩:=bf
    exact⟨none,rfl,dN.stay ha hw,hw⟩
 case allocL zs =>
  simp only[apv] at he
  subst he
  simp only[dq,au,apv,apx] at bf
  obtain⟨rfl,rfl⟩:=bf
  have hg:=ha.G rfl
  refine⟨some { x with gen:=x.gen+1 },by simp only[au,hg],⟨fun k hk=>(by cases hk),fun _ _=>rfl,fun h=>(by cases h),fun _=>⟨rfl,rfl⟩,fun _=>?_,fun h=>(by cases h)⟩,fun k hk=>(by cases hk)⟩
  simp[hg]
 case boxL y =>
  simp only[apv] at he
  subst he
  simp only[dq,au,apt,apx] at bf
  obtain⟨cs,fF,rfl,rfl⟩:=bf
  have hg:=ha.G rfl
  refine⟨some { x with gen:=x.gen+1 },by simp only[au,hg,ev (y:=y) (fun t h=>h),fF,Option.map_some],⟨fun k hk=>(by cases hk),fun _ _=>rfl,fun h=>(by cases h),fun _=>⟨rfl,rfl⟩,fun _=>?_,fun h=>(by cases h)⟩,fun k hk=>(by cases hk)⟩
  simp[hg]
 case build zs ps =>
  simp only[apv] at he
  subst he
  have e1:(ps.map fun p=>(p.1,p.2.1,(p.2.2.eval G x.T).drop))=ps.map fun p=>(p.1,p.2.1,(p.2.2.eval G s.T).drop):=apY fun p hp=>by
   rw[ev (y:=p.2.2) (fun t h=>by simp only[fq.tmps,aqz];exact⟨p,hp,h⟩)]
  simp only[dq,au,apt,apx] at bf
  obtain⟨E,hE,rfl,rfl⟩:=bf
  exact stay (fun t h=>by cases h) rfl (by simp only[au,e1,hE,Option.map_some])
 case mkslice b sz zs ps =>
  simp only[apv] at he
  subst he
  have e1:(ps.map fun p=>(p.1,(p.2.eval G x.T).drop))=ps.map fun p=>(p.1,(p.2.eval G s.T).drop):=apY fun p hp=>by
   rw[ev (y:=p.2) (fun t h=>by simp only[fq.tmps,aqz];exact⟨p,hp,h⟩)]
  simp only[dq,au,apu] at bf
  obtain⟨E,hE,bf⟩:=bf
  obtain⟨h0,bf⟩:=ab bf
  simp only[apv,apx] at bf
  obtain⟨rfl,rfl⟩:=bf
  exact stay (fun t h=>by cases h) rfl (by simp only[au,e1,hE,apB,h0,cond_true])
 case bin o q y1 y2 =>
  simp only[apv] at he
  subst he
  simp only[dq,au] at bf
  have s7:=rN bf
  subst s7
  exact stay (fun t h=>by cases h) rfl (by simp only[au];rw[ev (y:=y1) (fun t h=>apC.2 (.inl h)),ev (y:=y2) (fun t h=>apC.2 (.inr h))];exact bf)
 case mm o y1 y2 =>
  simp only[apv] at he
  subst he
  simp only[dq,au] at bf
  have s7:=rN bf
  subst s7
  exact stay (fun t h=>by cases h) rfl (by simp only[au];rw[ev (y:=y1) (fun t h=>apC.2 (.inl h)),ev (y:=y2) (fun t h=>apC.2 (.inr h))];exact bf)
 case un o y =>
  simp only[apv] at he
  subst he
  simp only[dq,au] at bf
  have s7:=rN bf
  subst s7
  exact stay (fun t h=>by cases h) rfl (by simp only[au];rw[ev (y:=y) (fun t h=>h)];exact bf)
 case nilS o y =>
  simp only[apv] at he
  subst he
  simp only[dq,au] at bf
  have s7:so=none:=by
   simp only[apt,apx] at bf
   obtain⟨_,_,_,h⟩:=bf
   exact h.symm
  subst s7
  exact stay (fun t h=>by cases h) rfl (by simp only[au];rw[ev (y:=y) (fun t h=>h)];exact bf)
 case slice k y lo hi mx =>
  simp only[apv] at he
  subst he
  simp only[dq,au] at bf
  have s7:=rN bf
  subst s7
  have opt:∀ o:Option ar,(∀ t,t∈o.toList.flatMap ar.tmps->t∈(fq.slice k y lo hi mx).tmps)->o.map (·.eval G x.T)=o.map (·.eval G s.T):=by
   intro o ho
   cases o with
   | none=>rfl
   | some q=>simp only[Option.map_some];rw[ev (y:=q) (fun t hm=>ho t (by simp[hm]))]
  exact stay (fun t h=>by cases h) rfl (by
   simp only[au]
   rw[ev (y:=y) (fun t hm=>by simp only[fq.tmps,apC];exact .inl (.inl (.inl hm))),
    opt lo (fun t hm=>by simp only[fq.tmps,apC];exact .inl (.inl (.inr hm))),
    opt hi (fun t hm=>by simp only[fq.tmps,apC];exact .inl (.inr hm)),
    opt mx (fun t hm=>by simp only[fq.tmps,apC];exact .inr hm)]
   exact bf)
 case conv o y =>
  simp only[apv] at he
  subst he
  simp only[dq,au] at bf
  have s7:=rN bf
  subst s7
  exact stay (fun t h=>by cases h) rfl (by simp only[au];rw[ev (y:=y) (fun t h=>h)];exact bf)
 case pick c0 a0 b0 =>
  simp only[apv] at he
  subst he
  simp only[dq,au] at bf
  have h1:=ev (y:=c0) (fun t h=>by simp[h])
  have h2:=ad (y:=a0) (fun t h=>by simp[h])
  have h3:=ad (y:=b0) (fun t h=>by simp[h])
  split at bf
  ·rename_i hb
   simp only[apv,apx] at bf
   obtain⟨rfl,rfl⟩:=bf
   exact stay (fun t h=>by cases h) rfl (by simp only[au,h1,h2,h3,hb])
  ·cases bf
 case field agg off sz y =>
  simp only[apv] at he
  subst he
  simp only[dq,au] at bf
  have h1:=ev (y:=y) (fun t h=>h)
  split at bf
  ·rename_i hb
   have s7:=rN bf
   subst s7
   exact stay (fun t h=>by cases h) rfl (by simp only[au,h1,hb];exact bf)
  ·cases bf
 case index agg n sz y i =>
  simp only[apv] at he
  subst he
  simp only[dq,au,apu] at bf
  obtain⟨k,hk,bf⟩:=bf
  obtain⟨h0,bf⟩:=ab bf
  have h1:=ev (y:=y) (fun t h=>by simp[h])
  have h2:=ev (y:=i) (fun t h=>by simp[h])
  split at bf
  ·rename_i hb
   have s7:=rN bf
   subst s7
   exact stay (fun t h=>by cases h) rfl (by simp only[au,h1,h2,hk,apB,h0,cond_true,hb];exact bf)
  ·cases bf
 case indexStr y i =>
  simp only[apv] at he
  subst he
  simp only[dq,au] at bf
  have h1:=ev (y:=y) (fun t h=>by simp[h])
  have h2:=ev (y:=i) (fun t h=>by simp[h])
  split at bf
  ·rename_i l hb
   simp only[apu,apt,apx] at bf
   obtain⟨k,hk,b,MZ,rfl,rfl⟩:=bf
   exact stay (fun t h=>by cases h) rfl (by simp only[au,h1,h2,hb,hk,apB,MZ,Option.map_some])
  ·cases bf
 case extract y i =>
  simp only[apv] at he
  subst he
  simp only[dq,au] at bf
  have h1:=ev (y:=y) (fun t h=>h)
  split at bf
  ·rename_i vs hb
   simp only[apt,apx] at bf
   obtain⟨v,hv,rfl,rfl⟩:=bf
   exact stay (fun t h=>by cases h) rfl (by simp only[au,h1,hb,hv,Option.map_some])
  ·cases bf
 case mkfunc f a b =>
  simp only[apv] at he
  subst he
  simp only[dq,au] at bf
  obtain⟨h0,bf⟩:=ab bf
  simp only[apv,apx] at bf
  obtain⟨rfl,rfl⟩:=bf
  have ha:∀ y,y∈a->y.addr G x.T=y.addr G s.T:=fun y hy=>ad (y:=y) (fun t h=>by
   simp only[fq.tmps,apC,aqz];exact .inl ⟨y,hy,h⟩)
  have hb:∀ y,y∈b->y.addr G x.T=y.addr G s.T:=fun y hy=>ad (y:=y) (fun t h=>by
   simp only[fq.tmps,apC,aqz];exact .inr ⟨y,hy,h⟩)
  have e1:(a.map fun a=>a.addr G x.T)=a.map fun a=>a.addr G s.T:=apY ha
  have e2:(b.map fun a=>a.addr G x.T)=b.map fun a=>a.addr G s.T:=apY hb
  have e3:(a.map fun a=>(a.addr G x.T).drop)=a.map fun a=>(a.addr G s.T).drop:=apY fun y hy=>by rw[ha y hy]
  have e4:(b.map fun a=>(a.addr G x.T).drop)=b.map fun a=>(a.addr G s.T).drop:=apY fun y hy=>by rw[hb y hy]
  exact stay (fun t h=>by cases h) rfl (by simp only[au];rw[e1,e2,e3,e4,h0,cond_true])
 case load take agg sz y =>
  simp only[apv] at he
  subst he
  have iw:=hc y (.inl ⟨take,agg,sz,rfl⟩)
  simp only[dq,au] at bf ⊢
  rw[ad (y:=y) (fun t h=>apC.2 (.inl h))]
  generalize y.addr G s.T=Y at bf iw
  have hw:∀ t,t∈(cond (take&&!agg) (gv c) [])->t∈y.tmps++gv c:=by
   intro t ht
   cases hb:(take&&!agg) with
   | false=>rw[hb] at ht;cases ht
   | true=>rw[hb] at ht;exact apC.2 (.inr ht)
  cases Y<;>simp only[cQ] at bf<;>try (cases bf;done)
  case eptr cs =>
   simp only[apt,apx] at bf
   obtain⟨v,hv,rfl,rfl⟩:=bf
   exact⟨none,by simp only[cQ,hv,Option.map_some],dN.stay ha hw,hw⟩
  case ref loc off =>
   cases c with
   | frame b=>cases iw
   | Uw=>cases iw
   | heap =>
    obtain⟨hH,hl⟩:=ha.H (.inl rfl)
    split at bf
    ·rename_i ty cs KW
     simp only[apt,apx] at bf
     obtain⟨v,hv,rfl,rfl⟩:=bf
     by_cases hta:take=true/\agg=false
     ·obtain⟨rfl,rfl⟩:=hta
      refine⟨some (x.fC ⟨s.H.set loc (.box ty (bU off cs)),loc⟩),by simp only[cQ,hH,KW,hv,Option.map_some,aq2,Bool.and_self,cond_true],⟨fun k hk=>(by cases hk),fun k hk=>rfl,fun _=>⟨rfl,?_⟩,fun h=>(by cases h),fun h=>(by cases h),fun _=>rfl⟩,hw⟩
      simp only[aq2,Bool.and_self,cond_true,Option.getD_some,AS.fC,hl]
     ·have hb:(take&&!agg)=false:=by cases take<;>cases agg<;>simp_all
      have s7:∀ A:AS,(cond (take&&!agg) (some A) none:Option AS)=none:=fun A=>by rw[hb];rfl
      rw[s7]
      exact⟨none,by simp only[cQ,hH,KW,hv,Option.map_some,s7],dN.stay ha hw,hw⟩
    ·rename_i cs KW
     simp only[apt,apx] at bf
     obtain⟨v,hv,rfl,rfl⟩:=bf
     exact⟨none,by simp only[cQ,hH,KW,hv,Option.map_some],dN.stay ha hw,hw⟩
    ·rename_i cs KW
     simp only[apt,apx] at bf
     obtain⟨v,hv,rfl,rfl⟩:=bf
     exact⟨none,by simp only[cQ,hH,KW,hv,Option.map_some],dN.stay ha hw,hw⟩
    ·cases bf
  case lref b g off =>
   cases c with
   | Uw=>cases iw
   | heap=>cases iw
   | frame b' =>
    simp only[fS,dX,apS] at iw
    subst iw
    have hTb:=ha.T b' (apC.2 (.inr (apI.2 rfl)))
    split at bf
    ·rename_i g' cs hT
     obtain⟨h0,bf⟩:=ab bf
     simp only[apt,apx] at bf
     obtain⟨v,hv,rfl,rfl⟩:=bf
     rw[hT] at hTb
     by_cases hta:take=true/\agg=false
     ·obtain⟨rfl,rfl⟩:=hta
      refine⟨some (x.bu b' (.lbox g (bU off cs))),by simp only[cQ,hTb,h0,cond_true,hv,Option.map_some,aq2,Bool.and_self],⟨fun k hk=>?_,fun k hk=>?_,fun h=>(by cases h),fun _=>⟨rfl,rfl⟩,fun h=>(by cases h),fun _=>rfl⟩,hw⟩
      ·simp only[aq2,Bool.and_self,cond_true,gv,apI] at hk
       simp only[aq2,Bool.and_self,cond_true,Option.getD_some,dL,hk,aqH]
      ·simp only[aq2,Bool.and_self,cond_true,gv,apI] at hk
       simp only[Option.getD_some,dL,if_neg hk]
     ·have hb:(take&&!agg)=false:=by cases take<;>cases agg<;>simp_all
      have s7:∀ A:AS,(cond (take&&!agg) (some A) none:Option AS)=none:=fun A=>by rw[hb];rfl
      rw[s7]
      exact⟨none,by simp only[cQ,hTb,h0,cond_true,hv,Option.map_some,s7],dN.stay ha hw,hw⟩
    ·cases bf
  case eref=>cases c<;>cases iw
 case nilCheck y =>
  simp only[apv] at he
  subst he
  have iw:=hc y (.inr (.inr (.inl rfl)))
  simp only[dq,au] at bf ⊢
  rw[ad (y:=y) (fun t h=>apC.2 (.inl h))]
  generalize y.addr G s.T=Y at bf iw
  obtain⟨h0,bf⟩:=ab bf
  simp only[apv,apx] at bf
  obtain⟨rfl,rfl⟩:=bf
  have h1:=yZ h0 iw (fun b hb=>ha.T b (apC.2 (.inr hb)))
  exact⟨none,by simp only[h1,cond_true],dN.stay ha (fun t h=>by cases h),fun t h=>by cases h⟩
 case fieldAddr off y =>
  simp only[apv] at he
  subst he
  have iw:=hc y (.inr (.inr (.inr (.inl ⟨off,rfl⟩))))
  simp only[dq,au] at bf ⊢
  rw[ad (y:=y) (fun t h=>apC.2 (.inl h))]
  generalize y.addr G s.T=Y at bf iw
  obtain⟨h0,bf⟩:=ab bf
  have s7:=rN bf
  subst s7
  have h1:=yZ h0 iw (fun b hb=>ha.T b (apC.2 (.inr hb)))
  exact⟨none,by simp only[h1,cond_true];exact bf,dN.stay ha (fun t h=>by cases h),fun t h=>by cases h⟩
 case ixArr n sz y i =>
  simp only[apv] at he
  subst he
  have iw:=hc y (.inr (.inr (.inr (.inr ⟨n,sz,i,rfl⟩))))
  simp only[dq,au,apu] at bf ⊢
  obtain⟨k,hk,bf⟩:=bf
  rw[ad (y:=y) (fun t h=>by simp[h]),ev (y:=i) (fun t h=>by simp[h])]
  generalize y.addr G s.T=Y at bf iw
  obtain⟨h0,bf⟩:=ab bf
  simp only[Bool.and_eq_true] at h0
  have s7:=rN bf
  subst s7
  have h1:=yZ h0.2 iw (fun b hb=>ha.T b (by simp[hb]))
  exact⟨none,⟨k,hk,by simp only[h0.1,h1,Bool.and_self,cond_true];exact bf⟩,dN.stay ha (fun t h=>by cases h),fun t h=>by cases h⟩
 case ixSl sz y i =>
  simp only[apv] at he
  subst he
  have iw:=w8 y (.inl ⟨sz,i,rfl⟩)
  simp only[dq,au] at bf ⊢
  rw[ad (y:=y) (fun t h=>apC.2 (.inl h)),ev (y:=i) (fun t h=>apC.2 (.inr h))]
  generalize y.addr G s.T=Y at bf iw
  cases Y<;>try (cases bf;done)
  case slice el own =>
   simp only[apu] at bf
   obtain⟨k,hk,r,hr,bf⟩:=bf
   obtain⟨h0,bf⟩:=ab bf
   simp only[apv,apx] at bf
   obtain⟨rfl,rfl⟩:=bf
   exact⟨none,by simp only[hk,apB,hr,h0,cond_true],dN.stay ha (fun t h=>by cases h),fun t h=>by cases h⟩
  case sref l o m zz =>
   simp only[apu] at bf
   obtain⟨k,hk,bf⟩:=bf
   obtain⟨h0,bf⟩:=ab bf
   simp only[apv,apx] at bf
   obtain⟨rfl,rfl⟩:=bf
   exact⟨none,by simp only[hk,apB,h0,cond_true],dN.stay ha (fun t h=>by cases h),fun t h=>by cases h⟩
  case lsr=>cases iw
 case len k y =>
  simp only[apv] at he
  subst he
  have iw:=w8 y (.inr ⟨k,rfl⟩)
  simp only[dq,au] at bf ⊢
  rw[ad (y:=y) (fun t h=>h)]
  generalize y.addr G s.T=Y at bf iw
  cases Y
  case lsr=>cases iw
  all_goals
   have s7:=rN bf
   subst s7
   exact⟨none,bf,dN.stay ha (fun t h=>by cases h),fun t h=>by cases h⟩
 case store sz y v =>
  simp only[apv] at he
  subst he
  have iw:=hc y (.inr (.inl ⟨sz,v,rfl⟩))
  have hw:∀ t,t∈v.tmps++gv c->t∈y.tmps++v.tmps++gv c:=fun t ht=>by
   rcases apC.1 ht with h|h
   ·exact apC.2 (.inl (apC.2 (.inr h)))
   ·exact apC.2 (.inr h)
  have hv:=ev (y:=v) (fun t h=>apC.2 (.inl (apC.2 (.inr h))))
  have hvT:∀ t,t∈v.tmps->x.T t=s.T t:=fun t h=>ha.T t (apC.2 (.inl (apC.2 (.inr h))))
  simp only[dq,au,apt,apx] at bf ⊢
  obtain⟨s1,bf,rfl,rfl⟩:=bf
  rw[ad (y:=y) (fun t h=>apC.2 (.inl (apC.2 (.inl h)))),hv]
  generalize y.addr G s.T=Y at bf iw
  have sp:∀ (s1 x1:AS),(∀ t,t∈v.tmps->x1.T t=s1.T t)->(∀ t,t∈v.tmps->(x1.bH v).T t=(s1.bH v).T t)/\(∀ t,t∉v.tmps->(x1.bH v).T t=x1.T t)/\(∀ t,t∉v.tmps->(s1.bH v).T t=s1.T t):=by
   intro s1 x1 h
   cases v with
   | tmp t0 =>
    have h0:=h t0 (by simp[ar.tmps])
    by_cases ho:∃ el,s1.T t0=.slice el true
    ·obtain⟨el,ho⟩:=ho
     rw[sM s1 t0 ho,sM x1 t0 (h0.trans ho)]
     refine⟨fun t ht=>?_,fun t ht=>?_,fun t ht=>?_⟩
     ·simp only[ar.tmps,apI] at ht
      rw[dL,dL,if_pos ht,if_pos ht]
     ·simp only[ar.tmps,apI] at ht
      rw[dL,if_neg ht]
     ·simp only[ar.tmps,apI] at ht
      rw[dL,if_neg ht]
    ·have mY:∀ el,s1.T t0≠.slice el true:=fun el h=>ho ⟨el,h⟩
     rw[nC s1 t0 mY,nC x1 t0 (fun el h=>mY el (h0.symm.trans h))]
     exact⟨h,fun _ _=>rfl,fun _ _=>rfl⟩
   | _=>exact⟨fun t ht=>by simp[ar.tmps] at ht,fun _ _=>rfl,fun _ _=>rfl⟩
  simp only[gA] at bf ⊢
  split at bf
  ·cases bf
  rename_i vs pQ
  obtain⟨h0,age⟩:=ab bf
  clear bf
  have bf:=age
  clear age
  cases Y<;>(try dsimp only at bf ⊢)<;>try (cases bf;done)
  case ref loc off =>
   cases c with
   | frame b=>cases iw
   | Uw=>cases iw
   | heap =>
    obtain⟨hH,hl⟩:=ha.H (.inl rfl)
    split at bf
    ·rename_i ty cs KW
     obtain⟨h1,bf⟩:=ab bf
     injection bf with bf
     subst bf
     obtain⟨k1,k2,k3⟩:=sp (s.fC ⟨s.H.set loc (.box ty (putAt cs off vs)),loc⟩) (x.fC ⟨x.H.set loc (.box ty (putAt cs off vs)),loc⟩) hvT
     refine⟨some ((x.fC ⟨x.H.set loc (.box ty (putAt cs off vs)),loc⟩).bH v),⟨x.fC ⟨x.H.set loc (.box ty (putAt cs off vs)),loc⟩,by simp only[pQ,h0,cond_true,hH,KW,h1],trivial,rfl⟩,⟨fun k hk=>?_,fun k hk=>?_,fun _=>?_,fun h=>(by cases h),fun h=>(by cases h),fun _=>?_⟩,hw⟩
     ·exact k1 k (by simpa [gv] using hk)
     ·exact k2 k (by simpa [gv] using hk)
     ·obtain⟨q1,_,q3⟩:=gz (x.fC ⟨x.H.set loc (.box ty (putAt cs off vs)),loc⟩) v
      obtain⟨r1,_,r3⟩:=gz (s.fC ⟨s.H.set loc (.box ty (putAt cs off vs)),loc⟩) v
      exact⟨q1.trans (Eq.trans (by simp only[AS.fC,hH]) r1.symm),q3.trans (Eq.trans (by simp only[AS.fC,hl]) r3.symm)⟩
     ·obtain⟨_,q2,_⟩:=gz (x.fC ⟨x.H.set loc (.box ty (putAt cs off vs)),loc⟩) v
      exact q2.trans rfl
    ·rename_i cs KW
     obtain⟨h1,bf⟩:=ab bf
     injection bf with bf
     subst bf
     obtain⟨k1,k2,k3⟩:=sp (s.fC ⟨s.H.set loc (.cj (putAt cs off vs)),loc⟩) (x.fC ⟨x.H.set loc (.cj (putAt cs off vs)),loc⟩) hvT
     refine⟨some ((x.fC ⟨x.H.set loc (.cj (putAt cs off vs)),loc⟩).bH v),⟨x.fC ⟨x.H.set loc (.cj (putAt cs off vs)),loc⟩,by simp only[pQ,h0,cond_true,hH,KW,h1],trivial,rfl⟩,⟨fun k hk=>?_,fun k hk=>?_,fun _=>?_,fun h=>(by cases h),fun h=>(by cases h),fun _=>?_⟩,hw⟩
     ·exact k1 k (by simpa [gv] using hk)
     ·exact k2 k (by simpa [gv] using hk)
     ·obtain⟨q1,_,q3⟩:=gz (x.fC ⟨x.H.set loc (.cj (putAt cs off vs)),loc⟩) v
      obtain⟨r1,_,r3⟩:=gz (s.fC ⟨s.H.set loc (.cj (putAt cs off vs)),loc⟩) v
      exact⟨q1.trans (Eq.trans (by simp only[AS.fC,hH]) r1.symm),q3.trans (Eq.trans (by simp only[AS.fC,hl]) r3.symm)⟩
     ·obtain⟨_,q2,_⟩:=gz (x.fC ⟨x.H.set loc (.cj (putAt cs off vs)),loc⟩) v
      exact q2.trans rfl
    ·cases bf
  case lref b g off =>
   cases c with
   | Uw=>cases iw
   | heap=>cases iw
   | frame b' =>
    simp only[fS,dX,apS] at iw
    subst iw
    have hTb:=ha.T b' (apC.2 (.inr (apI.2 rfl)))
    split at bf
    ·rename_i g' cs hT
     obtain⟨h1,bf⟩:=ab bf
     injection bf with bf
     subst bf
     rw[hT] at hTb
     have akC:∀ t,t∈v.tmps->(x.bu b' (.lbox g (putAt cs off vs))).T t=(s.bu b' (.lbox g (putAt cs off vs))).T t:=fun t ht=>by rw[dL,dL,hvT t ht]
     obtain⟨k1,k2,k3⟩:=sp _ _ akC
     refine⟨some ((x.bu b' (.lbox g (putAt cs off vs))).bH v),⟨x.bu b' (.lbox g (putAt cs off vs)),by simp only[pQ,h0,cond_true,hTb,h1],trivial,rfl⟩,⟨fun k hk=>?_,fun k hk=>?_,fun h=>(by cases h),fun _=>?_,fun h=>(by cases h),fun _=>?_⟩,hw⟩
     ·by_cases Us:k∈v.tmps
      ·exact k1 k Us
      ·have K2:k=b':=by
        rcases apC.1 hk with h|h
        ·exact absurd h Us
        ·exact apI.1 h
       show ((x.bu b' _).bH v).T k=((s.bu b' _).bH v).T k
       rw[k2 k Us,k3 k Us,dL,dL,if_pos K2,if_pos K2]
     ·have Us:k∉v.tmps:=fun h=>hk (apC.2 (.inl h))
      have K2:k≠b':=fun h=>hk (apC.2 (.inr (apI.2 h)))
      show ((x.bu b' _).bH v).T k=x.T k
      rw[k2 k Us,dL,if_neg K2]
     ·obtain⟨q1,_,q3⟩:=gz (x.bu b' (.lbox g (putAt cs off vs))) v
      exact⟨q1.trans rfl,q3.trans rfl⟩
     ·obtain⟨_,q2,_⟩:=gz (x.bu b' (.lbox g (putAt cs off vs))) v
      exact q2.trans rfl
    ·cases bf
  case eref=>cases c<;>cases iw
 case append isB wr sz bytes y1 y2 =>
  cases wr with
  | true=>cases he
  | false =>
   simp only[apE,apv] at he
   subst he
   have hw:∀ t,t∈y1.tmps->t∈y1.tmps++y2.tmps:=fun t h=>apC.2 (.inl h)
   have h2:=ev (y:=y2) (fun t h=>apC.2 (.inr h))
   simp only[dq,au] at bf ⊢
   cases y1 with
   | tmp t =>
    have ht:=ha.T t (by simp[ar.tmps])
    simp only[ft] at bf ⊢
    rw[ht,h2]
    split at bf
    ·simp only[apu] at bf
     obtain⟨f,_,bf⟩:=bf
     simp at bf
    ·rename_i el own hT
     simp only[apE,apt,apx] at bf
     obtain⟨z',hz,rfl,rfl⟩:=bf
     refine⟨some (x.bu t (.slice el false)),by simp only[apE,hz,Option.map_some],⟨fun k hk=>?_,fun k hk=>?_,fun h=>(by cases h),fun _=>⟨rfl,rfl⟩,fun h=>(by cases h),fun _=>rfl⟩,hw⟩
     ·simp only[ar.tmps,apI] at hk
      simp only[Option.getD_some,dL,hk,aqH]
     ·simp only[ar.tmps,apI] at hk
      simp only[Option.getD_some,dL,if_neg hk]
    ·simp only[apE,apt,apx] at bf
     obtain⟨z',hz,rfl,rfl⟩:=bf
     exact⟨some x,by simp only[apE,hz,Option.map_some],dN.stay ha hw,hw⟩
    ·cases bf
   | _ =>
    simp only[ft,apE] at bf ⊢
    have s7:=rN bf
    subst s7
    rw[h2]
    exact⟨none,bf,dN.stay ha hw,hw⟩
 case appendO sz bytes y1 y2 =>
  simp only[apv] at he
  subst he
  obtain⟨hH,hl⟩:=ha.H (.inl rfl)
  simp only[dq,au] at bf ⊢
  rw[ad (y:=y1) (fun t h=>apC.2 (.inl h)),ev (y:=y2) (fun t h=>apC.2 (.inr h))]
  simp only[iF] at bf ⊢
  split at bf
  ·rename_i v hn
   simp only[apv,apx] at bf
   obtain⟨rfl,rfl⟩:=bf
   exact⟨none,rfl,dN.stay ha (fun t h=>by cases h),fun t h=>by cases h⟩
  simp only[ik,apu] at bf ⊢
  obtain⟨f,hf,bf⟩:=bf
  have fin:∀ (c0:gk),dN ⟨y1.tmps++y2.tmps,[],true,true,false⟩ (s.fC c0) x (x.fC c0):=fun c0=>⟨fun k hk=>(by cases hk),fun _ _=>rfl,fun _=>⟨rfl,by simp only[AS.fC,hl]⟩,fun h=>(by cases h),fun h=>(by cases h),fun _=>rfl⟩
  split at bf
  ·obtain⟨h0,bf⟩:=ab bf
   simp only[apv,apx] at bf
   obtain⟨rfl,rfl⟩:=bf
   rename_i hY
   exact⟨some (x.fC ⟨s.H++[ct.box aL f.flatten],s.H.length⟩),⟨f,hf,by simp only[h0,cond_true,hH]⟩,fin ⟨s.H++[ct.box aL f.flatten],s.H.length⟩,fun t h=>by cases h⟩
  ·obtain⟨h0,bf⟩:=ab bf
   simp only[apv,apx] at bf
   obtain⟨rfl,rfl⟩:=bf
   rename_i hY
   exact⟨some (x.fC ⟨s.H++[ct.box aL f.flatten],s.H.length⟩),⟨f,hf,by simp only[h0,cond_true,hH]⟩,fin ⟨s.H++[ct.box aL f.flatten],s.H.length⟩,fun t h=>by cases h⟩
  ·rename_i l o n zz hY
   split at bf
   ·rename_i ty cs KW
    obtain⟨h0,bf⟩:=ab bf
    simp only[apv,apx] at bf
    obtain⟨rfl,rfl⟩:=bf
    exact⟨some (x.fC ⟨s.H.set l .dead++[ct.box aL (cs++f.flatten)],l⟩),⟨f,hf,by simp only[hH,KW,h0,cond_true]⟩,fin ⟨s.H.set l .dead++[ct.box aL (cs++f.flatten)],l⟩,fun t h=>by cases h⟩
   ·cases bf
  ·cases bf
 case copyO y1 y2 =>
  simp only[apv] at he
  subst he
  obtain⟨hH,hl⟩:=ha.H (.inl rfl)
  simp only[dq,au] at bf ⊢
  rw[ad (y:=y1) (fun t h=>apC.2 (.inl h)),ev (y:=y2) (fun t h=>apC.2 (.inr h))]
  simp only[qe] at bf ⊢
  have fin:∀ (c0:gk),dN ⟨y1.tmps++y2.tmps,[],true,true,false⟩ (s.fC c0) x (x.fC c0):=fun c0=>⟨fun k hk=>(by cases hk),fun _ _=>rfl,fun _=>⟨rfl,by simp only[AS.fC,hl]⟩,fun h=>(by cases h),fun h=>(by cases h),fun _=>rfl⟩
  split at bf
  ·rename_i l o n zz f own hY hZ
   split at bf
   ·rename_i cs KW
    obtain⟨h0,bf⟩:=ab bf
    simp only[apv,apx] at bf
    obtain⟨rfl,rfl⟩:=bf
    exact⟨some (x.fC ⟨s.H.set l (.cj (putAt cs o (f.take (Nat.min f.length n)).flatten)),l⟩),by simp only[hH,KW,h0,cond_true],fin ⟨s.H.set l (.cj (putAt cs o (f.take (Nat.min f.length n)).flatten)),l⟩,fun t h=>by cases h⟩
   ·cases bf
  ·simp only[apv,apx] at bf
   obtain⟨rfl,rfl⟩:=bf
   exact⟨none,rfl,dN.stay ha (fun t h=>by cases h),fun t h=>by cases h⟩
  ·cases bf
 case call f args =>
  simp only[apv] at he
  subst he
  obtain⟨hH,hl⟩:=ha.H (.inl rfl)
  have hf:=ev (y:=f) (fun t h=>by simp only[fq.tmps,apC];exact .inl h)
  have had:∀ y,y∈args->y.addr G x.T=y.addr G s.T:=fun y hy=>ad (y:=y) (fun t h=>by simp only[fq.tmps,apC,aqz];exact .inr ⟨y,hy,h⟩)
  have e1:(args.map fun a=>a.addr G x.T)=args.map fun a=>a.addr G s.T:=apY had
  have e2:(args.map fun a=>(a.addr G x.T).aX)=args.map fun a=>(a.addr G s.T).aX:=apY fun y hy=>by rw[had y hy]
  have K8:∀ t,t∈([]:List Nat)->t∈(fq.call f args).tmps:=fun t h=>by cases h
  cases pc with
  | true =>
   simp only[dq,cond_true,au] at bf ⊢
   rw[hf,e1,e2,hH]
   split at bf
   ·obtain⟨h0,bf⟩:=ab bf
    simp only[apu] at bf
    obtain⟨r,hr,bf⟩:=bf
    split at bf
    ·rename_i h2
     simp only[apv,apx] at bf
     obtain⟨rfl,rfl⟩:=bf
     exact⟨none,by simp only[h0,cond_true,hr,Option.map_some,h2,Option.map_none],dN.stay ha K8,K8⟩
    ·cases bf
   ·cases bf
  | false =>
   simp only[dq,apE,au] at bf ⊢
   rw[hf,e1,e2,hH]
   split at bf
   ·obtain⟨h0,bf⟩:=ab bf
    simp only[apt,apx] at bf
    obtain⟨r,hr,rfl,rfl⟩:=bf
    refine⟨r.2.map x.fC,by simp only[h0,cond_true,hr,Option.map_some],?_,K8⟩
    cases h2:r.2 with
    | none=>exact dN.stay ha K8
    | some c0=>exact⟨fun k hk=>(by cases hk),fun _ _=>rfl,fun _=>⟨rfl,by simp only[Option.map_some,Option.getD_some,AS.fC,hl]⟩,fun h=>(by cases h),fun h=>(by cases h),fun _=>rfl⟩
   ·cases bf
theorem FN{pc:Bool}{c:Oh}{op:fq}(he:x7 pc c op=some e):∀ t,t∈e.ws->t∈e.rs:=by
 intro t ht
 cases op<;>simp only[x7] at he<;>try (cases he;done)
 case mov take obj y =>
  cases obj with
  | true=>cases he
  | false =>
   simp only[apE,apv] at he
   subst he
   cases take with
   | true=>exact ht
   | false=>cases ht
 case load take agg sz y =>
  simp only[apv] at he
  subst he
  cases hb:(take&&!agg) with
  | true=>simp only[hb,cond_true] at ht;exact apC.2 (.inr ht)
  | false=>simp only[hb,apE] at ht;cases ht
 case store sz y v =>
  simp only[apv] at he
  subst he
  rcases apC.1 ht with h|h
  ·exact apC.2 (.inl (apC.2 (.inr h)))
  ·exact apC.2 (.inr h)
 case append isB wr sz bytes y1 y2 =>
  cases wr with
  | true=>cases he
  | false =>
   simp only[apE,apv] at he
   subst he
   exact apC.2 (.inl ht)
 all_goals
  simp only[apv] at he
  subst he
  cases ht
theorem qs{mode pc:Bool}{is:List aj}{L:List Nat}{o:aj}(he:wu mode pc is L o=some e)
  (hc:∀ c y,qL mode is L o.op=some (c,y)->(∀ g w,o.guard=some (g,w)->s.T g=.bool w)->fS c (y.addr G s.T)=true) {s1:AS}
  (bf:bA G cf false s (iN pc o)=some s1) (ha:Ul e s x):∃ x1,bA G cf false x o=some x1/\dN e s1 x x1/\(∀ t,t∈e.ws->t∈o.dst.toList\/t∈e.rs):=by
 simp only[wu,apt] at he
 obtain⟨e0,he0,rfl⟩:=he
 rw[wR] at bf
 have ha0:Ul e0 s x:=⟨fun t ht=>ha.T t (apC.2 (.inr ht)),ha.H,ha.G⟩
 have DD:∀ (q:AS) (d:Option Nat) (v:AV) (k:Nat),(q.bR d v).T k=if k∈d.toList then v else q.T k:=by
  intro q d v k
  cases d with
  | none=>simp[AS.bR]
  | some d=>simp only[AS.bR,dL,Option.toList_some,apI]
 have put:∀ (v:AV) (s2 x2:AS),dN e0 s2 x x2->(∀ t,t∈e0.ws->t∈e0.rs) ->
   dN ⟨(match o.guard with|some (g,_)=>[g]|none=>[])++e0.rs,o.dst.toList++e0.ws,e0.rh,e0.wh,e0.wg⟩ (s2.bR o.dst v) x (x2.bR o.dst v)/\(∀ t,t∈o.dst.toList++e0.ws->t∈o.dst.toList\/t∈(match o.guard with|some (g,_)=>[g]|none=>[])++e0.rs):=by
  intro v s2 x2 hM hw
  refine⟨⟨fun t ht=>?_,fun t ht=>?_,fun h=>?_,fun h=>?_,fun h=>?_,fun h=>?_⟩,fun t ht=>?_⟩
  ·rw[DD,DD]
   by_cases hd:t∈o.dst.toList
   ·rw[if_pos hd,if_pos hd]
   ·rw[if_neg hd,if_neg hd]
    rcases apC.1 ht with h|h
    ·exact absurd h hd
    ·exact hM.T t h
  ·rw[DD,if_neg (fun h=>ht (apC.2 (.inl h)))]
   exact hM.T' t (fun h=>ht (apC.2 (.inr h)))
  ·rw[(gS s2 o.dst v).1,(gS s2 o.dst v).2.2,(gS x2 o.dst v).1,(gS x2 o.dst v).2.2];exact hM.H h
  ·rw[(gS x2 o.dst v).1,(gS x2 o.dst v).2.2];exact hM.H' h
  ·rw[(gS s2 o.dst v).2.1,(gS x2 o.dst v).2.1];exact hM.G h
  ·rw[(gS x2 o.dst v).2.1];exact hM.G' h
  ·rcases apC.1 ht with h|h
   ·exact .inl h
   ·exact .inr (apC.2 (.inr (hw t h)))
 have run:(∀ g w,o.guard=some (g,w)->s.T g=.bool w)->((au G cf s (dq pc o.op)).bind fun r=>match r.2 with
   | none=>cond (false&&(aP r.1).isSome) none (some (s.bR o.dst r.1))
   | some s'=>cond false none (some (s'.bR o.dst r.1)))=some s1 ->
   ∃ x1,((au G cf x o.op).bind fun r=>match r.2 with
    | none=>cond (false&&(aP r.1).isSome) none (some (x.bR o.dst r.1))
    | some s'=>cond false none (some (s'.bR o.dst r.1)))=some x1/\dN ⟨(match o.guard with|some (g,_)=>[g]|none=>[])++e0.rs,o.dst.toList++e0.ws,e0.rh,e0.wh,e0.wg⟩ s1 x x1 /\
    (∀ t,t∈o.dst.toList++e0.ws->t∈o.dst.toList\/t∈(match o.guard with|some (g,_)=>[g]|none=>[])++e0.rs):=by
  intro hg hr
  simp only[apu] at hr
  obtain⟨⟨z,so⟩,hz,hr⟩:=hr
  obtain⟨xo,h1,h2,h3⟩:=Xu he0 (fun y hy=>by
    have key:∃ c,qL mode is L o.op=some (c,y):=by
     rcases hy with ⟨t,a,z,h⟩|⟨z,v,h⟩|h|⟨f,h⟩|⟨n,z,i,h⟩<;>rw[h]<;>exact⟨_,rfl⟩
    obtain⟨c,hk⟩:=key
    rw[hk]
    exact hc c y hk hg)
   (fun y hy=>by
    have key:qL mode is L o.op=some (.heap,y):=by
     rcases hy with ⟨z,i,h⟩|⟨k,h⟩<;>rw[h]<;>rfl
    exact hc _ y key hg) hz ha0
  have Bk:s1=(so.getD s).bR o.dst z:=by
   cases so with
   | none=>simp only[aqW,apE,apv] at hr;exact hr.symm
   | some s2=>simp only[apE,apv] at hr;exact hr.symm
  subst Bk
  obtain⟨p1,p2⟩:=put z _ _ h2 h3
  refine⟨(xo.getD x).bR o.dst z,?_,p1,p2⟩
  rw[h1]
  cases xo with
  | none=>rfl
  | some x2=>rfl
 unfold bA at bf ⊢
 cases jH:o.guard with
 | none =>
  rw[jH] at run
  simp only[jH] at bf ⊢
  exact run (fun g w h=>by cases h) bf
 | some gw =>
  obtain⟨g,w⟩:=gw
  have hxg:x.T g=s.T g:=ha.T g (by rw[jH];exact apC.2 (.inl (apI.2 rfl)))
  simp only[jH] at bf ⊢
  rw[hxg]
  rw[jH] at run put
  have skip:some (s.bR o.dst .undef)=some s1->∃ x1,some (x.bR o.dst .undef)=some x1/\dN ⟨[g]++e0.rs,o.dst.toList++e0.ws,e0.rh,e0.wh,e0.wg⟩ s1 x x1/\(∀ t,t∈o.dst.toList++e0.ws->t∈o.dst.toList\/t∈[g]++e0.rs):=by
   intro h
   injection h with h
   subst h
   obtain⟨p1,p2⟩:=put .undef s x (dN.stay ha0 (FN he0)) (FN he0)
   exact⟨_,rfl,p1,p2⟩
  generalize hX:s.T g=X at bf
  cases X with
  | bool b =>
   simp only at bf ⊢
   cases hb:(b==w) with
   | true =>
    rw[hb] at bf
    simp only[cond_true] at bf ⊢
    exact run (fun g' w' h=>by injection h with h;injection h with h1 h2;subst h1 h2;rw[hX];congr 1;simpa using hb) bf
   | false =>
    rw[hb] at bf
    simp only[apE] at bf ⊢
    exact skip bf
  | tuple vs =>
   cases vs with
   | nil=>exact skip bf
   | cons v vs=>cases bf
  | _=>cases bf
end
section
variable {α:Type}{S:Nat->AS}{f:AS->α}{w X:Nat->Prop}{n k:Nat}{x x1:AS}
def w4(S:Nat->AS)(f:AS->α)(w X:Nat->Prop)(x:AS):Prop :=
 (∃ i,X i/\w i/\(∀ j,X j->w j->j<=i)/\f x=f (S (i+1)))\/((∀ j,X j->¬ w j)/\f x=f (S 0))
theorem p5(hf:∀ j,j<n->¬ w j->f (S (j+1))=f (S j)){a:Nat} : ∀ (b:Nat),a<=b->b<=n->(∀ j,a<=j->j<b->¬ w j)->f (S b)=f (S a):=by
 intro b
 induction b with
 | zero=>intro h _ _;rw[show a=0 by omega]
 | succ b ih =>
  intro h1 h2 h3
  rcases aqP b a with h|h
  ·rw[show a=b+1 by omega]
  ·rw[hf b (by omega) (h3 b h (by omega)),ih h (by omega) (fun j a1 a2=>h3 j a1 (by omega))]
theorem kg(hf:∀ j,j<n->¬ w j->f (S (j+1))=f (S j))(hk:k<=n)(hC:w4 S f w X x)(h1:∀ j,j<k->w j->X j)(h2:∀ j,X j->w j->j<k):f x=f (S k):=by
 rcases hC with ⟨i,hX,hw,hm,he⟩|⟨jI,he⟩
 ·rw[he]
  refine (p5 hf k (h2 i hX hw) hk (fun j a b Nd=>?_)).symm
  have:=hm j (h1 j b Nd) Nd
  omega
 ·rw[he]
  exact (p5 hf k (aqF _) hk (fun j a b Nd=>jI j (h1 j b Nd) Nd)).symm
theorem lE(hw:w k)(hm:∀ j,X j->w j->j<=k)(he:f x1=f (S (k+1))):w4 S f w (fun j=>X j\/j=k) x1 :=
 .inl ⟨k,.inr rfl,hw,fun j hj Nd=>by rcases hj with h|h;exact hm j h Nd;omega,he⟩
theorem nr(hw:¬ w k)(hC:w4 S f w X x)(he:f x1=f x):w4 S f w (fun j=>X j\/j=k) x1:=by
 rcases hC with ⟨i,hX,ZW,hm,h⟩|⟨jI,h⟩
 ·exact .inl ⟨i,.inl hX,ZW,fun j hj Nd=>by
   rcases hj with h'|h'
   ·exact hm j h' Nd
   ·subst h';exact absurd Nd hw,by rw[he,h]⟩
 ·exact .inr ⟨fun j hj Nd=>by
   rcases hj with h'|h'
   ·exact jI j h' Nd
   ·subst h';exact hw Nd,by rw[he,h]⟩
theorem lD{Y:Nat->Prop}(h:∀ j,X j↔Y j)(hC:w4 S f w X x):w4 S f w Y x:=by
 rcases hC with ⟨i,hX,ZW,hm,h'⟩|⟨jI,h'⟩
 ·exact .inl ⟨i,(h i).1 hX,ZW,fun j hj=>hm j ((h j).2 hj),h'⟩
 ·exact .inr ⟨fun j hj=>jI j ((h j).2 hj),h'⟩
structure tj (S:Nat->AS) (E:Nat->qK) (X:Nat->Prop) (x:AS):Prop where
 T:∀ t,w4 S (fun s=>s.T t) (fun j=>t∈(E j).ws) X x
 H:w4 S (fun s=>(s.H,s.lo)) (fun j=>(E j).wh=true) X x
 G:w4 S (fun s=>s.gen) (fun j=>(E j).wg=true) X x
structure Av (S:Nat->AS) (E:Nat->qK) (n:Nat):Prop where
 T:∀ t j,j<n->¬ (t∈(E j).ws)->(S (j+1)).T t=(S j).T t
 H:∀ j,j<n->¬ ((E j).wh=true)->((S (j+1)).H,(S (j+1)).lo)=((S j).H,(S j).lo)
 G:∀ j,j<n->¬ ((E j).wg=true)->(S (j+1)).gen=(S j).gen
theorem lJ{x y:List Nat}{t:Nat}(h1:t∈x)(h2:t∈y):meets x y=true:=by
 simp only[meets,List.any_eq_true]
 exact⟨t,h1,by simpa using h2⟩
theorem Ip{E:Nat->qK}(hK:Av S E n)(hk:k<n)(hB:tj S E X x)(hX:¬ X k)(h1:∀ j,j<k->conflict (E k) (E j)=true->X j)(h2:∀ j,k<j->conflict (E j) (E k)=true->¬ X j):Ul (E k) (S k) x:=by
 have lt:∀ j,X j->j<k\/k<j:=fun j h=>by
  rcases aq5 j k with a|a|a
  ·exact .inl a
  ·subst a;exact absurd h hX
  ·exact .inr a
 refine⟨fun t ht=>?_,fun hh=>?_,fun hg=>?_⟩
 ·refine kg (fun j=>hK.T t j) (arD hk) (hB.T t) (fun j hj hw=>h1 j hj ?_) (fun j hj hw=>?_)
  ·simp only[conflict,lJ hw ht,arz,arA]
  ·rcases lt j hj with a|a
   ·exact a
   ·exact absurd hj (h2 j a (by simp only[conflict,lJ hw ht,arz,arA]))
 ·have:=kg (fun j=>hK.H j) (arD hk) hB.H (fun j hj hw=>h1 j hj (by
   rcases hh with h|h<;>simp[conflict,hw,h])) (fun j hj hw=>by
   rcases lt j hj with a|a
   ·exact a
   ·exact absurd hj (h2 j a (by rcases hh with h|h<;>simp[conflict,hw,h])))
  simp only[apx] at this
  exact this
 ·exact kg (fun j=>hK.G j) (arD hk) hB.G (fun j hj hw=>h1 j hj (by simp[conflict,hw,hg])) (fun j hj hw=>by
   rcases lt j hj with a|a
   ·exact a
   ·exact absurd hj (h2 j a (by simp[conflict,hw,hg])))
theorem Ff{E:Nat->qK}(hB:tj S E X x)(hX:¬ X k)(h2:∀ j,k<j->conflict (E j) (E k)=true->¬ X j)(hM:dN (E k) (S (k+1)) x x1):tj S E (fun j=>X j\/j=k) x1:=by
 have le:∀ j,X j->(k<j->conflict (E j) (E k)=true)->j<=k:=fun j h hc=>by
  rcases aqP k j with a|a
  ·exact absurd h (h2 j a (hc a))
  ·exact a
 refine⟨fun t=>?_,?_,?_⟩
 ·by_cases ht:t∈(E k).ws
  ·exact lE ht (fun j hj hw=>le j hj fun _=>by simp only[conflict,lJ hw ht,arz,arA]) (hM.T t ht)
  ·exact nr ht (hB.T t) (hM.T' t ht)
 ·by_cases hh:(E k).wh=true
  ·exact lE hh (fun j hj hw=>le j hj fun _=>by simp[conflict,hw,hh]) (by simp only[hM.H hh])
  ·have:=hM.H' (by simpa using hh)
   exact nr hh hB.H (by simp only[this])
 ·by_cases hg:(E k).wg=true
  ·exact lE hg (fun j hj hw=>le j hj fun _=>by simp[conflict,hw,hg]) (hM.G hg)
  ·exact nr hg hB.G (hM.G' (by simpa using hg))
theorem Iq{E:Nat->qK}(hK:Av S E n)(hB:tj S E X x)(hX:∀ j,X j↔j<n):x=S n:=by
 have hT:x.T=(S n).T:=funext fun t=>kg (fun j=>hK.T t j) (apz _) (hB.T t) (fun j hj _=>(hX j).2 hj) (fun j hj _=>(hX j).1 hj)
 have hH:=kg (fun j=>hK.H j) (apz _) hB.H (fun j hj _=>(hX j).2 hj) (fun j hj _=>(hX j).1 hj)
 have hG:=kg (fun j=>hK.G j) (apz _) hB.G (fun j hj _=>(hX j).2 hj) (fun j hj _=>(hX j).1 hj)
 simp only[apx] at hH
 obtain⟨h1,h2⟩:=hH
 cases x
 generalize S n=y at hT h1 h2 hG
 cases y
 simp only at hT h1 h2 hG
 subst hT h1 h2 hG
 rfl
theorem Fe{E:Nat->qK}(hX:∀ j,¬ X j):tj S E X (S 0) :=
 ⟨fun _=>.inr ⟨fun j h=>absurd h (hX j),rfl⟩,.inr ⟨fun j h=>absurd h (hX j),rfl⟩,.inr ⟨fun j h=>absurd h (hX j),rfl⟩⟩
end
theorem zn(ops:List Oper):∀ (k:Nat) (o:Oper),ops[k]?=some o->∀ p,p∈(qA ops).getD k []->∃ e,e∈o.after.toList/\Region.binds .any e=true/\(p=e.on\/p∈(qA ops).getD e.on []):=by
 have key:∀ (l r:List Oper) (t:List (List Nat)),t.length=l.length->(∀ (k:Nat) (o:Oper),l[k]?=some o->∀ p,p∈t.getD k []->∃ e,e∈o.after.toList/\Region.binds .any e=true/\(p=e.on\/p∈t.getD e.on [])) ->
   let t':=r.foldl (fun t o=>t++[(o.after.toList.flatMap fun e=>cond (Region.binds .any e) (e.on :: t.getD e.on []) []).eraseDups]) t
   ∀ (k:Nat) (o:Oper),(l++r)[k]?=some o->∀ p,p∈t'.getD k []->∃ e,e∈o.after.toList/\Region.binds .any e=true/\(p=e.on\/p∈t'.getD e.on []):=by
  intro l r
  induction r generalizing l with
  | nil=>intro t hl h;simpa using h
  | cons o r ih =>
   intro t hl h
   have:=ih (l++[o]) (t++[(o.after.toList.flatMap fun e=>cond (Region.binds .any e) (e.on :: t.getD e.on []) []).eraseDups]) (by simp[hl]) (fun k o' hk p hp=>?_)
   ·simpa using this
   ·have grow:∀ (v:List Nat) (i q:Nat),q∈t.getD i []->q∈(t++[v]).getD i []:=by
     intro v i q hq
     have:i<t.length:=by
      rcases aqP i t.length with h|h
      ·exact h
      ·rw[apX,aqK h] at hq;cases hq
     rw[apX,apN this,<- apX];exact hq
    rcases aq5 k l.length with a|a|a
    ·rw[apN a] at hk
     rw[apX,apN (by omega),<- apX] at hp
     obtain⟨e,h1,h2,h3⟩:=h k o' hk p hp
     exact⟨e,h1,h2,h3.imp id (grow _ _ _)⟩
    ·subst a
     simp only[apM (apz _),aqD,apH,apv] at hk
     subst hk
     rw[apX,apM (by omega),hl,aqD] at hp
     simp only[apH,Option.getD_some,List.mem_eraseDups,aqz] at hp
     obtain⟨e,h1,hp⟩:=hp
     cases hb:Region.binds .any e with
     | false=>rw[hb] at hp;cases hp
     | true =>
      rw[hb] at hp
      simp only[cond_true,apO] at hp
      exact⟨e,h1,hb,hp.imp id (grow _ _ _)⟩
    ·rw[apM (by omega)] at hk
     have:k-l.length≠0:=by omega
     obtain⟨m,hm⟩:=Nat.exists_eq_succ_of_ne_zero this
     rw[hm] at hk
     simp at hk
 have:=key [] ops [] rfl (fun k o hk=>by simp at hk)
 simpa [qA] using this
theorem u2{ops:List Oper}{X:Nat->Prop}(kF:∀ (i:Nat) (o:Oper),ops[i]?=some o->∀ e,e∈o.after.toList->Region.binds .any e=true->e.on<i)
  (hX:∀ (i:Nat) (o:Oper),ops[i]?=some o->X i->∀ e,e∈o.after.toList->Region.binds .any e=true->X e.on) :
  ∀ (k:Nat),X k->∀ p,p∈(qA ops).getD k []->X p:=by
 intro k
 induction k using Nat.strongRecOn with
 | _ k ih =>
  intro hk p hp
  cases ho:ops[k]? with
  | none =>
   exfalso
   have hlen:∀ (r:List Oper) (t:List (List Nat)),(r.foldl (fun t o=>t++[(o.after.toList.flatMap fun e=>cond (Region.binds .any e) (e.on :: t.getD e.on []) []).eraseDups]) t).length=t.length+r.length:=by
    intro r
    induction r with
    | nil=>intro t;simp
    | cons o r ih=>intro t;rw[aqr,ih];simp;omega
   have h1:(qA ops).length=ops.length:=by rw[qA,hlen];simp
   rw[apX,aqK (by rw[h1];exact List.getElem?_eq_none_iff.1 ho)] at hp
   cases hp
  | some o =>
   obtain⟨e,h1,h2,h3⟩:=zn ops k o ho p hp
   have h4:=hX k o ho hk e h1 h2
   rcases h3 with h3|h3
   ·rw[h3];exact h4
   ·exact ih e.on (kF k o ho e h1 h2) h4 p h3
theorem Hv{ops:List Oper}{X:Nat->Prop}(kF:∀ (i:Nat) (o:Oper),ops[i]?=some o->∀ e,e∈o.after.toList->Region.binds .any e=true->e.on<i)
  (hX:∀ (i:Nat) (o:Oper),ops[i]?=some o->X i->∀ e,e∈o.after.toList->Region.binds .any e=true->X e.on)
  {k:Nat} {o:Oper} (ho:ops[k]?=some o) (hr:∀ e,e∈o.after.toList->Region.binds .any e=true->X e.on):∀ p,p∈(qA ops).getD k []->X p:=by
 intro p hp
 obtain⟨e,h1,h2,h3⟩:=zn ops k o ho p hp
 rcases h3 with h3|h3
 ·rw[h3];exact hr e h1 h2
 ·exact u2 kF hX e.on (hr e h1 h2) p h3
section
variable {G:Nat->List AV}{cf:cA}
theorem Ke{pc:Bool}{op:fq}{s:AS}{r:AV × Option AS}(h:au G cf s (dq pc op)=some r):au G cf s op=some r:=by
 cases op<;>try exact h
 rename_i f xs
 cases pc with
 | false=>exact h
 | true =>
  simp only[dq,cond_true,au] at h ⊢
  split at h
  ·obtain⟨h0,h⟩:=ab h
   simp only[apu] at h
   obtain⟨⟨v,c⟩,h1,h⟩:=h
   simp only[h0,cond_true,h1,Option.map_some]
   cases c with
   | none=>exact h
   | some c=>cases h
  ·cases h
theorem qB{pc:Bool}{o:aj}{s s1:AS}(h:bA G cf false s (iN pc o)=some s1):bA G cf false s o=some s1:=by
 rw[wR] at h
 have run:((au G cf s (dq pc o.op)).bind fun r=>match r.2 with
   | none=>cond (false&&(aP r.1).isSome) none (some (s.bR o.dst r.1))
   | some s'=>cond false none (some (s'.bR o.dst r.1)))=some s1->((au G cf s o.op).bind fun r=>match r.2 with
   | none=>cond (false&&(aP r.1).isSome) none (some (s.bR o.dst r.1))
   | some s'=>cond false none (some (s'.bR o.dst r.1)))=some s1:=by
  intro h
  simp only[apu] at h
  obtain⟨r,hr,h⟩:=h
  rw[Ke hr]
  exact h
 unfold bA at h ⊢
 cases jH:o.guard with
 | none=>simp only[jH] at h ⊢;exact run h
 | some gw =>
  obtain⟨g,w⟩:=gw
  simp only[jH] at h ⊢
  generalize s.T g=X at h ⊢
  cases X with
  | bool b =>
   simp only at h ⊢
   cases hb:(b==w) with
   | true=>rw[hb] at h;simp only[cond_true] at h ⊢;exact run h
   | false=>rw[hb] at h;exact h
  | tuple vs=>cases vs with
   | nil=>exact h
   | cons v vs=>cases h
  | _=>cases h
theorem uQ{mode pc:Bool}{is:List aj}{L:List Nat} : ∀ (l:List aj) (s s' : AS),bP G cf false (inter mode pc is L l) s=some s' ->
  ∃ S:Nat->AS,S 0=s/\S l.length=s'/\∀ (i:Nat) (o:aj),l[i]?=some o->(∀ c y,qL mode is L o.op=some (c,y)->(∀ g w,o.guard=some (g,w)->(S i).T g=.bool w)->fS c (y.addr G (S i).T)=true) /\
   bA G cf false (S i) (iN pc o)=some (S (i+1)):=by
 intro l
 induction l with
 | nil =>
  intro s s' h
  simp only[inter,bP,apv] at h
  exact⟨fun _=>s,rfl,h,fun i o hi=>by simp at hi⟩
 | cons o l ih =>
  intro s s' h
  have body:∀ s1,bA G cf false s (iN pc o)=some s1->bP G cf false (inter mode pc is L l) s1=some s'->(∀ c y,qL mode is L o.op=some (c,y)->(∀ g w,o.guard=some (g,w)->s.T g=.bool w)->fS c (y.addr G s.T)=true) ->
    ∃ S:Nat->AS,S 0=s/\S (o :: l).length=s'/\∀ (i:Nat) (o' : aj),(o :: l)[i]?=some o'->(∀ c y,qL mode is L o'.op=some (c,y)->(∀ g w,o'.guard=some (g,w)->(S i).T g=.bool w)->fS c (y.addr G (S i).T)=true) /\
     bA G cf false (S i) (iN pc o')=some (S (i+1)):=by
   intro s1 h1 h2 h3
   obtain⟨S,a,b,c⟩:=ih s1 s' h2
   refine⟨fun i=>match i with|0=>s|i+1=>S i,rfl,b,fun i o' hi=>?_⟩
   cases i with
   | zero =>
    simp only[apH,apv] at hi
    subst hi
    exact⟨h3,by rw[h1];exact ar0 some a.symm⟩
   | succ i=>exact c i o' (by simpa using hi)
  simp only[inter] at h
  split at h
  ·rename_i c x hk
   simp only[bP,apu] at h
   obtain⟨s0,h0,s1,h1,h2⟩:=h
   have j6:s0=s/\((∀ g w,o.guard=some (g,w)->s.T g=.bool w)->fS c (x.addr G s.T)=true):=by
    have run:((au G cf s (.j6 c x)).bind fun r=>match r.2 with
      | none=>cond (false&&(aP r.1).isSome) none (some (s.bR none r.1))
      | some s'=>cond false none (some (s'.bR none r.1)))=some s0->s0=s/\fS c (x.addr G s.T)=true:=by
     intro h
     simp only[au] at h
     cases hc:fS c (x.addr G s.T) with
     | false=>rw[hc] at h;cases h
     | true=>rw[hc] at h;simp[AS.bR] at h;exact⟨h.symm,rfl⟩
    unfold bA at h0
    cases jH:o.guard with
    | none=>simp only[jH] at h0;exact⟨(run h0).1,fun _=>(run h0).2⟩
    | some gw =>
     obtain⟨g,w⟩:=gw
     simp only[jH] at h0
     generalize hX:s.T g=X at h0
     cases X with
     | bool b =>
      simp only at h0
      cases hb:(b==w) with
      | true=>rw[hb] at h0;exact⟨(run h0).1,fun _=>(run h0).2⟩
      | false =>
       rw[hb] at h0
       simp only[apE,AS.bR,apv] at h0
       refine⟨h0.symm,fun hg=>?_⟩
       have:=hg g w rfl
       rw[hX] at this
       injection this with this
       subst this
       simp at hb
     | tuple vs =>
      cases vs with
      | nil =>
       simp only[AS.bR,apv] at h0
       refine⟨h0.symm,fun hg=>?_⟩
       have:=hg g w rfl
       rw[hX] at this
       cases this
      | cons v vs=>cases h0
     | _=>cases h0
   obtain⟨rfl,ajC⟩:=j6
   refine body s1 h1 h2 (fun c' y gm=>?_)
   rw[hk] at gm
   injection gm with gm
   injection gm with e1 e2
   subst e1 e2
   exact ajC
  ·rename_i hk
   simp only[bP,apu] at h
   obtain⟨s1,h1,h2⟩:=h
   exact body s1 h1 h2 (fun c' y gm=>by rw[hk] at gm;cases gm)
theorem x8{mode pc:Bool}{is:List aj}{L:List Nat} : ∀ {l:List aj} {es:List qK},oL mode pc is L l=some es->es.length=l.length/\∀ (i:Nat) (o:aj),l[i]?=some o->wu mode pc is L o=some (es.getD i default)
 | [],es,h=>by simp[oL] at h;subst h;exact⟨rfl,fun i o hi=>by simp at hi⟩
 | o :: l,es,h=>by
  simp only[oL,apu,apt] at h
  obtain⟨e,he,uz,h',rfl⟩:=h
  obtain⟨h1,h2⟩:=x8 h'
  refine⟨by simp[h1],fun i o' hi=>?_⟩
  cases i with
  | zero=>simp only[apH,apv] at hi;subst hi;simpa using he
  | succ i=>simpa using h2 i o' (by simpa using hi)
theorem FT{s s1:AS}{o:aj}(h:bA G cf false s o=some s1):∃ z s2,kD G cf false s o=some (z,s2)/\s1=s2.bR o.dst z:=by
 have run:((au G cf s o.op).bind fun r=>match r.2 with
   | none=>cond (false&&(aP r.1).isSome) none (some (s.bR o.dst r.1))
   | some s'=>cond false none (some (s'.bR o.dst r.1)))=some s1->∃ z s2,((au G cf s o.op).bind fun r=>match r.2 with
   | none=>cond (false&&(aP r.1).isSome) none (some (r.1,s))
   | some s'=>cond false none (some (r.1,s')))=some (z,s2)/\s1=s2.bR o.dst z:=by
  intro h
  simp only[apu] at h
  obtain⟨⟨z,so⟩,hr,h⟩:=h
  rw[hr]
  cases so with
  | none=>simp at h;exact⟨z,s,rfl,h.symm⟩
  | some s2=>simp at h;exact⟨z,s2,rfl,h.symm⟩
 unfold bA at h
 unfold kD
 cases jH:o.guard with
 | none=>simp only[jH] at h ⊢;exact run h
 | some gw =>
  obtain⟨g,w⟩:=gw
  simp only[jH] at h ⊢
  generalize s.T g=X at h ⊢
  cases X with
  | bool b =>
   simp only at h ⊢
   cases hb:(b==w) with
   | true=>rw[hb] at h;simp only[cond_true] at h ⊢;exact run h
   | false=>rw[hb] at h;simp only[apE,apv] at h ⊢;exact⟨_,_,rfl,h.symm⟩
  | tuple vs=>cases vs with
   | nil=>simp only[apv] at h ⊢;exact⟨_,_,rfl,h.symm⟩
   | cons v vs=>cases h
  | _=>cases h
end
section
variable {P:Program}{G:Nat->List AV}{base nt:Nat}{L:List Nat}{gh:Gh}{w w' : World}{a:Act}{s:AS}{H:ag}
theorem FC{cf:cA}(iI:cU P G cf){H0:ag}{gC:Gh}{w0:World}{bJ locals muts:List Nat}{ops:Array Oper}(vg:∀ x,x∈locals->x∈L)(vh:∀ x,x∈muts->x∈L)(Q:Exit->Act->World->Prop)
  {is:List aj} {mode pc:Bool} {M:List Nat} {es:List qK} (hI:Inv G base nt L H0 gC w0 s gh w a) (hc:fL P bJ locals muts nt ops ops.toList=some is) (rB:oL mode pc is M is=some es) (da:rS ops.toList es=true)
  {s' : AS} (he:bP G cf false (inter mode pc is M is) s=some s')
  (hQ:∀ a' aK w',Inv G base nt L H0 gC w0 s' aK w' a'->Q .normal a' w'):wpAny P .any ops Q ops.size (Array.replicate ops.size false) a w:=by
 obtain⟨S,h0,hn,hS⟩:=uQ is s s' he
 obtain⟨hlen,ox⟩:=gB hc
 obtain⟨agc,Vw⟩:=x8 rB
 have gM:ops.size=is.length:=by simpa using hlen
 let E:Nat->qK:=fun i=>es.getD i default
 simp only[rS,Bool.and_eq_true,apA] at da
 obtain⟨hb0,da⟩:=da
 have kF:∀ (i:Nat) (o:Oper),ops.toList[i]?=some o->∀ e,e∈o.after.toList->Region.binds .any e=true->e.on<i:=by
  intro i o hi e he hb
  have:=hb0 (o,i) (by rw[ap8];exact⟨i,by rw[ari,hi];simp⟩)
  rw[arn] at this
  have:=this e (by simpa using he)
  simpa [hb,ap0] using this
 have Gp:∀ i j,j<i->i<is.length->conflict (E i) (E j)=true->j∈(qA ops.toList).getD i []:=by
  intro i j iz hi iI
  have gi:es[i]?=some (E i):=by
   have:i<es.length:=by omega
   simp[E,this]
  have gj:es[j]?=some (E j):=by
   have:j<es.length:=by omega
   simp[E,this]
  have:=da (E i,i) (by rw[ap8];exact⟨i,by rw[ari,gi];simp⟩) (E j,j) (by rw[ap8];exact⟨j,by rw[ari,gj];simp⟩)
  simp only[iI,show Nat.blt j i=true by simpa [ap0] using iz,arv,arR,asa] at this
  simpa using this
 have ly:∀ i,i<is.length->∃ io,is[i]?=some io:=fun i hi=>⟨_,apy hi⟩
 have xF:∀ (e:qK) (q:AS),Ul e q q:=fun e q=>⟨fun _ _=>rfl,fun _=>⟨rfl,rfl⟩,fun _=>rfl⟩
 have hK:Av S E is.length:=by
  have mv:∀ j,j<is.length->dN (E j) (S (j+1)) (S j) (S (j+1)):=by
   intro j hj
   obtain⟨io,hi⟩:=ly j hj
   obtain⟨x1,h1,h2,_⟩:=qs (Vw j io hi) (hS j io hi).1 (hS j io hi).2 (xF _ (S j))
   rw[qB (hS j io hi).2] at h1
   injection h1 with h1
   rw[<- h1] at h2
   exact h2
  refine⟨fun t j hj hw=>(mv j hj).T' t hw,fun j hj hw=>?_,fun j hj hw=>(mv j hj).G' (by simpa using hw)⟩
  have:=(mv j hj).H' (by simpa using hw)
  simp only[this]
 have fin:∀ (listed:Array Bool) (x:AS),listed.size=ops.size->(∀ i,i<ops.size->listed.getD i false=true)->tj S E (fun i=>listed.getD i false=true) x->x=s':=by
  intro listed x Gu dy hB
  rw[<- hn]
  refine Iq hK hB (fun i=>⟨fun h=>?_,fun h=>dy i (by omega)⟩)
  have aU:i<listed.size:=by
   rcases aqP i listed.size with h'|h'
   ·exact h'
   ·simp[aqV h'] at h
  omega
 have main:∀ (n:Nat) (listed:Array Bool) (x:AS) (gh:Gh) (w:World) (a:Act),listed.size=ops.size->(∀ l:List Nat,l.Nodup->(∀ i,i∈l->i<ops.size/\listed.getD i true=false)->l.length<=n) ->
   (∀ j o,ops[j]?=some o->listed.getD j false=true->∀ e,e∈o.after->Region.binds .any e=true->listed.getD e.on false=true) ->
   tj S E (fun i=>listed.getD i false=true) x->Inv G base nt L H0 gC w0 x gh w a->wpAny P .any ops Q n listed a w:=by
  intro n
  induction n with
  | zero =>
   intro listed x gh w a Gu tI fP hB hI
   have dy:∀ i,i<ops.size->listed.getD i false=true:=by
    intro i hi
    cases hb:listed.getD i true with
    | true =>
     have:i<listed.size:=by omega
     simpa [this] using hb
    | false =>
     have:=tI [i] (by simp) (fun j hj=>by simp at hj;subst hj;exact⟨hi,hb⟩)
     simp at this
   have lH:Region.ready .any ops listed=[]:=by
    cases hr:Region.ready .any ops listed with
    | nil=>rfl
    | cons i r =>
     have hm:i∈Region.ready .any ops listed:=by rw[hr];exact apP
     obtain⟨h1,o,h2,_⟩:=mem_ready.1 hm
     have aU:=(apD.1 h2).1
     have:=dy i aU
     have il:i<listed.size:=by omega
     simp[il] at this h1
     rw[this] at h1
     cases h1
   refine⟨lH,?_⟩
   rw[fin listed x Gu dy hB] at hI
   exact hQ a gh w hI
  | succ n ih =>
   intro listed x gh w a Gu tI fP hB hI
   refine⟨fun lH=>?_,fun i hi=>?_⟩
   ·have dy:∀ i,i<ops.size->listed.getD i false=true:=by
     intro i
     induction i using Nat.strongRecOn with
     | _ i Bm =>
      intro aU
      have il:i<listed.size:=by omega
      cases hb:listed.getD i true with
      | true=>simpa [il] using hb
      | false =>
       exfalso
       have ho:=apJ aU
       have:i∈Region.ready .any ops listed:=mem_ready.2 ⟨hb,_,ho,fun e he iR=>by
        have xc:=kF i _ (by rw[ap7];exact ho) e (by simpa using he) iR
        exact Bm e.on xc (by omega)⟩
       rw[lH] at this
       cases this
    rw[fin listed x Gu dy hB] at hI
    exact hQ a gh w hI
   ·obtain⟨Ai,o,ho,mI⟩:=mem_ready.1 hi
    have aU:=(apD.1 ho).1
    have il:i<listed.size:=by omega
    obtain⟨io,ly,bn⟩:=ox i o (by simpa using ho)
    have qU:¬ (listed.getD i false=true):=by
     simp[il] at Ai ⊢
     exact Ai
    have Gn:∀ (j:Nat) (o:Oper),ops.toList[j]?=some o->listed.getD j false=true->∀ e,e∈o.after.toList->Region.binds .any e=true->listed.getD e.on false=true :=
     fun j o ho h e he hb=>fP j o (by simpa using ho) h e (by simpa using he) hb
    have ready:=Hv (X:=fun i=>listed.getD i false=true) kF Gn (k:=i) (o:=o) (by simpa using ho) (fun e he hb=>mI e (by simpa using he) hb)
    have later:∀ j,i<j->conflict (E j) (E i)=true->¬ (listed.getD j false=true):=by
     intro j jn hcj hj
     have hjs:j<is.length:=by
      rcases aqP j listed.size with h'|h'
      ·omega
      ·simp[aqV h'] at hj
     exact qU (u2 (X:=fun i=>listed.getD i false=true) kF Gn j hj i (Gp j i jn hjs hcj))
    have hA:Ul (E i) (S i) x:=Ip hK (by omega) hB qU (fun j hj hcj=>ready j (Gp i j hj (by omega) hcj)) later
    obtain⟨x1,rI,hM,_⟩:=qs (Vw i io ly) (hS i io ly).1 (hS i io ly).2 hA
    obtain⟨z,s2,bf,rfl⟩:=FT rI
    unfold wpOp
    rw[ho]
    refine kK iI hI bn vg vh bf _ Q (fun a' aK w' iT=>?_)
    rw[<- (gX bn).2.2.1] at iT
    have dI:∀ j,(listed.setIfInBounds i true).getD j false=true↔(listed.getD j false=true\/j=i):=by
     intro j
     by_cases iz:i=j
     ·subst iz
      simp[il]
     ·rw[getD_set_ne false iz]
      simp[aqM iz]
    have hB':=Ff hB qU later hM
    refine ih (listed.setIfInBounds i true) _ aK w' a' (by simpa using Gu) (fun l od hl=>?_) (fun j o' mY hj e he iR=>?_) ?_ iT
    ·have oR:i∉l:=by
      intro hm
      have:=(hl i hm).2
      simp[il] at this
     have:=tI (i :: l) (aqN.2 ⟨oR,od⟩) (fun j hj=>by
      rcases apO.1 hj with rfl|hj
      ·exact⟨aU,Ai⟩
      ·have h1:=hl j hj
       have iz:i≠j:=by rintro rfl;exact oR hj
       rw[getD_set_ne true iz] at h1
       exact h1)
     simp at this
     omega
    ·rcases (dI j).1 hj with h|rfl
     ·exact (dI _).2 (.inl (fP j o' mY h e he iR))
     ·rw[ho] at mY
      injection mY with mY
      subst mY
      exact (dI _).2 (.inl (mI e he iR))
    ·have yG:∀ j,(listed.getD j false=true\/j=i)↔(listed.setIfInBounds i true).getD j false=true:=fun j=>(dI j).symm
     exact⟨fun t=>lD yG (hB'.T t),lD yG hB'.H,lD yG hB'.G⟩
 refine main ops.size _ s gh w a (by simp) (fun l od hl=>?_) (fun j o hj h=>?_) ?_ hI
 ·exact nz ops.size l od (fun i hi=>(hl i hi).1)
 ·exfalso
  have:(Array.replicate ops.size false).getD j false=false:=by
   by_cases h:j<ops.size<;>simp[h]
  rw[this] at h
  cases h
 ·have jI:∀ i,¬ ((Array.replicate ops.size false).getD i false=true):=by
   intro i h
   have:(Array.replicate ops.size false).getD i false=false:=by
    by_cases h:i<ops.size<;>simp[h]
   rw[this] at h
   cases h
  rw[<- h0]
  exact Fe jI
end
theorem xX{draw:Bool}{L:List Nat}{ops:List Oper}{is:List aj}{c:bO}(h:cond draw (xW L ops is) none=some c) :
  draw=true/\∃ mode pc es,oL mode pc is L is=some es/\rS ops es=true/\c=.region false (inter mode pc is L is):=by
 cases draw with
 | false=>cases h
 | true =>
  refine⟨rfl,?_⟩
  simp only[cond_true,xW] at h
  obtain⟨_,h⟩:=ab h
  have one:∀ mode pc,TS mode pc L ops is=some c->∃ mode pc es,oL mode pc is L is=some es/\rS ops es=true/\c=.region false (inter mode pc is L is):=by
   intro mode pc h
   simp only[TS,apu] at h
   obtain⟨es,h1,h⟩:=h
   obtain⟨h2,h⟩:=ab h
   injection h with h
   exact⟨mode,pc,es,h1,h2,h.symm⟩
  split at h
  ·rename_i c' hc;injection h with h;subst h;exact one _ _ hc
  ·split at h
   ·rename_i c' hc
    injection h with h
    subst h
    cases hc7:L.elem 999997 with
    | true=>rw[hc7] at hc;cases hc
    | false=>rw[hc7] at hc;exact one _ _ hc
   ·cases hb:L.elem 999999 with
    | true=>rw[hb] at h;cases h
    | false=>rw[hb] at h;exact one _ _ h
end
end Go.Abs
