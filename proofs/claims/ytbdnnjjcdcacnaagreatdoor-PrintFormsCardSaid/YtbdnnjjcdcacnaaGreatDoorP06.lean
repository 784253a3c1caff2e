/-
  A part of the proof of PrintForms: AbsCode.
-/
import Derived.Test.YtbdnnjjcdcacnaaGreatDoorP05
set_option linter.unusedSimpArgs false
set_option linter.unusedVariables false
set_option linter.defProp false
namespace Go.Abs
section
def bP.KD:bP->Exit
 | .normal=>.normal
 | .exit id=>.exit id
 | .ret=>.ret
section
variable {P:Program}{G:Nat->List AV}{base nt:Nat}{gh:Gh}{w w' : World}{a:Act}{s:AS}{H:ah}{L:List Nat}
theorem Inv.drew{H0:ah}{iV:Gh}{w0:World}(h:Inv G base nt L H0 iV w0 s gh w a):Inv G base nt L H0 iV w0 s gh { w with drawn:=w.drawn+1 } a:=by
 have st:Step (fun _=>False) s.H.length gh w gh { w with drawn:=w.drawn+1 }:=⟨fun _ _ h=>h,fun _ _ _=>rfl,aoa _,rfl,rfl,rfl,fun _ _ _=>⟨.inl rfl,rfl,fun _ h=>h⟩,fun b hb=>h.W.bY b hb,fun _ _=>rfl,fun _ _ _ h=>h,fun _ _ _ _ h=>h⟩
 exact⟨h.W.step st (fun l=>⟨id,fun _=>id⟩) h.W.nW h.W.oL (fun _ _ _ h=>.inl h),h.F.grown (H':=s.H) (lo':=s.lo) st (fun i=>⟨id,id,fun _=>id⟩) (aoa _),
  h.E.trans ⟨st.mono (fun _ h=>h.elim),fun _ h=>h⟩ h.lo.len,h.lo⟩
theorem ik{cf:dq}(jH:fc P G cf)(hm:P.follows .mixedOrders=true){H0:ah}{iV:Gh}{w0:World}{ct locals muts:List Nat}(n:Nat) :
  ∀ (c:Code) (ic:aY),fS P ct locals muts nt c=some ic->∀ (s s' : AS) (ex:bP) (gh:Gh) (w:World) (a:Act) (Q:Exit->Act->World->Prop),Inv G base nt (locals++muts) H0 iV w0 s gh w a->jg G cf n ic s=some (ex,s') ->
   (∀ a' aV w',Inv G base nt (locals++muts) H0 iV w0 s' aV w' a'->Q ex.KD a' w')->c.wp P Q a w
 | .skip,ic,hc,s,s',ex,gh,w,a,Q,hI,he,hQ=>by
  simp only[fS,an2] at hc
  subst hc
  simp only[jg,an2,an7] at he
  obtain⟨rfl,rfl⟩:=he
  exact wp_skip (hQ a gh w hI)
 | .region id ops draw,ic,hc,s,s',ex,gh,w,a,Q,hI,he,hQ=>by
  simp only[fS,an1] at hc
  obtain⟨is,HW,hc⟩:=hc
  cases hd3:cond draw (x9 locals ops.toList is) none with
  | some c3 =>
   rw[hd3] at hc
   injection hc with hc
   subst hc
   obtain⟨rfl,mode,pc,es,h1,h2,rfl⟩:=yd hd3
   simp only[jg,an0,an7] at he
   obtain⟨s2,he,rfl,rfl⟩:=he
   exact wp_region_any hm (Fh jH (fun x hx=>aog.2 (.inl hx)) (fun x hx=>aog.2 (.inr hx)) Q hI.drew HW h1 h2 he hQ)
  | none =>
  rw[hd3] at hc
  simp only at hc
  cases hb:(!draw || (!(locals.elem 999998)&&uS (locals++muts) (ops.toList.zip is))) with
  | false =>
   rw[hb,an8] at hc
   obtain⟨_,hc⟩:=ae hc
   injection hc with hc
   subst hc
   simp[jg] at he
  | true =>
  have h0:=hb
  rw[hb,cond_true] at hc
  injection hc with hc
  subst hc
  simp only[jg,an0,an7] at he
  obtain⟨s2,he,rfl,rfl⟩:=he
  have wY:∀ x,x∈locals->x∈locals++muts:=fun x hx=>aog.2 (.inl hx)
  have xq:∀ x,x∈muts->x∈locals++muts:=fun x hx=>aog.2 (.inr hx)
  cases draw with
  | false=>exact wp_region_list (Bs jH wY xq Q ops.toList is s s2 gh w a hI HW he hQ)
  | true =>
   rw[aom,aon] at h0
   have hl:ops.size=is.length:=by simpa using (je HW).1
   exact wp_region_any hm (II jH wY xq Q hI.drew HW (G3 hl (aqW.1 h0).2) he hQ)
 | .seq x y,ic,hc,s,s',ex,gh,w,a,Q,hI,he,hQ=>by
  simp only[fS,an1,an0] at hc
  obtain⟨ix,hx,iy,hy,rfl⟩:=hc
  simp only[jg,an1] at he
  obtain⟨⟨e1,s1⟩,h1,he⟩:=he
  refine wp_seq (ik jH hm n x ix hx s s1 e1 gh w a _ hI h1 (fun a' aV w' kW=>?_))
  cases e1 with
  | normal=>exact ik jH hm n y iy hy s1 s' ex aV w' a' Q kW he hQ
  | exit id =>
   simp only[an2,an7] at he
   obtain⟨rfl,rfl⟩:=he
   exact hQ a' aV w' kW
  | ret =>
   simp only[an2,an7] at he
   obtain⟨rfl,rfl⟩:=he
   exact hQ a' aV w' kW
 | .cond c x y,ic,hc,s,s',ex,gh,w,a,Q,hI,he,hQ=>by
  simp only[fS,an1,an0] at hc
  obtain⟨iq,hq,ix,hx,iy,hy,rfl⟩:=hc
  simp only[jg] at he
  split at he
  ·rename_i t ht
   have hv:=(cJ hI.W hI.F hq ht rfl).jI
   cases t with
   | true=>exact wp_cond_true hv (ik jH hm n x ix hx s s' ex gh w a Q hI he hQ)
   | false=>exact wp_cond_false hv (ik jH hm n y iy hy s s' ex gh w a Q hI he hQ)
  ·cases he
 | .block id c,ic,hc,s,s',ex,gh,w,a,Q,hI,he,hQ=>by
  simp only[fS,an0] at hc
  obtain⟨ix,hx,rfl⟩:=hc
  simp only[jg,an0] at he
  obtain⟨⟨e1,s1⟩,h1,he⟩:=he
  refine wp_block (ik jH hm n c ix hx s s1 e1 gh w a _ hI h1 (fun a' aV w' kW=>?_))
  cases e1 with
  | normal =>
   simp only[an7] at he
   obtain⟨rfl,rfl⟩:=he
   exact hQ a' aV w' kW
  | exit i =>
   simp only[an7] at he
   obtain⟨rfl,rfl⟩:=he
   show if i=id then Q .normal a' w' else Q (.exit i) a' w'
   have:=hQ a' aV w' kW
   rw[fW] at this
   by_cases hi:i=id
   ·rw[if_pos hi];simpa [hi,bP.KD] using this
   ·rw[if_neg hi];simpa [hi,bP.KD] using this
  | ret =>
   simp only[an7] at he
   obtain⟨rfl,rfl⟩:=he
   exact hQ a' aV w' kW
 | .loop c,ic,hc,s,s',ex,gh,w,a,Q,hI,he,hQ=>by
  simp only[fS,an0] at hc
  obtain⟨ix,hx,rfl⟩:=hc
  simp only[jg] at he
  have rounds:∀ (m:Nat) (s:AS) (gh:Gh) (w:World) (a:Act),Inv G base nt (locals++muts) H0 iV w0 s gh w a->iter (jg G cf n ix) m s=some (ex,s')->Code.rounds P c Q m a w:=by
   intro m
   induction m with
   | zero=>intro s gh w a _ h;cases h
   | succ m ih =>
    intro s gh w a hI h
    simp only[iter,an1] at h
    obtain⟨⟨e1,s1⟩,h1,h⟩:=h
    rw[rounds_succ]
    refine ik jH hm n c ix hx s s1 e1 gh w a _ hI h1 (fun a' aV w' kW=>?_)
    cases e1 with
    | normal=>exact ih s1 aV w' a' kW h
    | exit id =>
     simp only[an2,an7] at h
     obtain⟨rfl,rfl⟩:=h
     exact hQ a' aV w' kW
    | ret =>
     simp only[an2,an7] at h
     obtain⟨rfl,rfl⟩:=h
     exact hQ a' aV w' kW
  exact wp_loop_rounds n (rounds n s gh w a hI he)
 | .exit id,ic,hc,s,s',ex,gh,w,a,Q,hI,he,hQ=>by
  simp only[fS,an2] at hc
  subst hc
  simp only[jg,an2,an7] at he
  obtain⟨rfl,rfl⟩:=he
  exact wp_exit (hQ a gh w hI)
 | .ret,ic,hc,s,s',ex,gh,w,a,Q,hI,he,hQ=>by
  simp only[fS,an2] at hc
  subst hc
  simp only[jg,an2,an7] at he
  obtain⟨rfl,rfl⟩:=he
  exact wp_ret (hQ a gh w hI)
 | .label l,ic,hc,s,s',ex,gh,w,a,Q,hI,he,hQ=>by
  simp only[fS,an2] at hc
  subst hc
  simp only[jg,an2,an7] at he
  obtain⟨rfl,rfl⟩:=he
  exact wp_label (hQ a gh w hI)
 | .scope c,ic,hc,s,s',ex,gh,w,a,Q,hI,he,hQ=>by
  simp only[fS] at hc
  refine wp_scope_straight (ik jH hm n c ic hc s s' ex gh w a _ hI he (fun a' aV w' kW=>?_))
  have:=hQ a' aV w' kW
  cases ex<;>exact this
 | .rangeFunc _ _ _ _,_,hc,_,_,_,_,_,_,_,_,_,_=>by simp[fS] at hc
 | .goto _,_,hc,_,_,_,_,_,_,_,_,_,_=>by simp[fS] at hc
 | .refuse _,_,hc,_,_,_,_,_,_,_,_,_,_=>by simp[fS] at hc
def nU(tmps:Array Value):ResultVar->Sem Value
 | .tmp t=>pure (tmps.getD t undef)
 | .cell a t=>do loadVar t (<- asAddr (tmps.getD a undef))
theorem sK{g:ResultVar->Sem Value} : ∀ (l:List ResultVar) (vs:List Value),l.length=vs.length->(∀ (j:Nat) (r:ResultVar) (v:Value),l[j]?=some r->vs[j]?=some v->(g r).run P w=.ok v w)->(l.mapM g).run P w=.ok vs w
 | [],[],_,_=>by simp
 | r :: l,v :: vs,hl,h=>by
  have h1:=h 0 r v rfl rfl
  have h2:=sK l vs (by simpa using hl) (fun j r v hr hv=>h (j+1) r v (by simpa using hr) (by simpa using hv))
  simp[List.mapM_cons,h1,h2]
 | [],_ :: _,hl,_=>by simp at hl
 | _ :: _,[],hl,_=>by simp at hl
theorem kU{fn:Func}{tmps:Array Value}{vs:List Value}(hl:fn.results.toList.length=vs.length)(h:∀ (j:Nat) (r:ResultVar) (v:Value),fn.results.toList[j]?=some r->vs[j]?=some v->(nU tmps r).run P w=.ok v w) :
  (results fn tmps).run P w=.ok (if h:vs.toArray.size=1 then vs.toArray[0] else .tuple vs.toArray) w:=by
 have e:results fn tmps=(do let vs <- fn.results.mapM (nU tmps);pure (if h:vs.size=1 then vs[0] else .tuple vs)):=by
  unfold results
  congr 1
 rw[e,Sem.run_bind]
 have h2:(fn.results.mapM (nU tmps)).run P w=.ok vs.toArray w:=by
  rw[Array.mapM_eq_mapM_toList]
  have:=sK (P:=P) (w:=w) fn.results.toList vs hl h
  simp[this]
 rw[h2]
 rfl
theorem kK:∀ {l:List ResultVar} {rs:List gL},kg P nt l=some rs->l.length=rs.length/\∀ (j:Nat) (r:ResultVar) (i:gL),l[j]?=some r->rs[j]?=some i ->
  (∃ t,r=.tmp t/\i=.tmp t/\t<nt)\/∃ t ty g sz,r=.cell t ty/\i=.cell t g sz/\t<nt/\l9 P ty=some g/\dV P ty=some sz
 | [],rs,h=>by simp[kg] at h;subst h;exact⟨rfl,fun j r i h=>by simp at h⟩
 | .tmp t :: l,rs,h=>by
  simp only[kg] at h
  obtain⟨h0,h⟩:=ae h
  simp only[an0] at h
  obtain⟨rs',hr,rfl⟩:=h
  obtain⟨h1,h2⟩:=kK hr
  refine⟨by simp[h1],fun j r i hj hi=>?_⟩
  cases j with
  | zero=>simp at hj hi;subst hj hi;exact .inl ⟨t,rfl,rfl,by simpa [aoO] using h0⟩
  | succ j=>exact h2 j r i (by simpa using hj) (by simpa using hi)
 | .cell t ty :: l,rs,h=>by
  simp only[kg] at h
  obtain⟨h0,h⟩:=ae h
  simp only[an1,an0] at h
  obtain⟨g,hg,sz,hs,rs',hr,rfl⟩:=h
  obtain⟨h1,h2⟩:=kK hr
  refine⟨by simp[h1],fun j r i hj hi=>?_⟩
  cases j with
  | zero=>simp at hj hi;subst hj hi;exact .inr ⟨t,ty,g,sz,rfl,rfl,by simpa [aoO] using h0,hg,hs⟩
  | succ j=>exact h2 j r i (by simpa using hj) (by simpa using hi)
theorem zl(hW:aX G base s.H gh w)(hF:FR L nt gh w a s){r:ResultVar}{i:gL}(hc:(∃ t,r=.tmp t/\i=.tmp t/\t<nt)\/∃ t ty g sz,r=.cell t ty/\i=.cell t g sz/\t<nt/\l9 P ty=some g/\dV P ty=some sz)
  {z:AV} (hz:hN s i=some z):∃ v,(nU a.tmps r).run P w=.ok v w/\((∃ t,i=.tmp t/\t<nt/\v=fP a t/\z=s.T t/\CR gh s.H.length w (.sl t) v z)\/VR gh s.H.length w v z):=by
 rcases hc with ⟨t,rfl,rfl,ht⟩|⟨t,ty,g,sz,rfl,rfl,ht,hg,hs⟩
 ·refine⟨fP a t,rfl,.inl ⟨t,rfl,ht,rfl,?_⟩⟩
  simp only[hN] at hz
  obtain⟨h0,hz⟩:=ae hz
  injection hz with hz
  subst hz
  have h:=hF.slot t ht
  change SR gh s.H.length nt w s.T s.gen (fP a) t (fP a t) (s.T t) at h
  refine⟨rfl,?_⟩
  generalize s.T t=X at h h0
  cases X<;>first|exact h|(simp[aG] at h0)
 ·have h:=hF.slot t ht
  change SR gh s.H.length nt w s.T s.gen (fP a) t (fP a t) (s.T t) at h
  simp only[hN] at hz
  have run:∀ {b:Nat} {f:Nat->Value} {cs:List AV},fP a t=.pointer (some ⟨b,0,none⟩)->ab false g sz 0 cs=some z->(∀ (j:Nat) (x:AV),cs[j]?=some x->w.cell? ⟨b,0+j,none⟩=some (f j)/\(f j).oneCell'=true/\VR gh s.H.length w (f j) x.drop) ->
    ∃ v,(nU a.tmps (.cell t ty)).run P w=.ok v w/\((∃ t',gL.cell t g sz=.tmp t'/\t' < nt/\v=fP a t'/\z=s.T t'/\CR gh s.H.length w (.sl t') v z)\/VR gh s.H.length w v z):=by
   intro b f cs hb hl hf
   obtain⟨v,h1,h2⟩:=kA (P:=P) hl hg hs hf
   refine⟨v,?_,.inr h2⟩
   have gm:a.tmps.getD t undef=.pointer (some ⟨b,0,none⟩):=hb
   show (do loadVar ty (<- asAddr (a.tmps.getD t undef)):Sem Value).run P w=_
   rw[gm]
   simpa [asAddr] using h1
  split at hz
  ·rename_i gg cs hT
   rw[hT] at h
   obtain⟨_,b,hb,hB⟩:=h
   obtain⟨f,hf⟩:=oW hB
   exact run hb hz hf
  ·rename_i loc hT
   rw[hT] at h
   have hv:=CR.dropped (h:CR gh s.H.length w (.sl t) (fP a t) (.ref loc 0))
   obtain⟨bf,hp⟩:=VR.jm hv
   split at hz
   ·rename_i NK cs hH
    obtain⟨f,hf⟩:=oW (hW.boxes loc _ cs hH)
    exact run hp hz hf
   ·cases hz
  ·cases hz
theorem freeze(hW:aX G base s.H gh w)(hF:FR L nt gh w a s){b g:Nat}{e:List (List AV)}(hb:b<nt)(hT:s.T b=.lsl g e)(lL:jj e=true) :
  ∃ aV,aX G base s.H aV w/\Ext s.H.length gh w aV w/\CR aV s.H.length w .ret (fP a b) (.slice e true):=by
 obtain⟨ad,cap,hV,⟨rfl,rfl,yI⟩|⟨k,C,ty,sz,dn,rfl,hκ,hS,hk,hC,hl,hr,gC⟩⟩:=nX hF hb hT
 ·refine⟨gh,hW,Ext.refl _ _ _ (fun b hb=>hW.bY b hb),.inl ?_⟩
  rw[hV]
  refine .full ad 0 [] ?_ (fun ad' h _=>(yI ad' h).2)
  cases ad with
  | none=>exact .dw
  | some ad =>
   obtain⟨b',o',sp⟩:=ad
   have:=(yI _ rfl).1
   simp only at this
   subst this
   exact .slice b' o' 0 0 0 [] (fun _ _=>undef) rfl (aoa _) (fun i r h=>by simp at h) (fun i j r x h=>by simp at h) (fun i j r x h=>by simp at h)
 ·have lY:∀ o,gh.S k o->C[o]?=C[o]?:=fun _ _=>rfl
  have hn:gh.κ k≠.none:=by rw[hκ];simp
  have zT:∀ j m,j<e.length*sz->C[j]?=some (.int .u8 m)->ty=ij:=by
   intro j m hj hc
   have dk:iC gh.S w sz (C.toList.take (e.length*sz)).toArray e:=by
    have hle:e.length*sz<=C.size:=by rw[hC];exact aot _ hl
    refine⟨by simp;omega,hr,fun i j r x hi hj=>?_⟩
    obtain⟨u,hu,hp⟩:=gC i j r x hi hj
    refine⟨u,?_,hp⟩
    have h1:=(an9.1 hi).1
    have h2:j<sz:=by rw[<- hr i r hi];exact (an9.1 hj).1
    simp only[aoE,aoC,if_pos (tE h1 h2)]
    simpa using hu
   refine nV (isB:=false) (m:=m) dk lL (fun h=>by cases h) hj ?_
   simp only[aoE,aoC,if_pos hj]
   simpa using hc
  have hE:=xB hW hk rfl (fun o=>o<e.length*sz) lY (p:=.ret) (by simp) hn (by rw[hκ];simp) s.H.length
  have lW:=Lf hW hk rfl (fun o=>o<e.length*sz) lY zT .ret hn (by rw[hκ];simp)
  have Px:=setRow_self w k C ty (0,0) hk
  rw[Px] at hE lW
  refine⟨_,lW,hE,.inr ⟨e,rfl,?_,k,cap,C,ty,0,0,sz,hV,by simp,dn,hk,hC,hr,hl,ao9 _,?_⟩⟩
  ·rw[hV]
   have key:∀ (i j:Nat) (r:List AV) (x:AV),e[i]?=some r->r[j]?=some x->C[i*sz+j]?=some (C.getD (i*sz+j) undef)/\PR gh.S w (C.getD (i*sz+j) undef) x/\i*sz+j<e.length*sz:=by
    intro i j r x hi hj
    obtain⟨u,hu,hp⟩:=gC i j r x hi hj
    have bf:=(aoi.1 hu).1
    have:C.getD (i*sz+j) undef=u:=by
     rw[aop bf] at hu
     injection hu with hu
     simp[bf,hu]
    rw[this]
    exact⟨hu,hp,tE (an9.1 hi).1 (by rw[<- hr i r hi];exact (an9.1 hj).1)⟩
   refine .slice k 0 e.length cap sz e (fun i j=>C.getD (i*sz+j) undef) rfl hl hr (fun i j r x hi hj=>?_) (fun i j r x hi hj=>?_)
   ·obtain⟨h1,h2,h3⟩:=key i j r x hi hj
    refine⟨.inr ⟨rfl,by simpa using h3⟩,?_,h2.fw⟩
    rw[Nat.zero_add,cell_of_row w k _ C ty _ hk];exact h1
   ·exact (key i j r x hi hj).2.1.mono (fun b o h=>.inl h) (fun _ _ _=>rfl) (fun _ _ _ _ h=>h)
  ·rintro o ho (h|⟨_,h⟩)
   ·exact hS o h
   ·omega
theorem VR.aU{n m:Nat}{v:Value}{x:AV}(h:VR gh n w v x)(hx:x.aU m=true):VR gh m w v x:=by
 cases x
 case ref loc off =>
  obtain⟨_,rfl⟩:=h.jm
  exact .ref loc off (by simpa [AV.aU,aoO] using hx)
 case sref loc off k z =>
  obtain⟨_,cap,hk,hz,rfl⟩:=h.jJ
  exact .sref loc off k cap z (by simpa [AV.aU,aoO] using hx) hk hz
 case mref loc =>
  obtain⟨_,rfl⟩:=h.nK
  exact .mref loc (by simpa [AV.aU,aoO] using hx)
 all_goals exact .plain _ _ (h.ke hx)
theorem VR.bu{n m:Nat}{v:Value}{x:AV}(h:VR gh n w v x)(hx:x.bu m=true):VR gh m w v x:=by
 cases x
 case agg cs =>
  obtain⟨C,rfl,hs,fY,hc⟩:=h.kj
  exact .agg C cs hs fY (fun j v x hv oK=>(hc j v x hv oK).aU (aof.1 hx x (aoo oK)))
 all_goals exact h.aU hx
theorem VR.leaves{n m:Nat}{v:Value}{x:AV}(h:VR gh n w v x)(hx:x.leaves m=true):VR gh m w v x:=by
 cases x
 case func f fs cs =>
  simp only[AV.leaves,aod] at hx
  obtain⟨us,ts,rfl,h1,h2,h3,h4⟩:=h.ra
  exact .func f us ts fs cs h1 h2 (fun j v x hv oK=>(h3 j v x hv oK).aU (aof.1 hx.1 x (aoo oK))) (fun j v x hv oK=>(h4 j v x hv oK).aU (aof.1 hx.2 x (aoo oK)))
 case iface t y =>
  cases h with
  | plain _ _ h=>exact .plain _ _ h
  | iface _ u _ h=>exact .iface t u y (h.aU hx)
 case tuple vs =>
  obtain⟨us,rfl,hs,h1⟩:=h.rS
  exact .tuple us vs hs (fun j v x hv oK=>(h1 j v x hv oK).bu (aof.1 hx x (aoo oK)))
 case slice e own =>
  cases h with
  | plain _ _ h=>exact .plain _ _ h
  | full a k _ h hz=>exact .full a k e h hz
 all_goals exact h.bu hx
theorem CR.leaves{n m:Nat}{p:bC}{v:Value}{x:AV}(h:CR gh n w p v x)(hx:x.leaves m=true):CR gh m w p v x:=by
 rcases h with h|h
 ·exact .inl (h.leaves hx)
 ·exact .inr h
theorem VR.gT{n m loc:Nat}{v:Value}{x:AV}(h:VR gh n w v x)(hx:gT loc x=true)(hl:loc<m):VR gh m w v x:=by
 cases x
 case ref l off =>
  obtain⟨_,rfl⟩:=h.jm
  have:l<=loc:=by simpa [Abs.gT,ao2] using hx
  exact .ref l off (by omega)
 case sref l off k z =>
  obtain⟨_,cap,hk,hz,rfl⟩:=h.jJ
  have:l<=loc:=by simpa [Abs.gT,ao2] using hx
  exact .sref l off k cap z (by omega) hk hz
 case mref l =>
  obtain⟨_,rfl⟩:=h.nK
  have:l<=loc:=by simpa [Abs.gT,ao2] using hx
  exact .mref l (by omega)
 case slice e own =>
  cases h with
  | plain _ _ h=>exact .plain _ _ h
  | full a k _ h hz=>exact .full a k e h hz
 all_goals exact .plain _ _ (h.ke hx)
theorem VR.lg{n m loc:Nat}{v:Value}{x:AV}(h:VR gh n w v x)(hx:lg loc x=true)(hl:loc<m):VR gh m w v x:=by
 cases x
 case agg cs =>
  obtain⟨C,rfl,hs,fY,hc⟩:=h.kj
  exact .agg C cs hs fY (fun j v x hv oK=>(hc j v x hv oK).gT (aof.1 hx x (aoo oK)) hl)
 all_goals exact h.gT hx hl
theorem VR.bo{n m loc:Nat}{v:Value}{x:AV}(h:VR gh n w v x)(hx:bo loc x=true)(hl:loc<m):VR gh m w v x:=by
 cases x
 case ref l off =>
  obtain⟨_,rfl⟩:=h.jm
  have:l<=loc:=by simpa [Abs.bo,ao2] using hx
  exact .ref l off (by omega)
 case sref l off k z =>
  obtain⟨_,cap,hk,hz,rfl⟩:=h.jJ
  have:l<=loc:=by simpa [Abs.bo,ao2] using hx
  exact .sref l off k cap z (by omega) hk hz
 case mref l =>
  obtain⟨_,rfl⟩:=h.nK
  have:l<=loc:=by simpa [Abs.bo,ao2] using hx
  exact .mref l (by omega)
 case slice e own =>
  cases h with
  | plain _ _ h=>exact .plain _ _ h
  | full a k _ h hz=>exact .full a k e h hz
 case func f fs cs =>
  simp only[Abs.bo,aod] at hx
  obtain⟨us,ts,rfl,h1,h2,h3,h4⟩:=h.ra
  exact .func f us ts fs cs h1 h2 (fun j v x hv oK=>(h3 j v x hv oK).lg (aof.1 hx.1 x (aoo oK)) hl) (fun j v x hv oK=>(h4 j v x hv oK).lg (aof.1 hx.2 x (aoo oK)) hl)
 all_goals exact .plain _ _ (h.ke hx)
theorem PR.lower{S:Nat->Nat->Prop}{w0:World}{v0:Value}{x:AV}(h:PR S w0 v0 x){n m:Nat} : ∀ {v:Value},VR gh n w v x->VR gh m w v x:=by
 induction h with
 | iface t v0 x h ih =>
  intro v hv
  cases hv with
  | plain _ _ h=>exact .plain _ _ h
  | iface _ u _ h=>exact .iface t u x (ih h)
 | func f =>
  intro v hv
  cases hv with
  | plain _ _ h=>exact .plain _ _ h
  | func _ fs cs _ _ h1 h2 h3 h4=>exact .func f fs cs [] [] h1 h2 (fun j v x _ hx=>by simp at hx) (fun j v x _ hx=>by simp at hx)
 | _ =>
  intro v hv
  cases hv<;>exact .plain _ _ ‹_›
theorem VR.lower{iV:Gh}{w0:World}{m:Nat}{v0:Value}{x:AV}(h:VR iV m w0 v0 x){n:Nat} : ∀ {v:Value},VR gh n w v x->VR gh m w v x:=by
 induction h with
 | plain v0 x h=>intro v hv;exact h.lower hv
 | full a k e h hz =>
  intro v hv
  cases hv with
  | plain _ _ h=>cases h
  | full a k _ h hz=>exact .full a k e h hz
 | ref loc off h=>intro v hv;obtain⟨_,rfl⟩:=hv.jm;exact .ref loc off h
 | sref loc off k cap z h hk hz=>intro v hv;obtain⟨_,cap,hk,hz,rfl⟩:=hv.jJ;exact .sref loc off k cap z h hk hz
 | mref loc h=>intro v hv;obtain⟨_,rfl⟩:=hv.nK;exact .mref loc h
 | func f fs cs xs ys hf hc _ _ ih1 ih2 =>
  intro v hv
  obtain⟨us,ts,rfl,h1,h2,h3,h4⟩:=hv.ra
  refine .func f us ts xs ys h1 h2 (fun j v x hv hx=>?_) (fun j v x hv hx=>?_)
  ·have hj:j<fs.size:=by rw[hf];exact (an9.1 hx).1
   exact ih1 j _ x (aop hj) hx (h3 j v x hv hx)
  ·have hj:j<cs.size:=by rw[hc];exact (an9.1 hx).1
   exact ih2 j _ x (aop hj) hx (h4 j v x hv hx)
 | iface t v0 x h ih =>
  intro v hv
  cases hv with
  | plain _ _ h=>exact .plain _ _ h
  | iface _ u _ h=>exact .iface t u x (ih h)
 | agg cs xs hs fY _ ih =>
  intro v hv
  obtain⟨C,rfl,rQ,Pp,hc⟩:=hv.kj
  refine .agg C xs rQ Pp (fun j v x hv hx=>?_)
  have hj:j<cs.size:=by rw[hs];exact (an9.1 hx).1
  exact ih j _ x (aop hj) hx (hc j v x hv hx)
 | tuple vs xs hs _ ih =>
  intro v hv
  obtain⟨us,rfl,rQ,h1⟩:=hv.rS
  refine .tuple us xs rQ (fun j v x hv hx=>?_)
  have hj:j<vs.size:=by rw[hs];exact (an9.1 hx).1
  exact ih j _ x (aop hj) hx (h1 j v x hv hx)
def wc(H:ah)(m:Nat)(gh:Gh)(w:World):Prop:=∀ (l:Nat) (cs:List AV),l<m->H[l]?=some (.cS cs)->gW gh m w (gh.ρ l) (.hb l) (fun j=>.hs l j) cs
theorem abN{ghI:Gh}{wI:World}{H0:ah}(Ml:aX G base H0 ghI wI)(qp:fG H0 s)(ho:lp H0.length s=true)(hW:aX G base s.H gh w):wc s.H H0.length gh w:=by
 intro l cs hl hH
 obtain⟨h1,h2,C,NL,h3,h4,h5⟩:=(hW.more l _ hH:gW gh s.H.length w (gh.ρ l) (.hb l) (fun j=>.hs l j) cs)
 refine⟨h1,h2,C,NL,h3,h4,fun j v x hv hx=>⟨(h5 j v x hv hx).1,?_⟩⟩
 have mg:=(h5 j v x hv hx).2
 by_cases Uf:l<s.lo
 ·have hH0:H0[l]?=some (.cS cs):=by rw[<- qp.same l Uf];exact hH
  obtain⟨_,_,C0,NK,g3,g4,g5⟩:=(Ml.more l _ hH0:gW ghI H0.length wI (ghI.ρ l) (.hb l) (fun j=>.hs l j) cs)
  have hj:j<C0.size:=by have:=(an9.1 hx).1;omega
  rcases mg with CB|aaQ
  ·rcases (g5 j _ x (aop hj) hx).2 with k|⟨e,rfl,_⟩
   ·exact .inl (k.lower CB)
   ·cases CB with
    | plain _ _ h=>cases h
    | full a k _ h hz=>exact .inl (.full a k e h hz)
  ·exact .inr aaQ
 ·have hc:x.aU H0.length=true:=by
   unfold lp at ho
   cases hb:Nat.beq s.lo H0.length with
   | true=>have:=apo hb;omega
   | false =>
    rw[hb,an8] at ho
    have hm:bZ.cS cs∈(s.H.take H0.length).drop s.lo:=by
     refine aoo (i:=l-s.lo) ?_
     rw[aoU,aoC,if_pos (by omega),show s.lo+(l-s.lo)=l by omega]
     exact hH
    exact aof.1 (aof.1 ho _ hm) x (aoo hx)
  rcases mg with CB|⟨e,rfl,_⟩
  ·exact .inl (CB.aU hc)
  ·simp[AV.aU,AV.plain] at hc
theorem CR.bo{n m loc:Nat}{p:bC}{v:Value}{x:AV}(h:CR gh n w p v x)(hx:bo loc x=true)(hl:loc<m):CR gh m w p v x:=by
 rcases h with h|h
 ·exact .inl (h.bo hx hl)
 ·exact .inr h
theorem aX.Dk(hW:aX G base H gh w){m:Nat}(hm:m<=H.length)(hold:wc H m gh w):aX G base (H.take m) gh w:=by
 have YC:(H.take m).length=m:=by simp;omega
 refine⟨hW.size,hW.nW,hW.oL,hW.aZ,fun loc ty cs hl=>?_,fun loc ty cs hl=>?_,hW.xf,hW.bytes,fun loc o hl=>?_,fun loc ty cs hl=>?_⟩
 rotate_left 2
 ·rw[aoC] at hl
  split at hl
  ·rename_i bf
   have h:=hW.more loc o hl
   rw[YC]
   cases o with
   | map kz ka va es =>
    obtain⟨⟨h1,h2,E,ck,f,h3,h4,h5,h6⟩,h7⟩:=h
    refine⟨⟨h1,h2,E,ck,f,h3,h4,h5,fun i j r x hi hj hl=>?_⟩,h7⟩
    have hc:=aof.1 (aof.1 h7 r (aoo hi)) x (aoo hj)
    obtain⟨k1,k2,k3⟩:=h6 i j r x hi hj hl
    refine⟨k1,fun hv=>?_,k3.bo hc bf⟩
    exact (k2 hv).bo hc bf
   | fg kz ka va es=>exact h
   | IZ cs=>exact h
   | cS cs=>exact hold loc cs bf hl
   | _=>trivial
  ·cases hl
 ·rw[aoC] at hl
  split at hl
  ·exact hW.types loc ty cs hl
  ·cases hl
 ·rw[aoC] at hl
  split at hl
  ·rename_i bf
   obtain⟨h1,h2,C,NL,h3,h4,h5⟩:=hW.boxes loc _ cs hl
   refine⟨h1,h2,C,NL,h3,h4,fun j v x hv hx=>⟨(h5 j v x hv hx).1,?_⟩⟩
   have hlen:(H.take m).length=m:=by simp;omega
   rw[hlen]
   exact (h5 j v x hv hx).2.bo (aof.1 (hW.refs loc _ cs hl) x (aoo hx)) bf
  ·cases hl
 ·rw[aoC] at hl
  split at hl
  ·exact hW.refs loc _ cs hl
  ·cases hl
theorem Lc(hW:aX G base s.H gh w)(hF:FR L nt gh w a s):∀ (l:List ResultVar) (rs:List gL) (xs:List AV),l.length=rs.length->(∀ (j:Nat) (r:ResultVar) (i:gL),l[j]?=some r->rs[j]?=some i ->
    (∃ t,r=.tmp t/\i=.tmp t/\t<nt)\/∃ t ty g sz,r=.cell t ty/\i=.cell t g sz/\t<nt/\l9 P ty=some g/\dV P ty=some sz)->mu s rs=some xs ->
    ∃ vs:List Value,l.length=vs.length/\vs.length=xs.length/\(∀ (j:Nat) (r:ResultVar) (v:Value),l[j]?=some r->vs[j]?=some v->(nU a.tmps r).run P w=.ok v w)/\∀ (j:Nat) (v:Value) (x:AV),vs[j]?=some v->xs[j]?=some x->VR gh s.H.length w v x:=by
 intro l
 induction l with
 | nil =>
  intro rs xs hl _ h
  have:rs=[]:=aoG.1 (by simpa using hl.symm)
  subst this
  simp only[mu,an2] at h
  subst h
  exact⟨[],rfl,rfl,fun j r v h=>by simp at h,fun j v x h=>by simp at h⟩
 | cons rv l ih =>
  intro rs xs hl hc h
  cases rs with
  | nil=>simp at hl
  | cons i rs =>
   simp only[mu,an1,an0] at h
   obtain⟨z,hz,ys,Pz,rfl⟩:=h
   obtain⟨v,h1,h2⟩:=zl (P:=P) hW hF (hc 0 rv i rfl rfl) hz
   have hv:VR gh s.H.length w v z.bD:=by
    rcases h2 with ⟨t,_,_,_,_,mg⟩|CB
    ·exact kq mg.dropped
    ·exact kq CB.dropped
   obtain⟨vs,k1,k2,k3,k4⟩:=ih rs ys (by simpa using hl) (fun j r i hr hi=>hc (j+1) r i (by simpa using hr) (by simpa using hi)) Pz
   refine⟨v :: vs,by simp[k1],by simp[k2],fun j r u hr hu=>?_,fun j u x hu hx=>?_⟩
   ·cases j with
    | zero=>simp at hr hu;subst hr hu;exact h1
    | succ j=>exact k3 j r u (by simpa using hr) (by simpa using hu)
   ·cases j with
    | zero=>simp at hu hx;subst hu hx;exact hv
    | succ j=>exact k4 j u x (by simpa using hu) (by simpa using hx)
theorem Kb{iV:Gh}{w0:World}(jW:clean iV)(hI:Inv G base nt L H iV w0 s gh w a){fn:Func}{rs:List gL}(hc:kg P nt fn.results.toList=some rs){r:AV}{c:Option gJ}(hold:∀ aV w',aX G base s.H aV w'->wc s.H H.length aV w')(he:gA H.length rs s=some (r,c)) :
  kY H c/\∃ v aV,(results fn a.tmps).run P w=.ok v w/\l8 G base H iV w0 r c v aV w:=by
 simp only[gA,an1] at he
 obtain⟨r',hr,he⟩:=he
 obtain⟨HX,he⟩:=ae he
 simp only[an2,an7] at he
 obtain⟨rfl,rN⟩:=he
 have hlen:=hI.lo.len
 have jZ:nR H c=s.H.take H.length:=by
  cases hb:Nat.beq s.lo H.length with
  | false=>rw[hb] at rN;subst rN;rfl
  | true =>
   rw[hb] at rN
   subst rN
   have qp:s.lo=H.length:=apo hb
   show H=_
   refine ap3 fun l=>?_
   rw[aoC]
   split
   ·rename_i hl;exact (hI.lo.same l (by omega)).symm
   ·rename_i hl;exact ape (by omega)
 have yG:(nR H c).length=H.length:=by rw[jZ];simp;omega
 have O7:kY H c:=by
  refine⟨apP yG.symm,fun c' Aj=>?_⟩
  cases hb:Nat.beq s.lo H.length with
  | true=>rw[hb] at rN;rw[<- rN] at Aj;cases Aj
  | false =>
   rw[hb] at rN
   rw[<- rN] at Aj
   simp only[an8,an2] at Aj
   subst Aj
   refine⟨hI.lo.lo,fun l hl=>?_⟩
   have:=hI.lo.lo
   rw[aoC,if_pos (by simp only at hl;omega)]
   exact hI.lo.same l hl
 refine⟨O7,?_⟩
 have fin:∀ {v:Value} {aV:Gh},(results fn a.tmps).run P w=.ok v w->aX G base s.H aV w->Ext s.H.length gh w aV w->CR aV s.H.length w .ret v r'->∃ v aV,(results fn a.tmps).run P w=.ok v w/\l8 G base H iV w0 r' c v aV w:=by
  intro v aV h1 h2 h3 h4
  have hE:=hI.E.trans h3 hlen
  refine⟨v,aV,h1,apP yG.symm,by rw[jZ];exact h2.Dk hlen (hold _ _ h2),?_,hE.out,by rw[yG];exact h4.leaves HX⟩
  have st:=hE.step
  refine⟨st.S,st.cell,st.size,st.os,st.tape,st.output,fun b hb hn=>st.AF b hb (fun ht=>hn ?_),st.fresh,st.ρ,st.len,st.mp⟩
  rcases jW b with h|h|h|h
  ·exact absurd h ht.1
  ·exact absurd h ht.2
  ·exact .inl h
  ·exact .inr h
 obtain⟨hl,tq⟩:=kK hc
 have hrefl:Ext s.H.length gh w gh w:=Ext.refl _ _ _ (fun b hb=>hI.W.bY b hb)
 have one:∀ (rv:ResultVar) (v:Value),fn.results.toList=[rv]->(nU a.tmps rv).run P w=.ok v w->(results fn a.tmps).run P w=.ok v w:=by
  intro rv v h1 h2
  have:=kU (P:=P) (w:=w) (fn:=fn) (tmps:=a.tmps) (vs:=[v]) (by rw[h1];rfl) (fun j r' v' hr hv=>by
   rw[h1] at hr
   cases j with
   | zero=>simp at hr hv;subst hr hv;exact h2
   | succ j=>simp at hr)
  simpa using this
 unfold kC at hr
 split at hr
 ·rename_i i
  have KW:([i]:List gL)=[i]:=rfl
  rw[KW] at hl
  obtain⟨rv,Mu⟩:∃ rv,fn.results.toList=[rv]:=apG.1 (by simpa using hl)
  have Ua:=tq 0 rv i (by rw[Mu];rfl) (by rw[KW];rfl)
  split at hr
  ·rename_i b bN
   rcases Ua with ⟨t,rfl,rfl,ht⟩|⟨t,ty,g,sz,rfl,rfl,_⟩
   ·simp only[nT] at bN
    have uD:=hI.F.slot t ht
    change SR gh s.H.length nt w s.T s.gen (fP a) t (fP a t) (s.T t) at uD
    split at bN
    ·rename_i g e hT
     injection bN with bN
     subst bN
     rw[hT] at hr
     obtain⟨lL,hr⟩:=ae hr
     injection hr with hr
     subst hr
     obtain⟨aV,h2,h3,h4⟩:=freeze hI.W hI.F ht hT lL
     exact fin (one _ _ Mu rfl) h2 h3 h4
    ·rename_i b' g hT
     rw[hT] at uD
     obtain⟨gm,_,hv⟩:=uD
     split at bN
     ·rename_i g' e hT'
      obtain⟨h0,bN⟩:=ae bN
      injection bN with bN
      subst bN
      rw[hT'] at hr
      obtain⟨lL,hr⟩:=ae hr
      injection hr with hr
      subst hr
      have DG:g=g':=by simpa [fW] using h0
      have iA:fP a t=fP a b':=hv (by rw[hT',DG];rfl)
      obtain⟨aV,h2,h3,h4⟩:=freeze hI.W hI.F gm hT' lL
      exact fin (one _ _ Mu rfl) h2 h3 (by show CR aV s.H.length w .ret (fP a t) _;rw[iA];exact h4)
     ·cases bN
    ·cases bN
   ·cases bN
  ·obtain⟨v,h1,h2⟩:=zl (P:=P) hI.W hI.F Ua hr
   rcases h2 with ⟨t,_,ht,rfl,hz,mg⟩|CB
   ·rcases mg with CB|⟨e,rfl,_⟩
    ·exact fin (one _ _ Mu h1) hI.W hrefl (.inl CB)
    ·obtain⟨aV,h2,_,h3,_,h4⟩:=uT hI.W hI.F ht hz.symm .ret (by simp)
     exact fin (one _ _ Mu h1) h2 h3 h4
   ·exact fin (one _ _ Mu h1) hI.W hrefl (.inl CB)
 ·rename_i dn
  simp only[an0] at hr
  obtain⟨xs,hxs,rfl⟩:=hr
  obtain⟨vs,k1,k2,k3,k4⟩:=Lc (P:=P) hI.W hI.F _ _ xs hl tq hxs
  have Ug:vs.length≠1:=by
   intro h
   rw[<- k1,hl] at h
   obtain⟨i,hi⟩:=apG.1 h
   exact dn i hi
  have cZ:=kU (P:=P) (w:=w) (fn:=fn) (tmps:=a.tmps) k1 k3
  rw[dif_neg (by simpa using Ug)] at cZ
  exact fin cZ hI.W hrefl (.inl (.tuple vs.toArray xs (by simpa using k2) (fun j v x hv hx=>k4 j v x (by simpa using hv) hx)))
theorem FP{rs:List gL}(hI:fG H s){r:AV}{c:Option gJ}(he:gA H.length rs s=some (r,c)):kY H c:=by
 simp only[gA,an1] at he
 obtain⟨r',hr,he⟩:=he
 obtain⟨HX,he⟩:=ae he
 simp only[an2,an7] at he
 obtain⟨rfl,rN⟩:=he
 have hlen:=hI.len
 cases hb:Nat.beq s.lo H.length with
 | true=>rw[hb] at rN;subst rN;exact⟨aoa _,fun c' h=>by cases h⟩
 | false =>
  rw[hb] at rN
  subst rN
  refine⟨by simp[nR];omega,fun c' Aj=>?_⟩
  simp only[an8,an2] at Aj
  subst Aj
  refine⟨hI.lo,fun l hl=>?_⟩
  have:=hI.lo
  rw[aoC,if_pos (by simp only at hl;omega)]
  exact hI.same l hl
theorem yu{m:Nat}{rs:List gL}{r:AV}{c:Option gJ}(he:oF m rs s=some (r,c)):rs.length≠1/\∃ xs e,pZ s m rs=some (xs,some e)/\r=.tuple xs/\c=some ⟨s.H.take m++[.box bV e.flatten],s.lo⟩:=by
 unfold oF at he
 cases hb:Nat.beq rs.length 1 with
 | true=>rw[hb] at he;cases he
 | false =>
  rw[hb] at he
  simp only[an8,an1,an0,an7] at he
  obtain⟨⟨xs,eo⟩,hq,e,rfl,rfl,rfl⟩:=he
  exact⟨(fun h=>by rw[h] at hb;cases hb),xs,e,hq,rfl,rfl⟩
theorem yw{nI:aJ}{m:Nat}{x:AV × Option gJ}(he:jU m nI s=some x):lp m s=true/\(qI m nI.results s=some x\/gA m nI.results s=some x\/oF m nI.results s=some x\/nr m nI.results s=some x):=by
 unfold jU at he
 obtain⟨h0,he⟩:=ae he
 refine⟨h0,?_⟩
 unfold pQ at he
 split at he
 ·rename_i h
  unfold mG at h
  obtain⟨_,h⟩:=ae h
  rw[<- he];exact .inl h
 ·split at he
  ·rename_i h;rw[h];exact .inr (.inl he)
  ·split at he
   ·rename_i h;rw[h];exact .inr (.inr (.inl he))
   ·exact .inr (.inr (.inr he))
theorem yr{m:Nat}{rs:List gL}{r:AV}{c:Option gJ}(he:qI m rs s=some (r,c)):∃ i l off n z ty cs,rs=[i]/\hN s i=some (.sref l off n z)/\s.H[l]?=some (.box ty cs)/\m<=l/\cs.all AV.plain=true/\r=.sref m off n z/\c=some ⟨s.H.take m++[.cS cs],s.lo⟩:=by
 unfold qI at he
 split at he
 ·rename_i i
  simp only[an1] at he
  obtain⟨v,hv,he⟩:=he
  split at he
  ·rename_i l off n z
   split at he
   ·rename_i ty cs hH
    obtain⟨h0,he⟩:=ae he
    simp only[an2,an7] at he
    simp only[aod,ao2] at h0
    exact⟨i,l,off,n,z,ty,cs,rfl,hv,hH,h0.1,h0.2,he.1.symm,he.2.symm⟩
   ·cases he
  ·cases he
 ·cases he
theorem KG(hI:fG H s){c:Option gJ}(rN:cond (Nat.beq s.lo H.length) none (some ⟨s.H.take H.length,s.lo⟩)=c):kY H c/\nR H c=s.H.take H.length:=by
 have hlen:=hI.len
 cases hb:Nat.beq s.lo H.length with
 | true =>
  rw[hb] at rN
  subst rN
  have qp:s.lo=H.length:=apo hb
  refine⟨⟨aoa _,fun c' h=>by cases h⟩,?_⟩
  show H=_
  refine ap3 fun l=>?_
  rw[aoC]
  split
  ·rename_i hl;exact (hI.same l (by omega)).symm
  ·rename_i hl;exact ape (by omega)
 | false =>
  rw[hb] at rN
  subst rN
  refine⟨⟨by simp[nR];omega,fun c' Aj=>?_⟩,rfl⟩
  simp only[an8,an2] at Aj
  subst Aj
  refine⟨hI.lo,fun l hl=>?_⟩
  have:=hI.lo
  rw[aoC,if_pos (by simp only at hl;omega)]
  exact hI.same l hl
theorem yt{m:Nat}{rs:List gL}{r:AV}{c:Option gJ}(he:nr m rs s=some (r,c)):rZ m s rs=some r/\r.leaves m=true/\cond (Nat.beq s.lo m) none (some ⟨s.H.take m,s.lo⟩)=c:=by
 simp only[nr,an1] at he
 obtain⟨r',hr,he⟩:=he
 obtain⟨HX,he⟩:=ae he
 simp only[an2,an7] at he
 obtain⟨rfl,rN⟩:=he
 exact⟨hr,HX,rN⟩
theorem FY(hI:fG H s)(o:bZ):kY H (some ⟨s.H.take H.length++[o],s.lo⟩):=by
 have:=hI.len
 have h1:=hI.lo
 refine⟨by simp[nR];omega,fun c' Aj=>?_⟩
 injection Aj with Aj
 subst Aj
 refine⟨hI.lo,fun l hl=>?_⟩
 simp only at hl ⊢
 rw[aox (by simp;omega),aoC,if_pos (by omega)]
 exact hI.same l hl
theorem wx{m:Nat}{nI:aJ}{x:AV × Option gJ}(he:finish m nI s=some x):∃ r0,jU m nI s=some (r0,x.2)/\(x.1=r0\/x.1=mC r0):=by
 simp only[finish,an0] at he
 obtain⟨⟨r0,c0⟩,h1,h2⟩:=he
 unfold sI at h2
 cases hm:nI.muts.elem 777777 with
 | false=>rw[hm,an8] at h2;subst h2;exact⟨r0,h1,.inl rfl⟩
 | true=>rw[hm,cond_true] at h2;subst h2;exact⟨r0,h1,.inr rfl⟩
theorem PR.n2{S:Nat->Nat->Prop}{w:World}{v:Value}{x:AV}(h:PR S w v x):PR S w v (n2 x):=by
 have one:∀ {v x},PR S w v x->PR S w v (n1 x):=by
  intro v x h
  have h0:=h
  cases h<;>first|exact .dw|exact h0
 have h0:=h
 cases h with
 | aj=>exact .dw
 | slice b o n cap sz e f hn jG bN cx cL =>
  have fE:∀ (i:Nat) (r:List AV),(e.map fun r=>r.map n1)[i]?=some r->∃ r0,e[i]?=some r0/\r=r0.map n1:=by
   intro i r hr
   rw[aor] at hr
   cases KV:e[i]? with
   | none=>rw[KV] at hr;cases hr
   | some r0=>rw[KV] at hr;injection hr with hr;exact⟨r0,rfl,hr.symm⟩
  have O4:∀ (r0:List AV) (j:Nat) (x:AV),(r0.map n1)[j]?=some x->∃ x0,r0[j]?=some x0/\x=n1 x0:=by
   intro r0 j x hx
   rw[aor] at hx
   cases yK:r0[j]? with
   | none=>rw[yK] at hx;cases hx
   | some x0=>rw[yK] at hx;injection hx with hx;exact⟨x0,rfl,hx.symm⟩
  refine .slice b o n cap sz _ f (by rw[aoA];exact hn) jG (fun i r hr=>?_) (fun i j r x hr hx=>?_) (fun i j r x hr hx=>?_)
  ·obtain⟨r0,h1,rfl⟩:=fE i r hr
   rw[aoA];exact bN i r0 h1
  ·obtain⟨r0,h1,rfl⟩:=fE i r hr
   obtain⟨x0,h2,rfl⟩:=O4 r0 j x hx
   exact cx i j r0 x0 h1 h2
  ·obtain⟨r0,h1,rfl⟩:=fE i r hr
   obtain⟨x0,h2,rfl⟩:=O4 r0 j x hx
   exact one (cL i j r0 x0 h1 h2)
 | dw=>exact .dw
 | any v ho=>exact h0
 | _=>exact h0
theorem VR.n2{gh:Gh}{n:Nat}{w:World}{v:Value}{x:AV}(h:VR gh n w v x):VR gh n w v (n2 x):=by
 have h0:=h
 cases h with
 | plain _ _ h=>exact .plain _ _ h.n2
 | _=>exact h0
theorem VR.n3{gh:Gh}{n:Nat}{w:World}{v:Value}{x:AV}(h:VR gh n w v x):VR gh n w v (n3 x):=by
 have h0:=h
 cases h with
 | agg cs xs hs fY h =>
  refine .agg cs _ (by rw[aoA];exact hs) fY (fun j v x hv hx=>?_)
  rw[aor] at hx
  cases yK:xs[j]? with
  | none=>rw[yK] at hx;cases hx
  | some x0=>rw[yK] at hx;injection hx with hx;subst hx;exact (h j v x0 hv yK).n2
 | plain _ _ h =>
  cases x with
  | agg cs=>cases h
  | _=>exact h0.n2
 | _=>exact h0
theorem VR.mC{gh:Gh}{n:Nat}{w:World}{v:Value}{x:AV}(h:VR gh n w v x):VR gh n w v (mC x):=by
 have h0:=h
 cases h with
 | tuple vs xs hs h =>
  refine .tuple vs _ (by rw[aoA];exact hs) (fun j v x hv hx=>?_)
  rw[aor] at hx
  cases yK:xs[j]? with
  | none=>rw[yK] at hx;cases hx
  | some x0=>rw[yK] at hx;injection hx with hx;subst hx;exact (h j v x0 hv yK).n3
 | agg cs xs hs fY h=>exact h0.n3
 | plain _ _ h =>
  cases x with
  | tuple cs=>cases h
  | _=>exact h0.n3
 | _=>exact h0
theorem Wo{gh:Gh}{n:Nat}{w:World}{p:bC}{v:Value}{x:AV}(h:CR gh n w p v x):CR gh n w p v (mC x):=by
 rcases h with h|⟨e,rfl,h1,h2⟩
 ·exact .inl h.mC
 ·exact .inr ⟨e,rfl,h1,h2⟩
theorem nu{nI:aJ}(hI:fG H s){r:AV}{c:Option gJ}(he:finish H.length nI s=some (r,c)):kY H c:=by
 obtain⟨r0,he,_⟩:=wx he
 rcases (yw he).2 with he|he|he|he
 ·obtain⟨_,_,_,_,_,_,cs,_,_,_,_,_,_,rfl⟩:=yr he
  exact FY hI _
 ·exact FP hI he
 ·obtain⟨_,xs,e,_,_,rfl⟩:=yu he
  exact FY hI _
 ·exact (KG hI (yt he).2.2).1
theorem s8{α:Type}{sz:Nat} : ∀ (e:List (List α)) (idx:Nat) (x:α),(∀ r∈e,r.length=sz)->e.flatten[idx]?=some x->∃ i j r,e[i]?=some r/\r[j]?=some x/\idx=i*sz+j
 | [],_,_,_,h=>by simp at h
 | r :: e,idx,x,hr,h=>by
  rw[aoP] at h
  by_cases hl:idx<r.length
  ·rw[aox hl] at h;exact⟨0,idx,r,rfl,h,by simp⟩
  ·rw[aoz (by omega)] at h
   obtain⟨i,j,r',h1,h2,h3⟩:=s8 e _ x (fun r h=>hr r (by simp[h])) h
   have:=hr r (by simp)
   exact⟨i+1,j,r',by simpa using h1,h2,by rw[aoT];omega⟩
theorem wz{α:Type}{sz:Nat} : ∀ (e:List (List α)),(∀ r∈e,r.length=sz)->e.flatten.length=e.length*sz
 | [],_=>by simp
 | r :: e,hr=>by
  have:=hr r (by simp)
  have ih:=wz e (fun r h=>hr r (by simp[h]))
  simp only[aoP,List.length_append,an5,aoT];omega
def Gh.kZ(gh:Gh)(k n:Nat):Gh:={ gh.o6 k (.hb n) with ρ:=fun l=>if l=n then k else gh.ρ l }
theorem pE(hW:aX G base H gh w){k:Nat}(hk:k<w.heap.size){m n:Nat}(hn:m<=n):Step (fun r=>r=gh.κ k) m gh w (gh.kZ k n) w:=by
 have h:=kN hW hk (.hb n) m
 refine⟨h.S,h.cell,h.size,h.os,h.tape,h.output,h.AF,h.fresh,fun loc hl=>?_,h.len,h.mp⟩
 show (if loc=n then _ else _)=_
 rw[if_neg (by omega)]
theorem aX.kZ(hW:aX G base H gh w){k:Nat}{C:Array Value}{ty:TypeId}(hk:w.heap[k]?=some (.cells C ty (0,0)))(hS:∀ o,¬ gh.S k o)(h0:gh.κ k≠.none)(ht:∀ l,l<H.length->gh.κ k≠.hb l/\∀ j,gh.κ k≠.hs l j)
  {cs:List AV} (hlen:cs.length<=C.size) (gC:∀ (j:Nat) (u:Value) (x:AV),C[j]?=some u->cs[j]?=some x->u.oneCell'=true/\VR gh H.length w u x) (hr:cs.all (bo H.length)=true) :
  aX G base (H++[.box bV cs]) (gh.kZ k H.length) w:=by
 have bf:k<w.heap.size:=(aoi.1 hk).1
 have st:=pE hW bf (aoa H.length)
 have hn:∀ l,l<H.length->¬ (bC.hb l=gh.κ k)/\∀ j,¬ (bC.hs l j=gh.κ k):=fun l hl=>⟨fun h=>(ht l hl).1 h.symm,fun j h=>(ht l hl).2 j h.symm⟩
 have last:∀ {loc:Nat} {o:bZ},(H++[bZ.box bV cs])[loc]?=some o->¬ loc<H.length->loc=H.length/\o=.box bV cs:=by
  intro loc o hl hge
  rw[aoz (by omega)] at hl
  have hz:loc=H.length:=by
   have:=(an9.1 hl).1
   simp at this;omega
  subst hz
  simp at hl
  exact⟨rfl,hl.symm⟩
 refine⟨hW.size,hW.nW,fun b hb=>?_,fun g j x hx=>?_,fun loc lZ ds hl=>?_,fun loc lZ ds hl=>?_,hW.xf,hW.bytes,fun loc o hl=>?_,fun loc lZ ds hl hf=>?_⟩
 ·have jF:(if b=k then bC.hb H.length else gh.κ b)≠.none:=hb
  split at jF
  ·rename_i e;rw[e];exact hW.oL k h0
  ·exact hW.oL b jF
 ·obtain⟨v,h1,h2,h3⟩:=hW.aZ g j x hx
  exact⟨v,h1,h2.mono st.S st.cell st.mp,h3⟩
 ·rw[List.length_append,apz]
  by_cases ji:loc<H.length
  ·rw[aox ji] at hl
   have h:=(hW.boxes loc lZ ds hl).mono st (n':=H.length+1) (ao' _) (hn loc ji).1 (hn loc ji).2
   rw[st.ρ loc ji];exact h
  ·obtain⟨rfl,ho⟩:=last hl ji
   injection ho with ho1 ho2
   subst ho1 ho2
   have hρ:(gh.kZ k H.length).ρ H.length=k:=by simp[Gh.kZ]
   rw[hρ]
   refine⟨by simp[Gh.kZ,Gh.o6],hS,C,ty,hk,hlen,fun j v x hv hx=>?_⟩
   obtain⟨h1,h2⟩:=gC j v x hv hx
   exact⟨h1,.inl (h2.mono st (ao' _))⟩
 ·by_cases ji:loc<H.length
  ·rw[aox ji] at hl
   exact hW.refs loc lZ ds hl
  ·obtain⟨rfl,ho⟩:=last hl ji
   injection ho with ho1 ho2
   subst ho1 ho2
   exact hr
 ·rw[List.length_append,apz]
  by_cases ji:loc<H.length
  ·rw[aox ji] at hl
   rw[st.ρ loc ji]
   exact (hW.more loc o hl).mono st (ao' _) (hn loc ji).1 (hn loc ji).2
  ·obtain⟨rfl,rfl⟩:=last hl ji
   trivial
 ·by_cases ji:loc<H.length
  ·rw[aox ji] at hl
   rw[st.ρ loc ji]
   exact hW.types loc lZ ds hl hf
  ·obtain⟨rfl,ho⟩:=last hl ji
   injection ho with ho1 ho2
   exact absurd ho1 hf
theorem aX.Zh(hW:aX G base H gh w){k:Nat}{C:Array Value}{ty:TypeId}(hk:w.heap[k]?=some (.cells C ty (0,0)))(hS:∀ o,¬ gh.S k o)(h0:gh.κ k≠.none)(ht:∀ l,l<H.length->gh.κ k≠.hb l/\∀ j,gh.κ k≠.hs l j)
  {cs:List AV} (hlen:cs.length<=C.size) (gC:∀ (j:Nat) (u:Value) (x:AV),C[j]?=some u->cs[j]?=some x->u.oneCell'=true/\VR gh H.length w u x) :
  aX G base (H++[.cS cs]) (gh.kZ k H.length) w:=by
 have bf:k<w.heap.size:=(aoi.1 hk).1
 have st:=pE hW bf (aoa H.length)
 have hn:∀ l,l<H.length->¬ (bC.hb l=gh.κ k)/\∀ j,¬ (bC.hs l j=gh.κ k):=fun l hl=>⟨fun h=>(ht l hl).1 h.symm,fun j h=>(ht l hl).2 j h.symm⟩
 have last:∀ {loc:Nat} {o:bZ},(H++[bZ.cS cs])[loc]?=some o->¬ loc<H.length->loc=H.length/\o=.cS cs:=by
  intro loc o hl hge
  rw[aoz (by omega)] at hl
  have hz:loc=H.length:=by
   have:=(an9.1 hl).1
   simp at this;omega
  subst hz
  simp at hl
  exact⟨rfl,hl.symm⟩
 refine⟨hW.size,hW.nW,fun b hb=>?_,fun g j x hx=>?_,fun loc lZ ds hl=>?_,fun loc lZ ds hl=>?_,hW.xf,hW.bytes,fun loc o hl=>?_,fun loc lZ ds hl hf=>?_⟩
 ·have jF:(if b=k then bC.hb H.length else gh.κ b)≠.none:=hb
  split at jF
  ·rename_i e;rw[e];exact hW.oL k h0
  ·exact hW.oL b jF
 ·obtain⟨v,h1,h2,h3⟩:=hW.aZ g j x hx
  exact⟨v,h1,h2.mono st.S st.cell st.mp,h3⟩
 ·rw[List.length_append,apz]
  by_cases ji:loc<H.length
  ·rw[aox ji] at hl
   have h:=(hW.boxes loc lZ ds hl).mono st (n':=H.length+1) (ao' _) (hn loc ji).1 (hn loc ji).2
   rw[st.ρ loc ji];exact h
  ·obtain⟨rfl,ho⟩:=last hl ji
   cases ho
 ·by_cases ji:loc<H.length
  ·rw[aox ji] at hl
   exact hW.refs loc lZ ds hl
  ·obtain⟨rfl,ho⟩:=last hl ji
   cases ho
 ·rw[List.length_append,apz]
  by_cases ji:loc<H.length
  ·rw[aox ji] at hl
   rw[st.ρ loc ji]
   exact (hW.more loc o hl).mono st (ao' _) (hn loc ji).1 (hn loc ji).2
  ·obtain⟨rfl,rfl⟩:=last hl ji
   have hρ:(gh.kZ k H.length).ρ H.length=k:=by simp[Gh.kZ]
   rw[hρ]
   refine⟨by simp[Gh.kZ,Gh.o6],hS,C,ty,hk,hlen,fun j v x hv hx=>?_⟩
   obtain⟨h1,h2⟩:=gC j v x hv hx
   exact⟨h1,.inl (h2.mono st (ao' _))⟩
 ·by_cases ji:loc<H.length
  ·rw[aox ji] at hl
   rw[st.ρ loc ji]
   exact hW.types loc lZ ds hl hf
  ·obtain⟨rfl,ho⟩:=last hl ji
   cases ho
theorem PR.aaq{S:Nat->Nat->Prop}{v:Value}{x:AV}(h:PR S w v x)(hp:x.plain=true)(m:Nat):bo m x=true:=by
 cases h<;>first|rfl|exact hp
theorem Wq{iV:Gh}{w0:World}(hI:Inv G base nt L H iV w0 s gh w a){m:Nat}(hm:m<=s.H.length):∀ (l:List ResultVar) (rs:List gL) (xs:List AV) (q:Option (List (List AV))),l.length=rs.length->(∀ (j:Nat) (r:ResultVar) (i:gL),l[j]?=some r->rs[j]?=some i ->
    (∃ t,r=.tmp t/\i=.tmp t/\t<nt)\/∃ t ty g sz,r=.cell t ty/\i=.cell t g sz/\t<nt/\l9 P ty=some g/\dV P ty=some sz)->pZ s m rs=some (xs,q) ->
    ∃ vs:List Value,l.length=vs.length/\vs.length=xs.length/\(∀ (j:Nat) (r:ResultVar) (v:Value),l[j]?=some r->vs[j]?=some v->(nU a.tmps r).run P w=.ok v w) /\
     (q=none->∀ (j:Nat) (v:Value) (x:AV),vs[j]?=some v->xs[j]?=some x->VR gh m w v x) /\
     ∀ e,q=some e->∃ b g,b<nt/\s.T b=.lsl g e/\e≠[]/\(e.all fun r=>r.all AV.plain)=true/\∀ (j:Nat) (v:Value) (x:AV),vs[j]?=some v->xs[j]?=some x->VR gh m w v x\/(x=.sref m 0 e.length (Sg e)/\v=fP a b):=by
 intro l
 induction l with
 | nil =>
  intro rs xs q hl _ h
  have:rs=[]:=aoG.1 (by simpa using hl.symm)
  subst this
  simp only[pZ,an2,an7] at h
  obtain⟨rfl,rfl⟩:=h
  exact⟨[],rfl,rfl,fun j r v h=>by simp at h,fun _ j v x h=>by simp at h,fun e h=>by cases h⟩
 | cons rv l ih =>
  intro rs xs q hl hc h
  cases rs with
  | nil=>simp at hl
  | cons i rs =>
   simp only[pZ,an1] at h
   obtain⟨⟨ys,q'⟩,Pz,h⟩:=h
   obtain⟨vs,k1,k2,k3,k4,k5⟩:=ih rs ys q' (by simpa using hl) (fun j r i hr hi=>hc (j+1) r i (by simpa using hr) (by simpa using hi)) Pz
   have Ua:=hc 0 rv i rfl rfl
   have runs:∀ v,(nU a.tmps rv).run P w=.ok v w->∀ (j:Nat) (r:ResultVar) (u:Value),(rv :: l)[j]?=some r->(v :: vs)[j]?=some u->(nU a.tmps r).run P w=.ok u w:=by
    intro v h1 j r u hr hu
    cases j with
    | zero=>simp at hr hu;subst hr hu;exact h1
    | succ j=>exact k3 j r u (by simpa using hr) (by simpa using hu)
   split at h
   ·rename_i b bN
    split at h
    ·rename_i gg e hT
     obtain⟨h0,h⟩:=ae h
     simp only[aod,ap7,ao7,aqx] at h0
     simp only[an2,an7] at h
     obtain⟨rfl,rfl⟩:=h
     obtain⟨⟨hq',dn⟩,tj⟩:=h0
     rcases Ua with ⟨t,rfl,rfl,ht⟩|⟨t,ty,g,sz,rfl,rfl,_⟩
     ·have hb:b<nt/\fP a t=fP a b:=by
       simp only[nT] at bN
       have uD:=hI.F.slot t ht
       change SR gh s.H.length nt w s.T s.gen (fP a) t (fP a t) (s.T t) at uD
       split at bN
       ·injection bN with bN;subst bN;exact⟨ht,rfl⟩
       ·rename_i b' g T7
        rw[T7] at uD
        obtain⟨gm,_,hv⟩:=uD
        split at bN
        ·rename_i g' e' hT'
         obtain⟨h0,bN⟩:=ae bN
         injection bN with bN
         subst bN
         have DG:g=g':=by simpa [fW] using h0
         exact⟨gm,hv (by rw[hT',DG];rfl)⟩
        ·cases bN
       ·cases bN
      refine⟨fP a t :: vs,by simp[k1],by simp[k2],runs _ rfl,(fun h=>by cases h),fun e' DF=>?_⟩
      injection DF with DF
      subst DF
      refine⟨b,gg,hb.1,hT,dn,tj,fun j u x hu hx=>?_⟩
      cases j with
      | zero=>simp at hu hx;subst hu hx;exact .inr ⟨rfl,hb.2⟩
      | succ j=>exact .inl (k4 hq' j u x (by simpa using hu) (by simpa using hx))
     ·cases bN
    ·cases h
   ·simp only[an1] at h
    obtain⟨z,hz,h⟩:=h
    obtain⟨h0,h⟩:=ae h
    simp only[an2,an7] at h
    obtain⟨rfl,rfl⟩:=h
    obtain⟨v,h1,h2⟩:=zl (P:=P) hI.W hI.F Ua hz
    have hv:VR gh m w v z.bD:=by
     rcases h2 with ⟨t,_,_,_,_,mg⟩|CB
     ·exact (kq mg.dropped).bu h0
     ·exact (kq CB.dropped).bu h0
    refine⟨v :: vs,by simp[k1],by simp[k2],runs v h1,fun hq j u x hu hx=>?_,fun e he=>?_⟩
    ·cases j with
     | zero=>simp at hu hx;subst hu hx;exact hv
     | succ j=>exact k4 hq j u x (by simpa using hu) (by simpa using hx)
    ·obtain⟨b,g,c1,c2,c3,c4,c5⟩:=k5 e he
     refine⟨b,g,c1,c2,c3,c4,fun j u x hu hx=>?_⟩
     cases j with
     | zero=>simp at hu hx;subst hu hx;exact .inl hv
     | succ j=>exact c5 j u x (by simpa using hu) (by simpa using hx)
theorem Xe{iV:Gh}{w0:World}(jW:clean iV)(hI:Inv G base nt L H iV w0 s gh w a){fn:Func}{rs:List gL}(hc:kg P nt fn.results.toList=some rs){r:AV}{c:Option gJ}(hold:∀ aV w',aX G base s.H aV w'->wc s.H H.length aV w')(he:oF H.length rs s=some (r,c)) :
  ∃ v aV,(results fn a.tmps).run P w=.ok v w/\l8 G base H iV w0 r c v aV w:=by
 obtain⟨aiv,xs,e,hq,rfl,rfl⟩:=yu he
 obtain⟨hl,tq⟩:=kK hc
 have hlen:=hI.lo.len
 obtain⟨vs,k1,k2,k3,_,k5⟩:=Wq (P:=P) hI hlen _ _ xs (some e) hl tq hq
 obtain⟨b,g,hb,hT,dn,tj,iA⟩:=k5 e rfl
 have cZ:=kU (P:=P) (w:=w) (fn:=fn) (tmps:=a.tmps) k1 k3
 rw[dif_neg (by intro h;apply aiv;rw[<- hl,k1];simpa using h)] at cZ
 obtain⟨ad,cap,hV,⟨h0,_⟩|⟨k,C,ty,sz,_,rfl,hκ,hS,hk,hC,hle,hr,gC⟩⟩:=nX hI.F hb hT
 ·exact absurd h0 dn
 have aaz:k<w.heap.size:=(aoi.1 hk).1
 have hWp:=hI.W.Dk hlen (hold _ _ hI.W)
 have KR:(s.H.take H.length).length=H.length:=by simp;omega
 have bN:∀ r∈e,r.length=sz:=fun r hm=>by obtain⟨i,hi⟩:=aoM hm;exact hr i r hi
 have h0:gh.κ k≠.none:=by rw[hκ];simp
 have h1:gh.κ k≠.outer:=by rw[hκ];simp
 have ht:∀ l,l<(s.H.take H.length).length->gh.κ k≠.hb l/\∀ j,gh.κ k≠.hs l j:=fun l _=>by rw[hκ];simp
 have lW:=hWp.kZ hk hS h0 ht (cs:=e.flatten) (by rw[wz e bN,hC];exact aot _ hle)
  (fun j u x hu hx=>by
   obtain⟨i,j',r,e1,e2,rfl⟩:=s8 e j x bN hx
   obtain⟨u',zU,hp⟩:=gC i j' r x e1 e2
   rw[hu] at zU
   injection zU with zU
   subst zU
   exact⟨hp.fw,.plain _ _ hp⟩)
  (aof.2 fun x hx=>by
   obtain⟨j,hj⟩:=aoM hx
   obtain⟨i,j',r,e1,e2,_⟩:=s8 e j x bN hj
   obtain⟨u',_,hp⟩:=gC i j' r x e1 e2
   exact hp.aaq (aof.1 (aof.1 tj r (aoo e1)) x (aoo e2)) _)
 rw[KR] at lW
 have zy:=pE hI.W aaz (m:=H.length) (aoa H.length)
 have hE:Ext H.length gh w (gh.kZ k H.length) w:=⟨zy.mono (fun r h=>by rw[h];exact⟨h0,h1⟩),fun b' gm=>by
  have jF:(if b'=k then bC.hb H.length else gh.κ b')=.outer:=gm
  split at jF
  ·cases jF
  ·exact jF⟩
 have yB:=hI.E.trans hE (aoa _)
 have qk:(nR H (some ⟨s.H.take H.length++[.box bV e.flatten],s.lo⟩)).length=H.length+1:=by simp[nR];omega
 refine⟨_,_,cZ,by rw[qk];omega,lW,?_,yB.out,?_⟩
 ·have st:=yB.step
  refine⟨st.S,st.cell,st.size,st.os,st.tape,st.output,fun b hb hn=>st.AF b hb (fun ht=>hn ?_),st.fresh,st.ρ,st.len,st.mp⟩
  rcases jW b with h|h|h|h
  ·exact absurd h ht.1
  ·exact absurd h ht.2
  ·exact .inl h
  ·exact .inr h
 ·rw[qk]
  refine .inl (.tuple vs.toArray xs (by simpa using k2) (fun j v x hv hx=>?_))
  rcases iA j v x (by simpa using hv) hx with h|⟨rfl,rfl⟩
  ·exact h.mono zy (ao' _)
  ·rw[hV]
   have hρ:(gh.kZ k H.length).ρ H.length=k:=by simp[Gh.kZ]
   have hrw:Sg e=sz:=by
    cases e with
    | nil=>exact absurd rfl dn
    | cons r0 e=>simp[Sg,bN r0 (aoF ..)]
   have:=VR.sref (gh:=gh.kZ k H.length) (w:=w) (n:=H.length+1) H.length 0 e.length cap (Sg e) (by omega) hle (fun _=>⟨ty,by rw[hρ];exact⟨C,(0,0),hk,by rw[hC,hrw,Nat.zero_add]⟩⟩)
   rw[hρ] at this
   exact this
theorem Xb{iV:Gh}{w0:World}(jW:clean iV)(hI:Inv G base nt L H iV w0 s gh w a){fn:Func}{rs:List gL}(hc:kg P nt fn.results.toList=some rs){r:AV}{c:Option gJ}(hold:∀ aV w',aX G base s.H aV w'->wc s.H H.length aV w')(he:qI H.length rs s=some (r,c)) :
  ∃ v aV,(results fn a.tmps).run P w=.ok v w/\l8 G base H iV w0 r c v aV w:=by
 obtain⟨i,l,off,n,z,NK,cs,A',afe,hH,Pl,tj,rfl,rfl⟩:=yr he
 obtain⟨hl,tq⟩:=kK hc
 have hlen:=hI.lo.len
 rw[A'] at hl
 obtain⟨rv,Mu⟩:∃ rv,fn.results.toList=[rv]:=apG.1 (by simpa using hl)
 have Ua:=tq 0 rv i (by rw[Mu];rfl) (by rw[A'];rfl)
 obtain⟨v,h1,h2⟩:=zl (P:=P) hI.W hI.F Ua afe
 have hv:VR gh s.H.length w v (.sref l off n z):=by
  rcases h2 with ⟨t,_,_,_,_,mg⟩|CB
  ·exact mg.dropped
  ·exact CB
 obtain⟨_,cap,hk,hz,rfl⟩:=hv.jJ
 have cZ:=kU (P:=P) (w:=w) (fn:=fn) (tmps:=a.tmps) (vs:=[.slice (some ⟨gh.ρ l,off,none⟩) n cap]) (by rw[Mu];rfl) (fun j r' v' hr hv=>by
  rw[Mu] at hr
  cases j with
  | zero=>simp at hr hv;subst hr hv;exact h1
  | succ j=>simp at hr)
 obtain⟨hκ,hS,C,ty,hb,hC,gC⟩:=hI.W.boxes l _ cs hH
 have aaz:gh.ρ l<w.heap.size:=(aoi.1 hb).1
 have hWp:=hI.W.Dk hlen (hold _ _ hI.W)
 have KR:(s.H.take H.length).length=H.length:=by simp;omega
 have h0:gh.κ (gh.ρ l)≠.none:=by rw[hκ];simp
 have OZ:gh.κ (gh.ρ l)≠.outer:=by rw[hκ];simp
 have lW:=hWp.Zh hb hS h0 (fun l' zS=>by rw[hκ];rw[KR] at zS;exact⟨by intro e;injection e with e;omega,by simp⟩) (cs:=cs) hC (fun j u x hu hx=>by
  obtain⟨k1,k2⟩:=gC j u x hu hx
  have hp:=aof.1 tj x (aoo hx)
  have:=k2.dropped
  rw[sB hp] at this
  exact⟨k1,.plain _ _ (this.ke hp)⟩)
 rw[KR] at lW
 have zy:=pE hI.W aaz (m:=H.length) (aoa H.length)
 have hE:Ext H.length gh w (gh.kZ (gh.ρ l) H.length) w:=⟨zy.mono (fun r h=>by rw[h];exact⟨h0,OZ⟩),fun b' gm=>by
  have jF:(if b'=gh.ρ l then bC.hb H.length else gh.κ b')=.outer:=gm
  split at jF
  ·cases jF
  ·exact jF⟩
 have yB:=hI.E.trans hE (aoa _)
 have qk:(nR H (some ⟨s.H.take H.length++[.cS cs],s.lo⟩)).length=H.length+1:=by simp[nR];omega
 refine⟨_,_,by simpa using cZ,by rw[qk];omega,lW,?_,yB.out,?_⟩
 ·have st:=yB.step
  refine⟨st.S,st.cell,st.size,st.os,st.tape,st.output,fun b hb hn=>st.AF b hb (fun ht=>hn ?_),st.fresh,st.ρ,st.len,st.mp⟩
  rcases jW b with h|h|h|h
  ·exact absurd h ht.1
  ·exact absurd h ht.2
  ·exact .inl h
  ·exact .inr h
 ·rw[qk]
  have hρ:(gh.kZ (gh.ρ l) H.length).ρ H.length=gh.ρ l:=by simp[Gh.kZ]
  have:=VR.sref (gh:=gh.kZ (gh.ρ l) H.length) (w:=w) (n:=H.length+1) H.length off n cap z (by omega) hk (fun hz0=>by rw[hρ];exact hz hz0)
  rw[hρ] at this
  exact .inl this
def o5(H:ah)(m k l:Nat):Option (List AV) :=
 ((H[l]?).bind mh).bind fun cs=>cond (cs.all fun x=>(fN H m k x.drop).plain&&jq x) (some (cs.map fun x=>fN H m k x.drop)) none
def ahO(gh:Gh)(H:ah)(m:Nat)(b o:Nat):Prop:=gh.S b o\/∃ k l cs,m<=l/\o5 H m k l=some cs/\gh.ρ l=b/\o<cs.length
def Gh.Tb(gh:Gh)(H:ah)(m:Nat):Gh:={ gh with S:=ahO gh H m }
theorem pS{m k l:Nat}{cs:List AV}(h:o5 H m k l=some cs):∃ o ds,H[l]?=some o/\mh o=some ds/\cs=ds.map (fun x=>fN H m k x.drop)/\∀ x,x∈ds->(fN H m k x.drop).plain=true/\jq x=true:=by
 unfold o5 at h
 simp only[an1] at h
 obtain⟨ds,⟨o,ho,hd⟩,h⟩:=h
 obtain⟨h0,h⟩:=ae h
 injection h with h
 refine⟨o,ds,ho,hd,h.symm,fun x hx=>?_⟩
 have:=aof.1 h0 x hx
 simpa using this
theorem JY(hW:aX G base H gh w){l:Nat}{o:bZ}{ds:List AV}(ho:H[l]?=some o)(hd:mh o=some ds):gW gh H.length w (gh.ρ l) (.hb l) (fun j=>.hs l j) ds:=by
 cases o<;>simp only[mh,reduceCtorEq,an2] at hd
 ·subst hd;exact hW.boxes l _ _ ho
 ·subst hd;exact hW.more l _ ho
theorem um(hW:aX G base H gh w)(m n:Nat):Step (fun r=>∃ l,m<=l/\r=.hb l) n gh w (gh.Tb H m) w:=by
 refine⟨fun b o h=>.inl h,fun _ _ _=>rfl,aoa _,rfl,rfl,rfl,fun b hb hn=>⟨.inl rfl,rfl,fun o ho=>?_⟩,fun b hb=>hW.bY b hb,fun _ _=>rfl,fun _ _ _ h=>h,fun _ _ _ _ h=>h⟩
 rcases ho with ho|⟨k,l,cs,hl,hf,hρ,_⟩
 ·exact ho
 ·exfalso
  obtain⟨o',ds,rP,hd,_⟩:=pS hf
  exact hn ⟨l,hl,by rw[<- hρ];exact (JY hW rP hd).1⟩
theorem yz(hW:aX G base H gh w){m k l:Nat}(hV:∀ {v:Value} {x:AV},VR gh H.length w v x->VR (gh.Tb H m) H.length w v (fN H m k x))(hm:m<=l){cs:List AV}(hf:o5 H m k l=some cs){j:Nat}{x:AV}(hx:cs[j]?=some x) :
  ∃ v,w.cell? ⟨gh.ρ l,j,none⟩=some v/\PR (gh.Tb H m).S w v x/\(gh.Tb H m).S (gh.ρ l) j/\∀ n,v≠.int .u8 n:=by
 have hf0:=hf
 obtain⟨o',ds,rP,hd,rfl,dA⟩:=pS hf
 obtain⟨hκ,hS,C,NL,hb,hle,cx⟩:=JY hW rP hd
 have sn:=(an9.1 hx).1
 simp only[aor,an0] at hx
 obtain⟨y,hy,rfl⟩:=hx
 have hj2:=(an9.1 hy).1
 have hv:C[j]?=some C[j]:=aop (by omega)
 obtain⟨k1,k2⟩:=cx j _ y hv hy
 obtain⟨p1,p2⟩:=dA y (aoo hy)
 refine⟨C[j],by rw[cell_of_row w _ j C NL _ hb];exact hv,(hV k2.dropped).ke p1,.inr ⟨k,l,_,hm,hf0,rfl,sn⟩,fun n hn=>?_⟩
 have CB:=k2.dropped
 rw[hn] at CB
 cases CB with
 | plain _ _ h =>
  cases y<;>simp only[AV.drop] at h<;>cases h<;>simp[jq] at p2
theorem qz{z:Nat} : ∀ {n:Nat} {l:List AV} {i:Nat} {r:List AV},(chunks z n l)[i]?=some r->i<n/\r=(l.drop (i*z)).take z
 | 0,l,i,r,h=>by simp[chunks] at h
 | n+1,l,0,r,h=>by simp[chunks] at h;exact⟨by omega,by simp[h]⟩
 | n+1,l,i+1,r,h=>by
  simp only[chunks,apq] at h
  obtain⟨h1,h2⟩:=qz h
  refine⟨by omega,?_⟩
  rw[h2,aqB,aoT,ap8,aqM z]
theorem wq{z:Nat} : ∀ {n:Nat} {l:List AV},(chunks z n l).length=n
 | 0,l=>rfl
 | n+1,l=>by simp[chunks,wq]
theorem xp(hW:aX G base H gh w){m:Nat} : ∀ (k:Nat) {v:Value} {x:AV},VR gh H.length w v x->VR (gh.Tb H m) H.length w v (fN H m k x)
 | 0,v,x,h=>h.mono (um hW m _) (aoa _)
 | d+1,v,x,h=>by
  have ih:=@xp hW m d
  have h0:VR (gh.Tb H m) H.length w v x:=h.mono (um hW m _) (aoa _)
  unfold fN
  split
  ·rename_i l off k z
   cases hb:Nat.ble m l with
   | false=>exact h0
   | true =>
    rw[cond_true]
    split
    ·rename_i ds NB
     cases jF:(Nat.blt 0 z&&Nat.ble (off+k*z) ds.length&&ds.all fun x=>(fN H m d x.drop).plain&&jq x) with
     | false=>exact h0
     | true =>
      rw[cond_true]
      simp only[aod,aoO,ao2] at jF
      obtain⟨⟨hz,hle⟩,dA⟩:=jF
      have gC:o5 H m d l=some (ds.map fun x=>fN H m d x.drop):=by
       unfold o5
       rw[NB,aoe,dA];rfl
      generalize hcc:ds.map (fun x=>fN H m d x.drop)=cs at *
      obtain⟨_,cap,hk,_,rfl⟩:=h.jJ
      have Pl:m<=l:=by simpa [ao2] using hb
      have cell:∀ {i j:Nat} {r:List AV} {y:AV},(chunks z k (cs.drop off))[i]?=some r->r[j]?=some y->i<k/\j<z/\cs[off+i*z+j]?=some y:=by
       intro i j r y hi hj
       obtain⟨h1,rfl⟩:=qz hi
       rw[aoC] at hj
       split at hj
       ·rename_i h2
        rw[aoU,aoU] at hj
        exact⟨h1,h2,by rw[<- hj];congr 1;omega⟩
       ·cases hj
      have hlen:cs.length=ds.length:=by rw[<- hcc];simp
      refine .plain _ _ (.slice (gh.ρ l) off k cap z _ (fun i j=>(w.cell? ⟨gh.ρ l,off+i*z+j,none⟩).getD undef) wq hk (fun i r hi=>?_) (fun i j r y hi hj=>?_) (fun i j r y hi hj=>?_))
      ·obtain⟨h1,rfl⟩:=qz hi
       have:(i+1)*z<=k*z:=aot _ h1
       rw[aoT] at this
       simp;omega
      ·obtain⟨_,_,hc⟩:=cell hi hj
       obtain⟨u,k1,k2,k3,_⟩:=yz hW ih Pl gC hc
       exact⟨k3,by rw[k1];rfl,by rw[k1];exact k2.fw⟩
      ·obtain⟨_,_,hc⟩:=cell hi hj
       obtain⟨u,k1,k2,_⟩:=yz hW ih Pl gC hc
       rw[k1];exact k2
    ·exact h0
  ·exact h0
theorem KL(hW:aX G base H gh w){m:Nat}{v:Value}{x:AV}(h:VR gh H.length w v x):VR (gh.Tb H m) H.length w v (I4 H m x):=by
 unfold I4
 split
 ·rename_i cs
  obtain⟨C,rfl,hs,fY,hc⟩:=h.kj
  refine .agg C _ (by simpa using hs) fY (fun j v x hv hx=>?_)
  simp only[aor,an0] at hx
  obtain⟨y,hy,rfl⟩:=hx
  exact xp hW T4 (hc j v y hv hy)
 ·exact xp hW T4 h
theorem aec(hW:aX G base H gh w){m:Nat}(hm:m<=H.length)(hold:wc H m gh w):aX G base (H.take m) (gh.Tb H m) w:=by
 have Ml:=hW.Dk hm hold
 have YC:(H.take m).length=m:=by simp;omega
 have st:=um hW m (H.take m).length
 have ht:∀ l,l<m->¬ (∃ k,m<=k/\bC.hb l=.hb k)/\∀ j,¬ (∃ k,m<=k/\bC.hs l j=.hb k):=by
  refine fun l hl=>⟨?_,fun j=>?_⟩
  ·rintro ⟨k,hk,h⟩
   injection h with h
   omega
  ·rintro ⟨k,hk,h⟩
   cases h
 have lt:∀ {l:Nat} {o:bZ},(H.take m)[l]?=some o->l<m:=fun h=>by have:=(an9.1 h).1;omega
 refine⟨Ml.size,fun b o ho=>?_,Ml.oL,fun g j x hx=>?_,fun loc ty cs hl=>?_,Ml.refs,Ml.xf,Ml.ko st (fun b o n ho=>?_),fun loc o hl=>?_,fun loc ty cs hl=>Ml.types loc ty cs hl⟩
 ·rcases ho with ho|⟨k,l,cs,hl,hf,rfl,_⟩
  ·exact hW.nW b o ho
  ·obtain⟨o',ds,rP,hd,_⟩:=pS hf
   obtain⟨_,_,C,NL,hb,_⟩:=JY hW rP hd
   exact (aoi.1 hb).1
 ·obtain⟨v,h1,h2,h3⟩:=Ml.aZ g j x hx
  exact⟨v,h1,h2.mono st.S st.cell st.mp,st.S g j h3⟩
 ·exact (Ml.boxes loc ty cs hl).mono st (aoa _) (ht loc (lt hl)).1 (ht loc (lt hl)).2
 ·rcases ho with ho|⟨k,l,cs,hl,hf,rfl,bf⟩
  ·exact .inl ho
  ·refine .inr fun hc=>?_
   obtain⟨v,k1,_,_,k4⟩:=yz hW (xp hW k) hl hf (an' bf)
   rw[k1] at hc
   injection hc with hc
   exact absurd hc (k4 n)
 ·exact (Ml.more loc o hl).mono st (aoa _) (ht loc (lt hl)).1 (ht loc (lt hl)).2
theorem Xc{iV:Gh}{w0:World}(jW:clean iV)(hI:Inv G base nt L H iV w0 s gh w a){fn:Func}{rs:List gL}(hc:kg P nt fn.results.toList=some rs){r:AV}{c:Option gJ}(hold:∀ aV w',aX G base s.H aV w'->wc s.H H.length aV w')(he:nr H.length rs s=some (r,c)) :
  ∃ v aV,(results fn a.tmps).run P w=.ok v w/\l8 G base H iV w0 r c v aV w:=by
 obtain⟨hr,HX,rN⟩:=yt he
 have hlen:=hI.lo.len
 have jZ:=(KG hI.lo rN).2
 have yG:(nR H c).length=H.length:=by rw[jZ];simp;omega
 have zy:=um hI.W H.length H.length
 have Ny:Ext H.length gh w (gh.Tb s.H H.length) w:=⟨zy.mono (fun r h=>by obtain⟨l,_,rfl⟩:=h;exact⟨by simp,by simp⟩),fun b hb=>hb⟩
 have fin:∀ {v:Value},(results fn a.tmps).run P w=.ok v w->VR (gh.Tb s.H H.length) s.H.length w v r->∃ v aV,(results fn a.tmps).run P w=.ok v w/\l8 G base H iV w0 r c v aV w:=by
  intro v h1 h4
  have hE:=hI.E.trans Ny (aoa _)
  refine⟨v,_,h1,apP yG.symm,by rw[jZ];exact aec hI.W hlen (hold _ _ hI.W),?_,hE.out,by rw[yG];exact .inl (h4.leaves HX)⟩
  have st:=hE.step
  refine⟨st.S,st.cell,st.size,st.os,st.tape,st.output,fun b hb hn=>st.AF b hb (fun ht=>hn ?_),st.fresh,st.ρ,st.len,st.mp⟩
  rcases jW b with h|h|h|h
  ·exact absurd h ht.1
  ·exact absurd h ht.2
  ·exact .inl h
  ·exact .inr h
 obtain⟨hl,tq⟩:=kK hc
 have one:∀ (rv:ResultVar) (v:Value),fn.results.toList=[rv]->(nU a.tmps rv).run P w=.ok v w->(results fn a.tmps).run P w=.ok v w:=by
  intro rv v h1 h2
  have:=kU (P:=P) (w:=w) (fn:=fn) (tmps:=a.tmps) (vs:=[v]) (by rw[h1];rfl) (fun j r' v' hr hv=>by
   rw[h1] at hr
   cases j with
   | zero=>simp at hr hv;subst hr hv;exact h2
   | succ j=>simp at hr)
  simpa using this
 unfold rZ at hr
 split at hr
 ·rename_i i
  have KW:([i]:List gL)=[i]:=rfl
  rw[KW] at hl
  obtain⟨rv,Mu⟩:∃ rv,fn.results.toList=[rv]:=apG.1 (by simpa using hl)
  have Ua:=tq 0 rv i (by rw[Mu];rfl) (by rw[KW];rfl)
  simp only[an0] at hr
  obtain⟨z,hz,rfl⟩:=hr
  obtain⟨v,h1,h2⟩:=zl (P:=P) hI.W hI.F Ua hz
  have hv:VR gh s.H.length w v z.bD:=by
   rcases h2 with ⟨t,_,_,_,_,mg⟩|CB
   ·exact kq mg.dropped
   ·exact kq CB.dropped
  exact fin (one _ _ Mu h1) (KL hI.W hv)
 ·rename_i dn
  simp only[an0] at hr
  obtain⟨xs,hxs,rfl⟩:=hr
  obtain⟨vs,k1,k2,k3,k4⟩:=Lc (P:=P) hI.W hI.F _ _ xs hl tq hxs
  have Ug:vs.length≠1:=by
   intro h
   rw[<- k1,hl] at h
   obtain⟨i,hi⟩:=apG.1 h
   exact dn i hi
  have cZ:=kU (P:=P) (w:=w) (fn:=fn) (tmps:=a.tmps) k1 k3
  rw[dif_neg (by simpa using Ug)] at cZ
  refine fin cZ (.tuple vs.toArray _ (by simpa using k2) (fun j v x hv hx=>?_))
  simp only[aor,an0] at hx
  obtain⟨y,hy,rfl⟩:=hx
  exact KL hI.W (k4 j v y (by simpa using hv) hy)
theorem py{iV ghI:Gh}{w0 wI:World}(Ml:aX G base H ghI wI)(jW:clean iV)(hI:Inv G base nt L H iV w0 s gh w a){fn:Func}{nI:aJ}(hc:kg P nt fn.results.toList=some nI.results){r:AV}{c:Option gJ}(he:finish H.length nI s=some (r,c)) :
  kY H c/\∃ v aV,(results fn a.tmps).run P w=.ok v w/\l8 G base H iV w0 r c v aV w:=by
 refine⟨nu hI.lo he,?_⟩
 obtain⟨r0,he,hr⟩:=wx he
 suffices hs:∃ v aV,(results fn a.tmps).run P w=.ok v w/\l8 G base H iV w0 r0 c v aV w by
  obtain⟨v,aV,k1,k2⟩:=hs
  rcases hr with rfl|rfl
  ·exact⟨v,aV,k1,k2⟩
  ·exact⟨v,aV,k1,{ k2 with val:=Wo k2.val }⟩
 clear hr
 obtain⟨ho,he⟩:=yw he
 have hold:∀ aV w',aX G base s.H aV w'->wc s.H H.length aV w':=fun aV w' h=>abN Ml hI.lo ho h
 rcases he with he|he|he|he
 ·exact Xb jW hI hc hold he
 ·exact (Kb jW hI hc hold he).2
 ·exact Xe jW hI hc hold he
 ·exact Xc jW hI hc hold he
section
variable {cf:dq}(jH:∀ f args H r c,cf f args H=some (r,c)->kY H c)
include jH
theorem OA{draw:Bool}{o:aM}{z:AV}{s s1:AS}(he:nq G cf draw s o=some (z,s1))(h:fG H s):fG H s1:=by
 have cZ:((aE G cf s o.op).bind fun r=>match r.2 with
   | none=>cond (draw&&(bk r.1).isSome) none (some (r.1,s))
   | some s'=>cond draw none (some (r.1,s')))=some (z,s1)->fG H s1:=by
  intro h1
  simp only[an1] at h1
  obtain⟨⟨z',s'⟩,bH,h1⟩:=h1
  cases s' with
  | none =>
   simp only at h1
   cases hb:(draw&&(bk z').isSome) with
   | true=>rw[hb] at h1;cases h1
   | false =>
    rw[hb] at h1
    simp only[an8,an2,an7] at h1
    rw[<- h1.2];exact h
  | some s' =>
   simp only at h1
   cases draw with
   | true=>cases h1
   | false =>
    simp only[an8,an2,an7] at h1
    rw[<- h1.2];exact KB jH bH h
 unfold nq at he
 cases hg:o.guard with
 | none=>rw[hg] at he;exact cZ he
 | some gw =>
  obtain⟨g,want⟩:=gw
  rw[hg] at he
  simp only at he
  generalize s.T g=X at he
  cases X with
  | bool b =>
   simp only at he
   cases hc:(b==want) with
   | false =>
    rw[hc] at he
    simp only[an8,an2,an7] at he
    rw[<- he.2];exact h
   | true=>rw[hc] at he;exact cZ he
  | tuple vs =>
   cases vs with
   | nil=>simp only[an2,an7] at he;rw[<- he.2];exact h
   | cons v vs=>cases he
  | _=>cases he
theorem qH{draw:Bool} : ∀ (is:List aM) (s s' : AS),fA G cf draw is s=some s'->fG H s->fG H s'
 | [],s,s',he,h=>by simp only[fA,an2] at he;rw[<- he];exact h
 | o :: r,s,s',he,h=>by
  simp only[fA,an1,nn,an0] at he
  obtain⟨s1,⟨⟨z,s2⟩,hz,rfl⟩,he⟩:=he
  have h2:=OA jH hz h
  exact qH r _ s' he (h2.fK (jk _ _ _).1 (jk _ _ _).2.2)
theorem sX(n:Nat):∀ (c:aY) (s s' : AS) (ex:bP),jg G cf n c s=some (ex,s')->fG H s->fG H s'
 | .skip,s,s',ex,he,h=>by simp only[jg,an2,an7] at he;rw[<- he.2];exact h
 | .region d ops,s,s',ex,he,h=>by
  simp only[jg,an0,an7] at he
  obtain⟨s2,he,_,rfl⟩:=he
  exact qH jH ops s s2 he h
 | .seq a b,s,s',ex,he,h=>by
  simp only[jg,an1] at he
  obtain⟨⟨e1,s1⟩,h1,he⟩:=he
  have h2:=sX n a s s1 e1 h1 h
  cases e1 with
  | normal=>exact sX n b s1 s' ex he h2
  | _=>simp only[an2,an7] at he;rw[<- he.2];exact h2
 | .cond c a b,s,s',ex,he,h=>by
  simp only[jg] at he
  split at he
  ·rename_i t _
   cases t with
   | true=>exact sX n a s s' ex he h
   | false=>exact sX n b s s' ex he h
  ·cases he
 | .block id a,s,s',ex,he,h=>by
  simp only[jg,an0] at he
  obtain⟨⟨e1,s1⟩,h1,he⟩:=he
  have h2:=sX n a s s1 e1 h1 h
  cases e1<;>(simp only[an7] at he;rw[<- he.2];exact h2)
 | .loop a,s,s',ex,he,h=>by
  simp only[jg] at he
  have go:∀ (m:Nat) (s:AS),iter (jg G cf n a) m s=some (ex,s')->fG H s->fG H s':=by
   intro m
   induction m with
   | zero=>intro s h;cases h
   | succ m ih =>
    intro s h1 h
    simp only[iter,an1] at h1
    obtain⟨⟨e1,s1⟩,h1,h2⟩:=h1
    have h3:=sX n a s s1 e1 h1 h
    cases e1 with
    | normal=>exact ih s1 h2 h3
    | _=>simp only[an2,an7] at h2;rw[<- h2.2];exact h3
  exact go n s he h
 | .exit id,s,s',ex,he,h=>by simp only[jg,an2,an7] at he;rw[<- he.2];exact h
 | .ret,s,s',ex,he,h=>by simp only[jg,an2,an7] at he;rw[<- he.2];exact h
 | .vn _ _ _,s,s',ex,he,h=>by simp[jg] at he
end
def Gh.taken(gh:Gh):Gh:={ gh with κ:=fun b=>match gh.κ b with|.par j=>.sl j|o=>o }
def afx(p:bC):Prop:=∃ j,p=.par j
theorem tL(hW:aX G base H gh w)(n:Nat):Step afx n gh w gh.taken w:=by
 refine⟨fun _ _ h=>h,fun _ _ _=>rfl,aoa _,rfl,rfl,rfl,fun b hb hn=>⟨.inl rfl,?_,fun _ h=>h⟩,fun b hb=>?_,fun _ _=>rfl,fun _ _ _ h=>h,fun _ _ _ _ h=>h⟩
 ·simp only[Gh.taken]
  cases h:gh.κ b<;>first|rfl|skip
  exact absurd ⟨_,h⟩ hn
 ·simp only[Gh.taken,hW.fresh b hb]
  simp
theorem XJ(hW:aX G base H gh w):aX G base H gh.taken w:=by
 refine hW.step (tL hW H.length) (fun l=>⟨fun h=>(by obtain⟨j,h⟩:=h;cases h),fun k h=>(by obtain⟨j,h⟩:=h;cases h)⟩) hW.nW (fun b hb=>hW.oL b fun h=>hb ?_) (fun _ _ _ h=>.inl h)
 simp[Gh.taken,h]
theorem SL(hW:aX G base H gh w){n j:Nat}{v:Value}{x:AV}(h:CR gh n w (.par j) v x):CR gh.taken n w (.sl j) v x:=by
 have st:=tL hW n
 rcases h with h|⟨e,rfl,h1,h2⟩
 ·exact .inl (h.mono st (aoa _))
 ·refine .inr ⟨e,rfl,h1,?_⟩
  obtain⟨b,cap,C,ty,lo,hi,sz,k1,k2,k3,k4,k5⟩:=h2
  exact⟨b,cap,C,ty,lo,hi,sz,k1,by simp[Gh.taken,k2],k3,k4,k5⟩
theorem yL{H:ah}{fn:Func}{locals muts:List Nat}{args:List AV}{gh:Gh}{w:World}{vs:Array Value}(hW:aX G base H gh w)(ve:vs.size=args.length)(gO:vs.size<=fn.ntmps)(cL:∀ (j:Nat) (v:Value) (x:AV),vs[j]?=some v->args[j]?=some x->CR gh H.length w (.par j) v x) :
  Inv G base fn.ntmps (locals++muts) H gh w ({ T:=gu args,H,lo:=H.length,gen:=0 } : AS) gh.taken w { tmps:=vs++Array.replicate (fn.ntmps-vs.size) undef,defers:=[] }:=by
 have fI:∀ b,w.heap.size<=b->gh.κ b≠.outer:=fun b hb=>hW.bY b hb
 have hE:Ext H.length gh w gh.taken w:=⟨(tL hW H.length).mono (fun p hp=>by obtain⟨j,rfl⟩:=hp;simp[pA]),fun b hb=>by
  simp only[Gh.taken] at hb
  cases h:gh.κ b<;>rw[h] at hb<;>first|exact hb|cases hb⟩
 refine⟨XJ hW,⟨⟨rfl,by simp;omega,fun i hi=>?_⟩,fun i hi=>?_⟩,hE,⟨aoa _,aoa _,fun _ _=>rfl⟩⟩
 ·have mg:CR gh.taken H.length w (.sl i) ((vs++Array.replicate (fn.ntmps-vs.size) undef).getD i undef) (gu args i):=by
   by_cases bf:i<vs.size
   ·have h1:=aop bf
    have h2:=an' (show i<args.length by omega)
    have h3:=cL i _ _ h1 h2
    have e1:(vs++Array.replicate (fn.ntmps-vs.size) undef).getD i undef=vs[i]:=by
     rw[aql,aqw bf,h1];rfl
    have e2:gu args i=args[i]:=by simp only[gu,ao0,h2];rfl
    rw[e1,e2]
    exact SL hW h3
   ·have e1:(vs++Array.replicate (fn.ntmps-vs.size) undef).getD i undef=undef:=by
     rw[aql,Array.getElem?_append_right (by omega)]
     by_cases h:i-vs.size<fn.ntmps-vs.size
     ·simp[h]
     ·simp[h]
    have e2:gu args i=.undef:=by simp only[gu,ao0,ape (show args.length<=i by omega)];rfl
    rw[e1,e2]
    exact .inl .undef
  exact nY mg.aG mg
 ·exfalso
  have hn:bk (gu args i)=none:=by
   by_cases bf:i<args.length
   ·have h1:=aop (show i<vs.size by omega)
    have h2:=an' bf
    have e2:gu args i=args[i]:=by simp only[gu,ao0,h2];rfl
    rw[e2]
    exact ki (cL i _ _ h1 h2).aG
   ·have e2:gu args i=.undef:=by simp only[gu,ao0,ape (show args.length<=i by omega)];rfl
    rw[e2];rfl
  have lD:(bk (gu args i)).isSome=true:=hi
  rw[hn] at lD
  cases lD
theorem Kd{cf:dq}(jH:fc P G cf)(hm:P.follows .mixedOrders=true){f:FuncId}{fn:Func}(zQ:P.funcs[f]?=some fn){ct locals muts:List Nat}{nI:aJ}(hc:oY P ct locals muts fn=some nI)
  {n:Nat} {args:List AV} {r:AV} {c:Option gJ} (he:vU G cf n nI args H=some (r,c)) :
  (fn.body.isSome=true/\fn.name≠ "runtime.NumGoroutine")/\kY H c /\
  ∀ (base:Nat) (gh:Gh) (w:World) (vs:Array Value),aX G base H gh w->clean gh->vs.size=args.length->(∀ (j:Nat) (v:Value) (x:AV),vs[j]?=some v->args[j]?=some x->CR gh H.length w (.par j) v x) ->
   Calls P f vs w fun e w'=>∃ v aV,e=.returned v/\l8 G base H gh w r c v aV w':=by
 simp only[oY,an1] at hc
 obtain⟨code,qL,b,hb,rs,A',hc⟩:=hc
 obtain⟨h0,hc⟩:=ae hc
 injection hc with hc
 subst hc
 simp only[aod,ao2,bne_iff_ne,ne_eq] at h0
 simp only[vU] at he
 obtain⟨h1,he⟩:=ae he
 have DE:args.length=fn.params.size+fn.nfree:=by simpa [fW] using h1
 simp only[an1] at he
 obtain⟨⟨ex,s'⟩,bH,he⟩:=he
 have rN:kY H c:=by
  have qp:=sX (H:=H) (fun f args H r c h=>(jH f args H r c h).2.1) n b _ s' ex bH ⟨aoa _,aoa _,fun _ _=>rfl⟩
  cases ex with
  | normal=>exact nu qp he
  | exit id=>cases he
  | ret=>exact nu qp he
 refine⟨⟨by rw[qL];rfl,h0.2⟩,rN,fun base gh w vs hW jW ve cL=>?_⟩
 refine calls_of_wp zQ qL ?_
 have fI:∀ b,w.heap.size<=b->gh.κ b≠.outer:=fun b hb=>hW.bY b hb
 have gO:vs.size<=fn.ntmps:=by omega
 have hI:=yL (locals:=locals) (muts:=muts) hW ve gO cL
 refine ik jH hm n code b hb _ s' ex gh.taken w _ _ hI bH (fun a' aV w' kW=>?_)
 have done:finish H.length { ct,locals,muts,nt:=fn.ntmps,np:=fn.params.size+fn.nfree,results:=rs,body:=b } s'=some (r,c) ->
   a'.defers=[]/\∃ v,(results fn a'.tmps).run P w'=.ok v w'/\∃ v' aV,Ending.returned v=.returned v'/\l8 G base H gh w r c v' aV w':=by
  intro hf
  obtain⟨_,v,Je,hv,hR⟩:=py (P:=P) hW jW kW A' hf
  exact⟨kW.F.defers,v,hv,v,Je,rfl,hR⟩
 cases ex with
 | normal=>exact done he
 | exit id=>cases he
 | ret=>exact done he
def iQ(P:Program)(G:Nat->List AV)(f:FuncId)(g:List AV->ah->Option (AV × Option gJ)):Prop :=
 ∀ args H r c,g args H=some (r,c)->(∃ fn,P.funcs[f]?=some fn/\fn.body.isSome=true/\fn.name≠ "runtime.NumGoroutine")/\kY H c /\
  ∀ (base:Nat) (gh:Gh) (w:World) (vs:Array Value),aX G base H gh w->clean gh->vs.size=args.length->(∀ (j:Nat) (v:Value) (x:AV),vs[j]?=some v->args[j]?=some x->VR gh H.length w v x) ->
   Calls P f vs w fun e w'=>∃ v aV,e=.returned v/\l8 G base H gh w r c v aV w'
structure oB (P:Program) (A:AP):Prop where
 mixed:P.follows .mixedOrders=true
 fns:∀ f nI,A.fns f=some nI->∃ fn ct locals muts,P.funcs[f]?=some fn/\oY P ct locals muts fn=some nI
 ov:∀ f g,A.ov f=some g->iQ P A.aZ f g
theorem vC{A:AP}(h:oB P A):∀ n,fc P A.aZ (AT A n)
 | 0=>fun f args H r c he=>by cases he
 | n+1=>fun f args H r c he=>by
  simp only[AT] at he
  split at he
  ·rename_i g hg
   obtain⟨h0,he⟩:=ae he
   obtain⟨k1,k2,k3⟩:=h.ov f g hg args H r c he
   refine⟨k1,k2,fun base gh w vs hW jW ve cL=>k3 base gh w vs hW jW ve (fun j v x hv hx=>?_)⟩
   rcases cL j v x hv hx with h|⟨e,rfl,_⟩
   ·exact h
   ·have:=aof.1 h0 _ (aoo hx)
    simp[uP] at this
  ·split at he
   ·cases he
   ·rename_i nI hf
    obtain⟨fn,ct,locals,muts,zQ,hc⟩:=h.fns f nI hf
    obtain⟨⟨h1,h2⟩,h3,h4⟩:=Kd (vC h n) h.mixed zQ hc he
    exact⟨⟨fn,zQ,h1,h2⟩,h3,h4⟩
end
end
end Go.Abs
