/-
  A part of the proof of PrintScans: AbsCode.
-/
import Derived.Test.YtocbgffdpfiidaaGreatDoorP05
set_option linter.unusedSimpArgs false
set_option linter.unusedVariables false
set_option linter.defProp false
namespace Go.Abs
section
def bw.G9:bw->Exit
 | .normal=>.normal
 | .exit id=>.exit id
 | .ret=>.ret
section
variable {P:Program}{G:Nat->List AV}{base nt:Nat}{gh:Gh}{w w' : World}{a:Act}{s:AS}{H:ag}{L:List Nat}
theorem Inv.drew{H0:ag}{gr:Gh}{w0:World}(h:Inv G base nt L H0 gr w0 s gh w a):Inv G base nt L H0 gr w0 s gh { w with drawn:=w.drawn+1 } a:=by
 have st:Step (fun _=>False) s.H.length gh w gh { w with drawn:=w.drawn+1 }:=⟨fun _ _ h=>h,fun _ _ _=>rfl,ahQ _,rfl,rfl,rfl,fun _ _ _=>⟨.inl rfl,rfl,fun _ h=>h⟩,fun b hb=>h.W.bq b hb,fun _ _=>rfl,fun _ _ _ h=>h,fun _ _ _ _ h=>h⟩
 exact⟨h.W.step st (fun l=>⟨id,fun _=>id⟩) h.W.lX h.W.mH (fun _ _ _ h=>.inl h),h.F.grown (H':=s.H) (lo':=s.lo) st (fun i=>⟨id,id,fun _=>id⟩) (ahQ _),
  h.E.trans ⟨st.mono (fun _ h=>h.elim),fun _ h=>h⟩ h.lo.len,h.lo⟩
theorem fR{cf:cz}(ij:dn P G cf)(hm:P.follows .mixedOrders=true){H0:ag}{gr:Gh}{w0:World}{bR locals muts:List Nat}(n:Nat) :
  ∀ (c:Code) (ic:a7),dT P bR locals muts nt c=some ic->∀ (s s' : AS) (ex:bw) (gh:Gh) (w:World) (a:Act) (Q:Exit->Act->World->Prop),Inv G base nt (locals++muts) H0 gr w0 s gh w a->gH G cf n ic s=some (ex,s') ->
   (∀ a' aD w',Inv G base nt (locals++muts) H0 gr w0 s' aD w' a'->Q ex.G9 a' w')->c.wp P Q a w
 | .skip,ic,hc,s,s',ex,gh,w,a,Q,hI,he,hQ=>by
  simp only[dT,ahM] at hc
  subst hc
  simp only[gH,ahM,ahN] at he
  obtain⟨rfl,rfl⟩:=he
  exact wp_skip (hQ a gh w hI)
 | .region id ops draw,ic,hc,s,s',ex,gh,w,a,Q,hI,he,hQ=>by
  simp only[dT,ahL] at hc
  obtain⟨is,Dv,hc⟩:=hc
  cases VQ:cond draw (uW locals ops.toList is) none with
  | some c3 =>
   rw[VQ] at hc
   injection hc with hc
   subst hc
   obtain⟨rfl,mode,pc,es,h1,h2,rfl⟩:=uX VQ
   simp only[gH,ahK,ahN] at he
   obtain⟨s2,he,rfl,rfl⟩:=he
   exact wp_region_any hm (Bj ij (fun x hx=>ahS.2 (.inl hx)) (fun x hx=>ahS.2 (.inr hx)) Q hI.drew Dv h1 h2 he hQ)
  | none =>
  rw[VQ] at hc
  simp only at hc
  cases hb:(!draw || (!(locals.elem 999998)&&rI (locals++muts) (ops.toList.zip is))) with
  | false =>
   rw[hb,ahW] at hc
   obtain⟨_,hc⟩:=ab hc
   injection hc with hc
   subst hc
   simp[gH] at he
  | true =>
  have h0:=hb
  rw[hb,cond_true] at hc
  injection hc with hc
  subst hc
  simp only[gH,ahK,ahN] at he
  obtain⟨s2,he,rfl,rfl⟩:=he
  have vp:∀ x,x∈locals->x∈locals++muts:=fun x hx=>ahS.2 (.inl hx)
  have uu:∀ x,x∈muts->x∈locals++muts:=fun x hx=>ahS.2 (.inr hx)
  cases draw with
  | false=>exact wp_region_list (yw ij vp uu Q ops.toList is s s2 gh w a hI Dv he hQ)
  | true =>
   rw[aiW,ajD] at h0
   have hl:ops.size=is.length:=by simpa using (gG Dv).1
   exact wp_region_any hm (D8 ij vp uu Q hI.drew Dv (CB hl (aku.1 h0).2) he hQ)
 | .seq x y,ic,hc,s,s',ex,gh,w,a,Q,hI,he,hQ=>by
  simp only[dT,ahL,ahK] at hc
  obtain⟨ix,hx,iy,hy,rfl⟩:=hc
  simp only[gH,ahL] at he
  obtain⟨⟨e1,s1⟩,h1,he⟩:=he
  refine wp_seq (fR ij hm n x ix hx s s1 e1 gh w a _ hI h1 (fun a' aD w' jM=>?_))
  cases e1 with
  | normal=>exact fR ij hm n y iy hy s1 s' ex aD w' a' Q jM he hQ
  | exit id =>
   simp only[ahM,ahN] at he
   obtain⟨rfl,rfl⟩:=he
   exact hQ a' aD w' jM
  | ret =>
   simp only[ahM,ahN] at he
   obtain⟨rfl,rfl⟩:=he
   exact hQ a' aD w' jM
 | .cond c x y,ic,hc,s,s',ex,gh,w,a,Q,hI,he,hQ=>by
  simp only[dT,ahL,ahK] at hc
  obtain⟨iq,hq,ix,hx,iy,hy,rfl⟩:=hc
  simp only[gH] at he
  split at he
  ·rename_i t ht
   have hv:=(bS hI.W hI.F hq ht rfl).ik
   cases t with
   | true=>exact wp_cond_true hv (fR ij hm n x ix hx s s' ex gh w a Q hI he hQ)
   | false=>exact wp_cond_false hv (fR ij hm n y iy hy s s' ex gh w a Q hI he hQ)
  ·cases he
 | .block id c,ic,hc,s,s',ex,gh,w,a,Q,hI,he,hQ=>by
  simp only[dT,ahK] at hc
  obtain⟨ix,hx,rfl⟩:=hc
  simp only[gH,ahK] at he
  obtain⟨⟨e1,s1⟩,h1,he⟩:=he
  refine wp_block (fR ij hm n c ix hx s s1 e1 gh w a _ hI h1 (fun a' aD w' jM=>?_))
  cases e1 with
  | normal =>
   simp only[ahN] at he
   obtain⟨rfl,rfl⟩:=he
   exact hQ a' aD w' jM
  | exit i =>
   simp only[ahN] at he
   obtain⟨rfl,rfl⟩:=he
   show if i=id then Q .normal a' w' else Q (.exit i) a' w'
   have:=hQ a' aD w' jM
   rw[dV] at this
   by_cases hi:i=id
   ·rw[if_pos hi];simpa [hi,bw.G9] using this
   ·rw[if_neg hi];simpa [hi,bw.G9] using this
  | ret =>
   simp only[ahN] at he
   obtain⟨rfl,rfl⟩:=he
   exact hQ a' aD w' jM
 | .loop c,ic,hc,s,s',ex,gh,w,a,Q,hI,he,hQ=>by
  simp only[dT,ahK] at hc
  obtain⟨ix,hx,rfl⟩:=hc
  simp only[gH] at he
  have rounds:∀ (m:Nat) (s:AS) (gh:Gh) (w:World) (a:Act),Inv G base nt (locals++muts) H0 gr w0 s gh w a->iter (gH G cf n ix) m s=some (ex,s')->Code.rounds P c Q m a w:=by
   intro m
   induction m with
   | zero=>intro s gh w a _ h;cases h
   | succ m ih =>
    intro s gh w a hI h
    simp only[iter,ahL] at h
    obtain⟨⟨e1,s1⟩,h1,h⟩:=h
    rw[rounds_succ]
    refine fR ij hm n c ix hx s s1 e1 gh w a _ hI h1 (fun a' aD w' jM=>?_)
    cases e1 with
    | normal=>exact ih s1 aD w' a' jM h
    | exit id =>
     simp only[ahM,ahN] at h
     obtain⟨rfl,rfl⟩:=h
     exact hQ a' aD w' jM
    | ret =>
     simp only[ahM,ahN] at h
     obtain⟨rfl,rfl⟩:=h
     exact hQ a' aD w' jM
  exact wp_loop_rounds n (rounds n s gh w a hI he)
 | .exit id,ic,hc,s,s',ex,gh,w,a,Q,hI,he,hQ=>by
  simp only[dT,ahM] at hc
  subst hc
  simp only[gH,ahM,ahN] at he
  obtain⟨rfl,rfl⟩:=he
  exact wp_exit (hQ a gh w hI)
 | .ret,ic,hc,s,s',ex,gh,w,a,Q,hI,he,hQ=>by
  simp only[dT,ahM] at hc
  subst hc
  simp only[gH,ahM,ahN] at he
  obtain⟨rfl,rfl⟩:=he
  exact wp_ret (hQ a gh w hI)
 | .label l,ic,hc,s,s',ex,gh,w,a,Q,hI,he,hQ=>by
  simp only[dT,ahM] at hc
  subst hc
  simp only[gH,ahM,ahN] at he
  obtain⟨rfl,rfl⟩:=he
  exact wp_label (hQ a gh w hI)
 | .scope c,ic,hc,s,s',ex,gh,w,a,Q,hI,he,hQ=>by
  simp only[dT] at hc
  refine wp_scope_straight (fR ij hm n c ic hc s s' ex gh w a _ hI he (fun a' aD w' jM=>?_))
  have:=hQ a' aD w' jM
  cases ex<;>exact this
 | .rangeFunc _ _ _ _,_,hc,_,_,_,_,_,_,_,_,_,_=>by simp[dT] at hc
 | .goto _,_,hc,_,_,_,_,_,_,_,_,_,_=>by simp[dT] at hc
 | .refuse _,_,hc,_,_,_,_,_,_,_,_,_,_=>by simp[dT] at hc
def lU(tmps:Array Value):ResultVar->Sem Value
 | .tmp t=>pure (tmps.getD t undef)
 | .cell a t=>do loadVar t (<- asAddr (tmps.getD a undef))
theorem pO{g:ResultVar->Sem Value} : ∀ (l:List ResultVar) (vs:List Value),l.length=vs.length->(∀ (j:Nat) (r:ResultVar) (v:Value),l[j]?=some r->vs[j]?=some v->(g r).run P w=.ok v w)->(l.mapM g).run P w=.ok vs w
 | [],[],_,_=>by simp
 | r :: l,v :: vs,hl,h=>by
  have h1:=h 0 r v rfl rfl
  have h2:=pO l vs (by simpa using hl) (fun j r v hr hv=>h (j+1) r v (by simpa using hr) (by simpa using hv))
  simp[List.mapM_cons,h1,h2]
 | [],_ :: _,hl,_=>by simp at hl
 | _ :: _,[],hl,_=>by simp at hl
theorem js{fn:Func}{tmps:Array Value}{vs:List Value}(hl:fn.results.toList.length=vs.length)(h:∀ (j:Nat) (r:ResultVar) (v:Value),fn.results.toList[j]?=some r->vs[j]?=some v->(lU tmps r).run P w=.ok v w) :
  (results fn tmps).run P w=.ok (if h:vs.toArray.size=1 then vs.toArray[0] else .tuple vs.toArray) w:=by
 have e:results fn tmps=(do let vs <- fn.results.mapM (lU tmps);pure (if h:vs.size=1 then vs[0] else .tuple vs)):=by
  unfold results
  congr 1
 rw[e,Sem.run_bind]
 have h2:(fn.results.mapM (lU tmps)).run P w=.ok vs.toArray w:=by
  rw[Array.mapM_eq_mapM_toList]
  have:=pO (P:=P) (w:=w) fn.results.toList vs hl h
  simp[this]
 rw[h2]
 rfl
theorem jk:∀ {l:List ResultVar} {rs:List fI},iT P nt l=some rs->l.length=rs.length/\∀ (j:Nat) (r:ResultVar) (i:fI),l[j]?=some r->rs[j]?=some i ->
  (∃ t,r=.tmp t/\i=.tmp t/\t<nt)\/∃ t ty g sz,r=.cell t ty/\i=.cell t g sz/\t<nt/\ke P ty=some g/\cY P ty=some sz
 | [],rs,h=>by simp[iT] at h;subst h;exact⟨rfl,fun j r i h=>by simp at h⟩
 | .tmp t :: l,rs,h=>by
  simp only[iT] at h
  obtain⟨h0,h⟩:=ab h
  simp only[ahK] at h
  obtain⟨rs',hr,rfl⟩:=h
  obtain⟨h1,h2⟩:=jk hr
  refine⟨by simp[h1],fun j r i hj hi=>?_⟩
  cases j with
  | zero=>simp at hj hi;subst hj hi;exact .inl ⟨t,rfl,rfl,by simpa [aih] using h0⟩
  | succ j=>exact h2 j r i (by simpa using hj) (by simpa using hi)
 | .cell t ty :: l,rs,h=>by
  simp only[iT] at h
  obtain⟨h0,h⟩:=ab h
  simp only[ahL,ahK] at h
  obtain⟨g,hg,sz,hs,rs',hr,rfl⟩:=h
  obtain⟨h1,h2⟩:=jk hr
  refine⟨by simp[h1],fun j r i hj hi=>?_⟩
  cases j with
  | zero=>simp at hj hi;subst hj hi;exact .inr ⟨t,ty,g,sz,rfl,rfl,by simpa [aih] using h0,hg,hs⟩
  | succ j=>exact h2 j r i (by simpa using hj) (by simpa using hi)
theorem vY(hW:aF G base s.H gh w)(hF:FR L nt gh w a s){r:ResultVar}{i:fI}(hc:(∃ t,r=.tmp t/\i=.tmp t/\t<nt)\/∃ t ty g sz,r=.cell t ty/\i=.cell t g sz/\t<nt/\ke P ty=some g/\cY P ty=some sz)
  {z:AV} (hz:iz s i=some z):∃ v,(lU a.tmps r).run P w=.ok v w/\((∃ t,i=.tmp t/\t<nt/\v=dQ a t/\z=s.T t/\CR gh s.H.length w (.sl t) v z)\/VR gh s.H.length w v z):=by
 rcases hc with ⟨t,rfl,rfl,ht⟩|⟨t,ty,g,sz,rfl,rfl,ht,hg,hs⟩
 ·refine⟨dQ a t,rfl,.inl ⟨t,rfl,ht,rfl,?_⟩⟩
  simp only[iz] at hz
  obtain⟨h0,hz⟩:=ab hz
  injection hz with hz
  subst hz
  have h:=hF.slot t ht
  change SR gh s.H.length nt w s.T s.gen (dQ a) t (dQ a t) (s.T t) at h
  refine⟨rfl,?_⟩
  generalize s.T t=X at h h0
  cases X<;>first|exact h|(simp[aq] at h0)
 ·have h:=hF.slot t ht
  change SR gh s.H.length nt w s.T s.gen (dQ a) t (dQ a t) (s.T t) at h
  simp only[iz] at hz
  have run:∀ {b:Nat} {f:Nat->Value} {cs:List AV},dQ a t=.pointer (some ⟨b,0,none⟩)->ar false g sz 0 cs=some z->(∀ (j:Nat) (x:AV),cs[j]?=some x->w.cell? ⟨b,0+j,none⟩=some (f j)/\(f j).oneCell'=true/\VR gh s.H.length w (f j) x.drop) ->
    ∃ v,(lU a.tmps (.cell t ty)).run P w=.ok v w/\((∃ t',fI.cell t g sz=.tmp t'/\t' < nt/\v=dQ a t'/\z=s.T t'/\CR gh s.H.length w (.sl t') v z)\/VR gh s.H.length w v z):=by
   intro b f cs hb hl hf
   obtain⟨v,h1,h2⟩:=jd (P:=P) hl hg hs hf
   refine⟨v,?_,.inr h2⟩
   have fE:a.tmps.getD t undef=.pointer (some ⟨b,0,none⟩):=hb
   show (do loadVar ty (<- asAddr (a.tmps.getD t undef)):Sem Value).run P w=_
   rw[fE]
   simpa [asAddr] using h1
  split at hz
  ·rename_i gg cs hT
   rw[hT] at h
   obtain⟨_,b,hb,hB⟩:=h
   obtain⟨f,hf⟩:=mN hB
   exact run hb hz hf
  ·rename_i loc hT
   rw[hT] at h
   have hv:=CR.dropped (h:CR gh s.H.length w (.sl t) (dQ a t) (.ref loc 0))
   obtain⟨aZ,hp⟩:=VR.gR hv
   split at hz
   ·rename_i J4 cs hH
    obtain⟨f,hf⟩:=mN (hW.boxes loc _ cs hH)
    exact run hp hz hf
   ·cases hz
  ·cases hz
theorem freeze(hW:aF G base s.H gh w)(hF:FR L nt gh w a s){b g:Nat}{e:List (List AV)}(hb:b<nt)(hT:s.T b=.lsl g e)(pb:gM e=true) :
  ∃ aD,aF G base s.H aD w/\Ext s.H.length gh w aD w/\CR aD s.H.length w .ret (dQ a b) (.slice e true):=by
 obtain⟨ad,cap,hV,⟨rfl,rfl,vy⟩|⟨k,C,ty,sz,cS,rfl,hκ,hS,hk,hC,hl,hr,fq⟩⟩:=lY hF hb hT
 ·refine⟨gh,hW,Ext.refl _ _ _ (fun b hb=>hW.bq b hb),.inl ?_⟩
  rw[hV]
  refine .full ad 0 [] ?_ (fun Zb h _=>(vy Zb h).2)
  cases ad with
  | none=>exact .cy
  | some ad =>
   obtain⟨b',o',sp⟩:=ad
   have:=(vy _ rfl).1
   simp only at this
   subst this
   exact .slice b' o' 0 0 0 [] (fun _ _=>undef) rfl (ahQ _) (fun i r h=>by simp at h) (fun i j r x h=>by simp at h) (fun i j r x h=>by simp at h)
 ·have j6:∀ o,gh.S k o->C[o]?=C[o]?:=fun _ _=>rfl
  have hn:gh.κ k≠.none:=by rw[hκ];simp
  have Qm:∀ j m,j<e.length*sz->C[j]?=some (.int .u8 m)->ty=fQ:=by
   intro j m hj hc
   have cv:fW gh.S w sz (C.toList.take (e.length*sz)).toArray e:=by
    have hle:e.length*sz<=C.size:=by rw[hC];exact ah7 _ hl
    refine⟨by simp;omega,hr,fun i j r x hi hj=>?_⟩
    obtain⟨u,hu,hp⟩:=fq i j r x hi hj
    refine⟨u,?_,hp⟩
    have h1:=(ahO.1 hi).1
    have h2:j<sz:=by rw[<- hr i r hi];exact (ahO.1 hj).1
    simp only[ah9,ah5,if_pos (qu h1 h2)]
    simpa using hu
   refine lW (isB:=false) (m:=m) cv pb (fun h=>by cases h) hj ?_
   simp only[ah9,ah5,if_pos hj]
   simpa using hc
  have hE:=uC hW hk rfl (fun o=>o<e.length*sz) j6 (p:=.ret) (by simp) hn (by rw[hκ];simp) s.H.length
  have j0:=HH hW hk rfl (fun o=>o<e.length*sz) j6 Qm .ret hn (by rw[hκ];simp)
  have LH:=setRow_self w k C ty (0,0) hk
  rw[LH] at hE j0
  refine⟨_,j0,hE,.inr ⟨e,rfl,?_,k,cap,C,ty,0,0,sz,hV,by simp,cS,hk,hC,hr,hl,aiB _,?_⟩⟩
  ·rw[hV]
   have key:∀ (i j:Nat) (r:List AV) (x:AV),e[i]?=some r->r[j]?=some x->C[i*sz+j]?=some (C.getD (i*sz+j) undef)/\PR gh.S w (C.getD (i*sz+j) undef) x/\i*sz+j<e.length*sz:=by
    intro i j r x hi hj
    obtain⟨u,hu,hp⟩:=fq i j r x hi hj
    have aZ:=(ahT.1 hu).1
    have:C.getD (i*sz+j) undef=u:=by
     rw[ahY aZ] at hu
     injection hu with hu
     simp[aZ,hu]
    rw[this]
    exact⟨hu,hp,qu (ahO.1 hi).1 (by rw[<- hr i r hi];exact (ahO.1 hj).1)⟩
   refine .slice k 0 e.length cap sz e (fun i j=>C.getD (i*sz+j) undef) rfl hl hr (fun i j r x hi hj=>?_) (fun i j r x hi hj=>?_)
   ·obtain⟨h1,h2,h3⟩:=key i j r x hi hj
    refine⟨.inr ⟨rfl,by simpa using h3⟩,?_,h2.dv⟩
    rw[Nat.zero_add,cell_of_row w k _ C ty _ hk];exact h1
   ·exact (key i j r x hi hj).2.1.mono (fun b o h=>.inl h) (fun _ _ _=>rfl) (fun _ _ _ _ h=>h)
  ·rintro o ho (h|⟨_,h⟩)
   ·exact hS o h
   ·omega
theorem VR.aN{n m:Nat}{v:Value}{x:AV}(h:VR gh n w v x)(hx:x.aN m=true):VR gh m w v x:=by
 cases x
 case ref loc off =>
  obtain⟨_,rfl⟩:=h.gR
  exact .ref loc off (by simpa [AV.aN,aih] using hx)
 case sref loc off k z =>
  obtain⟨_,cap,hk,hz,rfl⟩:=h.il
  exact .sref loc off k cap z (by simpa [AV.aN,aih] using hx) hk hz
 case mref loc =>
  obtain⟨_,rfl⟩:=h.lM
  exact .mref loc (by simpa [AV.aN,aih] using hx)
 all_goals exact .plain _ _ (h.iS hx)
theorem VR.bf{n m:Nat}{v:Value}{x:AV}(h:VR gh n w v x)(hx:x.bf m=true):VR gh m w v x:=by
 cases x
 case agg cs =>
  obtain⟨C,rfl,hs,dY,hc⟩:=h.iW
  exact .agg C cs hs dY (fun j v x hv mG=>(hc j v x hv mG).aN (ahU.1 hx x (ahZ mG)))
 all_goals exact h.aN hx
theorem VR.leaves{n m:Nat}{v:Value}{x:AV}(h:VR gh n w v x)(hx:x.leaves m=true):VR gh m w v x:=by
 cases x
 case func f fs cs =>
  simp only[AV.leaves,ahR] at hx
  obtain⟨us,ts,rfl,h1,h2,h3,h4⟩:=h.oH
  exact .func f us ts fs cs h1 h2 (fun j v x hv mG=>(h3 j v x hv mG).aN (ahU.1 hx.1 x (ahZ mG))) (fun j v x hv mG=>(h4 j v x hv mG).aN (ahU.1 hx.2 x (ahZ mG)))
 case iface t y =>
  cases h with
  | plain _ _ h=>exact .plain _ _ h
  | iface _ u _ h=>exact .iface t u y (h.aN hx)
 case tuple vs =>
  obtain⟨us,rfl,hs,h1⟩:=h.pf
  exact .tuple us vs hs (fun j v x hv mG=>(h1 j v x hv mG).bf (ahU.1 hx x (ahZ mG)))
 case slice e own =>
  cases h with
  | plain _ _ h=>exact .plain _ _ h
  | full a k _ h hz=>exact .full a k e h hz
 all_goals exact h.bf hx
theorem CR.leaves{n m:Nat}{p:aW}{v:Value}{x:AV}(h:CR gh n w p v x)(hx:x.leaves m=true):CR gh m w p v x:=by
 rcases h with h|h
 ·exact .inl (h.leaves hx)
 ·exact .inr h
theorem VR.fF{n m loc:Nat}{v:Value}{x:AV}(h:VR gh n w v x)(hx:fF loc x=true)(hl:loc<m):VR gh m w v x:=by
 cases x
 case ref l off =>
  obtain⟨_,rfl⟩:=h.gR
  have:l<=loc:=by simpa [Abs.fF,aiq] using hx
  exact .ref l off (by omega)
 case sref l off k z =>
  obtain⟨_,cap,hk,hz,rfl⟩:=h.il
  have:l<=loc:=by simpa [Abs.fF,aiq] using hx
  exact .sref l off k cap z (by omega) hk hz
 case mref l =>
  obtain⟨_,rfl⟩:=h.lM
  have:l<=loc:=by simpa [Abs.fF,aiq] using hx
  exact .mref l (by omega)
 case slice e own =>
  cases h with
  | plain _ _ h=>exact .plain _ _ h
  | full a k _ h hz=>exact .full a k e h hz
 all_goals exact .plain _ _ (h.iS hx)
theorem VR.jG{n m loc:Nat}{v:Value}{x:AV}(h:VR gh n w v x)(hx:jG loc x=true)(hl:loc<m):VR gh m w v x:=by
 cases x
 case agg cs =>
  obtain⟨C,rfl,hs,dY,hc⟩:=h.iW
  exact .agg C cs hs dY (fun j v x hv mG=>(hc j v x hv mG).fF (ahU.1 hx x (ahZ mG)) hl)
 all_goals exact h.fF hx hl
theorem VR.aR{n m loc:Nat}{v:Value}{x:AV}(h:VR gh n w v x)(hx:aR loc x=true)(hl:loc<m):VR gh m w v x:=by
 cases x
 case ref l off =>
  obtain⟨_,rfl⟩:=h.gR
  have:l<=loc:=by simpa [Abs.aR,aiq] using hx
  exact .ref l off (by omega)
 case sref l off k z =>
  obtain⟨_,cap,hk,hz,rfl⟩:=h.il
  have:l<=loc:=by simpa [Abs.aR,aiq] using hx
  exact .sref l off k cap z (by omega) hk hz
 case mref l =>
  obtain⟨_,rfl⟩:=h.lM
  have:l<=loc:=by simpa [Abs.aR,aiq] using hx
  exact .mref l (by omega)
 case slice e own =>
  cases h with
  | plain _ _ h=>exact .plain _ _ h
  | full a k _ h hz=>exact .full a k e h hz
 case func f fs cs =>
  simp only[Abs.aR,ahR] at hx
  obtain⟨us,ts,rfl,h1,h2,h3,h4⟩:=h.oH
  exact .func f us ts fs cs h1 h2 (fun j v x hv mG=>(h3 j v x hv mG).jG (ahU.1 hx.1 x (ahZ mG)) hl) (fun j v x hv mG=>(h4 j v x hv mG).jG (ahU.1 hx.2 x (ahZ mG)) hl)
 all_goals exact .plain _ _ (h.iS hx)
theorem PR.lower{S:Nat->Nat->Prop}{w0:World}{v0:Value}{x:AV}(h:PR S w0 v0 x){n m:Nat} : ∀ {v:Value},VR gh n w v x->VR gh m w v x:=by
 induction h with
 | iface t v0 x h ih =>
  intro v hv
  cases hv with
  | plain _ _ h=>exact .plain _ _ h
  | iface _ u _ h=>exact .iface t u x (ih h)
 | func f =>
  intro v hv
  cases hv with
  | plain _ _ h=>exact .plain _ _ h
  | func _ fs cs _ _ h1 h2 h3 h4=>exact .func f fs cs [] [] h1 h2 (fun j v x _ hx=>by simp at hx) (fun j v x _ hx=>by simp at hx)
 | _ =>
  intro v hv
  cases hv<;>exact .plain _ _ ‹_›
theorem VR.lower{gr:Gh}{w0:World}{m:Nat}{v0:Value}{x:AV}(h:VR gr m w0 v0 x){n:Nat} : ∀ {v:Value},VR gh n w v x->VR gh m w v x:=by
 induction h with
 | plain v0 x h=>intro v hv;exact h.lower hv
 | full a k e h hz =>
  intro v hv
  cases hv with
  | plain _ _ h=>cases h
  | full a k _ h hz=>exact .full a k e h hz
 | ref loc off h=>intro v hv;obtain⟨_,rfl⟩:=hv.gR;exact .ref loc off h
 | sref loc off k cap z h hk hz=>intro v hv;obtain⟨_,cap,hk,hz,rfl⟩:=hv.il;exact .sref loc off k cap z h hk hz
 | mref loc h=>intro v hv;obtain⟨_,rfl⟩:=hv.lM;exact .mref loc h
 | func f fs cs xs ys hf hc _ _ ih1 ih2 =>
  intro v hv
  obtain⟨us,ts,rfl,h1,h2,h3,h4⟩:=hv.oH
  refine .func f us ts xs ys h1 h2 (fun j v x hv hx=>?_) (fun j v x hv hx=>?_)
  ·have hj:j<fs.size:=by rw[hf];exact (ahO.1 hx).1
   exact ih1 j _ x (ahY hj) hx (h3 j v x hv hx)
  ·have hj:j<cs.size:=by rw[hc];exact (ahO.1 hx).1
   exact ih2 j _ x (ahY hj) hx (h4 j v x hv hx)
 | iface t v0 x h ih =>
  intro v hv
  cases hv with
  | plain _ _ h=>exact .plain _ _ h
  | iface _ u _ h=>exact .iface t u x (ih h)
 | agg cs xs hs dY _ ih =>
  intro v hv
  obtain⟨C,rfl,rq,LA,hc⟩:=hv.iW
  refine .agg C xs rq LA (fun j v x hv hx=>?_)
  have hj:j<cs.size:=by rw[hs];exact (ahO.1 hx).1
  exact ih j _ x (ahY hj) hx (hc j v x hv hx)
 | tuple vs xs hs _ ih =>
  intro v hv
  obtain⟨us,rfl,rq,h1⟩:=hv.pf
  refine .tuple us xs rq (fun j v x hv hx=>?_)
  have hj:j<vs.size:=by rw[hs];exact (ahO.1 hx).1
  exact ih j _ x (ahY hj) hx (h1 j v x hv hx)
def ta(H:ag)(m:Nat)(gh:Gh)(w:World):Prop:=∀ (l:Nat) (cs:List AV),l<m->H[l]?=some (.dM cs)->fH gh m w (gh.ρ l) (.hb l) (fun j=>.hs l j) cs
theorem Xz{ZG:Gh}{wI:World}{H0:ag}(IW:aF G base H0 ZG wI)(wQ:dG H0 s)(ho:mA H0.length s=true)(hW:aF G base s.H gh w):ta s.H H0.length gh w:=by
 intro l cs hl hH
 obtain⟨h1,h2,C,J5,h3,h4,h5⟩:=(hW.more l _ hH:fH gh s.H.length w (gh.ρ l) (.hb l) (fun j=>.hs l j) cs)
 refine⟨h1,h2,C,J5,h3,h4,fun j v x hv hx=>⟨(h5 j v x hv hx).1,?_⟩⟩
 have kq:=(h5 j v x hv hx).2
 by_cases Uq:l<s.lo
 ·have hH0:H0[l]?=some (.dM cs):=by rw[<- wQ.same l Uq];exact hH
  obtain⟨_,_,C0,J4,g3,g4,g5⟩:=(IW.more l _ hH0:fH ZG H0.length wI (ZG.ρ l) (.hb l) (fun j=>.hs l j) cs)
  have hj:j<C0.size:=by have:=(ahO.1 hx).1;omega
  rcases kq with zI|Wa
  ·rcases (g5 j _ x (ahY hj) hx).2 with k|⟨e,rfl,_⟩
   ·exact .inl (k.lower zI)
   ·cases zI with
    | plain _ _ h=>cases h
    | full a k _ h hz=>exact .inl (.full a k e h hz)
  ·exact .inr Wa
 ·have hc:x.aN H0.length=true:=by
   unfold mA at ho
   cases hb:Nat.beq s.lo H0.length with
   | true=>have:=aiK hb;omega
   | false =>
    rw[hb,ahW] at ho
    have hm:dm.dM cs∈(s.H.take H0.length).drop s.lo:=by
     refine ahZ (i:=l-s.lo) ?_
     rw[ail,ah5,if_pos (by omega),show s.lo+(l-s.lo)=l by omega]
     exact hH
    exact ahU.1 (ahU.1 ho _ hm) x (ahZ hx)
  rcases kq with zI|⟨e,rfl,_⟩
  ·exact .inl (zI.aN hc)
  ·simp[AV.aN,AV.plain] at hc
theorem CR.aR{n m loc:Nat}{p:aW}{v:Value}{x:AV}(h:CR gh n w p v x)(hx:aR loc x=true)(hl:loc<m):CR gh m w p v x:=by
 rcases h with h|h
 ·exact .inl (h.aR hx hl)
 ·exact .inr h
theorem aF.Ao(hW:aF G base H gh w){m:Nat}(hm:m<=H.length)(hold:ta H m gh w):aF G base (H.take m) gh w:=by
 have Uo:(H.take m).length=m:=by simp;omega
 refine⟨hW.size,hW.lX,hW.mH,hW.aP,fun loc ty cs hl=>?_,fun loc ty cs hl=>?_,hW.uj,hW.bytes,fun loc o hl=>?_,fun loc ty cs hl=>?_⟩
 rotate_left 2
 ·rw[ah5] at hl
  split at hl
  ·rename_i aZ
   have h:=hW.more loc o hl
   rw[Uo]
   cases o with
   | map kz ka va es =>
    obtain⟨⟨h1,h2,E,ck,f,h3,h4,h5,h6⟩,h7⟩:=h
    refine⟨⟨h1,h2,E,ck,f,h3,h4,h5,fun i j r x hi hj hl=>?_⟩,h7⟩
    have hc:=ahU.1 (ahU.1 h7 r (ahZ hi)) x (ahZ hj)
    obtain⟨k1,k2,k3⟩:=h6 i j r x hi hj hl
    refine⟨k1,fun hv=>?_,k3.aR hc aZ⟩
    exact (k2 hv).aR hc aZ
   | di kz ka va es=>exact h
   | Fq cs=>exact h
   | dM cs=>exact hold loc cs aZ hl
   | _=>trivial
  ·cases hl
 ·rw[ah5] at hl
  split at hl
  ·exact hW.types loc ty cs hl
  ·cases hl
 ·rw[ah5] at hl
  split at hl
  ·rename_i aZ
   obtain⟨h1,h2,C,J5,h3,h4,h5⟩:=hW.boxes loc _ cs hl
   refine⟨h1,h2,C,J5,h3,h4,fun j v x hv hx=>⟨(h5 j v x hv hx).1,?_⟩⟩
   have hlen:(H.take m).length=m:=by simp;omega
   rw[hlen]
   exact (h5 j v x hv hx).2.aR (ahU.1 (hW.refs loc _ cs hl) x (ahZ hx)) aZ
  ·cases hl
 ·rw[ah5] at hl
  split at hl
  ·exact hW.refs loc _ cs hl
  ·cases hl
theorem HF(hW:aF G base s.H gh w)(hF:FR L nt gh w a s):∀ (l:List ResultVar) (rs:List fI) (xs:List AV),l.length=rs.length->(∀ (j:Nat) (r:ResultVar) (i:fI),l[j]?=some r->rs[j]?=some i ->
    (∃ t,r=.tmp t/\i=.tmp t/\t<nt)\/∃ t ty g sz,r=.cell t ty/\i=.cell t g sz/\t<nt/\ke P ty=some g/\cY P ty=some sz)->mC s rs=some xs ->
    ∃ vs:List Value,l.length=vs.length/\vs.length=xs.length/\(∀ (j:Nat) (r:ResultVar) (v:Value),l[j]?=some r->vs[j]?=some v->(lU a.tmps r).run P w=.ok v w)/\∀ (j:Nat) (v:Value) (x:AV),vs[j]?=some v->xs[j]?=some x->VR gh s.H.length w v x:=by
 intro l
 induction l with
 | nil =>
  intro rs xs hl _ h
  have:rs=[]:=ajC.1 (by simpa using hl.symm)
  subst this
  simp only[mC,ahM] at h
  subst h
  exact⟨[],rfl,rfl,fun j r v h=>by simp at h,fun j v x h=>by simp at h⟩
 | cons rv l ih =>
  intro rs xs hl hc h
  cases rs with
  | nil=>simp at hl
  | cons i rs =>
   simp only[mC,ahL,ahK] at h
   obtain⟨z,hz,ys,LL,rfl⟩:=h
   obtain⟨v,h1,h2⟩:=vY (P:=P) hW hF (hc 0 rv i rfl rfl) hz
   have hv:VR gh s.H.length w v z.bc:=by
    rcases h2 with ⟨t,_,_,_,_,kq⟩|zI
    ·exact iZ kq.dropped
    ·exact iZ zI.dropped
   obtain⟨vs,k1,k2,k3,k4⟩:=ih rs ys (by simpa using hl) (fun j r i hr hi=>hc (j+1) r i (by simpa using hr) (by simpa using hi)) LL
   refine⟨v :: vs,by simp[k1],by simp[k2],fun j r u hr hu=>?_,fun j u x hu hx=>?_⟩
   ·cases j with
    | zero=>simp at hr hu;subst hr hu;exact h1
    | succ j=>exact k3 j r u (by simpa using hr) (by simpa using hu)
   ·cases j with
    | zero=>simp at hu hx;subst hu hx;exact hv
    | succ j=>exact k4 j u x (by simpa using hu) (by simpa using hx)
theorem GG{gr:Gh}{w0:World}(jb:clean gr)(hI:Inv G base nt L H gr w0 s gh w a){fn:Func}{rs:List fI}(hc:iT P nt fn.results.toList=some rs){r:AV}{c:Option fD}(hold:∀ aD w',aF G base s.H aD w'->ta s.H H.length aD w')(he:jF H.length rs s=some (r,c)) :
  j8 H c/\∃ v aD,(results fn a.tmps).run P w=.ok v w/\j9 G base H gr w0 r c v aD w:=by
 simp only[jF,ahL] at he
 obtain⟨r',hr,he⟩:=he
 obtain⟨Dw,he⟩:=ab he
 simp only[ahM,ahN] at he
 obtain⟨rfl,pa⟩:=he
 have hlen:=hI.lo.len
 have mb:lP H c=s.H.take H.length:=by
  cases hb:Nat.beq s.lo H.length with
  | false=>rw[hb] at pa;subst pa;rfl
  | true =>
   rw[hb] at pa
   subst pa
   have wQ:s.lo=H.length:=aiK hb
   show H=_
   refine ajo fun l=>?_
   rw[ah5]
   split
   ·rename_i hl;exact (hI.lo.same l (by omega)).symm
   ·rename_i hl;exact air (by omega)
 have vx:(lP H c).length=H.length:=by rw[mb];simp;omega
 have acK:j8 H c:=by
  refine⟨ajm vx.symm,fun c' xg=>?_⟩
  cases hb:Nat.beq s.lo H.length with
  | true=>rw[hb] at pa;rw[<- pa] at xg;cases xg
  | false =>
   rw[hb] at pa
   rw[<- pa] at xg
   simp only[ahW,ahM] at xg
   subst xg
   refine⟨hI.lo.lo,fun l hl=>?_⟩
   have:=hI.lo.lo
   rw[ah5,if_pos (by simp only at hl;omega)]
   exact hI.lo.same l hl
 refine⟨acK,?_⟩
 have fin:∀ {v:Value} {aD:Gh},(results fn a.tmps).run P w=.ok v w->aF G base s.H aD w->Ext s.H.length gh w aD w->CR aD s.H.length w .ret v r'->∃ v aD,(results fn a.tmps).run P w=.ok v w/\j9 G base H gr w0 r' c v aD w:=by
  intro v aD h1 h2 h3 h4
  have hE:=hI.E.trans h3 hlen
  refine⟨v,aD,h1,ajm vx.symm,by rw[mb];exact h2.Ao hlen (hold _ _ h2),?_,hE.out,by rw[vx];exact h4.leaves Dw⟩
  have st:=hE.step
  refine⟨st.S,st.cell,st.size,st.os,st.tape,st.output,fun b hb hn=>st.xB b hb (fun ht=>hn ?_),st.fresh,st.ρ,st.len,st.mp⟩
  rcases jb b with h|h|h|h
  ·exact absurd h ht.1
  ·exact absurd h ht.2
  ·exact .inl h
  ·exact .inr h
 obtain⟨hl,qk⟩:=jk hc
 have hrefl:Ext s.H.length gh w gh w:=Ext.refl _ _ _ (fun b hb=>hI.W.bq b hb)
 have one:∀ (rv:ResultVar) (v:Value),fn.results.toList=[rv]->(lU a.tmps rv).run P w=.ok v w->(results fn a.tmps).run P w=.ok v w:=by
  intro rv v h1 h2
  have:=js (P:=P) (w:=w) (fn:=fn) (tmps:=a.tmps) (vs:=[v]) (by rw[h1];rfl) (fun j r' v' hr hv=>by
   rw[h1] at hr
   cases j with
   | zero=>simp at hr hv;subst hr hv;exact h2
   | succ j=>simp at hr)
  simpa using this
 unfold lV at hr
 split at hr
 ·rename_i i
  have Hr:([i]:List fI)=[i]:=rfl
  rw[Hr] at hl
  obtain⟨rv,I3⟩:∃ rv,fn.results.toList=[rv]:=ai6.1 (by simpa using hl)
  have Qi:=qk 0 rv i (by rw[I3];rfl) (by rw[Hr];rfl)
  split at hr
  ·rename_i b bp
   rcases Qi with ⟨t,rfl,rfl,ht⟩|⟨t,ty,g,sz,rfl,rfl,_⟩
   ·simp only[nJ] at bp
    have tC:=hI.F.slot t ht
    change SR gh s.H.length nt w s.T s.gen (dQ a) t (dQ a t) (s.T t) at tC
    split at bp
    ·rename_i g e hT
     injection bp with bp
     subst bp
     rw[hT] at hr
     obtain⟨pb,hr⟩:=ab hr
     injection hr with hr
     subst hr
     obtain⟨aD,h2,h3,h4⟩:=freeze hI.W hI.F ht hT pb
     exact fin (one _ _ I3 rfl) h2 h3 h4
    ·rename_i b' g hT
     rw[hT] at tC
     obtain⟨fE,_,hv⟩:=tC
     split at bp
     ·rename_i g' e ZM
      obtain⟨h0,bp⟩:=ab bp
      injection bp with bp
      subst bp
      rw[ZM] at hr
      obtain⟨pb,hr⟩:=ab hr
      injection hr with hr
      subst hr
      have AL:g=g':=by simpa [dV] using h0
      have fY:dQ a t=dQ a b':=hv (by rw[ZM,AL];rfl)
      obtain⟨aD,h2,h3,h4⟩:=freeze hI.W hI.F fE ZM pb
      exact fin (one _ _ I3 rfl) h2 h3 (by show CR aD s.H.length w .ret (dQ a t) _;rw[fY];exact h4)
     ·cases bp
    ·cases bp
   ·cases bp
  ·obtain⟨v,h1,h2⟩:=vY (P:=P) hI.W hI.F Qi hr
   rcases h2 with ⟨t,_,ht,rfl,hz,kq⟩|zI
   ·rcases kq with zI|⟨e,rfl,_⟩
    ·exact fin (one _ _ I3 h1) hI.W hrefl (.inl zI)
    ·obtain⟨aD,h2,_,h3,_,h4⟩:=rK hI.W hI.F ht hz.symm .ret (by simp)
     exact fin (one _ _ I3 h1) h2 h3 h4
   ·exact fin (one _ _ I3 h1) hI.W hrefl (.inl zI)
 ·rename_i cS
  simp only[ahK] at hr
  obtain⟨xs,Wo,rfl⟩:=hr
  obtain⟨vs,k1,k2,k3,k4⟩:=HF (P:=P) hI.W hI.F _ _ xs hl qk Wo
  have Y1:vs.length≠1:=by
   intro h
   rw[<- k1,hl] at h
   obtain⟨i,hi⟩:=ai6.1 h
   exact cS i hi
  have cg:=js (P:=P) (w:=w) (fn:=fn) (tmps:=a.tmps) k1 k3
  rw[dif_neg (by simpa using Y1)] at cg
  exact fin cg hI.W hrefl (.inl (.tuple vs.toArray xs (by simpa using k2) (fun j v x hv hx=>k4 j v x (by simpa using hv) hx)))
theorem BO{rs:List fI}(hI:dG H s){r:AV}{c:Option fD}(he:jF H.length rs s=some (r,c)):j8 H c:=by
 simp only[jF,ahL] at he
 obtain⟨r',hr,he⟩:=he
 obtain⟨Dw,he⟩:=ab he
 simp only[ahM,ahN] at he
 obtain⟨rfl,pa⟩:=he
 have hlen:=hI.len
 cases hb:Nat.beq s.lo H.length with
 | true=>rw[hb] at pa;subst pa;exact⟨ahQ _,fun c' h=>by cases h⟩
 | false =>
  rw[hb] at pa
  subst pa
  refine⟨by simp[lP];omega,fun c' xg=>?_⟩
  simp only[ahW,ahM] at xg
  subst xg
  refine⟨hI.lo,fun l hl=>?_⟩
  have:=hI.lo
  rw[ah5,if_pos (by simp only at hl;omega)]
  exact hI.same l hl
theorem vg{m:Nat}{rs:List fI}{r:AV}{c:Option fD}(he:qe m rs s=some (r,c)):rs.length≠1/\∃ xs e,sQ s m rs=some (xs,some e)/\r=.tuple xs/\c=some ⟨s.H.take m++[.box cN e.flatten],s.lo⟩:=by
 unfold qe at he
 cases hb:Nat.beq rs.length 1 with
 | true=>rw[hb] at he;cases he
 | false =>
  rw[hb] at he
  simp only[ahW,ahL,ahK,ahN] at he
  obtain⟨⟨xs,eo⟩,hq,e,rfl,rfl,rfl⟩:=he
  exact⟨(fun h=>by rw[h] at hb;cases hb),xs,e,hq,rfl,rfl⟩
theorem vj{pB:au}{m:Nat}{x:AV × Option fD}(he:kT m pB s=some x):mA m s=true/\(oC m pB.results s=some x\/jF m pB.results s=some x\/qe m pB.results s=some x\/qd m pB.results s=some x):=by
 unfold kT at he
 obtain⟨h0,he⟩:=ab he
 refine⟨h0,?_⟩
 unfold qW at he
 split at he
 ·rename_i h
  unfold nA at h
  obtain⟨_,h⟩:=ab h
  rw[<- he];exact .inl h
 ·split at he
  ·rename_i h;rw[h];exact .inr (.inl he)
  ·split at he
   ·rename_i h;rw[h];exact .inr (.inr (.inl he))
   ·exact .inr (.inr (.inr he))
theorem ve{m:Nat}{rs:List fI}{r:AV}{c:Option fD}(he:oC m rs s=some (r,c)):∃ i l off n z ty cs,rs=[i]/\iz s i=some (.sref l off n z)/\s.H[l]?=some (.box ty cs)/\m<=l/\cs.all AV.plain=true/\r=.sref m off n z/\c=some ⟨s.H.take m++[.dM cs],s.lo⟩:=by
 unfold oC at he
 split at he
 ·rename_i i
  simp only[ahL] at he
  obtain⟨v,hv,he⟩:=he
  split at he
  ·rename_i l off n z
   split at he
   ·rename_i ty cs hH
    obtain⟨h0,he⟩:=ab he
    simp only[ahM,ahN] at he
    simp only[ahR,aiq] at h0
    exact⟨i,l,off,n,z,ty,cs,rfl,hv,hH,h0.1,h0.2,he.1.symm,he.2.symm⟩
   ·cases he
  ·cases he
 ·cases he
theorem Hb(hI:dG H s){c:Option fD}(pa:cond (Nat.beq s.lo H.length) none (some ⟨s.H.take H.length,s.lo⟩)=c):j8 H c/\lP H c=s.H.take H.length:=by
 have hlen:=hI.len
 cases hb:Nat.beq s.lo H.length with
 | true =>
  rw[hb] at pa
  subst pa
  have wQ:s.lo=H.length:=aiK hb
  refine⟨⟨ahQ _,fun c' h=>by cases h⟩,?_⟩
  show H=_
  refine ajo fun l=>?_
  rw[ah5]
  split
  ·rename_i hl;exact (hI.same l (by omega)).symm
  ·rename_i hl;exact air (by omega)
 | false =>
  rw[hb] at pa
  subst pa
  refine⟨⟨by simp[lP];omega,fun c' xg=>?_⟩,rfl⟩
  simp only[ahW,ahM] at xg
  subst xg
  refine⟨hI.lo,fun l hl=>?_⟩
  have:=hI.lo
  rw[ah5,if_pos (by simp only at hl;omega)]
  exact hI.same l hl
theorem vf{m:Nat}{rs:List fI}{r:AV}{c:Option fD}(he:qd m rs s=some (r,c)):uB m s rs=some r/\r.leaves m=true/\cond (Nat.beq s.lo m) none (some ⟨s.H.take m,s.lo⟩)=c:=by
 simp only[qd,ahL] at he
 obtain⟨r',hr,he⟩:=he
 obtain⟨Dw,he⟩:=ab he
 simp only[ahM,ahN] at he
 obtain⟨rfl,pa⟩:=he
 exact⟨hr,Dw,pa⟩
theorem BW(hI:dG H s)(o:dm):j8 H (some ⟨s.H.take H.length++[o],s.lo⟩):=by
 have:=hI.len
 have h1:=hI.lo
 refine⟨by simp[lP];omega,fun c' xg=>?_⟩
 injection xg with xg
 subst xg
 refine⟨hI.lo,fun l hl=>?_⟩
 simp only at hl ⊢
 rw[ah6 (by simp;omega),ah5,if_pos (by omega)]
 exact hI.same l hl
theorem tr{m:Nat}{pB:au}{x:AV × Option fD}(he:finish m pB s=some x):∃ r0,kT m pB s=some (r0,x.2)/\(x.1=r0\/x.1=lR r0):=by
 simp only[finish,ahK] at he
 obtain⟨⟨r0,c0⟩,h1,h2⟩:=he
 unfold pL at h2
 cases hm:pB.muts.elem 777777 with
 | false=>rw[hm,ahW] at h2;subst h2;exact⟨r0,h1,.inl rfl⟩
 | true=>rw[hm,cond_true] at h2;subst h2;exact⟨r0,h1,.inr rfl⟩
theorem PR.n2{S:Nat->Nat->Prop}{w:World}{v:Value}{x:AV}(h:PR S w v x):PR S w v (n2 x):=by
 have one:∀ {v x},PR S w v x->PR S w v (n1 x):=by
  intro v x h
  have h0:=h
  cases h<;>first|exact .cy|exact h0
 have h0:=h
 cases h with
 | ay=>exact .cy
 | slice b o n cap sz e f hn ig bp bI bX =>
  have kE:∀ (i:Nat) (r:List AV),(e.map fun r=>r.map n1)[i]?=some r->∃ r0,e[i]?=some r0/\r=r0.map n1:=by
   intro i r hr
   rw[ah2] at hr
   cases FT:e[i]? with
   | none=>rw[FT] at hr;cases hr
   | some r0=>rw[FT] at hr;injection hr with hr;exact⟨r0,rfl,hr.symm⟩
  have zL:∀ (r0:List AV) (j:Nat) (x:AV),(r0.map n1)[j]?=some x->∃ x0,r0[j]?=some x0/\x=n1 x0:=by
   intro r0 j x hx
   rw[ah2] at hx
   cases qE:r0[j]? with
   | none=>rw[qE] at hx;cases hx
   | some x0=>rw[qE] at hx;injection hx with hx;exact⟨x0,rfl,hx.symm⟩
  refine .slice b o n cap sz _ f (by rw[aie];exact hn) ig (fun i r hr=>?_) (fun i j r x hr hx=>?_) (fun i j r x hr hx=>?_)
  ·obtain⟨r0,h1,rfl⟩:=kE i r hr
   rw[aie];exact bp i r0 h1
  ·obtain⟨r0,h1,rfl⟩:=kE i r hr
   obtain⟨x0,h2,rfl⟩:=zL r0 j x hx
   exact bI i j r0 x0 h1 h2
  ·obtain⟨r0,h1,rfl⟩:=kE i r hr
   obtain⟨x0,h2,rfl⟩:=zL r0 j x hx
   exact one (bX i j r0 x0 h1 h2)
 | cy=>exact .cy
 | any v ho=>exact h0
 | _=>exact h0
theorem VR.n2{gh:Gh}{n:Nat}{w:World}{v:Value}{x:AV}(h:VR gh n w v x):VR gh n w v (n2 x):=by
 have h0:=h
 cases h with
 | plain _ _ h=>exact .plain _ _ h.n2
 | _=>exact h0
theorem VR.n3{gh:Gh}{n:Nat}{w:World}{v:Value}{x:AV}(h:VR gh n w v x):VR gh n w v (n3 x):=by
 have h0:=h
 cases h with
 | agg cs xs hs dY h =>
  refine .agg cs _ (by rw[aie];exact hs) dY (fun j v x hv hx=>?_)
  rw[ah2] at hx
  cases qE:xs[j]? with
  | none=>rw[qE] at hx;cases hx
  | some x0=>rw[qE] at hx;injection hx with hx;subst hx;exact (h j v x0 hv qE).n2
 | plain _ _ h =>
  cases x with
  | agg cs=>cases h
  | _=>exact h0.n2
 | _=>exact h0
theorem VR.lR{gh:Gh}{n:Nat}{w:World}{v:Value}{x:AV}(h:VR gh n w v x):VR gh n w v (lR x):=by
 have h0:=h
 cases h with
 | tuple vs xs hs h =>
  refine .tuple vs _ (by rw[aie];exact hs) (fun j v x hv hx=>?_)
  rw[ah2] at hx
  cases qE:xs[j]? with
  | none=>rw[qE] at hx;cases hx
  | some x0=>rw[qE] at hx;injection hx with hx;subst hx;exact (h j v x0 hv qE).n3
 | agg cs xs hs dY h=>exact h0.n3
 | plain _ _ h =>
  cases x with
  | tuple cs=>cases h
  | _=>exact h0.n3
 | _=>exact h0
theorem Ss{gh:Gh}{n:Nat}{w:World}{p:aW}{v:Value}{x:AV}(h:CR gh n w p v x):CR gh n w p v (lR x):=by
 rcases h with h|⟨e,rfl,h1,h2⟩
 ·exact .inl h.lR
 ·exact .inr ⟨e,rfl,h1,h2⟩
theorem lE{pB:au}(hI:dG H s){r:AV}{c:Option fD}(he:finish H.length pB s=some (r,c)):j8 H c:=by
 obtain⟨r0,he,_⟩:=tr he
 rcases (vj he).2 with he|he|he|he
 ·obtain⟨_,_,_,_,_,_,cs,_,_,_,_,_,_,rfl⟩:=ve he
  exact BW hI _
 ·exact BO hI he
 ·obtain⟨_,xs,e,_,_,rfl⟩:=vg he
  exact BW hI _
 ·exact (Hb hI (vf he).2.2).1
theorem qf{α:Type}{sz:Nat} : ∀ (e:List (List α)) (idx:Nat) (x:α),(∀ r∈e,r.length=sz)->e.flatten[idx]?=some x->∃ i j r,e[i]?=some r/\r[j]?=some x/\idx=i*sz+j
 | [],_,_,_,h=>by simp at h
 | r :: e,idx,x,hr,h=>by
  rw[aiz] at h
  by_cases hl:idx<r.length
  ·rw[ah6 hl] at h;exact⟨0,idx,r,rfl,h,by simp⟩
  ·rw[aic (by omega)] at h
   obtain⟨i,j,r',h1,h2,h3⟩:=qf e _ x (fun r h=>hr r (by simp[h])) h
   have:=hr r (by simp)
   exact⟨i+1,j,r',by simpa using h1,h2,by rw[aip];omega⟩
theorem tu{α:Type}{sz:Nat} : ∀ (e:List (List α)),(∀ r∈e,r.length=sz)->e.flatten.length=e.length*sz
 | [],_=>by simp
 | r :: e,hr=>by
  have:=hr r (by simp)
  have ih:=tu e (fun r h=>hr r (by simp[h]))
  simp only[aiz,List.length_append,List.length_cons,aip];omega
def Gh.jA(gh:Gh)(k n:Nat):Gh:={ gh.mS k (.hb n) with ρ:=fun l=>if l=n then k else gh.ρ l }
theorem nq(hW:aF G base H gh w){k:Nat}(hk:k<w.heap.size){m n:Nat}(hn:m<=n):Step (fun r=>r=gh.κ k) m gh w (gh.jA k n) w:=by
 have h:=jm hW hk (.hb n) m
 refine⟨h.S,h.cell,h.size,h.os,h.tape,h.output,h.xB,h.fresh,fun loc hl=>?_,h.len,h.mp⟩
 show (if loc=n then _ else _)=_
 rw[if_neg (by omega)]
theorem aF.jA(hW:aF G base H gh w){k:Nat}{C:Array Value}{ty:TypeId}(hk:w.heap[k]?=some (.cells C ty (0,0)))(hS:∀ o,¬ gh.S k o)(h0:gh.κ k≠.none)(ht:∀ l,l<H.length->gh.κ k≠.hb l/\∀ j,gh.κ k≠.hs l j)
  {cs:List AV} (hlen:cs.length<=C.size) (fq:∀ (j:Nat) (u:Value) (x:AV),C[j]?=some u->cs[j]?=some x->u.oneCell'=true/\VR gh H.length w u x) (hr:cs.all (aR H.length)=true) :
  aF G base (H++[.box cN cs]) (gh.jA k H.length) w:=by
 have aZ:k<w.heap.size:=(ahT.1 hk).1
 have st:=nq hW aZ (ahQ H.length)
 have hn:∀ l,l<H.length->¬ (aW.hb l=gh.κ k)/\∀ j,¬ (aW.hs l j=gh.κ k):=fun l hl=>⟨fun h=>(ht l hl).1 h.symm,fun j h=>(ht l hl).2 j h.symm⟩
 have last:∀ {loc:Nat} {o:dm},(H++[dm.box cN cs])[loc]?=some o->¬ loc<H.length->loc=H.length/\o=.box cN cs:=by
  intro loc o hl hge
  rw[aic (by omega)] at hl
  have hz:loc=H.length:=by
   have:=(ahO.1 hl).1
   simp at this;omega
  subst hz
  simp at hl
  exact⟨rfl,hl.symm⟩
 refine⟨hW.size,hW.lX,fun b hb=>?_,fun g j x hx=>?_,fun loc j7 ds hl=>?_,fun loc j7 ds hl=>?_,hW.uj,hW.bytes,fun loc o hl=>?_,fun loc j7 ds hl hf=>?_⟩
 ·have iV:(if b=k then aW.hb H.length else gh.κ b)≠.none:=hb
  split at iV
  ·rename_i e;rw[e];exact hW.mH k h0
  ·exact hW.mH b iV
 ·obtain⟨v,h1,h2,h3⟩:=hW.aP g j x hx
  exact⟨v,h1,h2.mono st.S st.cell st.mp,h3⟩
 ·rw[List.length_append,aiV]
  by_cases gJ:loc<H.length
  ·rw[ah6 gJ] at hl
   have h:=(hW.boxes loc j7 ds hl).mono st (n':=H.length+1) (aiD _) (hn loc gJ).1 (hn loc gJ).2
   rw[st.ρ loc gJ];exact h
  ·obtain⟨rfl,ho⟩:=last hl gJ
   injection ho with Qn Y2
   subst Qn Y2
   have hρ:(gh.jA k H.length).ρ H.length=k:=by simp[Gh.jA]
   rw[hρ]
   refine⟨by simp[Gh.jA,Gh.mS],hS,C,ty,hk,hlen,fun j v x hv hx=>?_⟩
   obtain⟨h1,h2⟩:=fq j v x hv hx
   exact⟨h1,.inl (h2.mono st (aiD _))⟩
 ·by_cases gJ:loc<H.length
  ·rw[ah6 gJ] at hl
   exact hW.refs loc j7 ds hl
  ·obtain⟨rfl,ho⟩:=last hl gJ
   injection ho with Qn Y2
   subst Qn Y2
   exact hr
 ·rw[List.length_append,aiV]
  by_cases gJ:loc<H.length
  ·rw[ah6 gJ] at hl
   rw[st.ρ loc gJ]
   exact (hW.more loc o hl).mono st (aiD _) (hn loc gJ).1 (hn loc gJ).2
  ·obtain⟨rfl,rfl⟩:=last hl gJ
   trivial
 ·by_cases gJ:loc<H.length
  ·rw[ah6 gJ] at hl
   rw[st.ρ loc gJ]
   exact hW.types loc j7 ds hl hf
  ·obtain⟨rfl,ho⟩:=last hl gJ
   injection ho with Qn Y2
   exact absurd Qn hf
theorem aF.UW(hW:aF G base H gh w){k:Nat}{C:Array Value}{ty:TypeId}(hk:w.heap[k]?=some (.cells C ty (0,0)))(hS:∀ o,¬ gh.S k o)(h0:gh.κ k≠.none)(ht:∀ l,l<H.length->gh.κ k≠.hb l/\∀ j,gh.κ k≠.hs l j)
  {cs:List AV} (hlen:cs.length<=C.size) (fq:∀ (j:Nat) (u:Value) (x:AV),C[j]?=some u->cs[j]?=some x->u.oneCell'=true/\VR gh H.length w u x) :
  aF G base (H++[.dM cs]) (gh.jA k H.length) w:=by
 have aZ:k<w.heap.size:=(ahT.1 hk).1
 have st:=nq hW aZ (ahQ H.length)
 have hn:∀ l,l<H.length->¬ (aW.hb l=gh.κ k)/\∀ j,¬ (aW.hs l j=gh.κ k):=fun l hl=>⟨fun h=>(ht l hl).1 h.symm,fun j h=>(ht l hl).2 j h.symm⟩
 have last:∀ {loc:Nat} {o:dm},(H++[dm.dM cs])[loc]?=some o->¬ loc<H.length->loc=H.length/\o=.dM cs:=by
  intro loc o hl hge
  rw[aic (by omega)] at hl
  have hz:loc=H.length:=by
   have:=(ahO.1 hl).1
   simp at this;omega
  subst hz
  simp at hl
  exact⟨rfl,hl.symm⟩
 refine⟨hW.size,hW.lX,fun b hb=>?_,fun g j x hx=>?_,fun loc j7 ds hl=>?_,fun loc j7 ds hl=>?_,hW.uj,hW.bytes,fun loc o hl=>?_,fun loc j7 ds hl hf=>?_⟩
 ·have iV:(if b=k then aW.hb H.length else gh.κ b)≠.none:=hb
  split at iV
  ·rename_i e;rw[e];exact hW.mH k h0
  ·exact hW.mH b iV
 ·obtain⟨v,h1,h2,h3⟩:=hW.aP g j x hx
  exact⟨v,h1,h2.mono st.S st.cell st.mp,h3⟩
 ·rw[List.length_append,aiV]
  by_cases gJ:loc<H.length
  ·rw[ah6 gJ] at hl
   have h:=(hW.boxes loc j7 ds hl).mono st (n':=H.length+1) (aiD _) (hn loc gJ).1 (hn loc gJ).2
   rw[st.ρ loc gJ];exact h
  ·obtain⟨rfl,ho⟩:=last hl gJ
   cases ho
 ·by_cases gJ:loc<H.length
  ·rw[ah6 gJ] at hl
   exact hW.refs loc j7 ds hl
  ·obtain⟨rfl,ho⟩:=last hl gJ
   cases ho
 ·rw[List.length_append,aiV]
  by_cases gJ:loc<H.length
  ·rw[ah6 gJ] at hl
   rw[st.ρ loc gJ]
   exact (hW.more loc o hl).mono st (aiD _) (hn loc gJ).1 (hn loc gJ).2
  ·obtain⟨rfl,rfl⟩:=last hl gJ
   have hρ:(gh.jA k H.length).ρ H.length=k:=by simp[Gh.jA]
   rw[hρ]
   refine⟨by simp[Gh.jA,Gh.mS],hS,C,ty,hk,hlen,fun j v x hv hx=>?_⟩
   obtain⟨h1,h2⟩:=fq j v x hv hx
   exact⟨h1,.inl (h2.mono st (aiD _))⟩
 ·by_cases gJ:loc<H.length
  ·rw[ah6 gJ] at hl
   rw[st.ρ loc gJ]
   exact hW.types loc j7 ds hl hf
  ·obtain⟨rfl,ho⟩:=last hl gJ
   cases ho
theorem PR.VS{S:Nat->Nat->Prop}{v:Value}{x:AV}(h:PR S w v x)(hp:x.plain=true)(m:Nat):aR m x=true:=by
 cases h<;>first|rfl|exact hp
theorem Sw{gr:Gh}{w0:World}(hI:Inv G base nt L H gr w0 s gh w a){m:Nat}(hm:m<=s.H.length):∀ (l:List ResultVar) (rs:List fI) (xs:List AV) (q:Option (List (List AV))),l.length=rs.length->(∀ (j:Nat) (r:ResultVar) (i:fI),l[j]?=some r->rs[j]?=some i ->
    (∃ t,r=.tmp t/\i=.tmp t/\t<nt)\/∃ t ty g sz,r=.cell t ty/\i=.cell t g sz/\t<nt/\ke P ty=some g/\cY P ty=some sz)->sQ s m rs=some (xs,q) ->
    ∃ vs:List Value,l.length=vs.length/\vs.length=xs.length/\(∀ (j:Nat) (r:ResultVar) (v:Value),l[j]?=some r->vs[j]?=some v->(lU a.tmps r).run P w=.ok v w) /\
     (q=none->∀ (j:Nat) (v:Value) (x:AV),vs[j]?=some v->xs[j]?=some x->VR gh m w v x) /\
     ∀ e,q=some e->∃ b g,b<nt/\s.T b=.lsl g e/\e≠[]/\(e.all fun r=>r.all AV.plain)=true/\∀ (j:Nat) (v:Value) (x:AV),vs[j]?=some v->xs[j]?=some x->VR gh m w v x\/(x=.sref m 0 e.length (OH e)/\v=dQ a b):=by
 intro l
 induction l with
 | nil =>
  intro rs xs q hl _ h
  have:rs=[]:=ajC.1 (by simpa using hl.symm)
  subst this
  simp only[sQ,ahM,ahN] at h
  obtain⟨rfl,rfl⟩:=h
  exact⟨[],rfl,rfl,fun j r v h=>by simp at h,fun _ j v x h=>by simp at h,fun e h=>by cases h⟩
 | cons rv l ih =>
  intro rs xs q hl hc h
  cases rs with
  | nil=>simp at hl
  | cons i rs =>
   simp only[sQ,ahL] at h
   obtain⟨⟨ys,q'⟩,LL,h⟩:=h
   obtain⟨vs,k1,k2,k3,k4,k5⟩:=ih rs ys q' (by simpa using hl) (fun j r i hr hi=>hc (j+1) r i (by simpa using hr) (by simpa using hi)) LL
   have Qi:=hc 0 rv i rfl rfl
   have runs:∀ v,(lU a.tmps rv).run P w=.ok v w->∀ (j:Nat) (r:ResultVar) (u:Value),(rv :: l)[j]?=some r->(v :: vs)[j]?=some u->(lU a.tmps r).run P w=.ok u w:=by
    intro v h1 j r u hr hu
    cases j with
    | zero=>simp at hr hu;subst hr hu;exact h1
    | succ j=>exact k3 j r u (by simpa using hr) (by simpa using hu)
   split at h
   ·rename_i b bp
    split at h
    ·rename_i gg e hT
     obtain⟨h0,h⟩:=ab h
     simp only[ahR,aj4,ajn,aj3] at h0
     simp only[ahM,ahN] at h
     obtain⟨rfl,rfl⟩:=h
     obtain⟨⟨Wh,cS⟩,ue⟩:=h0
     rcases Qi with ⟨t,rfl,rfl,ht⟩|⟨t,ty,g,sz,rfl,rfl,_⟩
     ·have hb:b<nt/\dQ a t=dQ a b:=by
       simp only[nJ] at bp
       have tC:=hI.F.slot t ht
       change SR gh s.H.length nt w s.T s.gen (dQ a) t (dQ a t) (s.T t) at tC
       split at bp
       ·injection bp with bp;subst bp;exact⟨ht,rfl⟩
       ·rename_i b' g Qf
        rw[Qf] at tC
        obtain⟨fE,_,hv⟩:=tC
        split at bp
        ·rename_i g' e' ZM
         obtain⟨h0,bp⟩:=ab bp
         injection bp with bp
         subst bp
         have AL:g=g':=by simpa [dV] using h0
         exact⟨fE,hv (by rw[ZM,AL];rfl)⟩
        ·cases bp
       ·cases bp
      refine⟨dQ a t :: vs,by simp[k1],by simp[k2],runs _ rfl,(fun h=>by cases h),fun e' AJ=>?_⟩
      injection AJ with AJ
      subst AJ
      refine⟨b,gg,hb.1,hT,cS,ue,fun j u x hu hx=>?_⟩
      cases j with
      | zero=>simp at hu hx;subst hu hx;exact .inr ⟨rfl,hb.2⟩
      | succ j=>exact .inl (k4 Wh j u x (by simpa using hu) (by simpa using hx))
     ·cases bp
    ·cases h
   ·simp only[ahL] at h
    obtain⟨z,hz,h⟩:=h
    obtain⟨h0,h⟩:=ab h
    simp only[ahM,ahN] at h
    obtain⟨rfl,rfl⟩:=h
    obtain⟨v,h1,h2⟩:=vY (P:=P) hI.W hI.F Qi hz
    have hv:VR gh m w v z.bc:=by
     rcases h2 with ⟨t,_,_,_,_,kq⟩|zI
     ·exact (iZ kq.dropped).bf h0
     ·exact (iZ zI.dropped).bf h0
    refine⟨v :: vs,by simp[k1],by simp[k2],runs v h1,fun hq j u x hu hx=>?_,fun e he=>?_⟩
    ·cases j with
     | zero=>simp at hu hx;subst hu hx;exact hv
     | succ j=>exact k4 hq j u x (by simpa using hu) (by simpa using hx)
    ·obtain⟨b,g,c1,c2,c3,c4,c5⟩:=k5 e he
     refine⟨b,g,c1,c2,c3,c4,fun j u x hu hx=>?_⟩
     cases j with
     | zero=>simp at hu hx;subst hu hx;exact .inl hv
     | succ j=>exact c5 j u x (by simpa using hu) (by simpa using hx)
theorem Tg{gr:Gh}{w0:World}(jb:clean gr)(hI:Inv G base nt L H gr w0 s gh w a){fn:Func}{rs:List fI}(hc:iT P nt fn.results.toList=some rs){r:AV}{c:Option fD}(hold:∀ aD w',aF G base s.H aD w'->ta s.H H.length aD w')(he:qe H.length rs s=some (r,c)) :
  ∃ v aD,(results fn a.tmps).run P w=.ok v w/\j9 G base H gr w0 r c v aD w:=by
 obtain⟨ade,xs,e,hq,rfl,rfl⟩:=vg he
 obtain⟨hl,qk⟩:=jk hc
 have hlen:=hI.lo.len
 obtain⟨vs,k1,k2,k3,_,k5⟩:=Sw (P:=P) hI hlen _ _ xs (some e) hl qk hq
 obtain⟨b,g,hb,hT,cS,ue,fY⟩:=k5 e rfl
 have cg:=js (P:=P) (w:=w) (fn:=fn) (tmps:=a.tmps) k1 k3
 rw[dif_neg (by intro h;apply ade;rw[<- hl,k1];simpa using h)] at cg
 obtain⟨ad,cap,hV,⟨h0,_⟩|⟨k,C,ty,sz,_,rfl,hκ,hS,hk,hC,hle,hr,fq⟩⟩:=lY hI.F hb hT
 ·exact absurd h0 cS
 have V2:k<w.heap.size:=(ahT.1 hk).1
 have hWp:=hI.W.Ao hlen (hold _ _ hI.W)
 have Hn:(s.H.take H.length).length=H.length:=by simp;omega
 have bp:∀ r∈e,r.length=sz:=fun r hm=>by obtain⟨i,hi⟩:=aif hm;exact hr i r hi
 have h0:gh.κ k≠.none:=by rw[hκ];simp
 have h1:gh.κ k≠.outer:=by rw[hκ];simp
 have ht:∀ l,l<(s.H.take H.length).length->gh.κ k≠.hb l/\∀ j,gh.κ k≠.hs l j:=fun l _=>by rw[hκ];simp
 have j0:=hWp.jA hk hS h0 ht (cs:=e.flatten) (by rw[tu e bp,hC];exact ah7 _ hle)
  (fun j u x hu hx=>by
   obtain⟨i,j',r,e1,e2,rfl⟩:=qf e j x bp hx
   obtain⟨u',LI,hp⟩:=fq i j' r x e1 e2
   rw[hu] at LI
   injection LI with LI
   subst LI
   exact⟨hp.dv,.plain _ _ hp⟩)
  (ahU.2 fun x hx=>by
   obtain⟨j,hj⟩:=aif hx
   obtain⟨i,j',r,e1,e2,_⟩:=qf e j x bp hj
   obtain⟨u',_,hp⟩:=fq i j' r x e1 e2
   exact hp.VS (ahU.1 (ahU.1 ue r (ahZ e1)) x (ahZ e2)) _)
 rw[Hn] at j0
 have wz:=nq hI.W V2 (m:=H.length) (ahQ H.length)
 have hE:Ext H.length gh w (gh.jA k H.length) w:=⟨wz.mono (fun r h=>by rw[h];exact⟨h0,h1⟩),fun b' fE=>by
  have iV:(if b'=k then aW.hb H.length else gh.κ b')=.outer:=fE
  split at iV
  ·cases iV
  ·exact iV⟩
 have vo:=hI.E.trans hE (ahQ _)
 have n7:(lP H (some ⟨s.H.take H.length++[.box cN e.flatten],s.lo⟩)).length=H.length+1:=by simp[lP];omega
 refine⟨_,_,cg,by rw[n7];omega,j0,?_,vo.out,?_⟩
 ·have st:=vo.step
  refine⟨st.S,st.cell,st.size,st.os,st.tape,st.output,fun b hb hn=>st.xB b hb (fun ht=>hn ?_),st.fresh,st.ρ,st.len,st.mp⟩
  rcases jb b with h|h|h|h
  ·exact absurd h ht.1
  ·exact absurd h ht.2
  ·exact .inl h
  ·exact .inr h
 ·rw[n7]
  refine .inl (.tuple vs.toArray xs (by simpa using k2) (fun j v x hv hx=>?_))
  rcases fY j v x (by simpa using hv) hx with h|⟨rfl,rfl⟩
  ·exact h.mono wz (aiD _)
  ·rw[hV]
   have hρ:(gh.jA k H.length).ρ H.length=k:=by simp[Gh.jA]
   have hrw:OH e=sz:=by
    cases e with
    | nil=>exact absurd rfl cS
    | cons r0 e=>simp[OH,bp r0 (aid ..)]
   have:=VR.sref (gh:=gh.jA k H.length) (w:=w) (n:=H.length+1) H.length 0 e.length cap (OH e) (by omega) hle (fun _=>⟨ty,by rw[hρ];exact⟨C,(0,0),hk,by rw[hC,hrw,Nat.zero_add]⟩⟩)
   rw[hρ] at this
   exact this
theorem Te{gr:Gh}{w0:World}(jb:clean gr)(hI:Inv G base nt L H gr w0 s gh w a){fn:Func}{rs:List fI}(hc:iT P nt fn.results.toList=some rs){r:AV}{c:Option fD}(hold:∀ aD w',aF G base s.H aD w'->ta s.H H.length aD w')(he:oC H.length rs s=some (r,c)) :
  ∃ v aD,(results fn a.tmps).run P w=.ok v w/\j9 G base H gr w0 r c v aD w:=by
 obtain⟨i,l,off,n,z,J4,cs,B8,aar,hH,Y0,ue,rfl,rfl⟩:=ve he
 obtain⟨hl,qk⟩:=jk hc
 have hlen:=hI.lo.len
 rw[B8] at hl
 obtain⟨rv,I3⟩:∃ rv,fn.results.toList=[rv]:=ai6.1 (by simpa using hl)
 have Qi:=qk 0 rv i (by rw[I3];rfl) (by rw[B8];rfl)
 obtain⟨v,h1,h2⟩:=vY (P:=P) hI.W hI.F Qi aar
 have hv:VR gh s.H.length w v (.sref l off n z):=by
  rcases h2 with ⟨t,_,_,_,_,kq⟩|zI
  ·exact kq.dropped
  ·exact zI
 obtain⟨_,cap,hk,hz,rfl⟩:=hv.il
 have cg:=js (P:=P) (w:=w) (fn:=fn) (tmps:=a.tmps) (vs:=[.slice (some ⟨gh.ρ l,off,none⟩) n cap]) (by rw[I3];rfl) (fun j r' v' hr hv=>by
  rw[I3] at hr
  cases j with
  | zero=>simp at hr hv;subst hr hv;exact h1
  | succ j=>simp at hr)
 obtain⟨hκ,hS,C,ty,hb,hC,fq⟩:=hI.W.boxes l _ cs hH
 have V2:gh.ρ l<w.heap.size:=(ahT.1 hb).1
 have hWp:=hI.W.Ao hlen (hold _ _ hI.W)
 have Hn:(s.H.take H.length).length=H.length:=by simp;omega
 have h0:gh.κ (gh.ρ l)≠.none:=by rw[hκ];simp
 have Qd:gh.κ (gh.ρ l)≠.outer:=by rw[hκ];simp
 have j0:=hWp.UW hb hS h0 (fun l' zM=>by rw[hκ];rw[Hn] at zM;exact⟨by intro e;injection e with e;omega,by simp⟩) (cs:=cs) hC (fun j u x hu hx=>by
  obtain⟨k1,k2⟩:=fq j u x hu hx
  have hp:=ahU.1 ue x (ahZ hx)
  have:=k2.dropped
  rw[pI hp] at this
  exact⟨k1,.plain _ _ (this.iS hp)⟩)
 rw[Hn] at j0
 have wz:=nq hI.W V2 (m:=H.length) (ahQ H.length)
 have hE:Ext H.length gh w (gh.jA (gh.ρ l) H.length) w:=⟨wz.mono (fun r h=>by rw[h];exact⟨h0,Qd⟩),fun b' fE=>by
  have iV:(if b'=gh.ρ l then aW.hb H.length else gh.κ b')=.outer:=fE
  split at iV
  ·cases iV
  ·exact iV⟩
 have vo:=hI.E.trans hE (ahQ _)
 have n7:(lP H (some ⟨s.H.take H.length++[.dM cs],s.lo⟩)).length=H.length+1:=by simp[lP];omega
 refine⟨_,_,by simpa using cg,by rw[n7];omega,j0,?_,vo.out,?_⟩
 ·have st:=vo.step
  refine⟨st.S,st.cell,st.size,st.os,st.tape,st.output,fun b hb hn=>st.xB b hb (fun ht=>hn ?_),st.fresh,st.ρ,st.len,st.mp⟩
  rcases jb b with h|h|h|h
  ·exact absurd h ht.1
  ·exact absurd h ht.2
  ·exact .inl h
  ·exact .inr h
 ·rw[n7]
  have hρ:(gh.jA (gh.ρ l) H.length).ρ H.length=gh.ρ l:=by simp[Gh.jA]
  have:=VR.sref (gh:=gh.jA (gh.ρ l) H.length) (w:=w) (n:=H.length+1) H.length off n cap z (by omega) hk (fun hz0=>by rw[hρ];exact hz hz0)
  rw[hρ] at this
  exact .inl this
def mR(H:ag)(m k l:Nat):Option (List AV) :=
 ((H[l]?).bind mW).bind fun cs=>cond (cs.all fun x=>(n6 H m k x.drop).plain&&pk x) (some (cs.map fun x=>n6 H m k x.drop)) none
def acx(gh:Gh)(H:ag)(m:Nat)(b o:Nat):Prop:=gh.S b o\/∃ k l cs,m<=l/\mR H m k l=some cs/\gh.ρ l=b/\o<cs.length
def Gh.Pm(gh:Gh)(H:ag)(m:Nat):Gh:={ gh with S:=acx gh H m }
theorem nB{m k l:Nat}{cs:List AV}(h:mR H m k l=some cs):∃ o ds,H[l]?=some o/\mW o=some ds/\cs=ds.map (fun x=>n6 H m k x.drop)/\∀ x,x∈ds->(n6 H m k x.drop).plain=true/\pk x=true:=by
 unfold mR at h
 simp only[ahL] at h
 obtain⟨ds,⟨o,ho,hd⟩,h⟩:=h
 obtain⟨h0,h⟩:=ab h
 injection h with h
 refine⟨o,ds,ho,hd,h.symm,fun x hx=>?_⟩
 have:=ahU.1 h0 x hx
 simpa using this
theorem Gq(hW:aF G base H gh w){l:Nat}{o:dm}{ds:List AV}(ho:H[l]?=some o)(hd:mW o=some ds):fH gh H.length w (gh.ρ l) (.hb l) (fun j=>.hs l j) ds:=by
 cases o<;>simp only[mW,reduceCtorEq,ahM] at hd
 ·subst hd;exact hW.boxes l _ _ ho
 ·subst hd;exact hW.more l _ ho
theorem qY(hW:aF G base H gh w)(m n:Nat):Step (fun r=>∃ l,m<=l/\r=.hb l) n gh w (gh.Pm H m) w:=by
 refine⟨fun b o h=>.inl h,fun _ _ _=>rfl,ahQ _,rfl,rfl,rfl,fun b hb hn=>⟨.inl rfl,rfl,fun o ho=>?_⟩,fun b hb=>hW.bq b hb,fun _ _=>rfl,fun _ _ _ h=>h,fun _ _ _ _ h=>h⟩
 rcases ho with ho|⟨k,l,cs,hl,hf,hρ,_⟩
 ·exact ho
 ·exfalso
  obtain⟨o',ds,mi,hd,_⟩:=nB hf
  exact hn ⟨l,hl,by rw[<- hρ];exact (Gq hW mi hd).1⟩
theorem vl(hW:aF G base H gh w){m k l:Nat}(hV:∀ {v:Value} {x:AV},VR gh H.length w v x->VR (gh.Pm H m) H.length w v (n6 H m k x))(hm:m<=l){cs:List AV}(hf:mR H m k l=some cs){j:Nat}{x:AV}(hx:cs[j]?=some x) :
  ∃ v,w.cell? ⟨gh.ρ l,j,none⟩=some v/\PR (gh.Pm H m).S w v x/\(gh.Pm H m).S (gh.ρ l) j/\∀ n,v≠.int .u8 n:=by
 have hf0:=hf
 obtain⟨o',ds,mi,hd,rfl,fh⟩:=nB hf
 obtain⟨hκ,hS,C,J5,hb,hle,bI⟩:=Gq hW mi hd
 have FP:=(ahO.1 hx).1
 simp only[ah2,ahK] at hx
 obtain⟨y,hy,rfl⟩:=hx
 have hj2:=(ahO.1 hy).1
 have hv:C[j]?=some C[j]:=ahY (by omega)
 obtain⟨k1,k2⟩:=bI j _ y hv hy
 obtain⟨p1,p2⟩:=fh y (ahZ hy)
 refine⟨C[j],by rw[cell_of_row w _ j C J5 _ hb];exact hv,(hV k2.dropped).iS p1,.inr ⟨k,l,_,hm,hf0,rfl,FP⟩,fun n hn=>?_⟩
 have zI:=k2.dropped
 rw[hn] at zI
 cases zI with
 | plain _ _ h =>
  cases y<;>simp only[AV.drop] at h<;>cases h<;>simp[pk] at p2
theorem ow{z:Nat} : ∀ {n:Nat} {l:List AV} {i:Nat} {r:List AV},(chunks z n l)[i]?=some r->i<n/\r=(l.drop (i*z)).take z
 | 0,l,i,r,h=>by simp[chunks] at h
 | n+1,l,0,r,h=>by simp[chunks] at h;exact⟨by omega,by simp[h]⟩
 | n+1,l,i+1,r,h=>by
  simp only[chunks,aiL] at h
  obtain⟨h1,h2⟩:=ow h
  refine⟨by omega,?_⟩
  rw[h2,ajc,aip,akt,akn z]
theorem tg{z:Nat} : ∀ {n:Nat} {l:List AV},(chunks z n l).length=n
 | 0,l=>rfl
 | n+1,l=>by simp[chunks,tg]
theorem ur(hW:aF G base H gh w){m:Nat} : ∀ (k:Nat) {v:Value} {x:AV},VR gh H.length w v x->VR (gh.Pm H m) H.length w v (n6 H m k x)
 | 0,v,x,h=>h.mono (qY hW m _) (ahQ _)
 | d+1,v,x,h=>by
  have ih:=@ur hW m d
  have h0:VR (gh.Pm H m) H.length w v x:=h.mono (qY hW m _) (ahQ _)
  unfold n6
  split
  ·rename_i l off k z
   cases hb:Nat.ble m l with
   | false=>exact h0
   | true =>
    rw[cond_true]
    split
    ·rename_i ds YV
     cases iV:(Nat.blt 0 z&&Nat.ble (off+k*z) ds.length&&ds.all fun x=>(n6 H m d x.drop).plain&&pk x) with
     | false=>exact h0
     | true =>
      rw[cond_true]
      simp only[ahR,aih,aiq] at iV
      obtain⟨⟨hz,hle⟩,fh⟩:=iV
      have fq:mR H m d l=some (ds.map fun x=>n6 H m d x.drop):=by
       unfold mR
       rw[YV,ahV,fh];rfl
      generalize ZW:ds.map (fun x=>n6 H m d x.drop)=cs at *
      obtain⟨_,cap,hk,_,rfl⟩:=h.il
      have Y0:m<=l:=by simpa [aiq] using hb
      have cell:∀ {i j:Nat} {r:List AV} {y:AV},(chunks z k (cs.drop off))[i]?=some r->r[j]?=some y->i<k/\j<z/\cs[off+i*z+j]?=some y:=by
       intro i j r y hi hj
       obtain⟨h1,rfl⟩:=ow hi
       rw[ah5] at hj
       split at hj
       ·rename_i h2
        rw[ail,ail] at hj
        exact⟨h1,h2,by rw[<- hj];congr 1;omega⟩
       ·cases hj
      have hlen:cs.length=ds.length:=by rw[<- ZW];simp
      refine .plain _ _ (.slice (gh.ρ l) off k cap z _ (fun i j=>(w.cell? ⟨gh.ρ l,off+i*z+j,none⟩).getD undef) tg hk (fun i r hi=>?_) (fun i j r y hi hj=>?_) (fun i j r y hi hj=>?_))
      ·obtain⟨h1,rfl⟩:=ow hi
       have:(i+1)*z<=k*z:=ah7 _ h1
       rw[aip] at this
       simp;omega
      ·obtain⟨_,_,hc⟩:=cell hi hj
       obtain⟨u,k1,k2,k3,_⟩:=vl hW ih Y0 fq hc
       exact⟨k3,by rw[k1];rfl,by rw[k1];exact k2.dv⟩
      ·obtain⟨_,_,hc⟩:=cell hi hj
       obtain⟨u,k1,k2,_⟩:=vl hW ih Y0 fq hc
       rw[k1];exact k2
    ·exact h0
  ·exact h0
theorem Hg(hW:aF G base H gh w){m:Nat}{v:Value}{x:AV}(h:VR gh H.length w v x):VR (gh.Pm H m) H.length w v (K' H m x):=by
 unfold K'
 split
 ·rename_i cs
  obtain⟨C,rfl,hs,dY,hc⟩:=h.iW
  refine .agg C _ (by simpa using hs) dY (fun j v x hv hx=>?_)
  simp only[ah2,ahK] at hx
  obtain⟨y,hy,rfl⟩:=hx
  exact ur hW Qa (hc j v y hv hy)
 ·exact ur hW Qa h
theorem ZE(hW:aF G base H gh w){m:Nat}(hm:m<=H.length)(hold:ta H m gh w):aF G base (H.take m) (gh.Pm H m) w:=by
 have IW:=hW.Ao hm hold
 have Uo:(H.take m).length=m:=by simp;omega
 have st:=qY hW m (H.take m).length
 have ht:∀ l,l<m->¬ (∃ k,m<=k/\aW.hb l=.hb k)/\∀ j,¬ (∃ k,m<=k/\aW.hs l j=.hb k):=by
  refine fun l hl=>⟨?_,fun j=>?_⟩
  ·rintro ⟨k,hk,h⟩
   injection h with h
   omega
  ·rintro ⟨k,hk,h⟩
   cases h
 have lt:∀ {l:Nat} {o:dm},(H.take m)[l]?=some o->l<m:=fun h=>by have:=(ahO.1 h).1;omega
 refine⟨IW.size,fun b o ho=>?_,IW.mH,fun g j x hx=>?_,fun loc ty cs hl=>?_,IW.refs,IW.uj,IW.iY st (fun b o n ho=>?_),fun loc o hl=>?_,fun loc ty cs hl=>IW.types loc ty cs hl⟩
 ·rcases ho with ho|⟨k,l,cs,hl,hf,rfl,_⟩
  ·exact hW.lX b o ho
  ·obtain⟨o',ds,mi,hd,_⟩:=nB hf
   obtain⟨_,_,C,J5,hb,_⟩:=Gq hW mi hd
   exact (ahT.1 hb).1
 ·obtain⟨v,h1,h2,h3⟩:=IW.aP g j x hx
  exact⟨v,h1,h2.mono st.S st.cell st.mp,st.S g j h3⟩
 ·exact (IW.boxes loc ty cs hl).mono st (ahQ _) (ht loc (lt hl)).1 (ht loc (lt hl)).2
 ·rcases ho with ho|⟨k,l,cs,hl,hf,rfl,aZ⟩
  ·exact .inl ho
  ·refine .inr fun hc=>?_
   obtain⟨v,k1,_,_,k4⟩:=vl hW (ur hW k) hl hf (ahP aZ)
   rw[k1] at hc
   injection hc with hc
   exact absurd hc (k4 n)
 ·exact (IW.more loc o hl).mono st (ahQ _) (ht loc (lt hl)).1 (ht loc (lt hl)).2
theorem Tf{gr:Gh}{w0:World}(jb:clean gr)(hI:Inv G base nt L H gr w0 s gh w a){fn:Func}{rs:List fI}(hc:iT P nt fn.results.toList=some rs){r:AV}{c:Option fD}(hold:∀ aD w',aF G base s.H aD w'->ta s.H H.length aD w')(he:qd H.length rs s=some (r,c)) :
  ∃ v aD,(results fn a.tmps).run P w=.ok v w/\j9 G base H gr w0 r c v aD w:=by
 obtain⟨hr,Dw,pa⟩:=vf he
 have hlen:=hI.lo.len
 have mb:=(Hb hI.lo pa).2
 have vx:(lP H c).length=H.length:=by rw[mb];simp;omega
 have wz:=qY hI.W H.length H.length
 have JV:Ext H.length gh w (gh.Pm s.H H.length) w:=⟨wz.mono (fun r h=>by obtain⟨l,_,rfl⟩:=h;exact⟨by simp,by simp⟩),fun b hb=>hb⟩
 have fin:∀ {v:Value},(results fn a.tmps).run P w=.ok v w->VR (gh.Pm s.H H.length) s.H.length w v r->∃ v aD,(results fn a.tmps).run P w=.ok v w/\j9 G base H gr w0 r c v aD w:=by
  intro v h1 h4
  have hE:=hI.E.trans JV (ahQ _)
  refine⟨v,_,h1,ajm vx.symm,by rw[mb];exact ZE hI.W hlen (hold _ _ hI.W),?_,hE.out,by rw[vx];exact .inl (h4.leaves Dw)⟩
  have st:=hE.step
  refine⟨st.S,st.cell,st.size,st.os,st.tape,st.output,fun b hb hn=>st.xB b hb (fun ht=>hn ?_),st.fresh,st.ρ,st.len,st.mp⟩
  rcases jb b with h|h|h|h
  ·exact absurd h ht.1
  ·exact absurd h ht.2
  ·exact .inl h
  ·exact .inr h
 obtain⟨hl,qk⟩:=jk hc
 have one:∀ (rv:ResultVar) (v:Value),fn.results.toList=[rv]->(lU a.tmps rv).run P w=.ok v w->(results fn a.tmps).run P w=.ok v w:=by
  intro rv v h1 h2
  have:=js (P:=P) (w:=w) (fn:=fn) (tmps:=a.tmps) (vs:=[v]) (by rw[h1];rfl) (fun j r' v' hr hv=>by
   rw[h1] at hr
   cases j with
   | zero=>simp at hr hv;subst hr hv;exact h2
   | succ j=>simp at hr)
  simpa using this
 unfold uB at hr
 split at hr
 ·rename_i i
  have Hr:([i]:List fI)=[i]:=rfl
  rw[Hr] at hl
  obtain⟨rv,I3⟩:∃ rv,fn.results.toList=[rv]:=ai6.1 (by simpa using hl)
  have Qi:=qk 0 rv i (by rw[I3];rfl) (by rw[Hr];rfl)
  simp only[ahK] at hr
  obtain⟨z,hz,rfl⟩:=hr
  obtain⟨v,h1,h2⟩:=vY (P:=P) hI.W hI.F Qi hz
  have hv:VR gh s.H.length w v z.bc:=by
   rcases h2 with ⟨t,_,_,_,_,kq⟩|zI
   ·exact iZ kq.dropped
   ·exact iZ zI.dropped
  exact fin (one _ _ I3 h1) (Hg hI.W hv)
 ·rename_i cS
  simp only[ahK] at hr
  obtain⟨xs,Wo,rfl⟩:=hr
  obtain⟨vs,k1,k2,k3,k4⟩:=HF (P:=P) hI.W hI.F _ _ xs hl qk Wo
  have Y1:vs.length≠1:=by
   intro h
   rw[<- k1,hl] at h
   obtain⟨i,hi⟩:=ai6.1 h
   exact cS i hi
  have cg:=js (P:=P) (w:=w) (fn:=fn) (tmps:=a.tmps) k1 k3
  rw[dif_neg (by simpa using Y1)] at cg
  refine fin cg (.tuple vs.toArray _ (by simpa using k2) (fun j v x hv hx=>?_))
  simp only[ah2,ahK] at hx
  obtain⟨y,hy,rfl⟩:=hx
  exact Hg hI.W (k4 j v y (by simpa using hv) hy)
theorem sR{gr ZG:Gh}{w0 wI:World}(IW:aF G base H ZG wI)(jb:clean gr)(hI:Inv G base nt L H gr w0 s gh w a){fn:Func}{pB:au}(hc:iT P nt fn.results.toList=some pB.results){r:AV}{c:Option fD}(he:finish H.length pB s=some (r,c)) :
  j8 H c/\∃ v aD,(results fn a.tmps).run P w=.ok v w/\j9 G base H gr w0 r c v aD w:=by
 refine⟨lE hI.lo he,?_⟩
 obtain⟨r0,he,hr⟩:=tr he
 suffices hs:∃ v aD,(results fn a.tmps).run P w=.ok v w/\j9 G base H gr w0 r0 c v aD w by
  obtain⟨v,aD,k1,k2⟩:=hs
  rcases hr with rfl|rfl
  ·exact⟨v,aD,k1,k2⟩
  ·exact⟨v,aD,k1,{ k2 with val:=Ss k2.val }⟩
 clear hr
 obtain⟨ho,he⟩:=vj he
 have hold:∀ aD w',aF G base s.H aD w'->ta s.H H.length aD w':=fun aD w' h=>Xz IW hI.lo ho h
 rcases he with he|he|he|he
 ·exact Te jb hI hc hold he
 ·exact (GG jb hI hc hold he).2
 ·exact Tg jb hI hc hold he
 ·exact Tf jb hI hc hold he
section
variable {cf:cz}(ij:∀ f args H r c,cf f args H=some (r,c)->j8 H c)
include ij
theorem KS{draw:Bool}{o:az}{z:AV}{s s1:AS}(he:lD G cf draw s o=some (z,s1))(h:dG H s):dG H s1:=by
 have cg:((ai G cf s o.op).bind fun r=>match r.2 with
   | none=>cond (draw&&(aQ r.1).isSome) none (some (r.1,s))
   | some s'=>cond draw none (some (r.1,s')))=some (z,s1)->dG H s1:=by
  intro h1
  simp only[ahL] at h1
  obtain⟨⟨z',s'⟩,bb,h1⟩:=h1
  cases s' with
  | none =>
   simp only at h1
   cases hb:(draw&&(aQ z').isSome) with
   | true=>rw[hb] at h1;cases h1
   | false =>
    rw[hb] at h1
    simp only[ahW,ahM,ahN] at h1
    rw[<- h1.2];exact h
  | some s' =>
   simp only at h1
   cases draw with
   | true=>cases h1
   | false =>
    simp only[ahW,ahM,ahN] at h1
    rw[<- h1.2];exact G7 ij bb h
 unfold lD at he
 cases hg:o.guard with
 | none=>rw[hg] at he;exact cg he
 | some gw =>
  obtain⟨g,want⟩:=gw
  rw[hg] at he
  simp only at he
  generalize s.T g=X at he
  cases X with
  | bool b =>
   simp only at he
   cases hc:(b==want) with
   | false =>
    rw[hc] at he
    simp only[ahW,ahM,ahN] at he
    rw[<- he.2];exact h
   | true=>rw[hc] at he;exact cg he
  | tuple vs =>
   cases vs with
   | nil=>simp only[ahM,ahN] at he;rw[<- he.2];exact h
   | cons v vs=>cases he
  | _=>cases he
theorem oB{draw:Bool} : ∀ (is:List az) (s s' : AS),dU G cf draw is s=some s'->dG H s->dG H s'
 | [],s,s',he,h=>by simp only[dU,ahM] at he;rw[<- he];exact h
 | o :: r,s,s',he,h=>by
  simp only[dU,ahL,lC,ahK] at he
  obtain⟨s1,⟨⟨z,s2⟩,hz,rfl⟩,he⟩:=he
  have h2:=KS ij hz h
  exact oB r _ s' he (h2.dK (gN _ _ _).1 (gN _ _ _).2.2)
theorem qa(n:Nat):∀ (c:a7) (s s' : AS) (ex:bw),gH G cf n c s=some (ex,s')->dG H s->dG H s'
 | .skip,s,s',ex,he,h=>by simp only[gH,ahM,ahN] at he;rw[<- he.2];exact h
 | .region d ops,s,s',ex,he,h=>by
  simp only[gH,ahK,ahN] at he
  obtain⟨s2,he,_,rfl⟩:=he
  exact oB ij ops s s2 he h
 | .seq a b,s,s',ex,he,h=>by
  simp only[gH,ahL] at he
  obtain⟨⟨e1,s1⟩,h1,he⟩:=he
  have h2:=qa n a s s1 e1 h1 h
  cases e1 with
  | normal=>exact qa n b s1 s' ex he h2
  | _=>simp only[ahM,ahN] at he;rw[<- he.2];exact h2
 | .cond c a b,s,s',ex,he,h=>by
  simp only[gH] at he
  split at he
  ·rename_i t _
   cases t with
   | true=>exact qa n a s s' ex he h
   | false=>exact qa n b s s' ex he h
  ·cases he
 | .block id a,s,s',ex,he,h=>by
  simp only[gH,ahK] at he
  obtain⟨⟨e1,s1⟩,h1,he⟩:=he
  have h2:=qa n a s s1 e1 h1 h
  cases e1<;>(simp only[ahN] at he;rw[<- he.2];exact h2)
 | .loop a,s,s',ex,he,h=>by
  simp only[gH] at he
  have go:∀ (m:Nat) (s:AS),iter (gH G cf n a) m s=some (ex,s')->dG H s->dG H s':=by
   intro m
   induction m with
   | zero=>intro s h;cases h
   | succ m ih =>
    intro s h1 h
    simp only[iter,ahL] at h1
    obtain⟨⟨e1,s1⟩,h1,h2⟩:=h1
    have h3:=qa n a s s1 e1 h1 h
    cases e1 with
    | normal=>exact ih s1 h2 h3
    | _=>simp only[ahM,ahN] at h2;rw[<- h2.2];exact h3
  exact go n s he h
 | .exit id,s,s',ex,he,h=>by simp only[gH,ahM,ahN] at he;rw[<- he.2];exact h
 | .ret,s,s',ex,he,h=>by simp only[gH,ahM,ahN] at he;rw[<- he.2];exact h
 | .wU _ _ _,s,s',ex,he,h=>by simp[gH] at he
end
def Gh.taken(gh:Gh):Gh:={ gh with κ:=fun b=>match gh.κ b with|.par j=>.sl j|o=>o }
def aaK(p:aW):Prop:=∃ j,p=.par j
theorem qz(hW:aF G base H gh w)(n:Nat):Step aaK n gh w gh.taken w:=by
 refine⟨fun _ _ h=>h,fun _ _ _=>rfl,ahQ _,rfl,rfl,rfl,fun b hb hn=>⟨.inl rfl,?_,fun _ h=>h⟩,fun b hb=>?_,fun _ _=>rfl,fun _ _ _ h=>h,fun _ _ _ _ h=>h⟩
 ·simp only[Gh.taken]
  cases h:gh.κ b<;>first|rfl|skip
  exact absurd ⟨_,h⟩ hn
 ·simp only[Gh.taken,hW.fresh b hb]
  simp
theorem TI(hW:aF G base H gh w):aF G base H gh.taken w:=by
 refine hW.step (qz hW H.length) (fun l=>⟨fun h=>(by obtain⟨j,h⟩:=h;cases h),fun k h=>(by obtain⟨j,h⟩:=h;cases h)⟩) hW.lX (fun b hb=>hW.mH b fun h=>hb ?_) (fun _ _ _ h=>.inl h)
 simp[Gh.taken,h]
theorem Pa(hW:aF G base H gh w){n j:Nat}{v:Value}{x:AV}(h:CR gh n w (.par j) v x):CR gh.taken n w (.sl j) v x:=by
 have st:=qz hW n
 rcases h with h|⟨e,rfl,h1,h2⟩
 ·exact .inl (h.mono st (ahQ _))
 ·refine .inr ⟨e,rfl,h1,?_⟩
  obtain⟨b,cap,C,ty,lo,hi,sz,k1,k2,k3,k4,k5⟩:=h2
  exact⟨b,cap,C,ty,lo,hi,sz,k1,by simp[Gh.taken,k2],k3,k4,k5⟩
theorem B'{H:ag}{fn:Func}{locals muts:List Nat}{args:List AV}{gh:Gh}{w:World}{vs:Array Value}(hW:aF G base H gh w)(tD:vs.size=args.length)(fA:vs.size<=fn.ntmps)(bX:∀ (j:Nat) (v:Value) (x:AV),vs[j]?=some v->args[j]?=some x->CR gh H.length w (.par j) v x) :
  Inv G base fn.ntmps (locals++muts) H gh w ({ T:=gl args,H,lo:=H.length,gen:=0 } : AS) gh.taken w { tmps:=vs++Array.replicate (fn.ntmps-vs.size) undef,defers:=[] }:=by
 have dI:∀ b,w.heap.size<=b->gh.κ b≠.outer:=fun b hb=>hW.bq b hb
 have hE:Ext H.length gh w gh.taken w:=⟨(qz hW H.length).mono (fun p hp=>by obtain⟨j,rfl⟩:=hp;simp[nh]),fun b hb=>by
  simp only[Gh.taken] at hb
  cases h:gh.κ b<;>rw[h] at hb<;>first|exact hb|cases hb⟩
 refine⟨TI hW,⟨⟨rfl,by simp;omega,fun i hi=>?_⟩,fun i hi=>?_⟩,hE,⟨ahQ _,ahQ _,fun _ _=>rfl⟩⟩
 ·have kq:CR gh.taken H.length w (.sl i) ((vs++Array.replicate (fn.ntmps-vs.size) undef).getD i undef) (gl args i):=by
   by_cases aZ:i<vs.size
   ·have h1:=ahY aZ
    have h2:=ahP (show i<args.length by omega)
    have h3:=bX i _ _ h1 h2
    have e1:(vs++Array.replicate (fn.ntmps-vs.size) undef).getD i undef=vs[i]:=by
     rw[ajQ,aj1 aZ,h1];rfl
    have e2:gl args i=args[i]:=by simp only[gl,aim,h2];rfl
    rw[e1,e2]
    exact Pa hW h3
   ·have e1:(vs++Array.replicate (fn.ntmps-vs.size) undef).getD i undef=undef:=by
     rw[ajQ,Array.getElem?_append_right (by omega)]
     by_cases h:i-vs.size<fn.ntmps-vs.size
     ·simp[h]
     ·simp[h]
    have e2:gl args i=.undef:=by simp only[gl,aim,air (show args.length<=i by omega)];rfl
    rw[e1,e2]
    exact .inl .undef
  exact lZ kq.aq kq
 ·exfalso
  have hn:aQ (gl args i)=none:=by
   by_cases aZ:i<args.length
   ·have h1:=ahY (show i<vs.size by omega)
    have h2:=ahP aZ
    have e2:gl args i=args[i]:=by simp only[gl,aim,h2];rfl
    rw[e2]
    exact iU (bX i _ _ h1 h2).aq
   ·have e2:gl args i=.undef:=by simp only[gl,aim,air (show args.length<=i by omega)];rfl
    rw[e2];rfl
  have ku:(aQ (gl args i)).isSome=true:=hi
  rw[hn] at ku
  cases ku
theorem GI{cf:cz}(ij:dn P G cf)(hm:P.follows .mixedOrders=true){f:FuncId}{fn:Func}(FM:P.funcs[f]?=some fn){bR locals muts:List Nat}{pB:au}(hc:pG P bR locals muts fn=some pB)
  {n:Nat} {args:List AV} {r:AV} {c:Option fD} (he:sS G cf n pB args H=some (r,c)) :
  (fn.body.isSome=true/\fn.name≠ "runtime.NumGoroutine")/\j8 H c /\
  ∀ (base:Nat) (gh:Gh) (w:World) (vs:Array Value),aF G base H gh w->clean gh->vs.size=args.length->(∀ (j:Nat) (v:Value) (x:AV),vs[j]?=some v->args[j]?=some x->CR gh H.length w (.par j) v x) ->
   Calls P f vs w fun e w'=>∃ v aD,e=.returned v/\j9 G base H gh w r c v aD w':=by
 simp only[pG,ahL] at hc
 obtain⟨code,tw,b,hb,rs,B8,hc⟩:=hc
 obtain⟨h0,hc⟩:=ab hc
 injection hc with hc
 subst hc
 simp only[ahR,aiq,bne_iff_ne,ne_eq] at h0
 simp only[sS] at he
 obtain⟨h1,he⟩:=ab he
 have VH:args.length=fn.params.size+fn.nfree:=by simpa [dV] using h1
 simp only[ahL] at he
 obtain⟨⟨ex,s'⟩,bb,he⟩:=he
 have pa:j8 H c:=by
  have wQ:=qa (H:=H) (fun f args H r c h=>(ij f args H r c h).2.1) n b _ s' ex bb ⟨ahQ _,ahQ _,fun _ _=>rfl⟩
  cases ex with
  | normal=>exact lE wQ he
  | exit id=>cases he
  | ret=>exact lE wQ he
 refine⟨⟨by rw[tw];rfl,h0.2⟩,pa,fun base gh w vs hW jb tD bX=>?_⟩
 refine calls_of_wp FM tw ?_
 have dI:∀ b,w.heap.size<=b->gh.κ b≠.outer:=fun b hb=>hW.bq b hb
 have fA:vs.size<=fn.ntmps:=by omega
 have hI:=B' (locals:=locals) (muts:=muts) hW tD fA bX
 refine fR ij hm n code b hb _ s' ex gh.taken w _ _ hI bb (fun a' aD w' jM=>?_)
 have done:finish H.length { bR,locals,muts,nt:=fn.ntmps,np:=fn.params.size+fn.nfree,results:=rs,body:=b } s'=some (r,c) ->
   a'.defers=[]/\∃ v,(results fn a'.tmps).run P w'=.ok v w'/\∃ v' aD,Ending.returned v=.returned v'/\j9 G base H gh w r c v' aD w':=by
  intro hf
  obtain⟨_,v,Lb,hv,hR⟩:=sR (P:=P) hW jb jM B8 hf
  exact⟨jM.F.defers,v,hv,v,Lb,rfl,hR⟩
 cases ex with
 | normal=>exact done he
 | exit id=>cases he
 | ret=>exact done he
def jy(P:Program)(G:Nat->List AV)(f:FuncId)(g:List AV->ag->Option (AV × Option fD)):Prop :=
 ∀ args H r c,g args H=some (r,c)->(∃ fn,P.funcs[f]?=some fn/\fn.body.isSome=true/\fn.name≠ "runtime.NumGoroutine")/\j8 H c /\
  ∀ (base:Nat) (gh:Gh) (w:World) (vs:Array Value),aF G base H gh w->clean gh->vs.size=args.length->(∀ (j:Nat) (v:Value) (x:AV),vs[j]?=some v->args[j]?=some x->VR gh H.length w v x) ->
   Calls P f vs w fun e w'=>∃ v aD,e=.returned v/\j9 G base H gh w r c v aD w'
structure rY (P:Program) (A:AP):Prop where
 mixed:P.follows .mixedOrders=true
 fns:∀ f pB,A.fns f=some pB->∃ fn bR locals muts,P.funcs[f]?=some fn/\pG P bR locals muts fn=some pB
 ov:∀ f g,A.ov f=some g->jy P A.aP f g
theorem xO{A:AP}(h:rY P A):∀ n,dn P A.aP (xN A n)
 | 0=>fun f args H r c he=>by cases he
 | n+1=>fun f args H r c he=>by
  simp only[xN] at he
  split at he
  ·rename_i g hg
   obtain⟨h0,he⟩:=ab he
   obtain⟨k1,k2,k3⟩:=h.ov f g hg args H r c he
   refine⟨k1,k2,fun base gh w vs hW jb tD bX=>k3 base gh w vs hW jb tD (fun j v x hv hx=>?_)⟩
   rcases bX j v x hv hx with h|⟨e,rfl,_⟩
   ·exact h
   ·have:=ahU.1 h0 _ (ahZ hx)
    simp[rG] at this
  ·split at he
   ·cases he
   ·rename_i pB hf
    obtain⟨fn,bR,locals,muts,FM,hc⟩:=h.fns f pB hf
    obtain⟨⟨h1,h2⟩,h3,h4⟩:=GI (xO h n) h.mixed FM hc he
    exact⟨⟨fn,FM,h1,h2⟩,h3,h4⟩
end
end
end Go.Abs
