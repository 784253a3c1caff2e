/-
  A part of the proof of PrintNames: AbsCode.
-/
import Derived.Test.YtocbgffdpfiidaaGreatDoorP05
set_option linter.unusedSimpArgs false
set_option linter.unusedVariables false
set_option linter.defProp false
namespace Go.Abs
section
def bC.Hs:bC->Exit
 | .normal=>.normal
 | .exit id=>.exit id
 | .ret=>.ret
section
variable {P:Program}{G:Nat->List AV}{base nt:Nat}{gh:Gh}{w w' : World}{a:Act}{s:AS}{H:ag}{L:List Nat}
theorem Inv.drew{H0:ag}{gy:Gh}{w0:World}(h:Inv G base nt L H0 gy w0 s gh w a):Inv G base nt L H0 gy w0 s gh { w with drawn:=w.drawn+1 } a:=by
 have st:Step (fun _=>False) s.H.length gh w gh { w with drawn:=w.drawn+1 }:=⟨fun _ _ h=>h,fun _ _ _=>rfl,aiK _,rfl,rfl,rfl,fun _ _ _=>⟨.inl rfl,rfl,fun _ h=>h⟩,fun b hb=>h.W.bw b hb,fun _ _=>rfl,fun _ _ _ h=>h,fun _ _ _ _ h=>h⟩
 exact⟨h.W.step st (fun l=>⟨id,fun _=>id⟩) h.W.l7 h.W.mG (fun _ _ _ h=>.inl h),h.F.grown (H':=s.H) (lo':=s.lo) st (fun i=>⟨id,id,fun _=>id⟩) (aiK _),
  h.E.trans ⟨st.mono (fun _ h=>h.elim),fun _ h=>h⟩ h.lo.len,h.lo⟩
theorem fQ{cf:cC}(iv:dr P G cf)(hm:P.follows .mixedOrders=true){H0:ag}{gy:Gh}{w0:World}{bK locals muts:List Nat}(n:Nat) :
  ∀ (c:Code) (ic:aZ),dS P bK locals muts nt c=some ic->∀ (s s' : AS) (ex:bC) (gh:Gh) (w:World) (a:Act) (Q:Exit->Act->World->Prop),Inv G base nt (locals++muts) H0 gy w0 s gh w a->gL G cf n ic s=some (ex,s') ->
   (∀ a' aF w',Inv G base nt (locals++muts) H0 gy w0 s' aF w' a'->Q ex.Hs a' w')->c.wp P Q a w
 | .skip,ic,hc,s,s',ex,gh,w,a,Q,hI,he,hQ=>by
  simp only[dS,aiG] at hc
  subst hc
  simp only[gL,aiG,aiH] at he
  obtain⟨rfl,rfl⟩:=he
  exact wp_skip (hQ a gh w hI)
 | .region id ops draw,ic,hc,s,s',ex,gh,w,a,Q,hI,he,hQ=>by
  simp only[dS,aiF] at hc
  obtain⟨is,DO,hc⟩:=hc
  cases Wq:cond draw (vf locals ops.toList is) none with
  | some c3 =>
   rw[Wq] at hc
   injection hc with hc
   subst hc
   obtain⟨rfl,mode,pc,es,h1,h2,rfl⟩:=vg Wq
   simp only[gL,aiE,aiH] at he
   obtain⟨s2,he,rfl,rfl⟩:=he
   exact wp_region_any hm (BF iv (fun x hx=>aiM.2 (.inl hx)) (fun x hx=>aiM.2 (.inr hx)) Q hI.drew DO h1 h2 he hQ)
  | none =>
  rw[Wq] at hc
  simp only at hc
  cases hb:(!draw || (!(locals.elem 999998)&&rP (locals++muts) (ops.toList.zip is))) with
  | false =>
   rw[hb,aiQ] at hc
   obtain⟨_,hc⟩:=ab hc
   injection hc with hc
   subst hc
   simp[gL] at he
  | true =>
  have h0:=hb
  rw[hb,cond_true] at hc
  injection hc with hc
  subst hc
  simp only[gL,aiE,aiH] at he
  obtain⟨s2,he,rfl,rfl⟩:=he
  have vD:∀ x,x∈locals->x∈locals++muts:=fun x hx=>aiM.2 (.inl hx)
  have uG:∀ x,x∈muts->x∈locals++muts:=fun x hx=>aiM.2 (.inr hx)
  cases draw with
  | false=>exact wp_region_list (yN iv vD uG Q ops.toList is s s2 gh w a hI DO he hQ)
  | true =>
   rw[ajz,akx] at h0
   have hl:ops.size=is.length:=by simpa using (gJ DO).1
   exact wp_region_any hm (Fu iv vD uG Q hI.drew DO (C4 hl (alp.1 h0).2) he hQ)
 | .seq x y,ic,hc,s,s',ex,gh,w,a,Q,hI,he,hQ=>by
  simp only[dS,aiF,aiE] at hc
  obtain⟨ix,hx,iy,hy,rfl⟩:=hc
  simp only[gL,aiF] at he
  obtain⟨⟨e1,s1⟩,h1,he⟩:=he
  refine wp_seq (fQ iv hm n x ix hx s s1 e1 gh w a _ hI h1 (fun a' aF w' jQ=>?_))
  cases e1 with
  | normal=>exact fQ iv hm n y iy hy s1 s' ex aF w' a' Q jQ he hQ
  | exit id =>
   simp only[aiG,aiH] at he
   obtain⟨rfl,rfl⟩:=he
   exact hQ a' aF w' jQ
  | ret =>
   simp only[aiG,aiH] at he
   obtain⟨rfl,rfl⟩:=he
   exact hQ a' aF w' jQ
 | .cond c x y,ic,hc,s,s',ex,gh,w,a,Q,hI,he,hQ=>by
  simp only[dS,aiF,aiE] at hc
  obtain⟨iq,hq,ix,hx,iy,hy,rfl⟩:=hc
  simp only[gL] at he
  split at he
  ·rename_i t ht
   have hv:=(bS hI.W hI.F hq ht rfl).iw
   cases t with
   | true=>exact wp_cond_true hv (fQ iv hm n x ix hx s s' ex gh w a Q hI he hQ)
   | false=>exact wp_cond_false hv (fQ iv hm n y iy hy s s' ex gh w a Q hI he hQ)
  ·cases he
 | .block id c,ic,hc,s,s',ex,gh,w,a,Q,hI,he,hQ=>by
  simp only[dS,aiE] at hc
  obtain⟨ix,hx,rfl⟩:=hc
  simp only[gL,aiE] at he
  obtain⟨⟨e1,s1⟩,h1,he⟩:=he
  refine wp_block (fQ iv hm n c ix hx s s1 e1 gh w a _ hI h1 (fun a' aF w' jQ=>?_))
  cases e1 with
  | normal =>
   simp only[aiH] at he
   obtain⟨rfl,rfl⟩:=he
   exact hQ a' aF w' jQ
  | exit i =>
   simp only[aiH] at he
   obtain⟨rfl,rfl⟩:=he
   show if i=id then Q .normal a' w' else Q (.exit i) a' w'
   have:=hQ a' aF w' jQ
   rw[dU] at this
   by_cases hi:i=id
   ·rw[if_pos hi];simpa [hi,bC.Hs] using this
   ·rw[if_neg hi];simpa [hi,bC.Hs] using this
  | ret =>
   simp only[aiH] at he
   obtain⟨rfl,rfl⟩:=he
   exact hQ a' aF w' jQ
 | .loop c,ic,hc,s,s',ex,gh,w,a,Q,hI,he,hQ=>by
  simp only[dS,aiE] at hc
  obtain⟨ix,hx,rfl⟩:=hc
  simp only[gL] at he
  have rounds:∀ (m:Nat) (s:AS) (gh:Gh) (w:World) (a:Act),Inv G base nt (locals++muts) H0 gy w0 s gh w a->iter (gL G cf n ix) m s=some (ex,s')->Code.rounds P c Q m a w:=by
   intro m
   induction m with
   | zero=>intro s gh w a _ h;cases h
   | succ m ih =>
    intro s gh w a hI h
    simp only[iter,aiF] at h
    obtain⟨⟨e1,s1⟩,h1,h⟩:=h
    rw[rounds_succ]
    refine fQ iv hm n c ix hx s s1 e1 gh w a _ hI h1 (fun a' aF w' jQ=>?_)
    cases e1 with
    | normal=>exact ih s1 aF w' a' jQ h
    | exit id =>
     simp only[aiG,aiH] at h
     obtain⟨rfl,rfl⟩:=h
     exact hQ a' aF w' jQ
    | ret =>
     simp only[aiG,aiH] at h
     obtain⟨rfl,rfl⟩:=h
     exact hQ a' aF w' jQ
  exact wp_loop_rounds n (rounds n s gh w a hI he)
 | .exit id,ic,hc,s,s',ex,gh,w,a,Q,hI,he,hQ=>by
  simp only[dS,aiG] at hc
  subst hc
  simp only[gL,aiG,aiH] at he
  obtain⟨rfl,rfl⟩:=he
  exact wp_exit (hQ a gh w hI)
 | .ret,ic,hc,s,s',ex,gh,w,a,Q,hI,he,hQ=>by
  simp only[dS,aiG] at hc
  subst hc
  simp only[gL,aiG,aiH] at he
  obtain⟨rfl,rfl⟩:=he
  exact wp_ret (hQ a gh w hI)
 | .label l,ic,hc,s,s',ex,gh,w,a,Q,hI,he,hQ=>by
  simp only[dS,aiG] at hc
  subst hc
  simp only[gL,aiG,aiH] at he
  obtain⟨rfl,rfl⟩:=he
  exact wp_label (hQ a gh w hI)
 | .scope c,ic,hc,s,s',ex,gh,w,a,Q,hI,he,hQ=>by
  simp only[dS] at hc
  refine wp_scope_straight (fQ iv hm n c ic hc s s' ex gh w a _ hI he (fun a' aF w' jQ=>?_))
  have:=hQ a' aF w' jQ
  cases ex<;>exact this
 | .rangeFunc _ _ _ _,_,hc,_,_,_,_,_,_,_,_,_,_=>by simp[dS] at hc
 | .goto _,_,hc,_,_,_,_,_,_,_,_,_,_=>by simp[dS] at hc
 | .refuse _,_,hc,_,_,_,_,_,_,_,_,_,_=>by simp[dS] at hc
def lY(tmps:Array Value):ResultVar->Sem Value
 | .tmp t=>pure (tmps.getD t undef)
 | .cell a t=>do loadVar t (<- asAddr (tmps.getD a undef))
theorem pU{g:ResultVar->Sem Value} : ∀ (l:List ResultVar) (vs:List Value),l.length=vs.length->(∀ (j:Nat) (r:ResultVar) (v:Value),l[j]?=some r->vs[j]?=some v->(g r).run P w=.ok v w)->(l.mapM g).run P w=.ok vs w
 | [],[],_,_=>by simp
 | r :: l,v :: vs,hl,h=>by
  have h1:=h 0 r v rfl rfl
  have h2:=pU l vs (by simpa using hl) (fun j r v hr hv=>h (j+1) r v (by simpa using hr) (by simpa using hv))
  simp[List.mapM_cons,h1,h2]
 | [],_ :: _,hl,_=>by simp at hl
 | _ :: _,[],hl,_=>by simp at hl
theorem jy{fn:Func}{tmps:Array Value}{vs:List Value}(hl:fn.results.toList.length=vs.length)(h:∀ (j:Nat) (r:ResultVar) (v:Value),fn.results.toList[j]?=some r->vs[j]?=some v->(lY tmps r).run P w=.ok v w) :
  (results fn tmps).run P w=.ok (if h:vs.toArray.size=1 then vs.toArray[0] else .tuple vs.toArray) w:=by
 have e:results fn tmps=(do let vs <- fn.results.mapM (lY tmps);pure (if h:vs.size=1 then vs[0] else .tuple vs)):=by
  unfold results
  congr 1
 rw[e,Sem.run_bind]
 have h2:(fn.results.mapM (lY tmps)).run P w=.ok vs.toArray w:=by
  rw[Array.mapM_eq_mapM_toList]
  have:=pU (P:=P) (w:=w) fn.results.toList vs hl h
  simp[this]
 rw[h2]
 rfl
theorem jq:∀ {l:List ResultVar} {rs:List fJ},iY P nt l=some rs->l.length=rs.length/\∀ (j:Nat) (r:ResultVar) (i:fJ),l[j]?=some r->rs[j]?=some i ->
  (∃ t,r=.tmp t/\i=.tmp t/\t<nt)\/∃ t ty g sz,r=.cell t ty/\i=.cell t g sz/\t<nt/\ki P ty=some g/\da P ty=some sz
 | [],rs,h=>by simp[iY] at h;subst h;exact⟨rfl,fun j r i h=>by simp at h⟩
 | .tmp t :: l,rs,h=>by
  simp only[iY] at h
  obtain⟨h0,h⟩:=ab h
  simp only[aiE] at h
  obtain⟨rs',hr,rfl⟩:=h
  obtain⟨h1,h2⟩:=jq hr
  refine⟨by simp[h1],fun j r i hj hi=>?_⟩
  cases j with
  | zero=>simp at hj hi;subst hj hi;exact .inl ⟨t,rfl,rfl,by simpa [ajb] using h0⟩
  | succ j=>exact h2 j r i (by simpa using hj) (by simpa using hi)
 | .cell t ty :: l,rs,h=>by
  simp only[iY] at h
  obtain⟨h0,h⟩:=ab h
  simp only[aiF,aiE] at h
  obtain⟨g,hg,sz,hs,rs',hr,rfl⟩:=h
  obtain⟨h1,h2⟩:=jq hr
  refine⟨by simp[h1],fun j r i hj hi=>?_⟩
  cases j with
  | zero=>simp at hj hi;subst hj hi;exact .inr ⟨t,ty,g,sz,rfl,rfl,by simpa [ajb] using h0,hg,hs⟩
  | succ j=>exact h2 j r i (by simpa using hj) (by simpa using hi)
theorem wu(hW:aG G base s.H gh w)(hF:FR L nt gh w a s){r:ResultVar}{i:fJ}(hc:(∃ t,r=.tmp t/\i=.tmp t/\t<nt)\/∃ t ty g sz,r=.cell t ty/\i=.cell t g sz/\t<nt/\ki P ty=some g/\da P ty=some sz)
  {z:AV} (hz:iE s i=some z):∃ v,(lY a.tmps r).run P w=.ok v w/\((∃ t,i=.tmp t/\t<nt/\v=dO a t/\z=s.T t/\CR gh s.H.length w (.sl t) v z)\/VR gh s.H.length w v z):=by
 rcases hc with ⟨t,rfl,rfl,ht⟩|⟨t,ty,g,sz,rfl,rfl,ht,hg,hs⟩
 ·refine⟨dO a t,rfl,.inl ⟨t,rfl,ht,rfl,?_⟩⟩
  simp only[iE] at hz
  obtain⟨h0,hz⟩:=ab hz
  injection hz with hz
  subst hz
  have h:=hF.slot t ht
  change SR gh s.H.length nt w s.T s.gen (dO a) t (dO a t) (s.T t) at h
  refine⟨rfl,?_⟩
  generalize s.T t=X at h h0
  cases X<;>first|exact h|(simp[ar] at h0)
 ·have h:=hF.slot t ht
  change SR gh s.H.length nt w s.T s.gen (dO a) t (dO a t) (s.T t) at h
  simp only[iE] at hz
  have run:∀ {b:Nat} {f:Nat->Value} {cs:List AV},dO a t=.pointer (some ⟨b,0,none⟩)->an false g sz 0 cs=some z->(∀ (j:Nat) (x:AV),cs[j]?=some x->w.cell? ⟨b,0+j,none⟩=some (f j)/\(f j).oneCell'=true/\VR gh s.H.length w (f j) x.drop) ->
    ∃ v,(lY a.tmps (.cell t ty)).run P w=.ok v w/\((∃ t',fJ.cell t g sz=.tmp t'/\t' < nt/\v=dO a t'/\z=s.T t'/\CR gh s.H.length w (.sl t') v z)\/VR gh s.H.length w v z):=by
   intro b f cs hb hl hf
   obtain⟨v,h1,h2⟩:=jg (P:=P) hl hg hs hf
   refine⟨v,?_,.inr h2⟩
   have fF:a.tmps.getD t undef=.pointer (some ⟨b,0,none⟩):=hb
   show (do loadVar ty (<- asAddr (a.tmps.getD t undef)):Sem Value).run P w=_
   rw[fF]
   simpa [asAddr] using h1
  split at hz
  ·rename_i gg cs hT
   rw[hT] at h
   obtain⟨_,b,hb,hB⟩:=h
   obtain⟨f,hf⟩:=mN hB
   exact run hb hz hf
  ·rename_i loc hT
   rw[hT] at h
   have hv:=CR.dropped (h:CR gh s.H.length w (.sl t) (dO a t) (.ref loc 0))
   obtain⟨a7,hp⟩:=VR.gV hv
   split at hz
   ·rename_i Km cs hH
    obtain⟨f,hf⟩:=mN (hW.boxes loc _ cs hH)
    exact run hp hz hf
   ·cases hz
  ·cases hz
theorem freeze(hW:aG G base s.H gh w)(hF:FR L nt gh w a s){b g:Nat}{e:List (List AV)}(hb:b<nt)(hT:s.T b=.lsl g e)(pn:gd e=true) :
  ∃ aF,aG G base s.H aF w/\Ext s.H.length gh w aF w/\CR aF s.H.length w .ret (dO a b) (.slice e true):=by
 obtain⟨ad,cap,hV,⟨rfl,rfl,vJ⟩|⟨k,C,ty,sz,cU,rfl,hκ,hS,hk,hC,hl,hr,fq⟩⟩:=l8 hF hb hT
 ·refine⟨gh,hW,Ext.refl _ _ _ (fun b hb=>hW.bw b hb),.inl ?_⟩
  rw[hV]
  refine .full ad 0 [] ?_ (fun ZL h _=>(vJ ZL h).2)
  cases ad with
  | none=>exact .cB
  | some ad =>
   obtain⟨b',o',sp⟩:=ad
   have:=(vJ _ rfl).1
   simp only at this
   subst this
   exact .slice b' o' 0 0 0 [] (fun _ _=>undef) rfl (aiK _) (fun i r h=>by simp at h) (fun i j r x h=>by simp at h) (fun i j r x h=>by simp at h)
 ·have j8:∀ o,gh.S k o->C[o]?=C[o]?:=fun _ _=>rfl
  have hn:gh.κ k≠.none:=by rw[hκ];simp
  have HI:∀ j m,j<e.length*sz->C[j]?=some (.int .u8 m)->ty=fP:=by
   intro j m hj hc
   have cy:fW gh.S w sz (C.toList.take (e.length*sz)).toArray e:=by
    have hle:e.length*sz<=C.size:=by rw[hC];exact aiZ _ hl
    refine⟨by simp;omega,hr,fun i j r x hi hj=>?_⟩
    obtain⟨u,hu,hp⟩:=fq i j r x hi hj
    refine⟨u,?_,hp⟩
    have h1:=(aiI.1 hi).1
    have h2:j<sz:=by rw[<- hr i r hi];exact (aiI.1 hj).1
    simp only[ai3,ai0,if_pos (qC h1 h2)]
    simpa using hu
   refine l6 (isB:=false) (m:=m) cy pn (fun h=>by cases h) hj ?_
   simp only[ai3,ai0,if_pos hj]
   simpa using hc
  have hE:=uM hW hk rfl (fun o=>o<e.length*sz) j8 (p:=.ret) (by simp) hn (by rw[hκ];simp) s.H.length
  have j6:=H3 hW hk rfl (fun o=>o<e.length*sz) j8 HI .ret hn (by rw[hκ];simp)
  have L1:=setRow_self w k C ty (0,0) hk
  rw[L1] at hE j6
  refine⟨_,j6,hE,.inr ⟨e,rfl,?_,k,cap,C,ty,0,0,sz,hV,by simp,cU,hk,hC,hr,hl,ajy _,?_⟩⟩
  ·rw[hV]
   have key:∀ (i j:Nat) (r:List AV) (x:AV),e[i]?=some r->r[j]?=some x->C[i*sz+j]?=some (C.getD (i*sz+j) undef)/\PR gh.S w (C.getD (i*sz+j) undef) x/\i*sz+j<e.length*sz:=by
    intro i j r x hi hj
    obtain⟨u,hu,hp⟩:=fq i j r x hi hj
    have a7:=(aiN.1 hu).1
    have:C.getD (i*sz+j) undef=u:=by
     rw[aiS a7] at hu
     injection hu with hu
     simp[a7,hu]
    rw[this]
    exact⟨hu,hp,qC (aiI.1 hi).1 (by rw[<- hr i r hi];exact (aiI.1 hj).1)⟩
   refine .slice k 0 e.length cap sz e (fun i j=>C.getD (i*sz+j) undef) rfl hl hr (fun i j r x hi hj=>?_) (fun i j r x hi hj=>?_)
   ·obtain⟨h1,h2,h3⟩:=key i j r x hi hj
    refine⟨.inr ⟨rfl,by simpa using h3⟩,?_,h2.dB⟩
    rw[Nat.zero_add,cell_of_row w k _ C ty _ hk];exact h1
   ·exact (key i j r x hi hj).2.1.mono (fun b o h=>.inl h) (fun _ _ _=>rfl) (fun _ _ _ _ h=>h)
  ·rintro o ho (h|⟨_,h⟩)
   ·exact hS o h
   ·omega
theorem VR.aN{n m:Nat}{v:Value}{x:AV}(h:VR gh n w v x)(hx:x.aN m=true):VR gh m w v x:=by
 cases x
 case ref loc off =>
  obtain⟨_,rfl⟩:=h.gV
  exact .ref loc off (by simpa [AV.aN,ajb] using hx)
 case sref loc off k z =>
  obtain⟨_,cap,hk,hz,rfl⟩:=h.iz
  exact .sref loc off k cap z (by simpa [AV.aN,ajb] using hx) hk hz
 case mref loc =>
  obtain⟨_,rfl⟩:=h.lQ
  exact .mref loc (by simpa [AV.aN,ajb] using hx)
 all_goals exact .plain _ _ (h.iX hx)
theorem VR.bg{n m:Nat}{v:Value}{x:AV}(h:VR gh n w v x)(hx:x.bg m=true):VR gh m w v x:=by
 cases x
 case agg cs =>
  obtain⟨C,rfl,hs,fh,hc⟩:=h.ja
  exact .agg C cs hs fh (fun j v x hv mF=>(hc j v x hv mF).aN (aiO.1 hx x (aiT mF)))
 all_goals exact h.aN hx
theorem VR.leaves{n m:Nat}{v:Value}{x:AV}(h:VR gh n w v x)(hx:x.leaves m=true):VR gh m w v x:=by
 cases x
 case func f fs cs =>
  simp only[AV.leaves,aiL] at hx
  obtain⟨us,ts,rfl,h1,h2,h3,h4⟩:=h.oM
  exact .func f us ts fs cs h1 h2 (fun j v x hv mF=>(h3 j v x hv mF).aN (aiO.1 hx.1 x (aiT mF))) (fun j v x hv mF=>(h4 j v x hv mF).aN (aiO.1 hx.2 x (aiT mF)))
 case iface t y =>
  cases h with
  | plain _ _ h=>exact .plain _ _ h
  | iface _ u _ h=>exact .iface t u y (h.aN hx)
 case tuple vs =>
  obtain⟨us,rfl,hs,h1⟩:=h.pq
  exact .tuple us vs hs (fun j v x hv mF=>(h1 j v x hv mF).bg (aiO.1 hx x (aiT mF)))
 case slice e own =>
  cases h with
  | plain _ _ h=>exact .plain _ _ h
  | full a k _ h hz=>exact .full a k e h hz
 all_goals exact h.bg hx
theorem CR.leaves{n m:Nat}{p:aX}{v:Value}{x:AV}(h:CR gh n w p v x)(hx:x.leaves m=true):CR gh m w p v x:=by
 rcases h with h|h
 ·exact .inl (h.leaves hx)
 ·exact .inr h
theorem VR.fG{n m loc:Nat}{v:Value}{x:AV}(h:VR gh n w v x)(hx:fG loc x=true)(hl:loc<m):VR gh m w v x:=by
 cases x
 case ref l off =>
  obtain⟨_,rfl⟩:=h.gV
  have:l<=loc:=by simpa [Abs.fG,ajg] using hx
  exact .ref l off (by omega)
 case sref l off k z =>
  obtain⟨_,cap,hk,hz,rfl⟩:=h.iz
  have:l<=loc:=by simpa [Abs.fG,ajg] using hx
  exact .sref l off k cap z (by omega) hk hz
 case mref l =>
  obtain⟨_,rfl⟩:=h.lQ
  have:l<=loc:=by simpa [Abs.fG,ajg] using hx
  exact .mref l (by omega)
 case slice e own =>
  cases h with
  | plain _ _ h=>exact .plain _ _ h
  | full a k _ h hz=>exact .full a k e h hz
 all_goals exact .plain _ _ (h.iX hx)
theorem VR.jK{n m loc:Nat}{v:Value}{x:AV}(h:VR gh n w v x)(hx:jK loc x=true)(hl:loc<m):VR gh m w v x:=by
 cases x
 case agg cs =>
  obtain⟨C,rfl,hs,fh,hc⟩:=h.ja
  exact .agg C cs hs fh (fun j v x hv mF=>(hc j v x hv mF).fG (aiO.1 hx x (aiT mF)) hl)
 all_goals exact h.fG hx hl
theorem VR.aR{n m loc:Nat}{v:Value}{x:AV}(h:VR gh n w v x)(hx:aR loc x=true)(hl:loc<m):VR gh m w v x:=by
 cases x
 case ref l off =>
  obtain⟨_,rfl⟩:=h.gV
  have:l<=loc:=by simpa [Abs.aR,ajg] using hx
  exact .ref l off (by omega)
 case sref l off k z =>
  obtain⟨_,cap,hk,hz,rfl⟩:=h.iz
  have:l<=loc:=by simpa [Abs.aR,ajg] using hx
  exact .sref l off k cap z (by omega) hk hz
 case mref l =>
  obtain⟨_,rfl⟩:=h.lQ
  have:l<=loc:=by simpa [Abs.aR,ajg] using hx
  exact .mref l (by omega)
 case slice e own =>
  cases h with
  | plain _ _ h=>exact .plain _ _ h
  | full a k _ h hz=>exact .full a k e h hz
 case func f fs cs =>
  simp only[Abs.aR,aiL] at hx
  obtain⟨us,ts,rfl,h1,h2,h3,h4⟩:=h.oM
  exact .func f us ts fs cs h1 h2 (fun j v x hv mF=>(h3 j v x hv mF).jK (aiO.1 hx.1 x (aiT mF)) hl) (fun j v x hv mF=>(h4 j v x hv mF).jK (aiO.1 hx.2 x (aiT mF)) hl)
 all_goals exact .plain _ _ (h.iX hx)
theorem PR.lower{S:Nat->Nat->Prop}{w0:World}{v0:Value}{x:AV}(h:PR S w0 v0 x){n m:Nat} : ∀ {v:Value},VR gh n w v x->VR gh m w v x:=by
 induction h with
 | iface t v0 x h ih =>
  intro v hv
  cases hv with
  | plain _ _ h=>exact .plain _ _ h
  | iface _ u _ h=>exact .iface t u x (ih h)
 | func f =>
  intro v hv
  cases hv with
  | plain _ _ h=>exact .plain _ _ h
  | func _ fs cs _ _ h1 h2 h3 h4=>exact .func f fs cs [] [] h1 h2 (fun j v x _ hx=>by simp at hx) (fun j v x _ hx=>by simp at hx)
 | _ =>
  intro v hv
  cases hv<;>exact .plain _ _ ‹_›
theorem VR.lower{gy:Gh}{w0:World}{m:Nat}{v0:Value}{x:AV}(h:VR gy m w0 v0 x){n:Nat} : ∀ {v:Value},VR gh n w v x->VR gh m w v x:=by
 induction h with
 | plain v0 x h=>intro v hv;exact h.lower hv
 | full a k e h hz =>
  intro v hv
  cases hv with
  | plain _ _ h=>cases h
  | full a k _ h hz=>exact .full a k e h hz
 | ref loc off h=>intro v hv;obtain⟨_,rfl⟩:=hv.gV;exact .ref loc off h
 | sref loc off k cap z h hk hz=>intro v hv;obtain⟨_,cap,hk,hz,rfl⟩:=hv.iz;exact .sref loc off k cap z h hk hz
 | mref loc h=>intro v hv;obtain⟨_,rfl⟩:=hv.lQ;exact .mref loc h
 | func f fs cs xs ys hf hc _ _ ih1 ih2 =>
  intro v hv
  obtain⟨us,ts,rfl,h1,h2,h3,h4⟩:=hv.oM
  refine .func f us ts xs ys h1 h2 (fun j v x hv hx=>?_) (fun j v x hv hx=>?_)
  ·have hj:j<fs.size:=by rw[hf];exact (aiI.1 hx).1
   exact ih1 j _ x (aiS hj) hx (h3 j v x hv hx)
  ·have hj:j<cs.size:=by rw[hc];exact (aiI.1 hx).1
   exact ih2 j _ x (aiS hj) hx (h4 j v x hv hx)
 | iface t v0 x h ih =>
  intro v hv
  cases hv with
  | plain _ _ h=>exact .plain _ _ h
  | iface _ u _ h=>exact .iface t u x (ih h)
 | agg cs xs hs fh _ ih =>
  intro v hv
  obtain⟨C,rfl,qt,LV,hc⟩:=hv.ja
  refine .agg C xs qt LV (fun j v x hv hx=>?_)
  have hj:j<cs.size:=by rw[hs];exact (aiI.1 hx).1
  exact ih j _ x (aiS hj) hx (hc j v x hv hx)
 | tuple vs xs hs _ ih =>
  intro v hv
  obtain⟨us,rfl,qt,h1⟩:=hv.pq
  refine .tuple us xs qt (fun j v x hv hx=>?_)
  have hj:j<vs.size:=by rw[hs];exact (aiI.1 hx).1
  exact ih j _ x (aiS hj) hx (h1 j v x hv hx)
def tz(H:ag)(m:Nat)(gh:Gh)(w:World):Prop:=∀ (l:Nat) (cs:List AV),l<m->H[l]?=some (.dL cs)->fI gh m w (gh.ρ l) (.hb l) (fun j=>.hs l j) cs
theorem X9{ghI:Gh}{wI:World}{H0:ag}(Ja:aG G base H0 ghI wI)(w5:dI H0 s)(ho:mB H0.length s=true)(hW:aG G base s.H gh w):tz s.H H0.length gh w:=by
 intro l cs hl hH
 obtain⟨h1,h2,C,Kn,h3,h4,h5⟩:=(hW.more l _ hH:fI gh s.H.length w (gh.ρ l) (.hb l) (fun j=>.hs l j) cs)
 refine⟨h1,h2,C,Kn,h3,h4,fun j v x hv hx=>⟨(h5 j v x hv hx).1,?_⟩⟩
 have kB:=(h5 j v x hv hx).2
 by_cases HH:l<s.lo
 ·have hH0:H0[l]?=some (.dL cs):=by rw[<- w5.same l HH];exact hH
  obtain⟨_,_,C0,Km,g3,g4,g5⟩:=(Ja.more l _ hH0:fI ghI H0.length wI (ghI.ρ l) (.hb l) (fun j=>.hs l j) cs)
  have hj:j<C0.size:=by have:=(aiI.1 hx).1;omega
  rcases kB with z6|WM
  ·rcases (g5 j _ x (aiS hj) hx).2 with k|⟨e,rfl,_⟩
   ·exact .inl (k.lower z6)
   ·cases z6 with
    | plain _ _ h=>cases h
    | full a k _ h hz=>exact .inl (.full a k e h hz)
  ·exact .inr WM
 ·have hc:x.aN H0.length=true:=by
   unfold mB at ho
   cases hb:Nat.beq s.lo H0.length with
   | true=>have:=ajG hb;omega
   | false =>
    rw[hb,aiQ] at ho
    have hm:de.dL cs∈(s.H.take H0.length).drop s.lo:=by
     refine aiT (i:=l-s.lo) ?_
     rw[aje,ai0,if_pos (by omega),show s.lo+(l-s.lo)=l by omega]
     exact hH
    exact aiO.1 (aiO.1 ho _ hm) x (aiT hx)
  rcases kB with z6|⟨e,rfl,_⟩
  ·exact .inl (z6.aN hc)
  ·simp[AV.aN,AV.plain] at hc
theorem CR.aR{n m loc:Nat}{p:aX}{v:Value}{x:AV}(h:CR gh n w p v x)(hx:aR loc x=true)(hl:loc<m):CR gh m w p v x:=by
 rcases h with h|h
 ·exact .inl (h.aR hx hl)
 ·exact .inr h
theorem aG.AG(hW:aG G base H gh w){m:Nat}(hm:m<=H.length)(hold:tz H m gh w):aG G base (H.take m) gh w:=by
 have UZ:(H.take m).length=m:=by simp;omega
 refine⟨hW.size,hW.l7,hW.mG,hW.aP,fun loc ty cs hl=>?_,fun loc ty cs hl=>?_,hW.uB,hW.bytes,fun loc o hl=>?_,fun loc ty cs hl=>?_⟩
 rotate_left 2
 ·rw[ai0] at hl
  split at hl
  ·rename_i a7
   have h:=hW.more loc o hl
   rw[UZ]
   cases o with
   | map kz ka va es =>
    obtain⟨⟨h1,h2,E,ck,f,h3,h4,h5,h6⟩,h7⟩:=h
    refine⟨⟨h1,h2,E,ck,f,h3,h4,h5,fun i j r x hi hj hl=>?_⟩,h7⟩
    have hc:=aiO.1 (aiO.1 h7 r (aiT hi)) x (aiT hj)
    obtain⟨k1,k2,k3⟩:=h6 i j r x hi hj hl
    refine⟨k1,fun hv=>?_,k3.aR hc a7⟩
    exact (k2 hv).aR hc a7
   | dp kz ka va es=>exact h
   | FL cs=>exact h
   | dL cs=>exact hold loc cs a7 hl
   | _=>trivial
  ·cases hl
 ·rw[ai0] at hl
  split at hl
  ·exact hW.types loc ty cs hl
  ·cases hl
 ·rw[ai0] at hl
  split at hl
  ·rename_i a7
   obtain⟨h1,h2,C,Kn,h3,h4,h5⟩:=hW.boxes loc _ cs hl
   refine⟨h1,h2,C,Kn,h3,h4,fun j v x hv hx=>⟨(h5 j v x hv hx).1,?_⟩⟩
   have hlen:(H.take m).length=m:=by simp;omega
   rw[hlen]
   exact (h5 j v x hv hx).2.aR (aiO.1 (hW.refs loc _ cs hl) x (aiT hx)) a7
  ·cases hl
 ·rw[ai0] at hl
  split at hl
  ·exact hW.refs loc _ cs hl
  ·cases hl
theorem HZ(hW:aG G base s.H gh w)(hF:FR L nt gh w a s):∀ (l:List ResultVar) (rs:List fJ) (xs:List AV),l.length=rs.length->(∀ (j:Nat) (r:ResultVar) (i:fJ),l[j]?=some r->rs[j]?=some i ->
    (∃ t,r=.tmp t/\i=.tmp t/\t<nt)\/∃ t ty g sz,r=.cell t ty/\i=.cell t g sz/\t<nt/\ki P ty=some g/\da P ty=some sz)->mD s rs=some xs ->
    ∃ vs:List Value,l.length=vs.length/\vs.length=xs.length/\(∀ (j:Nat) (r:ResultVar) (v:Value),l[j]?=some r->vs[j]?=some v->(lY a.tmps r).run P w=.ok v w)/\∀ (j:Nat) (v:Value) (x:AV),vs[j]?=some v->xs[j]?=some x->VR gh s.H.length w v x:=by
 intro l
 induction l with
 | nil =>
  intro rs xs hl _ h
  have:rs=[]:=akv.1 (by simpa using hl.symm)
  subst this
  simp only[mD,aiG] at h
  subst h
  exact⟨[],rfl,rfl,fun j r v h=>by simp at h,fun j v x h=>by simp at h⟩
 | cons rv l ih =>
  intro rs xs hl hc h
  cases rs with
  | nil=>simp at hl
  | cons i rs =>
   simp only[mD,aiF,aiE] at h
   obtain⟨z,hz,ys,L4,rfl⟩:=h
   obtain⟨v,h1,h2⟩:=wu (P:=P) hW hF (hc 0 rv i rfl rfl) hz
   have hv:VR gh s.H.length w v z.bf:=by
    rcases h2 with ⟨t,_,_,_,_,kB⟩|z6
    ·exact jd kB.dropped
    ·exact jd z6.dropped
   obtain⟨vs,k1,k2,k3,k4⟩:=ih rs ys (by simpa using hl) (fun j r i hr hi=>hc (j+1) r i (by simpa using hr) (by simpa using hi)) L4
   refine⟨v :: vs,by simp[k1],by simp[k2],fun j r u hr hu=>?_,fun j u x hu hx=>?_⟩
   ·cases j with
    | zero=>simp at hr hu;subst hr hu;exact h1
    | succ j=>exact k3 j r u (by simpa using hr) (by simpa using hu)
   ·cases j with
    | zero=>simp at hu hx;subst hu hx;exact hv
    | succ j=>exact k4 j u x (by simpa using hu) (by simpa using hx)
theorem GY{gy:Gh}{w0:World}(iT:clean gy)(hI:Inv G base nt L H gy w0 s gh w a){fn:Func}{rs:List fJ}(hc:iY P nt fn.results.toList=some rs){r:AV}{c:Option fz}(hold:∀ aF w',aG G base s.H aF w'->tz s.H H.length aF w')(he:jJ H.length rs s=some (r,c)) :
  ke H c/\∃ v aF,(results fn a.tmps).run P w=.ok v w/\kg G base H gy w0 r c v aF w:=by
 simp only[jJ,aiF] at he
 obtain⟨r',hr,he⟩:=he
 obtain⟨Ki,he⟩:=ab he
 simp only[aiG,aiH] at he
 obtain⟨rfl,pj⟩:=he
 have hlen:=hI.lo.len
 have mf:lT H c=s.H.take H.length:=by
  cases hb:Nat.beq s.lo H.length with
  | false=>rw[hb] at pj;subst pj;rfl
  | true =>
   rw[hb] at pj
   subst pj
   have w5:s.lo=H.length:=ajG hb
   show H=_
   refine akd fun l=>?_
   rw[ai0]
   split
   ·rename_i hl;exact (hI.lo.same l (by omega)).symm
   ·rename_i hl;exact ajk (by omega)
 have vI:(lT H c).length=H.length:=by rw[mf];simp;omega
 have adD:ke H c:=by
  refine⟨akj vI.symm,fun c' xy=>?_⟩
  cases hb:Nat.beq s.lo H.length with
  | true=>rw[hb] at pj;rw[<- pj] at xy;cases xy
  | false =>
   rw[hb] at pj
   rw[<- pj] at xy
   simp only[aiQ,aiG] at xy
   subst xy
   refine⟨hI.lo.lo,fun l hl=>?_⟩
   have:=hI.lo.lo
   rw[ai0,if_pos (by simp only at hl;omega)]
   exact hI.lo.same l hl
 refine⟨adD,?_⟩
 have fin:∀ {v:Value} {aF:Gh},(results fn a.tmps).run P w=.ok v w->aG G base s.H aF w->Ext s.H.length gh w aF w->CR aF s.H.length w .ret v r'->∃ v aF,(results fn a.tmps).run P w=.ok v w/\kg G base H gy w0 r' c v aF w:=by
  intro v aF h1 h2 h3 h4
  have hE:=hI.E.trans h3 hlen
  refine⟨v,aF,h1,akj vI.symm,by rw[mf];exact h2.AG hlen (hold _ _ h2),?_,hE.out,by rw[vI];exact h4.leaves Ki⟩
  have st:=hE.step
  refine⟨st.S,st.cell,st.size,st.os,st.tape,st.output,fun b hb hn=>st.xR b hb (fun ht=>hn ?_),st.fresh,st.ρ,st.len,st.mp⟩
  rcases iT b with h|h|h|h
  ·exact absurd h ht.1
  ·exact absurd h ht.2
  ·exact .inl h
  ·exact .inr h
 obtain⟨hl,qs⟩:=jq hc
 have hrefl:Ext s.H.length gh w gh w:=Ext.refl _ _ _ (fun b hb=>hI.W.bw b hb)
 have one:∀ (rv:ResultVar) (v:Value),fn.results.toList=[rv]->(lY a.tmps rv).run P w=.ok v w->(results fn a.tmps).run P w=.ok v w:=by
  intro rv v h1 h2
  have:=jy (P:=P) (w:=w) (fn:=fn) (tmps:=a.tmps) (vs:=[v]) (by rw[h1];rfl) (fun j r' v' hr hv=>by
   rw[h1] at hr
   cases j with
   | zero=>simp at hr hv;subst hr hv;exact h2
   | succ j=>simp at hr)
  simpa using this
 unfold lZ at hr
 split at hr
 ·rename_i i
  have HM:([i]:List fJ)=[i]:=rfl
  rw[HM] at hl
  obtain⟨rv,Jj⟩:∃ rv,fn.results.toList=[rv]:=aj1.1 (by simpa using hl)
  have QM:=qs 0 rv i (by rw[Jj];rfl) (by rw[HM];rfl)
  split at hr
  ·rename_i b br
   rcases QM with ⟨t,rfl,rfl,ht⟩|⟨t,ty,g,sz,rfl,rfl,_⟩
   ·simp only[nL] at br
    have tP:=hI.F.slot t ht
    change SR gh s.H.length nt w s.T s.gen (dO a) t (dO a t) (s.T t) at tP
    split at br
    ·rename_i g e hT
     injection br with br
     subst br
     rw[hT] at hr
     obtain⟨pn,hr⟩:=ab hr
     injection hr with hr
     subst hr
     obtain⟨aF,h2,h3,h4⟩:=freeze hI.W hI.F ht hT pn
     exact fin (one _ _ Jj rfl) h2 h3 h4
    ·rename_i b' g hT
     rw[hT] at tP
     obtain⟨fF,_,hv⟩:=tP
     split at br
     ·rename_i g' e hT'
      obtain⟨h0,br⟩:=ab br
      injection br with br
      subst br
      rw[hT'] at hr
      obtain⟨pn,hr⟩:=ab hr
      injection hr with hr
      subst hr
      have A7:g=g':=by simpa [dU] using h0
      have fZ:dO a t=dO a b':=hv (by rw[hT',A7];rfl)
      obtain⟨aF,h2,h3,h4⟩:=freeze hI.W hI.F fF hT' pn
      exact fin (one _ _ Jj rfl) h2 h3 (by show CR aF s.H.length w .ret (dO a t) _;rw[fZ];exact h4)
     ·cases br
    ·cases br
   ·cases br
  ·obtain⟨v,h1,h2⟩:=wu (P:=P) hI.W hI.F QM hr
   rcases h2 with ⟨t,_,ht,rfl,hz,kB⟩|z6
   ·rcases kB with z6|⟨e,rfl,_⟩
    ·exact fin (one _ _ Jj h1) hI.W hrefl (.inl z6)
    ·obtain⟨aF,h2,_,h3,_,h4⟩:=rQ hI.W hI.F ht hz.symm .ret (by simp)
     exact fin (one _ _ Jj h1) h2 h3 h4
   ·exact fin (one _ _ Jj h1) hI.W hrefl (.inl z6)
 ·rename_i cU
  simp only[aiE] at hr
  obtain⟨xs,W3,rfl⟩:=hr
  obtain⟨vs,k1,k2,k3,k4⟩:=HZ (P:=P) hI.W hI.F _ _ xs hl qs W3
  have U1:vs.length≠1:=by
   intro h
   rw[<- k1,hl] at h
   obtain⟨i,hi⟩:=aj1.1 h
   exact cU i hi
  have cm:=jy (P:=P) (w:=w) (fn:=fn) (tmps:=a.tmps) k1 k3
  rw[dif_neg (by simpa using U1)] at cm
  exact fin cm hI.W hrefl (.inl (.tuple vs.toArray xs (by simpa using k2) (fun j v x hv hx=>k4 j v x (by simpa using hv) hx)))
theorem Ca{rs:List fJ}(hI:dI H s){r:AV}{c:Option fz}(he:jJ H.length rs s=some (r,c)):ke H c:=by
 simp only[jJ,aiF] at he
 obtain⟨r',hr,he⟩:=he
 obtain⟨Ki,he⟩:=ab he
 simp only[aiG,aiH] at he
 obtain⟨rfl,pj⟩:=he
 have hlen:=hI.len
 cases hb:Nat.beq s.lo H.length with
 | true=>rw[hb] at pj;subst pj;exact⟨aiK _,fun c' h=>by cases h⟩
 | false =>
  rw[hb] at pj
  subst pj
  refine⟨by simp[lT];omega,fun c' xy=>?_⟩
  simp only[aiQ,aiG] at xy
  subst xy
  refine⟨hI.lo,fun l hl=>?_⟩
  have:=hI.lo
  rw[ai0,if_pos (by simp only at hl;omega)]
  exact hI.same l hl
theorem vu{m:Nat}{rs:List fJ}{r:AV}{c:Option fz}(he:qk m rs s=some (r,c)):rs.length≠1/\∃ xs e,ta s m rs=some (xs,some e)/\r=.tuple xs/\c=some ⟨s.H.take m++[.box cO e.flatten],s.lo⟩:=by
 unfold qk at he
 cases hb:Nat.beq rs.length 1 with
 | true=>rw[hb] at he;cases he
 | false =>
  rw[hb] at he
  simp only[aiQ,aiF,aiE,aiH] at he
  obtain⟨⟨xs,eo⟩,hq,e,rfl,rfl,rfl⟩:=he
  exact⟨(fun h=>by rw[h] at hb;cases hb),xs,e,hq,rfl,rfl⟩
theorem vx{oh:au}{m:Nat}{x:AV × Option fz}(he:kU m oh s=some x):mB m s=true/\(oG m oh.results s=some x\/jJ m oh.results s=some x\/qk m oh.results s=some x\/qj m oh.results s=some x):=by
 unfold kU at he
 obtain⟨h0,he⟩:=ab he
 refine⟨h0,?_⟩
 unfold rj at he
 split at he
 ·rename_i h
  unfold nC at h
  obtain⟨_,h⟩:=ab h
  rw[<- he];exact .inl h
 ·split at he
  ·rename_i h;rw[h];exact .inr (.inl he)
  ·split at he
   ·rename_i h;rw[h];exact .inr (.inr (.inl he))
   ·exact .inr (.inr (.inr he))
theorem vq{m:Nat}{rs:List fJ}{r:AV}{c:Option fz}(he:oG m rs s=some (r,c)):∃ i l off n z ty cs,rs=[i]/\iE s i=some (.sref l off n z)/\s.H[l]?=some (.box ty cs)/\m<=l/\cs.all AV.plain=true/\r=.sref m off n z/\c=some ⟨s.H.take m++[.dL cs],s.lo⟩:=by
 unfold oG at he
 split at he
 ·rename_i i
  simp only[aiF] at he
  obtain⟨v,hv,he⟩:=he
  split at he
  ·rename_i l off n z
   split at he
   ·rename_i ty cs hH
    obtain⟨h0,he⟩:=ab he
    simp only[aiG,aiH] at he
    simp only[aiL,ajg] at h0
    exact⟨i,l,off,n,z,ty,cs,rfl,hv,hH,h0.1,h0.2,he.1.symm,he.2.symm⟩
   ·cases he
  ·cases he
 ·cases he
theorem Hu(hI:dI H s){c:Option fz}(pj:cond (Nat.beq s.lo H.length) none (some ⟨s.H.take H.length,s.lo⟩)=c):ke H c/\lT H c=s.H.take H.length:=by
 have hlen:=hI.len
 cases hb:Nat.beq s.lo H.length with
 | true =>
  rw[hb] at pj
  subst pj
  have w5:s.lo=H.length:=ajG hb
  refine⟨⟨aiK _,fun c' h=>by cases h⟩,?_⟩
  show H=_
  refine akd fun l=>?_
  rw[ai0]
  split
  ·rename_i hl;exact (hI.same l (by omega)).symm
  ·rename_i hl;exact ajk (by omega)
 | false =>
  rw[hb] at pj
  subst pj
  refine⟨⟨by simp[lT];omega,fun c' xy=>?_⟩,rfl⟩
  simp only[aiQ,aiG] at xy
  subst xy
  refine⟨hI.lo,fun l hl=>?_⟩
  have:=hI.lo
  rw[ai0,if_pos (by simp only at hl;omega)]
  exact hI.same l hl
theorem vt{m:Nat}{rs:List fJ}{r:AV}{c:Option fz}(he:qj m rs s=some (r,c)):uL m s rs=some r/\r.leaves m=true/\cond (Nat.beq s.lo m) none (some ⟨s.H.take m,s.lo⟩)=c:=by
 simp only[qj,aiF] at he
 obtain⟨r',hr,he⟩:=he
 obtain⟨Ki,he⟩:=ab he
 simp only[aiG,aiH] at he
 obtain⟨rfl,pj⟩:=he
 exact⟨hr,Ki,pj⟩
theorem Cj(hI:dI H s)(o:de):ke H (some ⟨s.H.take H.length++[o],s.lo⟩):=by
 have:=hI.len
 have h1:=hI.lo
 refine⟨by simp[lT];omega,fun c' xy=>?_⟩
 injection xy with xy
 subst xy
 refine⟨hI.lo,fun l hl=>?_⟩
 simp only at hl ⊢
 rw[ai1 (by simp;omega),ai0,if_pos (by omega)]
 exact hI.same l hl
theorem tI{m:Nat}{oh:au}{x:AV × Option fz}(he:finish m oh s=some x):∃ r0,kU m oh s=some (r0,x.2)/\(x.1=r0\/x.1=lV r0):=by
 simp only[finish,aiE] at he
 obtain⟨⟨r0,c0⟩,h1,h2⟩:=he
 unfold pR at h2
 cases hm:oh.muts.elem 777777 with
 | false=>rw[hm,aiQ] at h2;subst h2;exact⟨r0,h1,.inl rfl⟩
 | true=>rw[hm,cond_true] at h2;subst h2;exact⟨r0,h1,.inr rfl⟩
theorem PR.n2{S:Nat->Nat->Prop}{w:World}{v:Value}{x:AV}(h:PR S w v x):PR S w v (n2 x):=by
 have one:∀ {v x},PR S w v x->PR S w v (n1 x):=by
  intro v x h
  have h0:=h
  cases h<;>first|exact .cB|exact h0
 have h0:=h
 cases h with
 | ay=>exact .cB
 | slice b o n cap sz e f hn iu br bH bU =>
  have kV:∀ (i:Nat) (r:List AV),(e.map fun r=>r.map n1)[i]?=some r->∃ r0,e[i]?=some r0/\r=r0.map n1:=by
   intro i r hr
   rw[aiW] at hr
   cases F9:e[i]? with
   | none=>rw[F9] at hr;cases hr
   | some r0=>rw[F9] at hr;injection hr with hr;exact⟨r0,rfl,hr.symm⟩
  have Jb:∀ (r0:List AV) (j:Nat) (x:AV),(r0.map n1)[j]?=some x->∃ x0,r0[j]?=some x0/\x=n1 x0:=by
   intro r0 j x hx
   rw[aiW] at hx
   cases vL:r0[j]? with
   | none=>rw[vL] at hx;cases hx
   | some x0=>rw[vL] at hx;injection hx with hx;exact⟨x0,rfl,hx.symm⟩
  refine .slice b o n cap sz _ f (by rw[ai9];exact hn) iu (fun i r hr=>?_) (fun i j r x hr hx=>?_) (fun i j r x hr hx=>?_)
  ·obtain⟨r0,h1,rfl⟩:=kV i r hr
   rw[ai9];exact br i r0 h1
  ·obtain⟨r0,h1,rfl⟩:=kV i r hr
   obtain⟨x0,h2,rfl⟩:=Jb r0 j x hx
   exact bH i j r0 x0 h1 h2
  ·obtain⟨r0,h1,rfl⟩:=kV i r hr
   obtain⟨x0,h2,rfl⟩:=Jb r0 j x hx
   exact one (bU i j r0 x0 h1 h2)
 | cB=>exact .cB
 | any v ho=>exact h0
 | _=>exact h0
theorem VR.n2{gh:Gh}{n:Nat}{w:World}{v:Value}{x:AV}(h:VR gh n w v x):VR gh n w v (n2 x):=by
 have h0:=h
 cases h with
 | plain _ _ h=>exact .plain _ _ h.n2
 | _=>exact h0
theorem VR.n3{gh:Gh}{n:Nat}{w:World}{v:Value}{x:AV}(h:VR gh n w v x):VR gh n w v (n3 x):=by
 have h0:=h
 cases h with
 | agg cs xs hs fh h =>
  refine .agg cs _ (by rw[ai9];exact hs) fh (fun j v x hv hx=>?_)
  rw[aiW] at hx
  cases vL:xs[j]? with
  | none=>rw[vL] at hx;cases hx
  | some x0=>rw[vL] at hx;injection hx with hx;subst hx;exact (h j v x0 hv vL).n2
 | plain _ _ h =>
  cases x with
  | agg cs=>cases h
  | _=>exact h0.n2
 | _=>exact h0
theorem VR.lV{gh:Gh}{n:Nat}{w:World}{v:Value}{x:AV}(h:VR gh n w v x):VR gh n w v (lV x):=by
 have h0:=h
 cases h with
 | tuple vs xs hs h =>
  refine .tuple vs _ (by rw[ai9];exact hs) (fun j v x hv hx=>?_)
  rw[aiW] at hx
  cases vL:xs[j]? with
  | none=>rw[vL] at hx;cases hx
  | some x0=>rw[vL] at hx;injection hx with hx;subst hx;exact (h j v x0 hv vL).n3
 | agg cs xs hs fh h=>exact h0.n3
 | plain _ _ h =>
  cases x with
  | tuple cs=>cases h
  | _=>exact h0.n3
 | _=>exact h0
theorem S4{gh:Gh}{n:Nat}{w:World}{p:aX}{v:Value}{x:AV}(h:CR gh n w p v x):CR gh n w p v (lV x):=by
 rcases h with h|⟨e,rfl,h1,h2⟩
 ·exact .inl h.lV
 ·exact .inr ⟨e,rfl,h1,h2⟩
theorem lJ{oh:au}(hI:dI H s){r:AV}{c:Option fz}(he:finish H.length oh s=some (r,c)):ke H c:=by
 obtain⟨r0,he,_⟩:=tI he
 rcases (vx he).2 with he|he|he|he
 ·obtain⟨_,_,_,_,_,_,cs,_,_,_,_,_,_,rfl⟩:=vq he
  exact Cj hI _
 ·exact Ca hI he
 ·obtain⟨_,xs,e,_,_,rfl⟩:=vu he
  exact Cj hI _
 ·exact (Hu hI (vt he).2.2).1
theorem qm{α:Type}{sz:Nat} : ∀ (e:List (List α)) (idx:Nat) (x:α),(∀ r∈e,r.length=sz)->e.flatten[idx]?=some x->∃ i j r,e[i]?=some r/\r[j]?=some x/\idx=i*sz+j
 | [],_,_,_,h=>by simp at h
 | r :: e,idx,x,hr,h=>by
  rw[ajx] at h
  by_cases hl:idx<r.length
  ·rw[ai1 hl] at h;exact⟨0,idx,r,rfl,h,by simp⟩
  ·rw[ai7 (by omega)] at h
   obtain⟨i,j,r',h1,h2,h3⟩:=qm e _ x (fun r h=>hr r (by simp[h])) h
   have:=hr r (by simp)
   exact⟨i+1,j,r',by simpa using h1,h2,by rw[ajj];omega⟩
theorem tJ{α:Type}{sz:Nat} : ∀ (e:List (List α)),(∀ r∈e,r.length=sz)->e.flatten.length=e.length*sz
 | [],_=>by simp
 | r :: e,hr=>by
  have:=hr r (by simp)
  have ih:=tJ e (fun r h=>hr r (by simp[h]))
  simp only[ajx,List.length_append,List.length_cons,ajj];omega
def Gh.jD(gh:Gh)(k n:Nat):Gh:={ gh.mT k (.hb n) with ρ:=fun l=>if l=n then k else gh.ρ l }
theorem nu(hW:aG G base H gh w){k:Nat}(hk:k<w.heap.size){m n:Nat}(hn:m<=n):Step (fun r=>r=gh.κ k) m gh w (gh.jD k n) w:=by
 have h:=js hW hk (.hb n) m
 refine⟨h.S,h.cell,h.size,h.os,h.tape,h.output,h.xR,h.fresh,fun loc hl=>?_,h.len,h.mp⟩
 show (if loc=n then _ else _)=_
 rw[if_neg (by omega)]
theorem aG.jD(hW:aG G base H gh w){k:Nat}{C:Array Value}{ty:TypeId}(hk:w.heap[k]?=some (.cells C ty (0,0)))(hS:∀ o,¬ gh.S k o)(h0:gh.κ k≠.none)(ht:∀ l,l<H.length->gh.κ k≠.hb l/\∀ j,gh.κ k≠.hs l j)
  {cs:List AV} (hlen:cs.length<=C.size) (fq:∀ (j:Nat) (u:Value) (x:AV),C[j]?=some u->cs[j]?=some x->u.oneCell'=true/\VR gh H.length w u x) (hr:cs.all (aR H.length)=true) :
  aG G base (H++[.box cO cs]) (gh.jD k H.length) w:=by
 have a7:k<w.heap.size:=(aiN.1 hk).1
 have st:=nu hW a7 (aiK H.length)
 have hn:∀ l,l<H.length->¬ (aX.hb l=gh.κ k)/\∀ j,¬ (aX.hs l j=gh.κ k):=fun l hl=>⟨fun h=>(ht l hl).1 h.symm,fun j h=>(ht l hl).2 j h.symm⟩
 have last:∀ {loc:Nat} {o:de},(H++[de.box cO cs])[loc]?=some o->¬ loc<H.length->loc=H.length/\o=.box cO cs:=by
  intro loc o hl hge
  rw[ai7 (by omega)] at hl
  have hz:loc=H.length:=by
   have:=(aiI.1 hl).1
   simp at this;omega
  subst hz
  simp at hl
  exact⟨rfl,hl.symm⟩
 refine⟨hW.size,hW.l7,fun b hb=>?_,fun g j x hx=>?_,fun loc j9 ds hl=>?_,fun loc j9 ds hl=>?_,hW.uB,hW.bytes,fun loc o hl=>?_,fun loc j9 ds hl hf=>?_⟩
 ·have jA:(if b=k then aX.hb H.length else gh.κ b)≠.none:=hb
  split at jA
  ·rename_i e;rw[e];exact hW.mG k h0
  ·exact hW.mG b jA
 ·obtain⟨v,h1,h2,h3⟩:=hW.aP g j x hx
  exact⟨v,h1,h2.mono st.S st.cell st.mp,h3⟩
 ·rw[List.length_append,ajQ]
  by_cases gP:loc<H.length
  ·rw[ai1 gP] at hl
   have h:=(hW.boxes loc j9 ds hl).mono st (n':=H.length+1) (ajD _) (hn loc gP).1 (hn loc gP).2
   rw[st.ρ loc gP];exact h
  ·obtain⟨rfl,ho⟩:=last hl gP
   injection ho with WH ho2
   subst WH ho2
   have hρ:(gh.jD k H.length).ρ H.length=k:=by simp[Gh.jD]
   rw[hρ]
   refine⟨by simp[Gh.jD,Gh.mT],hS,C,ty,hk,hlen,fun j v x hv hx=>?_⟩
   obtain⟨h1,h2⟩:=fq j v x hv hx
   exact⟨h1,.inl (h2.mono st (ajD _))⟩
 ·by_cases gP:loc<H.length
  ·rw[ai1 gP] at hl
   exact hW.refs loc j9 ds hl
  ·obtain⟨rfl,ho⟩:=last hl gP
   injection ho with WH ho2
   subst WH ho2
   exact hr
 ·rw[List.length_append,ajQ]
  by_cases gP:loc<H.length
  ·rw[ai1 gP] at hl
   rw[st.ρ loc gP]
   exact (hW.more loc o hl).mono st (ajD _) (hn loc gP).1 (hn loc gP).2
  ·obtain⟨rfl,rfl⟩:=last hl gP
   trivial
 ·by_cases gP:loc<H.length
  ·rw[ai1 gP] at hl
   rw[st.ρ loc gP]
   exact hW.types loc j9 ds hl hf
  ·obtain⟨rfl,ho⟩:=last hl gP
   injection ho with WH ho2
   exact absurd WH hf
theorem aG.Vt(hW:aG G base H gh w){k:Nat}{C:Array Value}{ty:TypeId}(hk:w.heap[k]?=some (.cells C ty (0,0)))(hS:∀ o,¬ gh.S k o)(h0:gh.κ k≠.none)(ht:∀ l,l<H.length->gh.κ k≠.hb l/\∀ j,gh.κ k≠.hs l j)
  {cs:List AV} (hlen:cs.length<=C.size) (fq:∀ (j:Nat) (u:Value) (x:AV),C[j]?=some u->cs[j]?=some x->u.oneCell'=true/\VR gh H.length w u x) :
  aG G base (H++[.dL cs]) (gh.jD k H.length) w:=by
 have a7:k<w.heap.size:=(aiN.1 hk).1
 have st:=nu hW a7 (aiK H.length)
 have hn:∀ l,l<H.length->¬ (aX.hb l=gh.κ k)/\∀ j,¬ (aX.hs l j=gh.κ k):=fun l hl=>⟨fun h=>(ht l hl).1 h.symm,fun j h=>(ht l hl).2 j h.symm⟩
 have last:∀ {loc:Nat} {o:de},(H++[de.dL cs])[loc]?=some o->¬ loc<H.length->loc=H.length/\o=.dL cs:=by
  intro loc o hl hge
  rw[ai7 (by omega)] at hl
  have hz:loc=H.length:=by
   have:=(aiI.1 hl).1
   simp at this;omega
  subst hz
  simp at hl
  exact⟨rfl,hl.symm⟩
 refine⟨hW.size,hW.l7,fun b hb=>?_,fun g j x hx=>?_,fun loc j9 ds hl=>?_,fun loc j9 ds hl=>?_,hW.uB,hW.bytes,fun loc o hl=>?_,fun loc j9 ds hl hf=>?_⟩
 ·have jA:(if b=k then aX.hb H.length else gh.κ b)≠.none:=hb
  split at jA
  ·rename_i e;rw[e];exact hW.mG k h0
  ·exact hW.mG b jA
 ·obtain⟨v,h1,h2,h3⟩:=hW.aP g j x hx
  exact⟨v,h1,h2.mono st.S st.cell st.mp,h3⟩
 ·rw[List.length_append,ajQ]
  by_cases gP:loc<H.length
  ·rw[ai1 gP] at hl
   have h:=(hW.boxes loc j9 ds hl).mono st (n':=H.length+1) (ajD _) (hn loc gP).1 (hn loc gP).2
   rw[st.ρ loc gP];exact h
  ·obtain⟨rfl,ho⟩:=last hl gP
   cases ho
 ·by_cases gP:loc<H.length
  ·rw[ai1 gP] at hl
   exact hW.refs loc j9 ds hl
  ·obtain⟨rfl,ho⟩:=last hl gP
   cases ho
 ·rw[List.length_append,ajQ]
  by_cases gP:loc<H.length
  ·rw[ai1 gP] at hl
   rw[st.ρ loc gP]
   exact (hW.more loc o hl).mono st (ajD _) (hn loc gP).1 (hn loc gP).2
  ·obtain⟨rfl,rfl⟩:=last hl gP
   have hρ:(gh.jD k H.length).ρ H.length=k:=by simp[Gh.jD]
   rw[hρ]
   refine⟨by simp[Gh.jD,Gh.mT],hS,C,ty,hk,hlen,fun j v x hv hx=>?_⟩
   obtain⟨h1,h2⟩:=fq j v x hv hx
   exact⟨h1,.inl (h2.mono st (ajD _))⟩
 ·by_cases gP:loc<H.length
  ·rw[ai1 gP] at hl
   rw[st.ρ loc gP]
   exact hW.types loc j9 ds hl hf
  ·obtain⟨rfl,ho⟩:=last hl gP
   cases ho
theorem PR.Wr{S:Nat->Nat->Prop}{v:Value}{x:AV}(h:PR S w v x)(hp:x.plain=true)(m:Nat):aR m x=true:=by
 cases h<;>first|rfl|exact hp
theorem S9{gy:Gh}{w0:World}(hI:Inv G base nt L H gy w0 s gh w a){m:Nat}(hm:m<=s.H.length):∀ (l:List ResultVar) (rs:List fJ) (xs:List AV) (q:Option (List (List AV))),l.length=rs.length->(∀ (j:Nat) (r:ResultVar) (i:fJ),l[j]?=some r->rs[j]?=some i ->
    (∃ t,r=.tmp t/\i=.tmp t/\t<nt)\/∃ t ty g sz,r=.cell t ty/\i=.cell t g sz/\t<nt/\ki P ty=some g/\da P ty=some sz)->ta s m rs=some (xs,q) ->
    ∃ vs:List Value,l.length=vs.length/\vs.length=xs.length/\(∀ (j:Nat) (r:ResultVar) (v:Value),l[j]?=some r->vs[j]?=some v->(lY a.tmps r).run P w=.ok v w) /\
     (q=none->∀ (j:Nat) (v:Value) (x:AV),vs[j]?=some v->xs[j]?=some x->VR gh m w v x) /\
     ∀ e,q=some e->∃ b g,b<nt/\s.T b=.lsl g e/\e≠[]/\(e.all fun r=>r.all AV.plain)=true/\∀ (j:Nat) (v:Value) (x:AV),vs[j]?=some v->xs[j]?=some x->VR gh m w v x\/(x=.sref m 0 e.length (O3 e)/\v=dO a b):=by
 intro l
 induction l with
 | nil =>
  intro rs xs q hl _ h
  have:rs=[]:=akv.1 (by simpa using hl.symm)
  subst this
  simp only[ta,aiG,aiH] at h
  obtain⟨rfl,rfl⟩:=h
  exact⟨[],rfl,rfl,fun j r v h=>by simp at h,fun _ j v x h=>by simp at h,fun e h=>by cases h⟩
 | cons rv l ih =>
  intro rs xs q hl hc h
  cases rs with
  | nil=>simp at hl
  | cons i rs =>
   simp only[ta,aiF] at h
   obtain⟨⟨ys,q'⟩,L4,h⟩:=h
   obtain⟨vs,k1,k2,k3,k4,k5⟩:=ih rs ys q' (by simpa using hl) (fun j r i hr hi=>hc (j+1) r i (by simpa using hr) (by simpa using hi)) L4
   have QM:=hc 0 rv i rfl rfl
   have runs:∀ v,(lY a.tmps rv).run P w=.ok v w->∀ (j:Nat) (r:ResultVar) (u:Value),(rv :: l)[j]?=some r->(v :: vs)[j]?=some u->(lY a.tmps r).run P w=.ok u w:=by
    intro v h1 j r u hr hu
    cases j with
    | zero=>simp at hr hu;subst hr hu;exact h1
    | succ j=>exact k3 j r u (by simpa using hr) (by simpa using hu)
   split at h
   ·rename_i b br
    split at h
    ·rename_i gg e hT
     obtain⟨h0,h⟩:=ab h
     simp only[aiL,akZ,akk,akX] at h0
     simp only[aiG,aiH] at h
     obtain⟨rfl,rfl⟩:=h
     obtain⟨⟨WV,cU⟩,ux⟩:=h0
     rcases QM with ⟨t,rfl,rfl,ht⟩|⟨t,ty,g,sz,rfl,rfl,_⟩
     ·have hb:b<nt/\dO a t=dO a b:=by
       simp only[nL] at br
       have tP:=hI.F.slot t ht
       change SR gh s.H.length nt w s.T s.gen (dO a) t (dO a t) (s.T t) at tP
       split at br
       ·injection br with br;subst br;exact⟨ht,rfl⟩
       ·rename_i b' g QJ
        rw[QJ] at tP
        obtain⟨fF,_,hv⟩:=tP
        split at br
        ·rename_i g' e' hT'
         obtain⟨h0,br⟩:=ab br
         injection br with br
         subst br
         have A7:g=g':=by simpa [dU] using h0
         exact⟨fF,hv (by rw[hT',A7];rfl)⟩
        ·cases br
       ·cases br
      refine⟨dO a t :: vs,by simp[k1],by simp[k2],runs _ rfl,(fun h=>by cases h),fun e' A5=>?_⟩
      injection A5 with A5
      subst A5
      refine⟨b,gg,hb.1,hT,cU,ux,fun j u x hu hx=>?_⟩
      cases j with
      | zero=>simp at hu hx;subst hu hx;exact .inr ⟨rfl,hb.2⟩
      | succ j=>exact .inl (k4 WV j u x (by simpa using hu) (by simpa using hx))
     ·cases br
    ·cases h
   ·simp only[aiF] at h
    obtain⟨z,hz,h⟩:=h
    obtain⟨h0,h⟩:=ab h
    simp only[aiG,aiH] at h
    obtain⟨rfl,rfl⟩:=h
    obtain⟨v,h1,h2⟩:=wu (P:=P) hI.W hI.F QM hz
    have hv:VR gh m w v z.bf:=by
     rcases h2 with ⟨t,_,_,_,_,kB⟩|z6
     ·exact (jd kB.dropped).bg h0
     ·exact (jd z6.dropped).bg h0
    refine⟨v :: vs,by simp[k1],by simp[k2],runs v h1,fun hq j u x hu hx=>?_,fun e he=>?_⟩
    ·cases j with
     | zero=>simp at hu hx;subst hu hx;exact hv
     | succ j=>exact k4 hq j u x (by simpa using hu) (by simpa using hx)
    ·obtain⟨b,g,c1,c2,c3,c4,c5⟩:=k5 e he
     refine⟨b,g,c1,c2,c3,c4,fun j u x hu hx=>?_⟩
     cases j with
     | zero=>simp at hu hx;subst hu hx;exact .inl hv
     | succ j=>exact c5 j u x (by simpa using hu) (by simpa using hx)
theorem TR{gy:Gh}{w0:World}(iT:clean gy)(hI:Inv G base nt L H gy w0 s gh w a){fn:Func}{rs:List fJ}(hc:iY P nt fn.results.toList=some rs){r:AV}{c:Option fz}(hold:∀ aF w',aG G base s.H aF w'->tz s.H H.length aF w')(he:qk H.length rs s=some (r,c)) :
  ∃ v aF,(results fn a.tmps).run P w=.ok v w/\kg G base H gy w0 r c v aF w:=by
 obtain⟨ad7,xs,e,hq,rfl,rfl⟩:=vu he
 obtain⟨hl,qs⟩:=jq hc
 have hlen:=hI.lo.len
 obtain⟨vs,k1,k2,k3,_,k5⟩:=S9 (P:=P) hI hlen _ _ xs (some e) hl qs hq
 obtain⟨b,g,hb,hT,cU,ux,fZ⟩:=k5 e rfl
 have cm:=jy (P:=P) (w:=w) (fn:=fn) (tmps:=a.tmps) k1 k3
 rw[dif_neg (by intro h;apply ad7;rw[<- hl,k1];simpa using h)] at cm
 obtain⟨ad,cap,hV,⟨h0,_⟩|⟨k,C,ty,sz,_,rfl,hκ,hS,hk,hC,hle,hr,fq⟩⟩:=l8 hI.F hb hT
 ·exact absurd h0 cU
 have WB:k<w.heap.size:=(aiN.1 hk).1
 have hWp:=hI.W.AG hlen (hold _ _ hI.W)
 have HG:(s.H.take H.length).length=H.length:=by simp;omega
 have br:∀ r∈e,r.length=sz:=fun r hm=>by obtain⟨i,hi⟩:=ai' hm;exact hr i r hi
 have h0:gh.κ k≠.none:=by rw[hκ];simp
 have h1:gh.κ k≠.outer:=by rw[hκ];simp
 have ht:∀ l,l<(s.H.take H.length).length->gh.κ k≠.hb l/\∀ j,gh.κ k≠.hs l j:=fun l _=>by rw[hκ];simp
 have j6:=hWp.jD hk hS h0 ht (cs:=e.flatten) (by rw[tJ e br,hC];exact aiZ _ hle)
  (fun j u x hu hx=>by
   obtain⟨i,j',r,e1,e2,rfl⟩:=qm e j x br hx
   obtain⟨u',L2,hp⟩:=fq i j' r x e1 e2
   rw[hu] at L2
   injection L2 with L2
   subst L2
   exact⟨hp.dB,.plain _ _ hp⟩)
  (aiO.2 fun x hx=>by
   obtain⟨j,hj⟩:=ai' hx
   obtain⟨i,j',r,e1,e2,_⟩:=qm e j x br hj
   obtain⟨u',_,hp⟩:=fq i j' r x e1 e2
   exact hp.Wr (aiO.1 (aiO.1 ux r (aiT e1)) x (aiT e2)) _)
 rw[HG] at j6
 have wN:=nu hI.W WB (m:=H.length) (aiK H.length)
 have hE:Ext H.length gh w (gh.jD k H.length) w:=⟨wN.mono (fun r h=>by rw[h];exact⟨h0,h1⟩),fun b' fF=>by
  have jA:(if b'=k then aX.hb H.length else gh.κ b')=.outer:=fF
  split at jA
  ·cases jA
  ·exact jA⟩
 have vC:=hI.E.trans hE (aiK _)
 have og:(lT H (some ⟨s.H.take H.length++[.box cO e.flatten],s.lo⟩)).length=H.length+1:=by simp[lT];omega
 refine⟨_,_,cm,by rw[og];omega,j6,?_,vC.out,?_⟩
 ·have st:=vC.step
  refine⟨st.S,st.cell,st.size,st.os,st.tape,st.output,fun b hb hn=>st.xR b hb (fun ht=>hn ?_),st.fresh,st.ρ,st.len,st.mp⟩
  rcases iT b with h|h|h|h
  ·exact absurd h ht.1
  ·exact absurd h ht.2
  ·exact .inl h
  ·exact .inr h
 ·rw[og]
  refine .inl (.tuple vs.toArray xs (by simpa using k2) (fun j v x hv hx=>?_))
  rcases fZ j v x (by simpa using hv) hx with h|⟨rfl,rfl⟩
  ·exact h.mono wN (ajD _)
  ·rw[hV]
   have hρ:(gh.jD k H.length).ρ H.length=k:=by simp[Gh.jD]
   have hrw:O3 e=sz:=by
    cases e with
    | nil=>exact absurd rfl cU
    | cons r0 e=>simp[O3,br r0 (ai8 ..)]
   have:=VR.sref (gh:=gh.jD k H.length) (w:=w) (n:=H.length+1) H.length 0 e.length cap (O3 e) (by omega) hle (fun _=>⟨ty,by rw[hρ];exact⟨C,(0,0),hk,by rw[hC,hrw,Nat.zero_add]⟩⟩)
   rw[hρ] at this
   exact this
theorem TP{gy:Gh}{w0:World}(iT:clean gy)(hI:Inv G base nt L H gy w0 s gh w a){fn:Func}{rs:List fJ}(hc:iY P nt fn.results.toList=some rs){r:AV}{c:Option fz}(hold:∀ aF w',aG G base s.H aF w'->tz s.H H.length aF w')(he:oG H.length rs s=some (r,c)) :
  ∃ v aF,(results fn a.tmps).run P w=.ok v w/\kg G base H gy w0 r c v aF w:=by
 obtain⟨i,l,off,n,z,Km,cs,Cv,aa5,hH,ZB,ux,rfl,rfl⟩:=vq he
 obtain⟨hl,qs⟩:=jq hc
 have hlen:=hI.lo.len
 rw[Cv] at hl
 obtain⟨rv,Jj⟩:∃ rv,fn.results.toList=[rv]:=aj1.1 (by simpa using hl)
 have QM:=qs 0 rv i (by rw[Jj];rfl) (by rw[Cv];rfl)
 obtain⟨v,h1,h2⟩:=wu (P:=P) hI.W hI.F QM aa5
 have hv:VR gh s.H.length w v (.sref l off n z):=by
  rcases h2 with ⟨t,_,_,_,_,kB⟩|z6
  ·exact kB.dropped
  ·exact z6
 obtain⟨_,cap,hk,hz,rfl⟩:=hv.iz
 have cm:=jy (P:=P) (w:=w) (fn:=fn) (tmps:=a.tmps) (vs:=[.slice (some ⟨gh.ρ l,off,none⟩) n cap]) (by rw[Jj];rfl) (fun j r' v' hr hv=>by
  rw[Jj] at hr
  cases j with
  | zero=>simp at hr hv;subst hr hv;exact h1
  | succ j=>simp at hr)
 obtain⟨hκ,hS,C,ty,hb,hC,fq⟩:=hI.W.boxes l _ cs hH
 have WB:gh.ρ l<w.heap.size:=(aiN.1 hb).1
 have hWp:=hI.W.AG hlen (hold _ _ hI.W)
 have HG:(s.H.take H.length).length=H.length:=by simp;omega
 have h0:gh.κ (gh.ρ l)≠.none:=by rw[hκ];simp
 have QH:gh.κ (gh.ρ l)≠.outer:=by rw[hκ];simp
 have j6:=hWp.Vt hb hS h0 (fun l' Aa=>by rw[hκ];rw[HG] at Aa;exact⟨by intro e;injection e with e;omega,by simp⟩) (cs:=cs) hC (fun j u x hu hx=>by
  obtain⟨k1,k2⟩:=fq j u x hu hx
  have hp:=aiO.1 ux x (aiT hx)
  have:=k2.dropped
  rw[pO hp] at this
  exact⟨k1,.plain _ _ (this.iX hp)⟩)
 rw[HG] at j6
 have wN:=nu hI.W WB (m:=H.length) (aiK H.length)
 have hE:Ext H.length gh w (gh.jD (gh.ρ l) H.length) w:=⟨wN.mono (fun r h=>by rw[h];exact⟨h0,QH⟩),fun b' fF=>by
  have jA:(if b'=gh.ρ l then aX.hb H.length else gh.κ b')=.outer:=fF
  split at jA
  ·cases jA
  ·exact jA⟩
 have vC:=hI.E.trans hE (aiK _)
 have og:(lT H (some ⟨s.H.take H.length++[.dL cs],s.lo⟩)).length=H.length+1:=by simp[lT];omega
 refine⟨_,_,by simpa using cm,by rw[og];omega,j6,?_,vC.out,?_⟩
 ·have st:=vC.step
  refine⟨st.S,st.cell,st.size,st.os,st.tape,st.output,fun b hb hn=>st.xR b hb (fun ht=>hn ?_),st.fresh,st.ρ,st.len,st.mp⟩
  rcases iT b with h|h|h|h
  ·exact absurd h ht.1
  ·exact absurd h ht.2
  ·exact .inl h
  ·exact .inr h
 ·rw[og]
  have hρ:(gh.jD (gh.ρ l) H.length).ρ H.length=gh.ρ l:=by simp[Gh.jD]
  have:=VR.sref (gh:=gh.jD (gh.ρ l) H.length) (w:=w) (n:=H.length+1) H.length off n cap z (by omega) hk (fun hz0=>by rw[hρ];exact hz hz0)
  rw[hρ] at this
  exact .inl this
def mS(H:ag)(m k l:Nat):Option (List AV) :=
 ((H[l]?).bind mY).bind fun cs=>cond (cs.all fun x=>(oa H m k x.drop).plain&&py x) (some (cs.map fun x=>oa H m k x.drop)) none
def adq(gh:Gh)(H:ag)(m:Nat)(b o:Nat):Prop:=gh.S b o\/∃ k l cs,m<=l/\mS H m k l=some cs/\gh.ρ l=b/\o<cs.length
def Gh.PN(gh:Gh)(H:ag)(m:Nat):Gh:={ gh with S:=adq gh H m }
theorem nD{m k l:Nat}{cs:List AV}(h:mS H m k l=some cs):∃ o ds,H[l]?=some o/\mY o=some ds/\cs=ds.map (fun x=>oa H m k x.drop)/\∀ x,x∈ds->(oa H m k x.drop).plain=true/\py x=true:=by
 unfold mS at h
 simp only[aiF] at h
 obtain⟨ds,⟨o,ho,hd⟩,h⟩:=h
 obtain⟨h0,h⟩:=ab h
 injection h with h
 refine⟨o,ds,ho,hd,h.symm,fun x hx=>?_⟩
 have:=aiO.1 h0 x hx
 simpa using this
theorem GH(hW:aG G base H gh w){l:Nat}{o:de}{ds:List AV}(ho:H[l]?=some o)(hd:mY o=some ds):fI gh H.length w (gh.ρ l) (.hb l) (fun j=>.hs l j) ds:=by
 cases o<;>simp only[mY,reduceCtorEq,aiG] at hd
 ·subst hd;exact hW.boxes l _ _ ho
 ·subst hd;exact hW.more l _ ho
theorem rp(hW:aG G base H gh w)(m n:Nat):Step (fun r=>∃ l,m<=l/\r=.hb l) n gh w (gh.PN H m) w:=by
 refine⟨fun b o h=>.inl h,fun _ _ _=>rfl,aiK _,rfl,rfl,rfl,fun b hb hn=>⟨.inl rfl,rfl,fun o ho=>?_⟩,fun b hb=>hW.bw b hb,fun _ _=>rfl,fun _ _ _ h=>h,fun _ _ _ _ h=>h⟩
 rcases ho with ho|⟨k,l,cs,hl,hf,hρ,_⟩
 ·exact ho
 ·exfalso
  obtain⟨o',ds,pk,hd,_⟩:=nD hf
  exact hn ⟨l,hl,by rw[<- hρ];exact (GH hW pk hd).1⟩
theorem vA(hW:aG G base H gh w){m k l:Nat}(hV:∀ {v:Value} {x:AV},VR gh H.length w v x->VR (gh.PN H m) H.length w v (oa H m k x))(hm:m<=l){cs:List AV}(hf:mS H m k l=some cs){j:Nat}{x:AV}(hx:cs[j]?=some x) :
  ∃ v,w.cell? ⟨gh.ρ l,j,none⟩=some v/\PR (gh.PN H m).S w v x/\(gh.PN H m).S (gh.ρ l) j/\∀ n,v≠.int .u8 n:=by
 have hf0:=hf
 obtain⟨o',ds,pk,hd,rfl,fg⟩:=nD hf
 obtain⟨hκ,hS,C,Kn,hb,hle,bH⟩:=GH hW pk hd
 have Ct:=(aiI.1 hx).1
 simp only[aiW,aiE] at hx
 obtain⟨y,hy,rfl⟩:=hx
 have hj2:=(aiI.1 hy).1
 have hv:C[j]?=some C[j]:=aiS (by omega)
 obtain⟨k1,k2⟩:=bH j _ y hv hy
 obtain⟨p1,p2⟩:=fg y (aiT hy)
 refine⟨C[j],by rw[cell_of_row w _ j C Kn _ hb];exact hv,(hV k2.dropped).iX p1,.inr ⟨k,l,_,hm,hf0,rfl,Ct⟩,fun n hn=>?_⟩
 have z6:=k2.dropped
 rw[hn] at z6
 cases z6 with
 | plain _ _ h =>
  cases y<;>simp only[AV.drop] at h<;>cases h<;>simp[py] at p2
theorem oA{z:Nat} : ∀ {n:Nat} {l:List AV} {i:Nat} {r:List AV},(chunks z n l)[i]?=some r->i<n/\r=(l.drop (i*z)).take z
 | 0,l,i,r,h=>by simp[chunks] at h
 | n+1,l,0,r,h=>by simp[chunks] at h;exact⟨by omega,by simp[h]⟩
 | n+1,l,i+1,r,h=>by
  simp only[chunks,ajH] at h
  obtain⟨h1,h2⟩:=oA h
  refine⟨by omega,?_⟩
  rw[h2,aj9,ajj,alo,alh z]
theorem tE{z:Nat} : ∀ {n:Nat} {l:List AV},(chunks z n l).length=n
 | 0,l=>rfl
 | n+1,l=>by simp[chunks,tE]
theorem uF(hW:aG G base H gh w){m:Nat} : ∀ (k:Nat) {v:Value} {x:AV},VR gh H.length w v x->VR (gh.PN H m) H.length w v (oa H m k x)
 | 0,v,x,h=>h.mono (rp hW m _) (aiK _)
 | d+1,v,x,h=>by
  have ih:=@uF hW m d
  have h0:VR (gh.PN H m) H.length w v x:=h.mono (rp hW m _) (aiK _)
  unfold oa
  split
  ·rename_i l off k z
   cases hb:Nat.ble m l with
   | false=>exact h0
   | true =>
    rw[cond_true]
    split
    ·rename_i ds Zw
     cases jA:(Nat.blt 0 z&&Nat.ble (off+k*z) ds.length&&ds.all fun x=>(oa H m d x.drop).plain&&py x) with
     | false=>exact h0
     | true =>
      rw[cond_true]
      simp only[aiL,ajb,ajg] at jA
      obtain⟨⟨hz,hle⟩,fg⟩:=jA
      have fq:mS H m d l=some (ds.map fun x=>oa H m d x.drop):=by
       unfold mS
       rw[Zw,aiP,fg];rfl
      generalize hcc:ds.map (fun x=>oa H m d x.drop)=cs at *
      obtain⟨_,cap,hk,_,rfl⟩:=h.iz
      have ZB:m<=l:=by simpa [ajg] using hb
      have cell:∀ {i j:Nat} {r:List AV} {y:AV},(chunks z k (cs.drop off))[i]?=some r->r[j]?=some y->i<k/\j<z/\cs[off+i*z+j]?=some y:=by
       intro i j r y hi hj
       obtain⟨h1,rfl⟩:=oA hi
       rw[ai0] at hj
       split at hj
       ·rename_i h2
        rw[aje,aje] at hj
        exact⟨h1,h2,by rw[<- hj];congr 1;omega⟩
       ·cases hj
      have hlen:cs.length=ds.length:=by rw[<- hcc];simp
      refine .plain _ _ (.slice (gh.ρ l) off k cap z _ (fun i j=>(w.cell? ⟨gh.ρ l,off+i*z+j,none⟩).getD undef) tE hk (fun i r hi=>?_) (fun i j r y hi hj=>?_) (fun i j r y hi hj=>?_))
      ·obtain⟨h1,rfl⟩:=oA hi
       have:(i+1)*z<=k*z:=aiZ _ h1
       rw[ajj] at this
       simp;omega
      ·obtain⟨_,_,hc⟩:=cell hi hj
       obtain⟨u,k1,k2,k3,_⟩:=vA hW ih ZB fq hc
       exact⟨k3,by rw[k1];rfl,by rw[k1];exact k2.dB⟩
      ·obtain⟨_,_,hc⟩:=cell hi hj
       obtain⟨u,k1,k2,_⟩:=vA hW ih ZB fq hc
       rw[k1];exact k2
    ·exact h0
  ·exact h0
theorem Hy(hW:aG G base H gh w){m:Nat}{v:Value}{x:AV}(h:VR gh H.length w v x):VR (gh.PN H m) H.length w v (Lt H m x):=by
 unfold Lt
 split
 ·rename_i cs
  obtain⟨C,rfl,hs,fh,hc⟩:=h.ja
  refine .agg C _ (by simpa using hs) fh (fun j v x hv hx=>?_)
  simp only[aiW,aiE] at hx
  obtain⟨y,hy,rfl⟩:=hx
  exact uF hW QE (hc j v y hv hy)
 ·exact uF hW QE h
theorem aaf(hW:aG G base H gh w){m:Nat}(hm:m<=H.length)(hold:tz H m gh w):aG G base (H.take m) (gh.PN H m) w:=by
 have Ja:=hW.AG hm hold
 have UZ:(H.take m).length=m:=by simp;omega
 have st:=rp hW m (H.take m).length
 have ht:∀ l,l<m->¬ (∃ k,m<=k/\aX.hb l=.hb k)/\∀ j,¬ (∃ k,m<=k/\aX.hs l j=.hb k):=by
  refine fun l hl=>⟨?_,fun j=>?_⟩
  ·rintro ⟨k,hk,h⟩
   injection h with h
   omega
  ·rintro ⟨k,hk,h⟩
   cases h
 have lt:∀ {l:Nat} {o:de},(H.take m)[l]?=some o->l<m:=fun h=>by have:=(aiI.1 h).1;omega
 refine⟨Ja.size,fun b o ho=>?_,Ja.mG,fun g j x hx=>?_,fun loc ty cs hl=>?_,Ja.refs,Ja.uB,Ja.jc st (fun b o n ho=>?_),fun loc o hl=>?_,fun loc ty cs hl=>Ja.types loc ty cs hl⟩
 ·rcases ho with ho|⟨k,l,cs,hl,hf,rfl,_⟩
  ·exact hW.l7 b o ho
  ·obtain⟨o',ds,pk,hd,_⟩:=nD hf
   obtain⟨_,_,C,Kn,hb,_⟩:=GH hW pk hd
   exact (aiN.1 hb).1
 ·obtain⟨v,h1,h2,h3⟩:=Ja.aP g j x hx
  exact⟨v,h1,h2.mono st.S st.cell st.mp,st.S g j h3⟩
 ·exact (Ja.boxes loc ty cs hl).mono st (aiK _) (ht loc (lt hl)).1 (ht loc (lt hl)).2
 ·rcases ho with ho|⟨k,l,cs,hl,hf,rfl,a7⟩
  ·exact .inl ho
  ·refine .inr fun hc=>?_
   obtain⟨v,k1,_,_,k4⟩:=vA hW (uF hW k) hl hf (aiJ a7)
   rw[k1] at hc
   injection hc with hc
   exact absurd hc (k4 n)
 ·exact (Ja.more loc o hl).mono st (aiK _) (ht loc (lt hl)).1 (ht loc (lt hl)).2
theorem TQ{gy:Gh}{w0:World}(iT:clean gy)(hI:Inv G base nt L H gy w0 s gh w a){fn:Func}{rs:List fJ}(hc:iY P nt fn.results.toList=some rs){r:AV}{c:Option fz}(hold:∀ aF w',aG G base s.H aF w'->tz s.H H.length aF w')(he:qj H.length rs s=some (r,c)) :
  ∃ v aF,(results fn a.tmps).run P w=.ok v w/\kg G base H gy w0 r c v aF w:=by
 obtain⟨hr,Ki,pj⟩:=vt he
 have hlen:=hI.lo.len
 have mf:=(Hu hI.lo pj).2
 have vI:(lT H c).length=H.length:=by rw[mf];simp;omega
 have wN:=rp hI.W H.length H.length
 have Kb:Ext H.length gh w (gh.PN s.H H.length) w:=⟨wN.mono (fun r h=>by obtain⟨l,_,rfl⟩:=h;exact⟨by simp,by simp⟩),fun b hb=>hb⟩
 have fin:∀ {v:Value},(results fn a.tmps).run P w=.ok v w->VR (gh.PN s.H H.length) s.H.length w v r->∃ v aF,(results fn a.tmps).run P w=.ok v w/\kg G base H gy w0 r c v aF w:=by
  intro v h1 h4
  have hE:=hI.E.trans Kb (aiK _)
  refine⟨v,_,h1,akj vI.symm,by rw[mf];exact aaf hI.W hlen (hold _ _ hI.W),?_,hE.out,by rw[vI];exact .inl (h4.leaves Ki)⟩
  have st:=hE.step
  refine⟨st.S,st.cell,st.size,st.os,st.tape,st.output,fun b hb hn=>st.xR b hb (fun ht=>hn ?_),st.fresh,st.ρ,st.len,st.mp⟩
  rcases iT b with h|h|h|h
  ·exact absurd h ht.1
  ·exact absurd h ht.2
  ·exact .inl h
  ·exact .inr h
 obtain⟨hl,qs⟩:=jq hc
 have one:∀ (rv:ResultVar) (v:Value),fn.results.toList=[rv]->(lY a.tmps rv).run P w=.ok v w->(results fn a.tmps).run P w=.ok v w:=by
  intro rv v h1 h2
  have:=jy (P:=P) (w:=w) (fn:=fn) (tmps:=a.tmps) (vs:=[v]) (by rw[h1];rfl) (fun j r' v' hr hv=>by
   rw[h1] at hr
   cases j with
   | zero=>simp at hr hv;subst hr hv;exact h2
   | succ j=>simp at hr)
  simpa using this
 unfold uL at hr
 split at hr
 ·rename_i i
  have HM:([i]:List fJ)=[i]:=rfl
  rw[HM] at hl
  obtain⟨rv,Jj⟩:∃ rv,fn.results.toList=[rv]:=aj1.1 (by simpa using hl)
  have QM:=qs 0 rv i (by rw[Jj];rfl) (by rw[HM];rfl)
  simp only[aiE] at hr
  obtain⟨z,hz,rfl⟩:=hr
  obtain⟨v,h1,h2⟩:=wu (P:=P) hI.W hI.F QM hz
  have hv:VR gh s.H.length w v z.bf:=by
   rcases h2 with ⟨t,_,_,_,_,kB⟩|z6
   ·exact jd kB.dropped
   ·exact jd z6.dropped
  exact fin (one _ _ Jj h1) (Hy hI.W hv)
 ·rename_i cU
  simp only[aiE] at hr
  obtain⟨xs,W3,rfl⟩:=hr
  obtain⟨vs,k1,k2,k3,k4⟩:=HZ (P:=P) hI.W hI.F _ _ xs hl qs W3
  have U1:vs.length≠1:=by
   intro h
   rw[<- k1,hl] at h
   obtain⟨i,hi⟩:=aj1.1 h
   exact cU i hi
  have cm:=jy (P:=P) (w:=w) (fn:=fn) (tmps:=a.tmps) k1 k3
  rw[dif_neg (by simpa using U1)] at cm
  refine fin cm (.tuple vs.toArray _ (by simpa using k2) (fun j v x hv hx=>?_))
  simp only[aiW,aiE] at hx
  obtain⟨y,hy,rfl⟩:=hx
  exact Hy hI.W (k4 j v y (by simpa using hv) hy)
theorem tc{gy ghI:Gh}{w0 wI:World}(Ja:aG G base H ghI wI)(iT:clean gy)(hI:Inv G base nt L H gy w0 s gh w a){fn:Func}{oh:au}(hc:iY P nt fn.results.toList=some oh.results){r:AV}{c:Option fz}(he:finish H.length oh s=some (r,c)) :
  ke H c/\∃ v aF,(results fn a.tmps).run P w=.ok v w/\kg G base H gy w0 r c v aF w:=by
 refine⟨lJ hI.lo he,?_⟩
 obtain⟨r0,he,hr⟩:=tI he
 suffices hs:∃ v aF,(results fn a.tmps).run P w=.ok v w/\kg G base H gy w0 r0 c v aF w by
  obtain⟨v,aF,k1,k2⟩:=hs
  rcases hr with rfl|rfl
  ·exact⟨v,aF,k1,k2⟩
  ·exact⟨v,aF,k1,{ k2 with val:=S4 k2.val }⟩
 clear hr
 obtain⟨ho,he⟩:=vx he
 have hold:∀ aF w',aG G base s.H aF w'->tz s.H H.length aF w':=fun aF w' h=>X9 Ja hI.lo ho h
 rcases he with he|he|he|he
 ·exact TP iT hI hc hold he
 ·exact (GY iT hI hc hold he).2
 ·exact TR iT hI hc hold he
 ·exact TQ iT hI hc hold he
section
variable {cf:cC}(iv:∀ f args H r c,cf f args H=some (r,c)->ke H c)
include iv
theorem K9{draw:Bool}{o:az}{z:AV}{s s1:AS}(he:lI G cf draw s o=some (z,s1))(h:dI H s):dI H s1:=by
 have cm:((ai G cf s o.op).bind fun r=>match r.2 with
   | none=>cond (draw&&(aQ r.1).isSome) none (some (r.1,s))
   | some s'=>cond draw none (some (r.1,s')))=some (z,s1)->dI H s1:=by
  intro h1
  simp only[aiF] at h1
  obtain⟨⟨z',s'⟩,bc,h1⟩:=h1
  cases s' with
  | none =>
   simp only at h1
   cases hb:(draw&&(aQ z').isSome) with
   | true=>rw[hb] at h1;cases h1
   | false =>
    rw[hb] at h1
    simp only[aiQ,aiG,aiH] at h1
    rw[<- h1.2];exact h
  | some s' =>
   simp only at h1
   cases draw with
   | true=>cases h1
   | false =>
    simp only[aiQ,aiG,aiH] at h1
    rw[<- h1.2];exact Hq iv bc h
 unfold lI at he
 cases hg:o.guard with
 | none=>rw[hg] at he;exact cm he
 | some gw =>
  obtain⟨g,want⟩:=gw
  rw[hg] at he
  simp only at he
  generalize s.T g=X at he
  cases X with
  | bool b =>
   simp only at he
   cases hc:(b==want) with
   | false =>
    rw[hc] at he
    simp only[aiQ,aiG,aiH] at he
    rw[<- he.2];exact h
   | true=>rw[hc] at he;exact cm he
  | tuple vs =>
   cases vs with
   | nil=>simp only[aiG,aiH] at he;rw[<- he.2];exact h
   | cons v vs=>cases he
  | _=>cases he
theorem oF{draw:Bool} : ∀ (is:List az) (s s' : AS),dT G cf draw is s=some s'->dI H s->dI H s'
 | [],s,s',he,h=>by simp only[dT,aiG] at he;rw[<- he];exact h
 | o :: r,s,s',he,h=>by
  simp only[dT,aiF,lH,aiE] at he
  obtain⟨s1,⟨⟨z,s2⟩,hz,rfl⟩,he⟩:=he
  have h2:=K9 iv hz h
  exact oF r _ s' he (h2.dM (gS _ _ _).1 (gS _ _ _).2.2)
theorem qg(n:Nat):∀ (c:aZ) (s s' : AS) (ex:bC),gL G cf n c s=some (ex,s')->dI H s->dI H s'
 | .skip,s,s',ex,he,h=>by simp only[gL,aiG,aiH] at he;rw[<- he.2];exact h
 | .region d ops,s,s',ex,he,h=>by
  simp only[gL,aiE,aiH] at he
  obtain⟨s2,he,_,rfl⟩:=he
  exact oF iv ops s s2 he h
 | .seq a b,s,s',ex,he,h=>by
  simp only[gL,aiF] at he
  obtain⟨⟨e1,s1⟩,h1,he⟩:=he
  have h2:=qg n a s s1 e1 h1 h
  cases e1 with
  | normal=>exact qg n b s1 s' ex he h2
  | _=>simp only[aiG,aiH] at he;rw[<- he.2];exact h2
 | .cond c a b,s,s',ex,he,h=>by
  simp only[gL] at he
  split at he
  ·rename_i t _
   cases t with
   | true=>exact qg n a s s' ex he h
   | false=>exact qg n b s s' ex he h
  ·cases he
 | .block id a,s,s',ex,he,h=>by
  simp only[gL,aiE] at he
  obtain⟨⟨e1,s1⟩,h1,he⟩:=he
  have h2:=qg n a s s1 e1 h1 h
  cases e1<;>(simp only[aiH] at he;rw[<- he.2];exact h2)
 | .loop a,s,s',ex,he,h=>by
  simp only[gL] at he
  have go:∀ (m:Nat) (s:AS),iter (gL G cf n a) m s=some (ex,s')->dI H s->dI H s':=by
   intro m
   induction m with
   | zero=>intro s h;cases h
   | succ m ih =>
    intro s h1 h
    simp only[iter,aiF] at h1
    obtain⟨⟨e1,s1⟩,h1,h2⟩:=h1
    have h3:=qg n a s s1 e1 h1 h
    cases e1 with
    | normal=>exact ih s1 h2 h3
    | _=>simp only[aiG,aiH] at h2;rw[<- h2.2];exact h3
  exact go n s he h
 | .exit id,s,s',ex,he,h=>by simp only[gL,aiG,aiH] at he;rw[<- he.2];exact h
 | .ret,s,s',ex,he,h=>by simp only[gL,aiG,aiH] at he;rw[<- he.2];exact h
 | .xd _ _ _,s,s',ex,he,h=>by simp[gL] at he
end
def Gh.taken(gh:Gh):Gh:={ gh with κ:=fun b=>match gh.κ b with|.par j=>.sl j|o=>o }
def abp(p:aX):Prop:=∃ j,p=.par j
theorem qH(hW:aG G base H gh w)(n:Nat):Step abp n gh w gh.taken w:=by
 refine⟨fun _ _ h=>h,fun _ _ _=>rfl,aiK _,rfl,rfl,rfl,fun b hb hn=>⟨.inl rfl,?_,fun _ h=>h⟩,fun b hb=>?_,fun _ _=>rfl,fun _ _ _ h=>h,fun _ _ _ _ h=>h⟩
 ·simp only[Gh.taken]
  cases h:gh.κ b<;>first|rfl|skip
  exact absurd ⟨_,h⟩ hn
 ·simp only[Gh.taken,hW.fresh b hb]
  simp
theorem Uj(hW:aG G base H gh w):aG G base H gh.taken w:=by
 refine hW.step (qH hW H.length) (fun l=>⟨fun h=>(by obtain⟨j,h⟩:=h;cases h),fun k h=>(by obtain⟨j,h⟩:=h;cases h)⟩) hW.l7 (fun b hb=>hW.mG b fun h=>hb ?_) (fun _ _ _ h=>.inl h)
 simp[Gh.taken,h]
theorem Py(hW:aG G base H gh w){n j:Nat}{v:Value}{x:AV}(h:CR gh n w (.par j) v x):CR gh.taken n w (.sl j) v x:=by
 have st:=qH hW n
 rcases h with h|⟨e,rfl,h1,h2⟩
 ·exact .inl (h.mono st (aiK _))
 ·refine .inr ⟨e,rfl,h1,?_⟩
  obtain⟨b,cap,C,ty,lo,hi,sz,k1,k2,k3,k4,k5⟩:=h2
  exact⟨b,cap,C,ty,lo,hi,sz,k1,by simp[Gh.taken,k2],k3,k4,k5⟩
theorem Cx{H:ag}{fn:Func}{locals muts:List Nat}{args:List AV}{gh:Gh}{w:World}{vs:Array Value}(hW:aG G base H gh w)(sd:vs.size=args.length)(fC:vs.size<=fn.ntmps)(bU:∀ (j:Nat) (v:Value) (x:AV),vs[j]?=some v->args[j]?=some x->CR gh H.length w (.par j) v x) :
  Inv G base fn.ntmps (locals++muts) H gh w ({ T:=gn args,H,lo:=H.length,gen:=0 } : AS) gh.taken w { tmps:=vs++Array.replicate (fn.ntmps-vs.size) undef,defers:=[] }:=by
 have dK:∀ b,w.heap.size<=b->gh.κ b≠.outer:=fun b hb=>hW.bw b hb
 have hE:Ext H.length gh w gh.taken w:=⟨(qH hW H.length).mono (fun p hp=>by obtain⟨j,rfl⟩:=hp;simp[nn]),fun b hb=>by
  simp only[Gh.taken] at hb
  cases h:gh.κ b<;>rw[h] at hb<;>first|exact hb|cases hb⟩
 refine⟨Uj hW,⟨⟨rfl,by simp;omega,fun i hi=>?_⟩,fun i hi=>?_⟩,hE,⟨aiK _,aiK _,fun _ _=>rfl⟩⟩
 ·have kB:CR gh.taken H.length w (.sl i) ((vs++Array.replicate (fn.ntmps-vs.size) undef).getD i undef) (gn args i):=by
   by_cases a7:i<vs.size
   ·have h1:=aiS a7
    have h2:=aiJ (show i<args.length by omega)
    have h3:=bU i _ _ h1 h2
    have e1:(vs++Array.replicate (fn.ntmps-vs.size) undef).getD i undef=vs[i]:=by
     rw[akL,akV a7,h1];rfl
    have e2:gn args i=args[i]:=by simp only[gn,ajf,h2];rfl
    rw[e1,e2]
    exact Py hW h3
   ·have e1:(vs++Array.replicate (fn.ntmps-vs.size) undef).getD i undef=undef:=by
     rw[akL,Array.getElem?_append_right (by omega)]
     by_cases h:i-vs.size<fn.ntmps-vs.size
     ·simp[h]
     ·simp[h]
    have e2:gn args i=.undef:=by simp only[gn,ajf,ajk (show args.length<=i by omega)];rfl
    rw[e1,e2]
    exact .inl .undef
  exact l9 kB.ar kB
 ·exfalso
  have hn:aQ (gn args i)=none:=by
   by_cases a7:i<args.length
   ·have h1:=aiS (show i<vs.size by omega)
    have h2:=aiJ a7
    have e2:gn args i=args[i]:=by simp only[gn,ajf,h2];rfl
    rw[e2]
    exact iZ (bU i _ _ h1 h2).ar
   ·have e2:gn args i=.undef:=by simp only[gn,ajf,ajk (show args.length<=i by omega)];rfl
    rw[e2];rfl
  have jW:(aQ (gn args i)).isSome=true:=hi
  rw[hn] at jW
  cases jW
theorem G0{cf:cC}(iv:dr P G cf)(hm:P.follows .mixedOrders=true){f:FuncId}{fn:Func}(F5:P.funcs[f]?=some fn){bK locals muts:List Nat}{oh:au}(hc:mQ P bK locals muts fn=some oh)
  {n:Nat} {args:List AV} {r:AV} {c:Option fz} (he:td G cf n oh args H=some (r,c)) :
  (fn.body.isSome=true/\fn.name≠ "runtime.NumGoroutine")/\ke H c /\
  ∀ (base:Nat) (gh:Gh) (w:World) (vs:Array Value),aG G base H gh w->clean gh->vs.size=args.length->(∀ (j:Nat) (v:Value) (x:AV),vs[j]?=some v->args[j]?=some x->CR gh H.length w (.par j) v x) ->
   Calls P f vs w fun e w'=>∃ v aF,e=.returned v/\kg G base H gh w r c v aF w':=by
 simp only[mQ,aiF] at hc
 obtain⟨code,tL,b,hb,rs,Cv,hc⟩:=hc
 obtain⟨h0,hc⟩:=ab hc
 injection hc with hc
 subst hc
 simp only[aiL,ajg,bne_iff_ne,ne_eq] at h0
 simp only[td] at he
 obtain⟨h1,he⟩:=ab he
 have Wg:args.length=fn.params.size+fn.nfree:=by simpa [dU] using h1
 simp only[aiF] at he
 obtain⟨⟨ex,s'⟩,bc,he⟩:=he
 have pj:ke H c:=by
  have w5:=qg (H:=H) (fun f args H r c h=>(iv f args H r c h).2.1) n b _ s' ex bc ⟨aiK _,aiK _,fun _ _=>rfl⟩
  cases ex with
  | normal=>exact lJ w5 he
  | exit id=>cases he
  | ret=>exact lJ w5 he
 refine⟨⟨by rw[tL];rfl,h0.2⟩,pj,fun base gh w vs hW iT sd bU=>?_⟩
 refine calls_of_wp F5 tL ?_
 have dK:∀ b,w.heap.size<=b->gh.κ b≠.outer:=fun b hb=>hW.bw b hb
 have fC:vs.size<=fn.ntmps:=by omega
 have hI:=Cx (locals:=locals) (muts:=muts) hW sd fC bU
 refine fQ iv hm n code b hb _ s' ex gh.taken w _ _ hI bc (fun a' aF w' jQ=>?_)
 have done:finish H.length { bK,locals,muts,nt:=fn.ntmps,np:=fn.params.size+fn.nfree,results:=rs,body:=b } s'=some (r,c) ->
   a'.defers=[]/\∃ v,(results fn a'.tmps).run P w'=.ok v w'/\∃ v' aF,Ending.returned v=.returned v'/\kg G base H gh w r c v' aF w':=by
  intro hf
  obtain⟨_,v,Lv,hv,hR⟩:=tc (P:=P) hW iT jQ Cv hf
  exact⟨jQ.F.defers,v,hv,v,Lv,rfl,hR⟩
 cases ex with
 | normal=>exact done he
 | exit id=>cases he
 | ret=>exact done he
def iH(P:Program)(G:Nat->List AV)(f:FuncId)(g:List AV->ag->Option (AV × Option fz)):Prop :=
 ∀ args H r c,g args H=some (r,c)->(∃ fn,P.funcs[f]?=some fn/\fn.body.isSome=true/\fn.name≠ "runtime.NumGoroutine")/\ke H c /\
  ∀ (base:Nat) (gh:Gh) (w:World) (vs:Array Value),aG G base H gh w->clean gh->vs.size=args.length->(∀ (j:Nat) (v:Value) (x:AV),vs[j]?=some v->args[j]?=some x->VR gh H.length w v x) ->
   Calls P f vs w fun e w'=>∃ v aF,e=.returned v/\kg G base H gh w r c v aF w'
structure p8 (P:Program) (A:AP):Prop where
 mixed:P.follows .mixedOrders=true
 fns:∀ f oh,A.fns f=some oh->∃ fn bK locals muts,P.funcs[f]?=some fn/\mQ P bK locals muts fn=some oh
 ov:∀ f g,A.ov f=some g->iH P A.aP f g
theorem sG{A:AP}(h:p8 P A):∀ n,dr P A.aP (x9 A n)
 | 0=>fun f args H r c he=>by cases he
 | n+1=>fun f args H r c he=>by
  simp only[x9] at he
  split at he
  ·rename_i g hg
   obtain⟨h0,he⟩:=ab he
   obtain⟨k1,k2,k3⟩:=h.ov f g hg args H r c he
   refine⟨k1,k2,fun base gh w vs hW iT sd bU=>k3 base gh w vs hW iT sd (fun j v x hv hx=>?_)⟩
   rcases bU j v x hv hx with h|⟨e,rfl,_⟩
   ·exact h
   ·have:=aiO.1 h0 _ (aiT hx)
    simp[pz] at this
  ·split at he
   ·cases he
   ·rename_i oh hf
    obtain⟨fn,bK,locals,muts,F5,hc⟩:=h.fns f oh hf
    obtain⟨⟨h1,h2⟩,h3,h4⟩:=G0 (sG h n) h.mixed F5 hc he
    exact⟨⟨fn,F5,h1,h2⟩,h3,h4⟩
end
end
end Go.Abs
