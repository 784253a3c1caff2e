/-
  A part of the proof of SyntaxTokens: AbsCode.
-/
import Derived.Test.YtbdhkgiakaegdaaGreatDoorP05
set_option linter.unusedSimpArgs false
set_option linter.unusedVariables false
set_option linter.defProp false
namespace Go.Abs
section
def cq.K9:cq->Exit
 | .normal=>.normal
 | .exit id=>.exit id
 | .ret=>.ret
section
variable {P:Program}{G:Nat->List AV}{base nt:Nat}{gh:Gh}{w w' : World}{a:Act}{s:AS}{H:ai}{L:List Nat}
theorem Inv.drew{H0:ai}{iP:Gh}{w0:World}(h:Inv G base nt L H0 iP w0 s gh w a):Inv G base nt L H0 iP w0 s gh { w with drawn:=w.drawn+1 } a:=by
 have st:Step (fun _=>False) s.H.length gh w gh { w with drawn:=w.drawn+1 }:=⟨fun _ _ h=>h,fun _ _ _=>rfl,an4 _,rfl,rfl,rfl,fun _ _ _=>⟨.inl rfl,rfl,fun _ h=>h⟩,fun b hb=>h.W.cB b hb,fun _ _=>rfl,fun _ _ _ h=>h,fun _ _ _ _ h=>h⟩
 exact⟨h.W.step st (fun l=>⟨id,fun _=>id⟩) h.W.nT h.W.pR (fun _ _ _ h=>.inl h),h.F.grown (H':=s.H) (lo':=s.lo) st (fun i=>⟨id,id,fun _=>id⟩) (an4 _),
  h.E.trans ⟨st.mono (fun _ h=>h.elim),fun _ h=>h⟩ h.lo.len,h.lo⟩
theorem iL{cf:dK}(jK:fD P G cf)(hm:P.follows .mixedOrders=true){H0:ai}{iP:Gh}{w0:World}{cz locals muts:List Nat}(n:Nat) :
  ∀ (c:Code) (ic:bq),gD P cz locals muts nt c=some ic->∀ (s s' : AS) (ex:cq) (gh:Gh) (w:World) (a:Act) (Q:Exit->Act->World->Prop),Inv G base nt (locals++muts) H0 iP w0 s gh w a->jq G cf n ic s=some (ex,s') ->
   (∀ a' aX w',Inv G base nt (locals++muts) H0 iP w0 s' aX w' a'->Q ex.K9 a' w')->c.wp P Q a w
 | .skip,ic,hc,s,s',ex,gh,w,a,Q,hI,he,hQ=>by
  simp only[gD,anV] at hc
  subst hc
  simp only[jq,anV,anY] at he
  obtain⟨rfl,rfl⟩:=he
  exact wp_skip (hQ a gh w hI)
 | .region id ops draw,ic,hc,s,s',ex,gh,w,a,Q,hI,he,hQ=>by
  simp only[gD,anU] at hc
  obtain⟨is,Ie,hc⟩:=hc
  cases hd3:cond draw (yB locals ops.toList is) none with
  | some c3 =>
   rw[hd3] at hc
   injection hc with hc
   subst hc
   obtain⟨rfl,mode,pc,es,h1,h2,rfl⟩:=yC hd3
   simp only[jq,anT,anY] at he
   obtain⟨s2,he,rfl,rfl⟩:=he
   exact wp_region_any hm (FJ jK (fun x hx=>an9.2 (.inl hx)) (fun x hx=>an9.2 (.inr hx)) Q hI.drew Ie h1 h2 he hQ)
  | none =>
  rw[hd3] at hc
  simp only at hc
  cases hb:(!draw || (!(locals.elem 999998)&&vb (locals++muts) (ops.toList.zip is))) with
  | false =>
   rw[hb,anZ] at hc
   obtain⟨_,hc⟩:=ag hc
   injection hc with hc
   subst hc
   simp[jq] at he
  | true =>
  have h0:=hb
  rw[hb,cond_true] at hc
  injection hc with hc
  subst hc
  simp only[jq,anT,anY] at he
  obtain⟨s2,he,rfl,rfl⟩:=he
  have y7:∀ x,x∈locals->x∈locals++muts:=fun x hx=>an9.2 (.inl hx)
  have xM:∀ x,x∈muts->x∈locals++muts:=fun x hx=>an9.2 (.inr hx)
  cases draw with
  | false=>exact wp_region_list (BV jK y7 xM Q ops.toList is s s2 gh w a hI Ie he hQ)
  | true =>
   rw[aoe,aog] at h0
   have hl:ops.size=is.length:=by simpa using (jn Ie).1
   exact wp_region_any hm (IX jK y7 xM Q hI.drew Ie (Hq hl (aqN.1 h0).2) he hQ)
 | .seq x y,ic,hc,s,s',ex,gh,w,a,Q,hI,he,hQ=>by
  simp only[gD,anU,anT] at hc
  obtain⟨ix,hx,iy,hy,rfl⟩:=hc
  simp only[jq,anU] at he
  obtain⟨⟨e1,s1⟩,h1,he⟩:=he
  refine wp_seq (iL jK hm n x ix hx s s1 e1 gh w a _ hI h1 (fun a' aX w' kT=>?_))
  cases e1 with
  | normal=>exact iL jK hm n y iy hy s1 s' ex aX w' a' Q kT he hQ
  | exit id =>
   simp only[anV,anY] at he
   obtain⟨rfl,rfl⟩:=he
   exact hQ a' aX w' kT
  | ret =>
   simp only[anV,anY] at he
   obtain⟨rfl,rfl⟩:=he
   exact hQ a' aX w' kT
 | .cond c x y,ic,hc,s,s',ex,gh,w,a,Q,hI,he,hQ=>by
  simp only[gD,anU,anT] at hc
  obtain⟨iq,hq,ix,hx,iy,hy,rfl⟩:=hc
  simp only[jq] at he
  split at he
  ·rename_i t ht
   have hv:=(cY hI.W hI.F hq ht rfl).jM
   cases t with
   | true=>exact wp_cond_true hv (iL jK hm n x ix hx s s' ex gh w a Q hI he hQ)
   | false=>exact wp_cond_false hv (iL jK hm n y iy hy s s' ex gh w a Q hI he hQ)
  ·cases he
 | .block id c,ic,hc,s,s',ex,gh,w,a,Q,hI,he,hQ=>by
  simp only[gD,anT] at hc
  obtain⟨ix,hx,rfl⟩:=hc
  simp only[jq,anT] at he
  obtain⟨⟨e1,s1⟩,h1,he⟩:=he
  refine wp_block (iL jK hm n c ix hx s s1 e1 gh w a _ hI h1 (fun a' aX w' kT=>?_))
  cases e1 with
  | normal =>
   simp only[anY] at he
   obtain⟨rfl,rfl⟩:=he
   exact hQ a' aX w' kT
  | exit i =>
   simp only[anY] at he
   obtain⟨rfl,rfl⟩:=he
   show if i=id then Q .normal a' w' else Q (.exit i) a' w'
   have:=hQ a' aX w' kT
   rw[gI] at this
   by_cases hi:i=id
   ·rw[if_pos hi];simpa [hi,cq.K9] using this
   ·rw[if_neg hi];simpa [hi,cq.K9] using this
  | ret =>
   simp only[anY] at he
   obtain⟨rfl,rfl⟩:=he
   exact hQ a' aX w' kT
 | .loop c,ic,hc,s,s',ex,gh,w,a,Q,hI,he,hQ=>by
  simp only[gD,anT] at hc
  obtain⟨ix,hx,rfl⟩:=hc
  simp only[jq] at he
  have rounds:∀ (m:Nat) (s:AS) (gh:Gh) (w:World) (a:Act),Inv G base nt (locals++muts) H0 iP w0 s gh w a->iter (jq G cf n ix) m s=some (ex,s')->Code.rounds P c Q m a w:=by
   intro m
   induction m with
   | zero=>intro s gh w a _ h;cases h
   | succ m ih =>
    intro s gh w a hI h
    simp only[iter,anU] at h
    obtain⟨⟨e1,s1⟩,h1,h⟩:=h
    rw[rounds_succ]
    refine iL jK hm n c ix hx s s1 e1 gh w a _ hI h1 (fun a' aX w' kT=>?_)
    cases e1 with
    | normal=>exact ih s1 aX w' a' kT h
    | exit id =>
     simp only[anV,anY] at h
     obtain⟨rfl,rfl⟩:=h
     exact hQ a' aX w' kT
    | ret =>
     simp only[anV,anY] at h
     obtain⟨rfl,rfl⟩:=h
     exact hQ a' aX w' kT
  exact wp_loop_rounds n (rounds n s gh w a hI he)
 | .exit id,ic,hc,s,s',ex,gh,w,a,Q,hI,he,hQ=>by
  simp only[gD,anV] at hc
  subst hc
  simp only[jq,anV,anY] at he
  obtain⟨rfl,rfl⟩:=he
  exact wp_exit (hQ a gh w hI)
 | .ret,ic,hc,s,s',ex,gh,w,a,Q,hI,he,hQ=>by
  simp only[gD,anV] at hc
  subst hc
  simp only[jq,anV,anY] at he
  obtain⟨rfl,rfl⟩:=he
  exact wp_ret (hQ a gh w hI)
 | .label l,ic,hc,s,s',ex,gh,w,a,Q,hI,he,hQ=>by
  simp only[gD,anV] at hc
  subst hc
  simp only[jq,anV,anY] at he
  obtain⟨rfl,rfl⟩:=he
  exact wp_label (hQ a gh w hI)
 | .scope c,ic,hc,s,s',ex,gh,w,a,Q,hI,he,hQ=>by
  simp only[gD] at hc
  refine wp_scope_straight (iL jK hm n c ic hc s s' ex gh w a _ hI he (fun a' aX w' kT=>?_))
  have:=hQ a' aX w' kT
  cases ex<;>exact this
 | .rangeFunc _ _ _ _,_,hc,_,_,_,_,_,_,_,_,_,_=>by simp[gD] at hc
 | .goto _,_,hc,_,_,_,_,_,_,_,_,_,_=>by simp[gD] at hc
 | .refuse _,_,hc,_,_,_,_,_,_,_,_,_,_=>by simp[gD] at hc
def nF(tmps:Array Value):ResultVar->Sem Value
 | .tmp t=>pure (tmps.getD t undef)
 | .cell a t=>do loadVar t (<- asAddr (tmps.getD a undef))
theorem sJ{g:ResultVar->Sem Value} : ∀ (l:List ResultVar) (vs:List Value),l.length=vs.length->(∀ (j:Nat) (r:ResultVar) (v:Value),l[j]?=some r->vs[j]?=some v->(g r).run P w=.ok v w)->(l.mapM g).run P w=.ok vs w
 | [],[],_,_=>by simp
 | r :: l,v :: vs,hl,h=>by
  have h1:=h 0 r v rfl rfl
  have h2:=sJ l vs (by simpa using hl) (fun j r v hr hv=>h (j+1) r v (by simpa using hr) (by simpa using hv))
  simp[List.mapM_cons,h1,h2]
 | [],_ :: _,hl,_=>by simp at hl
 | _ :: _,[],hl,_=>by simp at hl
theorem jS{fn:Func}{tmps:Array Value}{vs:List Value}(hl:fn.results.toList.length=vs.length)(h:∀ (j:Nat) (r:ResultVar) (v:Value),fn.results.toList[j]?=some r->vs[j]?=some v->(nF tmps r).run P w=.ok v w) :
  (results fn tmps).run P w=.ok (if h:vs.toArray.size=1 then vs.toArray[0] else .tuple vs.toArray) w:=by
 have e:results fn tmps=(do let vs <- fn.results.mapM (nF tmps);pure (if h:vs.size=1 then vs[0] else .tuple vs)):=by
  unfold results
  congr 1
 rw[e,Sem.run_bind]
 have h2:(fn.results.mapM (nF tmps)).run P w=.ok vs.toArray w:=by
  rw[Array.mapM_eq_mapM_toList]
  have:=sJ (P:=P) (w:=w) fn.results.toList vs hl h
  simp[this]
 rw[h2]
 rfl
theorem jF:∀ {l:List ResultVar} {rs:List hJ},j1 P nt l=some rs->l.length=rs.length/\∀ (j:Nat) (r:ResultVar) (i:hJ),l[j]?=some r->rs[j]?=some i ->
  (∃ t,r=.tmp t/\i=.tmp t/\t<nt)\/∃ t ty g sz,r=.cell t ty/\i=.cell t g sz/\t<nt/\lW P ty=some g/\fz P ty=some sz
 | [],rs,h=>by simp[j1] at h;subst h;exact⟨rfl,fun j r i h=>by simp at h⟩
 | .tmp t :: l,rs,h=>by
  simp only[j1] at h
  obtain⟨h0,h⟩:=ag h
  simp only[anT] at h
  obtain⟨rs',hr,rfl⟩:=h
  obtain⟨h1,h2⟩:=jF hr
  refine⟨by simp[h1],fun j r i hj hi=>?_⟩
  cases j with
  | zero=>simp at hj hi;subst hj hi;exact .inl ⟨t,rfl,rfl,by simpa [aoE] using h0⟩
  | succ j=>exact h2 j r i (by simpa using hj) (by simpa using hi)
 | .cell t ty :: l,rs,h=>by
  simp only[j1] at h
  obtain⟨h0,h⟩:=ag h
  simp only[anU,anT] at h
  obtain⟨g,hg,sz,hs,rs',hr,rfl⟩:=h
  obtain⟨h1,h2⟩:=jF hr
  refine⟨by simp[h1],fun j r i hj hi=>?_⟩
  cases j with
  | zero=>simp at hj hi;subst hj hi;exact .inr ⟨t,ty,g,sz,rfl,rfl,by simpa [aoE] using h0,hg,hs⟩
  | succ j=>exact h2 j r i (by simpa using hj) (by simpa using hi)
theorem zR(hW:bc G base s.H gh w)(hF:FR L nt gh w a s){r:ResultVar}{i:hJ}(hc:(∃ t,r=.tmp t/\i=.tmp t/\t<nt)\/∃ t ty g sz,r=.cell t ty/\i=.cell t g sz/\t<nt/\lW P ty=some g/\fz P ty=some sz)
  {z:AV} (hz:jy s i=some z):∃ v,(nF a.tmps r).run P w=.ok v w/\((∃ t,i=.tmp t/\t<nt/\v=gv a t/\z=s.T t/\CR gh s.H.length w (.sl t) v z)\/VR gh s.H.length w v z):=by
 rcases hc with ⟨t,rfl,rfl,ht⟩|⟨t,ty,g,sz,rfl,rfl,ht,hg,hs⟩
 ·refine⟨gv a t,rfl,.inl ⟨t,rfl,ht,rfl,?_⟩⟩
  simp only[jy] at hz
  obtain⟨h0,hz⟩:=ag hz
  injection hz with hz
  subst hz
  have h:=hF.slot t ht
  change SR gh s.H.length nt w s.T s.gen (gv a) t (gv a t) (s.T t) at h
  refine⟨rfl,?_⟩
  generalize s.T t=X at h h0
  cases X<;>first|exact h|(simp[aH] at h0)
 ·have h:=hF.slot t ht
  change SR gh s.H.length nt w s.T s.gen (gv a) t (gv a t) (s.T t) at h
  simp only[jy] at hz
  have run:∀ {b:Nat} {f:Nat->Value} {cs:List AV},gv a t=.pointer (some ⟨b,0,none⟩)->ab false g sz 0 cs=some z->(∀ (j:Nat) (x:AV),cs[j]?=some x->w.cell? ⟨b,0+j,none⟩=some (f j)/\(f j).oneCell'=true/\VR gh s.H.length w (f j) x.drop) ->
    ∃ v,(nF a.tmps (.cell t ty)).run P w=.ok v w/\((∃ t',hJ.cell t g sz=.tmp t'/\t' < nt/\v=gv a t'/\z=s.T t'/\CR gh s.H.length w (.sl t') v z)\/VR gh s.H.length w v z):=by
   intro b f cs hb hl hf
   obtain⟨v,h1,h2⟩:=kE (P:=P) hl hg hs hf
   refine⟨v,?_,.inr h2⟩
   have gO:a.tmps.getD t undef=.pointer (some ⟨b,0,none⟩):=hb
   show (do loadVar ty (<- asAddr (a.tmps.getD t undef)):Sem Value).run P w=_
   rw[gO]
   simpa [asAddr] using h1
  split at hz
  ·rename_i gg cs hT
   rw[hT] at h
   obtain⟨_,b,hb,hB⟩:=h
   obtain⟨f,hf⟩:=oT hB
   exact run hb hz hf
  ·rename_i loc hT
   rw[hT] at h
   have hv:=CR.dropped (h:CR gh s.H.length w (.sl t) (gv a t) (.ref loc 0))
   obtain⟨bA,hp⟩:=VR.lV hv
   split at hz
   ·rename_i Oc cs hH
    obtain⟨f,hf⟩:=oT (hW.boxes loc _ cs hH)
    exact run hp hz hf
   ·cases hz
  ·cases hz
theorem freeze(hW:bc G base s.H gh w)(hF:FR L nt gh w a s){b g:Nat}{e:List (List AV)}(hb:b<nt)(hT:s.T b=.lsl g e)(lH:js e=true) :
  ∃ aX,bc G base s.H aX w/\Ext s.H.length gh w aX w/\CR aX s.H.length w .ret (gv a b) (.slice e true):=by
 obtain⟨ad,cap,hV,⟨rfl,rfl,GK⟩|⟨k,C,ty,sz,ff,rfl,hκ,hS,hk,hC,hl,hr,ia⟩⟩:=nH hF hb hT
 ·refine⟨gh,hW,Ext.refl _ _ _ (fun b hb=>hW.cB b hb),.inl ?_⟩
  rw[hV]
  refine .full ad 0 [] ?_ trivial
  cases ad with
  | none=>exact .dM
  | some ad =>
   obtain⟨b',o',sp⟩:=ad
   have:=(GK _ rfl).1
   simp only at this
   subst this
   exact .slice b' o' 0 0 0 [] (fun _ _=>undef) rfl (an4 _) (fun i r h=>by simp at h) (fun i j r x h=>by simp at h) (fun i j r x h=>by simp at h)
 ·have nN:∀ o,gh.S k o->C[o]?=C[o]?:=fun _ _=>rfl
  have hn:gh.κ k≠.none:=by rw[hκ];simp
  have D6:∀ j m,j<e.length*sz->C[j]?=some (.int .u8 m)->ty=jc:=by
   intro j m hj hc
   have dH:iS gh.S w sz (C.toList.take (e.length*sz)).toArray e:=by
    have hle:e.length*sz<=C.size:=by rw[hC];exact aoo _ hl
    refine⟨by simp;omega,hr,fun i j r x hi hj=>?_⟩
    obtain⟨u,hu,hp⟩:=ia i j r x hi hj
    refine⟨u,?_,hp⟩
    have h1:=(an2.1 hi).1
    have h2:j<sz:=by rw[<- hr i r hi];exact (an2.1 hj).1
    simp only[aow,aov,if_pos (tN h1 h2)]
    simpa using hu
   refine nG (isB:=false) (m:=m) dH lH (fun h=>by cases h) hj ?_
   simp only[aow,aov,if_pos hj]
   simpa using hc
  have hE:=xU hW hk rfl (fun o=>o<e.length*sz) nN (p:=.ret) (by simp) hn (by rw[hκ];simp) s.H.length
  have mg:=LK hW hk rfl (fun o=>o<e.length*sz) nN D6 .ret hn (by rw[hκ];simp)
  have PY:=setRow_self w k C ty (0,0) hk
  rw[PY] at hE mg
  refine⟨_,mg,hE,.inr ⟨e,rfl,?_,k,cap,C,ty,0,0,sz,hV,by simp,ff,hk,hC,hr,hl,aoW _,?_⟩⟩
  ·rw[hV]
   have key:∀ (i j:Nat) (r:List AV) (x:AV),e[i]?=some r->r[j]?=some x->C[i*sz+j]?=some (C.getD (i*sz+j) undef)/\PR gh.S w (C.getD (i*sz+j) undef) x/\i*sz+j<e.length*sz:=by
    intro i j r x hi hj
    obtain⟨u,hu,hp⟩:=ia i j r x hi hj
    have bA:=(aob.1 hu).1
    have:C.getD (i*sz+j) undef=u:=by
     rw[aok bA] at hu
     injection hu with hu
     simp[bA,hu]
    rw[this]
    exact⟨hu,hp,tN (an2.1 hi).1 (by rw[<- hr i r hi];exact (an2.1 hj).1)⟩
   refine .slice k 0 e.length cap sz e (fun i j=>C.getD (i*sz+j) undef) rfl hl hr (fun i j r x hi hj=>?_) (fun i j r x hi hj=>?_)
   ·obtain⟨h1,h2,h3⟩:=key i j r x hi hj
    refine⟨.inr ⟨rfl,by simpa using h3⟩,?_,h2.fR⟩
    rw[Nat.zero_add,cell_of_row w k _ C ty _ hk];exact h1
   ·exact (key i j r x hi hj).2.1.mono (fun b o h=>.inl h) (fun _ _ _=>rfl) (fun _ _ _ _ h=>h)
  ·rintro o ho (h|⟨_,h⟩)
   ·exact hS o h
   ·omega
theorem VR.bd{n m:Nat}{v:Value}{x:AV}(h:VR gh n w v x)(hx:x.bd m=true):VR gh m w v x:=by
 cases x
 case ref loc off =>
  obtain⟨_,rfl⟩:=h.lV
  exact .ref loc off (by simpa [AV.bd,aoE] using hx)
 case sref loc off k z =>
  obtain⟨_,cap,hk,hz,rfl⟩:=h.jN
  exact .sref loc off k cap z (by simpa [AV.bd,aoE] using hx) hk hz
 case mref loc =>
  obtain⟨_,rfl⟩:=h.nC
  exact .mref loc (by simpa [AV.bd,aoE] using hx)
 all_goals exact .plain _ _ (h.ko hx)
theorem VR.bN{n m:Nat}{v:Value}{x:AV}(h:VR gh n w v x)(hx:x.bN m=true):VR gh m w v x:=by
 cases x
 case agg cs =>
  obtain⟨C,rfl,hs,gT,hc⟩:=h.ku
  exact .agg C cs hs gT (fun j v x hv oI=>(hc j v x hv oI).bd (an'.1 hx x (aoh oI)))
 all_goals exact h.bd hx
theorem VR.leaves{n m:Nat}{v:Value}{x:AV}(h:VR gh n w v x)(hx:x.leaves m=true):VR gh m w v x:=by
 cases x
 case func f fs cs =>
  simp only[AV.leaves,an7] at hx
  obtain⟨us,ts,rfl,h1,h2,h3,h4⟩:=h.ra
  exact .func f us ts fs cs h1 h2 (fun j v x hv oI=>(h3 j v x hv oI).bd (an'.1 hx.1 x (aoh oI))) (fun j v x hv oI=>(h4 j v x hv oI).bd (an'.1 hx.2 x (aoh oI)))
 case iface t y =>
  cases h with
  | plain _ _ h=>exact .plain _ _ h
  | iface _ u _ h=>exact .iface t u y (h.bd hx)
 case tuple vs =>
  obtain⟨us,rfl,hs,h1⟩:=h.rP
  exact .tuple us vs hs (fun j v x hv oI=>(h1 j v x hv oI).bN (an'.1 hx x (aoh oI)))
 case slice e own =>
  cases h with
  | plain _ _ h=>exact .plain _ _ h
  | full a k _ h hz=>exact .full a k e h hz
 all_goals exact h.bN hx
theorem CR.leaves{n m:Nat}{p:bM}{v:Value}{x:AV}(h:CR gh n w p v x)(hx:x.leaves m=true):CR gh m w p v x:=by
 rcases h with h|h
 ·exact .inl (h.leaves hx)
 ·exact .inr h
theorem VR.iE{n m loc:Nat}{v:Value}{x:AV}(h:VR gh n w v x)(hx:iE loc x=true)(hl:loc<m):VR gh m w v x:=by
 cases x
 case ref l off =>
  obtain⟨_,rfl⟩:=h.lV
  have:l<=loc:=by simpa [Abs.iE,aoU] using hx
  exact .ref l off (by omega)
 case sref l off k z =>
  obtain⟨_,cap,hk,hz,rfl⟩:=h.jN
  have:l<=loc:=by simpa [Abs.iE,aoU] using hx
  exact .sref l off k cap z (by omega) hk hz
 case mref l =>
  obtain⟨_,rfl⟩:=h.nC
  have:l<=loc:=by simpa [Abs.iE,aoU] using hx
  exact .mref l (by omega)
 case slice e own =>
  cases h with
  | plain _ _ h=>exact .plain _ _ h
  | full a k _ h hz=>exact .full a k e h hz
 all_goals exact .plain _ _ (h.ko hx)
theorem VR.k8{n m loc:Nat}{v:Value}{x:AV}(h:VR gh n w v x)(hx:k8 loc x=true)(hl:loc<m):VR gh m w v x:=by
 cases x
 case agg cs =>
  obtain⟨C,rfl,hs,gT,hc⟩:=h.ku
  exact .agg C cs hs gT (fun j v x hv oI=>(hc j v x hv oI).iE (an'.1 hx x (aoh oI)) hl)
 all_goals exact h.iE hx hl
theorem VR.bD{n m loc:Nat}{v:Value}{x:AV}(h:VR gh n w v x)(hx:bD loc x=true)(hl:loc<m):VR gh m w v x:=by
 cases x
 case ref l off =>
  obtain⟨_,rfl⟩:=h.lV
  have:l<=loc:=by simpa [Abs.bD,aoU] using hx
  exact .ref l off (by omega)
 case sref l off k z =>
  obtain⟨_,cap,hk,hz,rfl⟩:=h.jN
  have:l<=loc:=by simpa [Abs.bD,aoU] using hx
  exact .sref l off k cap z (by omega) hk hz
 case mref l =>
  obtain⟨_,rfl⟩:=h.nC
  have:l<=loc:=by simpa [Abs.bD,aoU] using hx
  exact .mref l (by omega)
 case slice e own =>
  cases h with
  | plain _ _ h=>exact .plain _ _ h
  | full a k _ h hz=>exact .full a k e h hz
 case func f fs cs =>
  simp only[Abs.bD,an7] at hx
  obtain⟨us,ts,rfl,h1,h2,h3,h4⟩:=h.ra
  exact .func f us ts fs cs h1 h2 (fun j v x hv oI=>(h3 j v x hv oI).k8 (an'.1 hx.1 x (aoh oI)) hl) (fun j v x hv oI=>(h4 j v x hv oI).k8 (an'.1 hx.2 x (aoh oI)) hl)
 all_goals exact .plain _ _ (h.ko hx)
theorem PR.lower{S:Nat->Nat->Prop}{w0:World}{v0:Value}{x:AV}(h:PR S w0 v0 x){n m:Nat} : ∀ {v:Value},VR gh n w v x->VR gh m w v x:=by
 induction h with
 | iface t v0 x h ih =>
  intro v hv
  cases hv with
  | plain _ _ h=>exact .plain _ _ h
  | iface _ u _ h=>exact .iface t u x (ih h)
 | func f =>
  intro v hv
  cases hv with
  | plain _ _ h=>exact .plain _ _ h
  | func _ fs cs _ _ h1 h2 h3 h4=>exact .func f fs cs [] [] h1 h2 (fun j v x _ hx=>by simp at hx) (fun j v x _ hx=>by simp at hx)
 | _ =>
  intro v hv
  cases hv<;>exact .plain _ _ ‹_›
theorem VR.lower{iP:Gh}{w0:World}{m:Nat}{v0:Value}{x:AV}(h:VR iP m w0 v0 x){n:Nat} : ∀ {v:Value},VR gh n w v x->VR gh m w v x:=by
 induction h with
 | plain v0 x h=>intro v hv;exact h.lower hv
 | full a k e h hz =>
  intro v hv
  cases hv with
  | plain _ _ h=>cases h
  | full a k _ h hz=>exact .full a k e h hz
 | ref loc off h=>intro v hv;obtain⟨_,rfl⟩:=hv.lV;exact .ref loc off h
 | sref loc off k cap z h hk hz=>intro v hv;obtain⟨_,cap,hk,hz,rfl⟩:=hv.jN;exact .sref loc off k cap z h hk hz
 | mref loc h=>intro v hv;obtain⟨_,rfl⟩:=hv.nC;exact .mref loc h
 | func f fs cs xs ys hf hc _ _ ih1 ih2 =>
  intro v hv
  obtain⟨us,ts,rfl,h1,h2,h3,h4⟩:=hv.ra
  refine .func f us ts xs ys h1 h2 (fun j v x hv hx=>?_) (fun j v x hv hx=>?_)
  ·have hj:j<fs.size:=by rw[hf];exact (an2.1 hx).1
   exact ih1 j _ x (aok hj) hx (h3 j v x hv hx)
  ·have hj:j<cs.size:=by rw[hc];exact (an2.1 hx).1
   exact ih2 j _ x (aok hj) hx (h4 j v x hv hx)
 | iface t v0 x h ih =>
  intro v hv
  cases hv with
  | plain _ _ h=>exact .plain _ _ h
  | iface _ u _ h=>exact .iface t u x (ih h)
 | agg cs xs hs gT _ ih =>
  intro v hv
  obtain⟨C,rfl,rO,PQ,hc⟩:=hv.ku
  refine .agg C xs rO PQ (fun j v x hv hx=>?_)
  have hj:j<cs.size:=by rw[hs];exact (an2.1 hx).1
  exact ih j _ x (aok hj) hx (hc j v x hv hx)
 | tuple vs xs hs _ ih =>
  intro v hv
  obtain⟨us,rfl,rO,h1⟩:=hv.rP
  refine .tuple us xs rO (fun j v x hv hx=>?_)
  have hj:j<vs.size:=by rw[hs];exact (an2.1 hx).1
  exact ih j _ x (aok hj) hx (h1 j v x hv hx)
def wA(H:ai)(m:Nat)(gh:Gh)(w:World):Prop:=∀ (l:Nat) (cs:List AV),l<m->H[l]?=some (.ba cs)->iw gh m w (gh.ρ l) (.hb l) (fun j=>.hs l j) cs
theorem abX{ghI:Gh}{wI:World}{H0:ai}(MR:bc G base H0 ghI wI)(wX:fU H0 s)(ho:rp H0.length s=true)(hW:bc G base s.H gh w):wA s.H H0.length gh w:=by
 intro l cs hl hH
 obtain⟨h1,h2,C,Od,h3,h4,h5⟩:=(hW.more l _ hH:iw gh s.H.length w (gh.ρ l) (.hb l) (fun j=>.hs l j) cs)
 refine⟨h1,h2,C,Od,h3,h4,fun j v x hv hx=>⟨(h5 j v x hv hx).1,?_⟩⟩
 have l8:=(h5 j v x hv hx).2
 by_cases hll:l<s.lo
 ·have hH0:H0[l]?=some (.ba cs):=by rw[<- wX.same l hll];exact hH
  obtain⟨_,_,C0,Oc,g3,g4,g5⟩:=(MR.more l _ hH0:iw ghI H0.length wI (ghI.ρ l) (.hb l) (fun j=>.hs l j) cs)
  have hj:j<C0.size:=by have:=(an2.1 hx).1;omega
  rcases l8 with C6|aa6
  ·rcases (g5 j _ x (aok hj) hx).2 with k|⟨e,rfl,_⟩
   ·exact .inl (k.lower C6)
   ·cases C6 with
    | plain _ _ h=>cases h
    | full a k _ h hz=>exact .inl (.full a k e h hz)
  ·exact .inr aa6
 ·have hc:x.bd H0.length=true:=by
   unfold rp at ho
   cases hb:Nat.beq s.lo H0.length with
   | true=>have:=aph hb;omega
   | false =>
    rw[hb,anZ] at ho
    have hm:cJ.ba cs∈(s.H.take H0.length).drop s.lo:=by
     refine aoh (i:=l-s.lo) ?_
     rw[aoS,aov,if_pos (by omega),show s.lo+(l-s.lo)=l by omega]
     exact hH
    exact an'.1 (an'.1 ho _ hm) x (aoh hx)
  rcases l8 with C6|⟨e,rfl,_⟩
  ·exact .inl (C6.bd hc)
  ·simp[AV.bd,AV.plain] at hc
theorem CR.bD{n m loc:Nat}{p:bM}{v:Value}{x:AV}(h:CR gh n w p v x)(hx:bD loc x=true)(hl:loc<m):CR gh m w p v x:=by
 rcases h with h|h
 ·exact .inl (h.bD hx hl)
 ·exact .inr h
theorem bc.DG(hW:bc G base H gh w){m:Nat}(hm:m<=H.length)(hold:wA H m gh w):bc G base (H.take m) gh w:=by
 have YS:(H.take m).length=m:=by simp;omega
 refine⟨hW.size,hW.nT,hW.pR,hW.aZ,fun loc ty cs hl=>?_,fun loc ty cs hl=>?_,hW.xE,hW.bytes,fun loc o hl=>?_,fun loc ty cs hl=>?_⟩
 rotate_left 2
 ·rw[aov] at hl
  split at hl
  ·rename_i bA
   have h:=hW.more loc o hl
   rw[YS]
   cases o with
   | map kz ka va es =>
    obtain⟨⟨h1,h2,E,ck,f,h3,h4,h5,h6⟩,h7⟩:=h
    refine⟨⟨h1,h2,E,ck,f,h3,h4,h5,fun i j r x hi hj hl=>?_⟩,h7⟩
    have hc:=an'.1 (an'.1 h7 r (aoh hi)) x (aoh hj)
    obtain⟨k1,k2,k3⟩:=h6 i j r x hi hj hl
    refine⟨k1,fun hv=>?_,k3.bD hc bA⟩
    exact (k2 hv).bD hc bA
   | fJ kz ka va es=>exact h
   | Ji cs=>exact h
   | ba cs=>exact hold loc cs bA hl
   | _=>trivial
  ·cases hl
 ·rw[aov] at hl
  split at hl
  ·exact hW.types loc ty cs hl
  ·cases hl
 ·rw[aov] at hl
  split at hl
  ·rename_i bA
   obtain⟨h1,h2,C,Od,h3,h4,h5⟩:=hW.boxes loc _ cs hl
   refine⟨h1,h2,C,Od,h3,h4,fun j v x hv hx=>⟨(h5 j v x hv hx).1,?_⟩⟩
   have hlen:(H.take m).length=m:=by simp;omega
   rw[hlen]
   exact (h5 j v x hv hx).2.bD (an'.1 (hW.refs loc _ cs hl) x (aoh hx)) bA
  ·cases hl
 ·rw[aov] at hl
  split at hl
  ·exact hW.refs loc _ cs hl
  ·cases hl
theorem DL(hW:bc G base s.H gh w)(hF:FR L nt gh w a s):∀ (l:List ResultVar) (rs:List hJ) (xs:List AV),l.length=rs.length->(∀ (j:Nat) (r:ResultVar) (i:hJ),l[j]?=some r->rs[j]?=some i ->
    (∃ t,r=.tmp t/\i=.tmp t/\t<nt)\/∃ t ty g sz,r=.cell t ty/\i=.cell t g sz/\t<nt/\lW P ty=some g/\fz P ty=some sz)->lj s rs=some xs ->
    ∃ vs:List Value,l.length=vs.length/\vs.length=xs.length/\(∀ (j:Nat) (r:ResultVar) (v:Value),l[j]?=some r->vs[j]?=some v->(nF a.tmps r).run P w=.ok v w)/\∀ (j:Nat) (v:Value) (x:AV),vs[j]?=some v->xs[j]?=some x->VR gh s.H.length w v x:=by
 intro l
 induction l with
 | nil =>
  intro rs xs hl _ h
  have:rs=[]:=aoy.1 (by simpa using hl.symm)
  subst this
  simp only[lj,anV] at h
  subst h
  exact⟨[],rfl,rfl,fun j r v h=>by simp at h,fun j v x h=>by simp at h⟩
 | cons rv l ih =>
  intro rs xs hl hc h
  cases rs with
  | nil=>simp at hl
  | cons i rs =>
   simp only[lj,anU,anT] at h
   obtain⟨z,hz,ys,P0,rfl⟩:=h
   obtain⟨v,h1,h2⟩:=zR (P:=P) hW hF (hc 0 rv i rfl rfl) hz
   have hv:VR gh s.H.length w v z.bU:=by
    rcases h2 with ⟨t,_,_,_,_,l8⟩|C6
    ·exact kC l8.dropped
    ·exact kC C6.dropped
   obtain⟨vs,k1,k2,k3,k4⟩:=ih rs ys (by simpa using hl) (fun j r i hr hi=>hc (j+1) r i (by simpa using hr) (by simpa using hi)) P0
   refine⟨v :: vs,by simp[k1],by simp[k2],fun j r u hr hu=>?_,fun j u x hu hx=>?_⟩
   ·cases j with
    | zero=>simp at hr hu;subst hr hu;exact h1
    | succ j=>exact k3 j r u (by simpa using hr) (by simpa using hu)
   ·cases j with
    | zero=>simp at hu hx;subst hu hx;exact hv
    | succ j=>exact k4 j u x (by simpa using hu) (by simpa using hx)
theorem KA{iP:Gh}{w0:World}(j5:clean iP)(hI:Inv G base nt L H iP w0 s gh w a){fn:Func}{rs:List hJ}(hc:j1 P nt fn.results.toList=some rs){r:AV}{c:Option gS}(hold:∀ aX w',bc G base s.H aX w'->wA s.H H.length aX w')(he:j3 H.length rs s=some (r,c)) :
  kI H c/\∃ v aX,(results fn a.tmps).run P w=.ok v w/\mz G base H iP w0 r c v aX w:=by
 simp only[j3,anU] at he
 obtain⟨r',hr,he⟩:=he
 obtain⟨Ig,he⟩:=ag he
 simp only[anV,anY] at he
 obtain⟨rfl,rM⟩:=he
 have hlen:=hI.lo.len
 have lG:oE H c=s.H.take H.length:=by
  cases hb:Nat.beq s.lo H.length with
  | false=>rw[hb] at rM;subst rM;rfl
  | true =>
   rw[hb] at rM
   subst rM
   have wX:s.lo=H.length:=aph hb
   show H=_
   refine aql fun l=>?_
   rw[aov]
   split
   ·rename_i hl;exact (hI.lo.same l (by omega)).symm
   ·rename_i hl;exact apq (by omega)
 have By:(oE H c).length=H.length:=by rw[lG];simp;omega
 have PC:kI H c:=by
  refine⟨apy By.symm,fun c' y9=>?_⟩
  cases hb:Nat.beq s.lo H.length with
  | true=>rw[hb] at rM;rw[<- rM] at y9;cases y9
  | false =>
   rw[hb] at rM
   rw[<- rM] at y9
   simp only[anZ,anV] at y9
   subst y9
   refine⟨hI.lo.lo,fun l hl=>?_⟩
   have:=hI.lo.lo
   rw[aov,if_pos (by simp only at hl;omega)]
   exact hI.lo.same l hl
 refine⟨PC,?_⟩
 have fin:∀ {v:Value} {aX:Gh},(results fn a.tmps).run P w=.ok v w->bc G base s.H aX w->Ext s.H.length gh w aX w->CR aX s.H.length w .ret v r'->∃ v aX,(results fn a.tmps).run P w=.ok v w/\mz G base H iP w0 r' c v aX w:=by
  intro v aX h1 h2 h3 h4
  have hE:=hI.E.trans h3 hlen
  refine⟨v,aX,h1,apy By.symm,by rw[lG];exact h2.DG hlen (hold _ _ h2),?_,hE.out,by rw[By];exact h4.leaves Ig⟩
  have st:=hE.step
  refine⟨st.S,st.cell,st.size,st.os,st.tape,st.output,fun b hb hn=>st.Ap b hb (fun ht=>hn ?_),st.fresh,st.ρ,st.len,st.mp⟩
  rcases j5 b with h|h|h|h
  ·exact absurd h ht.1
  ·exact absurd h ht.2
  ·exact .inl h
  ·exact .inr h
 obtain⟨hl,qX⟩:=jF hc
 have hrefl:Ext s.H.length gh w gh w:=Ext.refl _ _ _ (fun b hb=>hI.W.cB b hb)
 have one:∀ (rv:ResultVar) (v:Value),fn.results.toList=[rv]->(nF a.tmps rv).run P w=.ok v w->(results fn a.tmps).run P w=.ok v w:=by
  intro rv v h1 h2
  have:=jS (P:=P) (w:=w) (fn:=fn) (tmps:=a.tmps) (vs:=[v]) (by rw[h1];rfl) (fun j r' v' hr hv=>by
   rw[h1] at hr
   cases j with
   | zero=>simp at hr hv;subst hr hv;exact h2
   | succ j=>simp at hr)
  simpa using this
 unfold mw at hr
 split at hr
 ·rename_i i
  have Ls:([i]:List hJ)=[i]:=rfl
  rw[Ls] at hl
  obtain⟨rv,MZ⟩:∃ rv,fn.results.toList=[rv]:=apv.1 (by simpa using hl)
  have Ui:=qX 0 rv i (by rw[MZ];rfl) (by rw[Ls];rfl)
  split at hr
  ·rename_i b cb
   rcases Ui with ⟨t,rfl,rfl,ht⟩|⟨t,ty,g,sz,rfl,rfl,_⟩
   ·simp only[pY] at cb
    have tV:=hI.F.slot t ht
    change SR gh s.H.length nt w s.T s.gen (gv a) t (gv a t) (s.T t) at tV
    split at cb
    ·rename_i g e hT
     injection cb with cb
     subst cb
     rw[hT] at hr
     obtain⟨lH,hr⟩:=ag hr
     injection hr with hr
     subst hr
     obtain⟨aX,h2,h3,h4⟩:=freeze hI.W hI.F ht hT lH
     exact fin (one _ _ MZ rfl) h2 h3 h4
    ·rename_i b' g hT
     rw[hT] at tV
     obtain⟨gO,_,hv⟩:=tV
     split at cb
     ·rename_i g' e hT'
      obtain⟨h0,cb⟩:=ag cb
      injection cb with cb
      subst cb
      rw[hT'] at hr
      obtain⟨lH,hr⟩:=ag hr
      injection hr with hr
      subst hr
      have D4:g=g':=by simpa [gI] using h0
      have ib:gv a t=gv a b':=hv (by rw[hT',D4];rfl)
      obtain⟨aX,h2,h3,h4⟩:=freeze hI.W hI.F gO hT' lH
      exact fin (one _ _ MZ rfl) h2 h3 (by show CR aX s.H.length w .ret (gv a t) _;rw[ib];exact h4)
     ·cases cb
    ·cases cb
   ·cases cb
  ·obtain⟨v,h1,h2⟩:=zR (P:=P) hI.W hI.F Ui hr
   rcases h2 with ⟨t,_,ht,rfl,hz,l8⟩|C6
   ·rcases l8 with C6|⟨e,rfl,_⟩
    ·exact fin (one _ _ MZ h1) hI.W hrefl (.inl C6)
    ·obtain⟨aX,h2,_,h3,_,h4⟩:=vd hI.W hI.F ht hz.symm .ret (by simp)
     exact fin (one _ _ MZ h1) h2 h3 h4
   ·exact fin (one _ _ MZ h1) hI.W hrefl (.inl C6)
 ·rename_i ff
  simp only[anT] at hr
  obtain⟨xs,hxs,rfl⟩:=hr
  obtain⟨vs,k1,k2,k3,k4⟩:=DL (P:=P) hI.W hI.F _ _ xs hl qX hxs
  have MY:vs.length≠1:=by
   intro h
   rw[<- k1,hl] at h
   obtain⟨i,hi⟩:=apv.1 h
   exact ff i hi
  have dm:=jS (P:=P) (w:=w) (fn:=fn) (tmps:=a.tmps) k1 k3
  rw[dif_neg (by simpa using MY)] at dm
  exact fin dm hI.W hrefl (.inl (.tuple vs.toArray xs (by simpa using k2) (fun j v x hv hx=>k4 j v x (by simpa using hv) hx)))
theorem Gs{rs:List hJ}(hI:fU H s){r:AV}{c:Option gS}(he:j3 H.length rs s=some (r,c)):kI H c:=by
 simp only[j3,anU] at he
 obtain⟨r',hr,he⟩:=he
 obtain⟨Ig,he⟩:=ag he
 simp only[anV,anY] at he
 obtain⟨rfl,rM⟩:=he
 have hlen:=hI.len
 cases hb:Nat.beq s.lo H.length with
 | true=>rw[hb] at rM;subst rM;exact⟨an4 _,fun c' h=>by cases h⟩
 | false =>
  rw[hb] at rM
  subst rM
  refine⟨by simp[oE];omega,fun c' y9=>?_⟩
  simp only[anZ,anV] at y9
  subst y9
  refine⟨hI.lo,fun l hl=>?_⟩
  have:=hI.lo
  rw[aov,if_pos (by simp only at hl;omega)]
  exact hI.same l hl
theorem yY{m:Nat}{rs:List hJ}{r:AV}{c:Option gS}(he:tq m rs s=some (r,c)):rs.length≠1/\∃ xs e,pX s m rs=some (xs,some e)/\r=.tuple xs/\c=some ⟨s.H.take m++[.box dv e.flatten],s.lo⟩:=by
 unfold tq at he
 cases hb:Nat.beq rs.length 1 with
 | true=>rw[hb] at he;cases he
 | false =>
  rw[hb] at he
  simp only[anZ,anU,anT,anY] at he
  obtain⟨⟨xs,eo⟩,hq,e,rfl,rfl,rfl⟩:=he
  exact⟨(fun h=>by rw[h] at hb;cases hb),xs,e,hq,rfl,rfl⟩
theorem yZ{lI:aP}{m:Nat}{x:AV × Option gS}(he:pL m lI s=some x):rp m s=true/\(tj m lI.results s=some x\/j3 m lI.results s=some x\/tq m lI.results s=some x\/tn m lI.results s=some x):=by
 unfold pL at he
 obtain⟨h0,he⟩:=ag he
 refine⟨h0,?_⟩
 unfold xJ at he
 split at he
 ·rename_i h
  unfold rK at h
  obtain⟨_,h⟩:=ag h
  rw[<- he];exact .inl h
 ·split at he
  ·rename_i h;rw[h];exact .inr (.inl he)
  ·split at he
   ·rename_i h;rw[h];exact .inr (.inr (.inl he))
   ·exact .inr (.inr (.inr he))
theorem yW{m:Nat}{rs:List hJ}{r:AV}{c:Option gS}(he:tj m rs s=some (r,c)):∃ i l off n z ty cs,rs=[i]/\jy s i=some (.sref l off n z)/\s.H[l]?=some (.box ty cs)/\m<=l/\cs.all AV.plain=true/\r=.sref m off n z/\c=some ⟨s.H.take m++[.ba cs],s.lo⟩:=by
 unfold tj at he
 split at he
 ·rename_i i
  simp only[anU] at he
  obtain⟨v,hv,he⟩:=he
  split at he
  ·rename_i l off n z
   split at he
   ·rename_i ty cs hH
    obtain⟨h0,he⟩:=ag he
    simp only[anV,anY] at he
    simp only[an7,aoU] at h0
    exact⟨i,l,off,n,z,ty,cs,rfl,hv,hH,h0.1,h0.2,he.1.symm,he.2.symm⟩
   ·cases he
  ·cases he
 ·cases he
theorem Lc(hI:fU H s){c:Option gS}(rM:cond (Nat.beq s.lo H.length) none (some ⟨s.H.take H.length,s.lo⟩)=c):kI H c/\oE H c=s.H.take H.length:=by
 have hlen:=hI.len
 cases hb:Nat.beq s.lo H.length with
 | true =>
  rw[hb] at rM
  subst rM
  have wX:s.lo=H.length:=aph hb
  refine⟨⟨an4 _,fun c' h=>by cases h⟩,?_⟩
  show H=_
  refine aql fun l=>?_
  rw[aov]
  split
  ·rename_i hl;exact (hI.same l (by omega)).symm
  ·rename_i hl;exact apq (by omega)
 | false =>
  rw[hb] at rM
  subst rM
  refine⟨⟨by simp[oE];omega,fun c' y9=>?_⟩,rfl⟩
  simp only[anZ,anV] at y9
  subst y9
  refine⟨hI.lo,fun l hl=>?_⟩
  have:=hI.lo
  rw[aov,if_pos (by simp only at hl;omega)]
  exact hI.same l hl
theorem yX{m:Nat}{rs:List hJ}{r:AV}{c:Option gS}(he:tn m rs s=some (r,c)):xT m s rs=some r/\r.leaves m=true/\cond (Nat.beq s.lo m) none (some ⟨s.H.take m,s.lo⟩)=c:=by
 simp only[tn,anU] at he
 obtain⟨r',hr,he⟩:=he
 obtain⟨Ig,he⟩:=ag he
 simp only[anV,anY] at he
 obtain⟨rfl,rM⟩:=he
 exact⟨hr,Ig,rM⟩
theorem GA(hI:fU H s)(o:cJ):kI H (some ⟨s.H.take H.length++[o],s.lo⟩):=by
 have:=hI.len
 have h1:=hI.lo
 refine⟨by simp[oE];omega,fun c' y9=>?_⟩
 injection y9 with y9
 subst y9
 refine⟨hI.lo,fun l hl=>?_⟩
 simp only at hl ⊢
 rw[aot (by simp;omega),aov,if_pos (by omega)]
 exact hI.same l hl
theorem yV{rs:List hJ}{r:AV}{c:Option gS}(he:yU rs s=some (r,c)):rs.length≠1/\∃ xs,lj s rs=some xs/\r=.tuple xs/\c=some ⟨s.H,s.lo⟩:=by
 unfold yU at he
 cases hb:Nat.beq rs.length 1 with
 | true=>rw[hb] at he;cases he
 | false =>
  rw[hb] at he
  simp only[anZ,anT,anY] at he
  obtain⟨xs,h1,h2,h3⟩:=he
  exact⟨fun h=>by (rw[h] at hb;cases hb),xs,h1,h2.symm,h3.symm⟩
theorem Tr(hI:fU H s):kI H (some ⟨s.H,s.lo⟩):=by
 refine⟨hI.len,fun c' y9=>?_⟩
 injection y9 with y9
 subst y9
 exact⟨hI.lo,hI.same⟩
theorem wO{m:Nat}{lI:aP}{x:AV × Option gS}(he:finish m lI s=some x):(∃ r0,pL m lI s=some (r0,x.2)/\(x.1=r0\/x.1=mE r0))\/yU lI.results s=some x:=by
 unfold finish at he
 split at he
 case h_2 =>
  unfold Lb at he
  obtain⟨_,he⟩:=ag he
  exact .inr he
 rename_i y hy
 injection he with he
 subst he
 refine .inl ?_
 have he:=hy
 simp only[anT] at he
 obtain⟨⟨r0,c0⟩,h1,h2⟩:=he
 unfold sH at h2
 cases hm:lI.muts.elem 777777 with
 | false=>rw[hm,anZ] at h2;subst h2;exact⟨r0,h1,.inl rfl⟩
 | true=>rw[hm,cond_true] at h2;subst h2;exact⟨r0,h1,.inr rfl⟩
theorem PR.n2{S:Nat->Nat->Prop}{w:World}{v:Value}{x:AV}(h:PR S w v x):PR S w v (n2 x):=by
 have one:∀ {v x},PR S w v x->PR S w v (n1 x):=by
  intro v x h
  have h0:=h
  cases h<;>first|exact .dM|exact h0
 have h0:=h
 cases h with
 | af=>exact .dM
 | slice b o n cap sz e f hn j4 cb dw de =>
  have gq:∀ (i:Nat) (r:List AV),(e.map fun r=>r.map n1)[i]?=some r->∃ r0,e[i]?=some r0/\r=r0.map n1:=by
   intro i r hr
   rw[aol] at hr
   cases Lr:e[i]? with
   | none=>rw[Lr] at hr;cases hr
   | some r0=>rw[Lr] at hr;injection hr with hr;exact⟨r0,rfl,hr.symm⟩
  have Pz:∀ (r0:List AV) (j:Nat) (x:AV),(r0.map n1)[j]?=some x->∃ x0,r0[j]?=some x0/\x=n1 x0:=by
   intro r0 j x hx
   rw[aol] at hx
   cases ze:r0[j]? with
   | none=>rw[ze] at hx;cases hx
   | some x0=>rw[ze] at hx;injection hx with hx;exact⟨x0,rfl,hx.symm⟩
  refine .slice b o n cap sz _ f (by rw[aoI];exact hn) j4 (fun i r hr=>?_) (fun i j r x hr hx=>?_) (fun i j r x hr hx=>?_)
  ·obtain⟨r0,h1,rfl⟩:=gq i r hr
   rw[aoI];exact cb i r0 h1
  ·obtain⟨r0,h1,rfl⟩:=gq i r hr
   obtain⟨x0,h2,rfl⟩:=Pz r0 j x hx
   exact dw i j r0 x0 h1 h2
  ·obtain⟨r0,h1,rfl⟩:=gq i r hr
   obtain⟨x0,h2,rfl⟩:=Pz r0 j x hx
   exact one (de i j r0 x0 h1 h2)
 | dM=>exact .dM
 | any v ho=>exact h0
 | _=>exact h0
theorem VR.n2{gh:Gh}{n:Nat}{w:World}{v:Value}{x:AV}(h:VR gh n w v x):VR gh n w v (n2 x):=by
 have h0:=h
 cases h with
 | plain _ _ h=>exact .plain _ _ h.n2
 | _=>exact h0
theorem VR.n3{gh:Gh}{n:Nat}{w:World}{v:Value}{x:AV}(h:VR gh n w v x):VR gh n w v (n3 x):=by
 have h0:=h
 cases h with
 | agg cs xs hs gT h =>
  refine .agg cs _ (by rw[aoI];exact hs) gT (fun j v x hv hx=>?_)
  rw[aol] at hx
  cases ze:xs[j]? with
  | none=>rw[ze] at hx;cases hx
  | some x0=>rw[ze] at hx;injection hx with hx;subst hx;exact (h j v x0 hv ze).n2
 | plain _ _ h =>
  cases x with
  | agg cs=>cases h
  | _=>exact h0.n2
 | _=>exact h0
theorem VR.mE{gh:Gh}{n:Nat}{w:World}{v:Value}{x:AV}(h:VR gh n w v x):VR gh n w v (mE x):=by
 have h0:=h
 cases h with
 | tuple vs xs hs h =>
  refine .tuple vs _ (by rw[aoI];exact hs) (fun j v x hv hx=>?_)
  rw[aol] at hx
  cases ze:xs[j]? with
  | none=>rw[ze] at hx;cases hx
  | some x0=>rw[ze] at hx;injection hx with hx;subst hx;exact (h j v x0 hv ze).n3
 | agg cs xs hs gT h=>exact h0.n3
 | plain _ _ h =>
  cases x with
  | tuple cs=>cases h
  | _=>exact h0.n3
 | _=>exact h0
theorem Wu{gh:Gh}{n:Nat}{w:World}{p:bM}{v:Value}{x:AV}(h:CR gh n w p v x):CR gh n w p v (mE x):=by
 rcases h with h|⟨e,rfl,h1,h2⟩
 ·exact .inl h.mE
 ·exact .inr ⟨e,rfl,h1,h2⟩
theorem nu{lI:aP}(hI:fU H s){r:AV}{c:Option gS}(he:finish H.length lI s=some (r,c)):kI H c:=by
 rcases wO he with ⟨r0,he,_⟩|he
 case inr =>
  obtain⟨_,xs,_,_,rfl⟩:=yV he
  exact Tr hI
 rcases (yZ he).2 with he|he|he|he
 ·obtain⟨_,_,_,_,_,_,cs,_,_,_,_,_,_,rfl⟩:=yW he
  exact GA hI _
 ·exact Gs hI he
 ·obtain⟨_,xs,e,_,_,rfl⟩:=yY he
  exact GA hI _
 ·exact (Lc hI (yX he).2.2).1
theorem tv{α:Type}{sz:Nat} : ∀ (e:List (List α)) (idx:Nat) (x:α),(∀ r∈e,r.length=sz)->e.flatten[idx]?=some x->∃ i j r,e[i]?=some r/\r[j]?=some x/\idx=i*sz+j
 | [],_,_,_,h=>by simp at h
 | r :: e,idx,x,hr,h=>by
  rw[ao7] at h
  by_cases hl:idx<r.length
  ·rw[aot hl] at h;exact⟨0,idx,r,rfl,h,by simp⟩
  ·rw[aou (by omega)] at h
   obtain⟨i,j,r',h1,h2,h3⟩:=tv e _ x (fun r h=>hr r (by simp[h])) h
   have:=hr r (by simp)
   exact⟨i+1,j,r',by simpa using h1,h2,by rw[aoM];omega⟩
theorem wR{α:Type}{sz:Nat} : ∀ (e:List (List α)),(∀ r∈e,r.length=sz)->e.flatten.length=e.length*sz
 | [],_=>by simp
 | r :: e,hr=>by
  have:=hr r (by simp)
  have ih:=wR e (fun r h=>hr r (by simp[h]))
  simp only[ao7,aod,an0,aoM];omega
def Gh.kX(gh:Gh)(k n:Nat):Gh:={ gh.oY k (.hb n) with ρ:=fun l=>if l=n then k else gh.ρ l }
theorem pA(hW:bc G base H gh w){k:Nat}(hk:k<w.heap.size){m n:Nat}(hn:m<=n):Step (fun r=>r=gh.κ k) m gh w (gh.kX k n) w:=by
 have h:=kP hW hk (.hb n) m
 refine⟨h.S,h.cell,h.size,h.os,h.tape,h.output,h.Ap,h.fresh,fun loc hl=>?_,h.len,h.mp⟩
 show (if loc=n then _ else _)=_
 rw[if_neg (by omega)]
theorem bc.kX(hW:bc G base H gh w){k:Nat}{C:Array Value}{ty:TypeId}(hk:w.heap[k]?=some (.cells C ty (0,0)))(hS:∀ o,¬ gh.S k o)(h0:gh.κ k≠.none)(ht:∀ l,l<H.length->gh.κ k≠.hb l/\∀ j,gh.κ k≠.hs l j)
  {cs:List AV} (hlen:cs.length<=C.size) (ia:∀ (j:Nat) (u:Value) (x:AV),C[j]?=some u->cs[j]?=some x->u.oneCell'=true/\VR gh H.length w u x) (hr:cs.all (bD H.length)=true) :
  bc G base (H++[.box dv cs]) (gh.kX k H.length) w:=by
 have bA:k<w.heap.size:=(aob.1 hk).1
 have st:=pA hW bA (an4 H.length)
 have hn:∀ l,l<H.length->¬ (bM.hb l=gh.κ k)/\∀ j,¬ (bM.hs l j=gh.κ k):=fun l hl=>⟨fun h=>(ht l hl).1 h.symm,fun j h=>(ht l hl).2 j h.symm⟩
 have last:∀ {loc:Nat} {o:cJ},(H++[cJ.box dv cs])[loc]?=some o->¬ loc<H.length->loc=H.length/\o=.box dv cs:=by
  intro loc o hl hge
  rw[aou (by omega)] at hl
  have hz:loc=H.length:=by
   have:=(an2.1 hl).1
   simp at this;omega
  subst hz
  simp at hl
  exact⟨rfl,hl.symm⟩
 refine⟨hW.size,hW.nT,fun b hb=>?_,fun g j x hx=>?_,fun loc me ds hl=>?_,fun loc me ds hl=>?_,hW.xE,hW.bytes,fun loc o hl=>?_,fun loc me ds hl hf=>?_⟩
 ·have lT:(if b=k then bM.hb H.length else gh.κ b)≠.none:=hb
  split at lT
  ·rename_i e;rw[e];exact hW.pR k h0
  ·exact hW.pR b lT
 ·obtain⟨v,h1,h2,h3⟩:=hW.aZ g j x hx
  exact⟨v,h1,h2.mono st.S st.cell st.mp,h3⟩
 ·rw[aod,apr]
  by_cases jr:loc<H.length
  ·rw[aot jr] at hl
   have h:=(hW.boxes loc me ds hl).mono st (n':=H.length+1) (ao6 _) (hn loc jr).1 (hn loc jr).2
   rw[st.ρ loc jr];exact h
  ·obtain⟨rfl,ho⟩:=last hl jr
   injection ho with ho1 ho2
   subst ho1 ho2
   have hρ:(gh.kX k H.length).ρ H.length=k:=by simp[Gh.kX]
   rw[hρ]
   refine⟨by simp[Gh.kX,Gh.oY],hS,C,ty,hk,hlen,fun j v x hv hx=>?_⟩
   obtain⟨h1,h2⟩:=ia j v x hv hx
   exact⟨h1,.inl (h2.mono st (ao6 _))⟩
 ·by_cases jr:loc<H.length
  ·rw[aot jr] at hl
   exact hW.refs loc me ds hl
  ·obtain⟨rfl,ho⟩:=last hl jr
   injection ho with ho1 ho2
   subst ho1 ho2
   exact hr
 ·rw[aod,apr]
  by_cases jr:loc<H.length
  ·rw[aot jr] at hl
   rw[st.ρ loc jr]
   exact (hW.more loc o hl).mono st (ao6 _) (hn loc jr).1 (hn loc jr).2
  ·obtain⟨rfl,rfl⟩:=last hl jr
   trivial
 ·by_cases jr:loc<H.length
  ·rw[aot jr] at hl
   rw[st.ρ loc jr]
   exact hW.types loc me ds hl hf
  ·obtain⟨rfl,ho⟩:=last hl jr
   injection ho with ho1 ho2
   exact absurd ho1 hf
theorem bc.Zx(hW:bc G base H gh w){k:Nat}{C:Array Value}{ty:TypeId}(hk:w.heap[k]?=some (.cells C ty (0,0)))(hS:∀ o,¬ gh.S k o)(h0:gh.κ k≠.none)(ht:∀ l,l<H.length->gh.κ k≠.hb l/\∀ j,gh.κ k≠.hs l j)
  {cs:List AV} (hlen:cs.length<=C.size) (ia:∀ (j:Nat) (u:Value) (x:AV),C[j]?=some u->cs[j]?=some x->u.oneCell'=true/\VR gh H.length w u x) :
  bc G base (H++[.ba cs]) (gh.kX k H.length) w:=by
 have bA:k<w.heap.size:=(aob.1 hk).1
 have st:=pA hW bA (an4 H.length)
 have hn:∀ l,l<H.length->¬ (bM.hb l=gh.κ k)/\∀ j,¬ (bM.hs l j=gh.κ k):=fun l hl=>⟨fun h=>(ht l hl).1 h.symm,fun j h=>(ht l hl).2 j h.symm⟩
 have last:∀ {loc:Nat} {o:cJ},(H++[cJ.ba cs])[loc]?=some o->¬ loc<H.length->loc=H.length/\o=.ba cs:=by
  intro loc o hl hge
  rw[aou (by omega)] at hl
  have hz:loc=H.length:=by
   have:=(an2.1 hl).1
   simp at this;omega
  subst hz
  simp at hl
  exact⟨rfl,hl.symm⟩
 refine⟨hW.size,hW.nT,fun b hb=>?_,fun g j x hx=>?_,fun loc me ds hl=>?_,fun loc me ds hl=>?_,hW.xE,hW.bytes,fun loc o hl=>?_,fun loc me ds hl hf=>?_⟩
 ·have lT:(if b=k then bM.hb H.length else gh.κ b)≠.none:=hb
  split at lT
  ·rename_i e;rw[e];exact hW.pR k h0
  ·exact hW.pR b lT
 ·obtain⟨v,h1,h2,h3⟩:=hW.aZ g j x hx
  exact⟨v,h1,h2.mono st.S st.cell st.mp,h3⟩
 ·rw[aod,apr]
  by_cases jr:loc<H.length
  ·rw[aot jr] at hl
   have h:=(hW.boxes loc me ds hl).mono st (n':=H.length+1) (ao6 _) (hn loc jr).1 (hn loc jr).2
   rw[st.ρ loc jr];exact h
  ·obtain⟨rfl,ho⟩:=last hl jr
   cases ho
 ·by_cases jr:loc<H.length
  ·rw[aot jr] at hl
   exact hW.refs loc me ds hl
  ·obtain⟨rfl,ho⟩:=last hl jr
   cases ho
 ·rw[aod,apr]
  by_cases jr:loc<H.length
  ·rw[aot jr] at hl
   rw[st.ρ loc jr]
   exact (hW.more loc o hl).mono st (ao6 _) (hn loc jr).1 (hn loc jr).2
  ·obtain⟨rfl,rfl⟩:=last hl jr
   have hρ:(gh.kX k H.length).ρ H.length=k:=by simp[Gh.kX]
   rw[hρ]
   refine⟨by simp[Gh.kX,Gh.oY],hS,C,ty,hk,hlen,fun j v x hv hx=>?_⟩
   obtain⟨h1,h2⟩:=ia j v x hv hx
   exact⟨h1,.inl (h2.mono st (ao6 _))⟩
 ·by_cases jr:loc<H.length
  ·rw[aot jr] at hl
   rw[st.ρ loc jr]
   exact hW.types loc me ds hl hf
  ·obtain⟨rfl,ho⟩:=last hl jr
   cases ho
theorem PR.aaI{S:Nat->Nat->Prop}{v:Value}{x:AV}(h:PR S w v x)(hp:x.plain=true)(m:Nat):bD m x=true:=by
 cases h<;>first|rfl|exact hp
theorem WB{iP:Gh}{w0:World}(hI:Inv G base nt L H iP w0 s gh w a){m:Nat}(hm:m<=s.H.length):∀ (l:List ResultVar) (rs:List hJ) (xs:List AV) (q:Option (List (List AV))),l.length=rs.length->(∀ (j:Nat) (r:ResultVar) (i:hJ),l[j]?=some r->rs[j]?=some i ->
    (∃ t,r=.tmp t/\i=.tmp t/\t<nt)\/∃ t ty g sz,r=.cell t ty/\i=.cell t g sz/\t<nt/\lW P ty=some g/\fz P ty=some sz)->pX s m rs=some (xs,q) ->
    ∃ vs:List Value,l.length=vs.length/\vs.length=xs.length/\(∀ (j:Nat) (r:ResultVar) (v:Value),l[j]?=some r->vs[j]?=some v->(nF a.tmps r).run P w=.ok v w) /\
     (q=none->∀ (j:Nat) (v:Value) (x:AV),vs[j]?=some v->xs[j]?=some x->VR gh m w v x) /\
     ∀ e,q=some e->∃ b g,b<nt/\s.T b=.lsl g e/\e≠[]/\(e.all fun r=>r.all AV.plain)=true/\∀ (j:Nat) (v:Value) (x:AV),vs[j]?=some v->xs[j]?=some x->VR gh m w v x\/(x=.sref m 0 e.length (Sk e)/\v=gv a b):=by
 intro l
 induction l with
 | nil =>
  intro rs xs q hl _ h
  have:rs=[]:=aoy.1 (by simpa using hl.symm)
  subst this
  simp only[pX,anV,anY] at h
  obtain⟨rfl,rfl⟩:=h
  exact⟨[],rfl,rfl,fun j r v h=>by simp at h,fun _ j v x h=>by simp at h,fun e h=>by cases h⟩
 | cons rv l ih =>
  intro rs xs q hl hc h
  cases rs with
  | nil=>simp at hl
  | cons i rs =>
   simp only[pX,anU] at h
   obtain⟨⟨ys,q'⟩,P0,h⟩:=h
   obtain⟨vs,k1,k2,k3,k4,k5⟩:=ih rs ys q' (by simpa using hl) (fun j r i hr hi=>hc (j+1) r i (by simpa using hr) (by simpa using hi)) P0
   have Ui:=hc 0 rv i rfl rfl
   have runs:∀ v,(nF a.tmps rv).run P w=.ok v w->∀ (j:Nat) (r:ResultVar) (u:Value),(rv :: l)[j]?=some r->(v :: vs)[j]?=some u->(nF a.tmps r).run P w=.ok u w:=by
    intro v h1 j r u hr hu
    cases j with
    | zero=>simp at hr hu;subst hr hu;exact h1
    | succ j=>exact k3 j r u (by simpa using hr) (by simpa using hu)
   split at h
   ·rename_i b cb
    split at h
    ·rename_i gg e hT
     obtain⟨h0,h⟩:=ag h
     simp only[an7,apT,aoT,aqf] at h0
     simp only[anV,anY] at h
     obtain⟨rfl,rfl⟩:=h
     obtain⟨⟨hq',ff⟩,vo⟩:=h0
     rcases Ui with ⟨t,rfl,rfl,ht⟩|⟨t,ty,g,sz,rfl,rfl,_⟩
     ·have hb:b<nt/\gv a t=gv a b:=by
       simp only[pY] at cb
       have tV:=hI.F.slot t ht
       change SR gh s.H.length nt w s.T s.gen (gv a) t (gv a t) (s.T t) at tV
       split at cb
       ·injection cb with cb;subst cb;exact⟨ht,rfl⟩
       ·rename_i b' g Uf
        rw[Uf] at tV
        obtain⟨gO,_,hv⟩:=tV
        split at cb
        ·rename_i g' e' hT'
         obtain⟨h0,cb⟩:=ag cb
         injection cb with cb
         subst cb
         have D4:g=g':=by simpa [gI] using h0
         exact⟨gO,hv (by rw[hT',D4];rfl)⟩
        ·cases cb
       ·cases cb
      refine⟨gv a t :: vs,by simp[k1],by simp[k2],runs _ rfl,(fun h=>by cases h),fun e' D3=>?_⟩
      injection D3 with D3
      subst D3
      refine⟨b,gg,hb.1,hT,ff,vo,fun j u x hu hx=>?_⟩
      cases j with
      | zero=>simp at hu hx;subst hu hx;exact .inr ⟨rfl,hb.2⟩
      | succ j=>exact .inl (k4 hq' j u x (by simpa using hu) (by simpa using hx))
     ·cases cb
    ·cases h
   ·simp only[anU] at h
    obtain⟨z,hz,h⟩:=h
    obtain⟨h0,h⟩:=ag h
    simp only[anV,anY] at h
    obtain⟨rfl,rfl⟩:=h
    obtain⟨v,h1,h2⟩:=zR (P:=P) hI.W hI.F Ui hz
    have hv:VR gh m w v z.bU:=by
     rcases h2 with ⟨t,_,_,_,_,l8⟩|C6
     ·exact (kC l8.dropped).bN h0
     ·exact (kC C6.dropped).bN h0
    refine⟨v :: vs,by simp[k1],by simp[k2],runs v h1,fun hq j u x hu hx=>?_,fun e he=>?_⟩
    ·cases j with
     | zero=>simp at hu hx;subst hu hx;exact hv
     | succ j=>exact k4 hq j u x (by simpa using hu) (by simpa using hx)
    ·obtain⟨b,g,c1,c2,c3,c4,c5⟩:=k5 e he
     refine⟨b,g,c1,c2,c3,c4,fun j u x hu hx=>?_⟩
     cases j with
     | zero=>simp at hu hx;subst hu hx;exact .inl hv
     | succ j=>exact c5 j u x (by simpa using hu) (by simpa using hx)
theorem Xq{iP:Gh}{w0:World}(j5:clean iP)(hI:Inv G base nt L H iP w0 s gh w a){fn:Func}{rs:List hJ}(hc:j1 P nt fn.results.toList=some rs){r:AV}{c:Option gS}(hold:∀ aX w',bc G base s.H aX w'->wA s.H H.length aX w')(he:tq H.length rs s=some (r,c)) :
  ∃ v aX,(results fn a.tmps).run P w=.ok v w/\mz G base H iP w0 r c v aX w:=by
 obtain⟨aie,xs,e,hq,rfl,rfl⟩:=yY he
 obtain⟨hl,qX⟩:=jF hc
 have hlen:=hI.lo.len
 obtain⟨vs,k1,k2,k3,_,k5⟩:=WB (P:=P) hI hlen _ _ xs (some e) hl qX hq
 obtain⟨b,g,hb,hT,ff,vo,ib⟩:=k5 e rfl
 have dm:=jS (P:=P) (w:=w) (fn:=fn) (tmps:=a.tmps) k1 k3
 rw[dif_neg (by intro h;apply aie;rw[<- hl,k1];simpa using h)] at dm
 obtain⟨ad,cap,hV,⟨h0,_⟩|⟨k,C,ty,sz,_,rfl,hκ,hS,hk,hC,hle,hr,ia⟩⟩:=nH hI.F hb hT
 ·exact absurd h0 ff
 have aaS:k<w.heap.size:=(aob.1 hk).1
 have hWp:=hI.W.DG hlen (hold _ _ hI.W)
 have Ln:(s.H.take H.length).length=H.length:=by simp;omega
 have cb:∀ r∈e,r.length=sz:=fun r hm=>by obtain⟨i,hi⟩:=aoC hm;exact hr i r hi
 have h0:gh.κ k≠.none:=by rw[hκ];simp
 have h1:gh.κ k≠.outer:=by rw[hκ];simp
 have ht:∀ l,l<(s.H.take H.length).length->gh.κ k≠.hb l/\∀ j,gh.κ k≠.hs l j:=fun l _=>by rw[hκ];simp
 have mg:=hWp.kX hk hS h0 ht (cs:=e.flatten) (by rw[wR e cb,hC];exact aoo _ hle)
  (fun j u x hu hx=>by
   obtain⟨i,j',r,e1,e2,rfl⟩:=tv e j x cb hx
   obtain⟨u',Al,hp⟩:=ia i j' r x e1 e2
   rw[hu] at Al
   injection Al with Al
   subst Al
   exact⟨hp.fR,.plain _ _ hp⟩)
  (an'.2 fun x hx=>by
   obtain⟨j,hj⟩:=aoC hx
   obtain⟨i,j',r,e1,e2,_⟩:=tv e j x cb hj
   obtain⟨u',_,hp⟩:=ia i j' r x e1 e2
   exact hp.aaI (an'.1 (an'.1 vo r (aoh e1)) x (aoh e2)) _)
 rw[Ln] at mg
 have zY:=pA hI.W aaS (m:=H.length) (an4 H.length)
 have hE:Ext H.length gh w (gh.kX k H.length) w:=⟨zY.mono (fun r h=>by rw[h];exact⟨h0,h1⟩),fun b' gO=>by
  have lT:(if b'=k then bM.hb H.length else gh.κ b')=.outer:=gO
  split at lT
  ·cases lT
  ·exact lT⟩
 have y6:=hI.E.trans hE (an4 _)
 have qk:(oE H (some ⟨s.H.take H.length++[.box dv e.flatten],s.lo⟩)).length=H.length+1:=by simp[oE];omega
 refine⟨_,_,dm,by rw[qk];omega,mg,?_,y6.out,?_⟩
 ·have st:=y6.step
  refine⟨st.S,st.cell,st.size,st.os,st.tape,st.output,fun b hb hn=>st.Ap b hb (fun ht=>hn ?_),st.fresh,st.ρ,st.len,st.mp⟩
  rcases j5 b with h|h|h|h
  ·exact absurd h ht.1
  ·exact absurd h ht.2
  ·exact .inl h
  ·exact .inr h
 ·rw[qk]
  refine .inl (.tuple vs.toArray xs (by simpa using k2) (fun j v x hv hx=>?_))
  rcases ib j v x (by simpa using hv) hx with h|⟨rfl,rfl⟩
  ·exact h.mono zY (ao6 _)
  ·rw[hV]
   have hρ:(gh.kX k H.length).ρ H.length=k:=by simp[Gh.kX]
   have hrw:Sk e=sz:=by
    cases e with
    | nil=>exact absurd rfl ff
    | cons r0 e=>simp[Sk,cb r0 (aox ..)]
   have:=VR.sref (gh:=gh.kX k H.length) (w:=w) (n:=H.length+1) H.length 0 e.length cap (Sk e) (by omega) hle (fun _=>⟨ty,by rw[hρ];exact⟨C,(0,0),hk,by rw[hC,hrw,Nat.zero_add]⟩⟩)
   rw[hρ] at this
   exact this
theorem Xo{iP:Gh}{w0:World}(j5:clean iP)(hI:Inv G base nt L H iP w0 s gh w a){fn:Func}{rs:List hJ}(hc:j1 P nt fn.results.toList=some rs){r:AV}{c:Option gS}(hold:∀ aX w',bc G base s.H aX w'->wA s.H H.length aX w')(he:tj H.length rs s=some (r,c)) :
  ∃ v aX,(results fn a.tmps).run P w=.ok v w/\mz G base H iP w0 r c v aX w:=by
 obtain⟨i,l,off,n,z,Oc,cs,BD,afa,hH,YU,vo,rfl,rfl⟩:=yW he
 obtain⟨hl,qX⟩:=jF hc
 have hlen:=hI.lo.len
 rw[BD] at hl
 obtain⟨rv,MZ⟩:∃ rv,fn.results.toList=[rv]:=apv.1 (by simpa using hl)
 have Ui:=qX 0 rv i (by rw[MZ];rfl) (by rw[BD];rfl)
 obtain⟨v,h1,h2⟩:=zR (P:=P) hI.W hI.F Ui afa
 have hv:VR gh s.H.length w v (.sref l off n z):=by
  rcases h2 with ⟨t,_,_,_,_,l8⟩|C6
  ·exact l8.dropped
  ·exact C6
 obtain⟨_,cap,hk,hz,rfl⟩:=hv.jN
 have dm:=jS (P:=P) (w:=w) (fn:=fn) (tmps:=a.tmps) (vs:=[.slice (some ⟨gh.ρ l,off,none⟩) n cap]) (by rw[MZ];rfl) (fun j r' v' hr hv=>by
  rw[MZ] at hr
  cases j with
  | zero=>simp at hr hv;subst hr hv;exact h1
  | succ j=>simp at hr)
 obtain⟨hκ,hS,C,ty,hb,hC,ia⟩:=hI.W.boxes l _ cs hH
 have aaS:gh.ρ l<w.heap.size:=(aob.1 hb).1
 have hWp:=hI.W.DG hlen (hold _ _ hI.W)
 have Ln:(s.H.take H.length).length=H.length:=by simp;omega
 have h0:gh.κ (gh.ρ l)≠.none:=by rw[hκ];simp
 have Pu:gh.κ (gh.ρ l)≠.outer:=by rw[hκ];simp
 have mg:=hWp.Zx hb hS h0 (fun l' Ak=>by rw[hκ];rw[Ln] at Ak;exact⟨by intro e;injection e with e;omega,by simp⟩) (cs:=cs) hC (fun j u x hu hx=>by
  obtain⟨k1,k2⟩:=ia j u x hu hx
  have hp:=an'.1 vo x (aoh hx)
  have:=k2.dropped
  rw[sw hp] at this
  exact⟨k1,.plain _ _ (this.ko hp)⟩)
 rw[Ln] at mg
 have zY:=pA hI.W aaS (m:=H.length) (an4 H.length)
 have hE:Ext H.length gh w (gh.kX (gh.ρ l) H.length) w:=⟨zY.mono (fun r h=>by rw[h];exact⟨h0,Pu⟩),fun b' gO=>by
  have lT:(if b'=gh.ρ l then bM.hb H.length else gh.κ b')=.outer:=gO
  split at lT
  ·cases lT
  ·exact lT⟩
 have y6:=hI.E.trans hE (an4 _)
 have qk:(oE H (some ⟨s.H.take H.length++[.ba cs],s.lo⟩)).length=H.length+1:=by simp[oE];omega
 refine⟨_,_,by simpa using dm,by rw[qk];omega,mg,?_,y6.out,?_⟩
 ·have st:=y6.step
  refine⟨st.S,st.cell,st.size,st.os,st.tape,st.output,fun b hb hn=>st.Ap b hb (fun ht=>hn ?_),st.fresh,st.ρ,st.len,st.mp⟩
  rcases j5 b with h|h|h|h
  ·exact absurd h ht.1
  ·exact absurd h ht.2
  ·exact .inl h
  ·exact .inr h
 ·rw[qk]
  have hρ:(gh.kX (gh.ρ l) H.length).ρ H.length=gh.ρ l:=by simp[Gh.kX]
  have:=VR.sref (gh:=gh.kX (gh.ρ l) H.length) (w:=w) (n:=H.length+1) H.length off n cap z (by omega) hk (fun hz0=>by rw[hρ];exact hz hz0)
  rw[hρ] at this
  exact .inl this
def oX(H:ai)(m k l:Nat):Option (List AV) :=
 ((H[l]?).bind pa).bind fun cs=>cond (cs.all fun x=>(je H m k x.drop).plain&&pU x) (some (cs.map fun x=>je H m k x.drop)) none
def ahA(gh:Gh)(H:ai)(m:Nat)(b o:Nat):Prop:=gh.S b o\/∃ k l cs,m<=l/\oX H m k l=some cs/\gh.ρ l=b/\o<cs.length
def Gh.Td(gh:Gh)(H:ai)(m:Nat):Gh:={ gh with S:=ahA gh H m }
theorem pO{m k l:Nat}{cs:List AV}(h:oX H m k l=some cs):∃ o ds,H[l]?=some o/\pa o=some ds/\cs=ds.map (fun x=>je H m k x.drop)/\∀ x,x∈ds->(je H m k x.drop).plain=true/\pU x=true:=by
 unfold oX at h
 simp only[anU] at h
 obtain⟨ds,⟨o,ho,hd⟩,h⟩:=h
 obtain⟨h0,h⟩:=ag h
 injection h with h
 refine⟨o,ds,ho,hd,h.symm,fun x hx=>?_⟩
 have:=an'.1 h0 x hx
 simpa using this
theorem Km(hW:bc G base H gh w){l:Nat}{o:cJ}{ds:List AV}(ho:H[l]?=some o)(hd:pa o=some ds):iw gh H.length w (gh.ρ l) (.hb l) (fun j=>.hs l j) ds:=by
 cases o<;>simp only[pa,reduceCtorEq,anV] at hd
 ·subst hd;exact hW.boxes l _ _ ho
 ·subst hd;exact hW.more l _ ho
theorem uH(hW:bc G base H gh w)(m n:Nat):Step (fun r=>∃ l,m<=l/\r=.hb l) n gh w (gh.Td H m) w:=by
 refine⟨fun b o h=>.inl h,fun _ _ _=>rfl,an4 _,rfl,rfl,rfl,fun b hb hn=>⟨.inl rfl,rfl,fun o ho=>?_⟩,fun b hb=>hW.cB b hb,fun _ _=>rfl,fun _ _ _ h=>h,fun _ _ _ _ h=>h⟩
 rcases ho with ho|⟨k,l,cs,hl,hf,hρ,_⟩
 ·exact ho
 ·exfalso
  obtain⟨o',ds,rN,hd,_⟩:=pO hf
  exact hn ⟨l,hl,by rw[<- hρ];exact (Km hW rN hd).1⟩
theorem y4(hW:bc G base H gh w){m k l:Nat}(hV:∀ {v:Value} {x:AV},VR gh H.length w v x->VR (gh.Td H m) H.length w v (je H m k x))(hm:m<=l){cs:List AV}(hf:oX H m k l=some cs){j:Nat}{x:AV}(hx:cs[j]?=some x) :
  ∃ v,w.cell? ⟨gh.ρ l,j,none⟩=some v/\PR (gh.Td H m).S w v x/\(gh.Td H m).S (gh.ρ l) j/\∀ n,v≠.int .u8 n:=by
 have hf0:=hf
 obtain⟨o',ds,rN,hd,rfl,fH⟩:=pO hf
 obtain⟨hκ,hS,C,Od,hb,hle,dw⟩:=Km hW rN hd
 have vS:=(an2.1 hx).1
 simp only[aol,anT] at hx
 obtain⟨y,hy,rfl⟩:=hx
 have hj2:=(an2.1 hy).1
 have hv:C[j]?=some C[j]:=aok (by omega)
 obtain⟨k1,k2⟩:=dw j _ y hv hy
 obtain⟨p1,p2⟩:=fH y (aoh hy)
 refine⟨C[j],by rw[cell_of_row w _ j C Od _ hb];exact hv,(hV k2.dropped).ko p1,.inr ⟨k,l,_,hm,hf0,rfl,vS⟩,fun n hn=>?_⟩
 have C6:=k2.dropped
 rw[hn] at C6
 cases C6 with
 | plain _ _ h =>
  cases y<;>simp only[AV.drop] at h<;>cases h<;>simp[pU] at p2
theorem qC{z:Nat} : ∀ {n:Nat} {l:List AV} {i:Nat} {r:List AV},(chunks z n l)[i]?=some r->i<n/\r=(l.drop (i*z)).take z
 | 0,l,i,r,h=>by simp[chunks] at h
 | n+1,l,0,r,h=>by simp[chunks] at h;exact⟨by omega,by simp[h]⟩
 | n+1,l,i+1,r,h=>by
  simp only[chunks,api] at h
  obtain⟨h1,h2⟩:=qC h
  refine⟨by omega,?_⟩
  rw[h2,aqk,aoM,apU,aqz z]
theorem wG{z:Nat} : ∀ {n:Nat} {l:List AV},(chunks z n l).length=n
 | 0,l=>rfl
 | n+1,l=>by simp[chunks,wG]
theorem xL(hW:bc G base H gh w){m:Nat} : ∀ (k:Nat) {v:Value} {x:AV},VR gh H.length w v x->VR (gh.Td H m) H.length w v (je H m k x)
 | 0,v,x,h=>h.mono (uH hW m _) (an4 _)
 | d+1,v,x,h=>by
  have ih:=@xL hW m d
  have h0:VR (gh.Td H m) H.length w v x:=h.mono (uH hW m _) (an4 _)
  unfold je
  split
  ·rename_i l off k z
   cases hb:Nat.ble m l with
   | false=>exact h0
   | true =>
    rw[cond_true]
    split
    ·rename_i ds hds
     cases lT:(Nat.blt 0 z&&Nat.ble (off+k*z) ds.length&&ds.all fun x=>(je H m d x.drop).plain&&pU x) with
     | false=>exact h0
     | true =>
      rw[cond_true]
      simp only[an7,aoE,aoU] at lT
      obtain⟨⟨hz,hle⟩,fH⟩:=lT
      have ia:oX H m d l=some (ds.map fun x=>je H m d x.drop):=by
       unfold oX
       rw[hds,an8,fH];rfl
      generalize hcc:ds.map (fun x=>je H m d x.drop)=cs at *
      obtain⟨_,cap,hk,_,rfl⟩:=h.jN
      have YU:m<=l:=by simpa [aoU] using hb
      have cell:∀ {i j:Nat} {r:List AV} {y:AV},(chunks z k (cs.drop off))[i]?=some r->r[j]?=some y->i<k/\j<z/\cs[off+i*z+j]?=some y:=by
       intro i j r y hi hj
       obtain⟨h1,rfl⟩:=qC hi
       rw[aov] at hj
       split at hj
       ·rename_i h2
        rw[aoS,aoS] at hj
        exact⟨h1,h2,by rw[<- hj];congr 1;omega⟩
       ·cases hj
      have hlen:cs.length=ds.length:=by rw[<- hcc];simp
      refine .plain _ _ (.slice (gh.ρ l) off k cap z _ (fun i j=>(w.cell? ⟨gh.ρ l,off+i*z+j,none⟩).getD undef) wG hk (fun i r hi=>?_) (fun i j r y hi hj=>?_) (fun i j r y hi hj=>?_))
      ·obtain⟨h1,rfl⟩:=qC hi
       have:(i+1)*z<=k*z:=aoo _ h1
       rw[aoM] at this
       simp;omega
      ·obtain⟨_,_,hc⟩:=cell hi hj
       obtain⟨u,k1,k2,k3,_⟩:=y4 hW ih YU ia hc
       exact⟨k3,by rw[k1];rfl,by rw[k1];exact k2.fR⟩
      ·obtain⟨_,_,hc⟩:=cell hi hj
       obtain⟨u,k1,k2,_⟩:=y4 hW ih YU ia hc
       rw[k1];exact k2
    ·exact h0
  ·exact h0
theorem Lh(hW:bc G base H gh w){m:Nat}{v:Value}{x:AV}(h:VR gh H.length w v x):VR (gh.Td H m) H.length w v (Pr H m x):=by
 unfold Pr
 split
 ·rename_i cs
  obtain⟨C,rfl,hs,gT,hc⟩:=h.ku
  refine .agg C _ (by simpa using hs) gT (fun j v x hv hx=>?_)
  simp only[aol,anT] at hx
  obtain⟨y,hy,rfl⟩:=hx
  exact xL hW Ua (hc j v y hv hy)
 ·exact xL hW Ua h
theorem aei(hW:bc G base H gh w){m:Nat}(hm:m<=H.length)(hold:wA H m gh w):bc G base (H.take m) (gh.Td H m) w:=by
 have MR:=hW.DG hm hold
 have YS:(H.take m).length=m:=by simp;omega
 have st:=uH hW m (H.take m).length
 have ht:∀ l,l<m->¬ (∃ k,m<=k/\bM.hb l=.hb k)/\∀ j,¬ (∃ k,m<=k/\bM.hs l j=.hb k):=by
  refine fun l hl=>⟨?_,fun j=>?_⟩
  ·rintro ⟨k,hk,h⟩
   injection h with h
   omega
  ·rintro ⟨k,hk,h⟩
   cases h
 have lt:∀ {l:Nat} {o:cJ},(H.take m)[l]?=some o->l<m:=fun h=>by have:=(an2.1 h).1;omega
 refine⟨MR.size,fun b o ho=>?_,MR.pR,fun g j x hx=>?_,fun loc ty cs hl=>?_,MR.refs,MR.xE,MR.kB st (fun b o n ho=>?_),fun loc o hl=>?_,fun loc ty cs hl=>MR.types loc ty cs hl⟩
 ·rcases ho with ho|⟨k,l,cs,hl,hf,rfl,_⟩
  ·exact hW.nT b o ho
  ·obtain⟨o',ds,rN,hd,_⟩:=pO hf
   obtain⟨_,_,C,Od,hb,_⟩:=Km hW rN hd
   exact (aob.1 hb).1
 ·obtain⟨v,h1,h2,h3⟩:=MR.aZ g j x hx
  exact⟨v,h1,h2.mono st.S st.cell st.mp,st.S g j h3⟩
 ·exact (MR.boxes loc ty cs hl).mono st (an4 _) (ht loc (lt hl)).1 (ht loc (lt hl)).2
 ·rcases ho with ho|⟨k,l,cs,hl,hf,rfl,bA⟩
  ·exact .inl ho
  ·refine .inr fun hc=>?_
   obtain⟨v,k1,_,_,k4⟩:=y4 hW (xL hW k) hl hf (an3 bA)
   rw[k1] at hc
   injection hc with hc
   exact absurd hc (k4 n)
 ·exact (MR.more loc o hl).mono st (an4 _) (ht loc (lt hl)).1 (ht loc (lt hl)).2
theorem Xp{iP:Gh}{w0:World}(j5:clean iP)(hI:Inv G base nt L H iP w0 s gh w a){fn:Func}{rs:List hJ}(hc:j1 P nt fn.results.toList=some rs){r:AV}{c:Option gS}(hold:∀ aX w',bc G base s.H aX w'->wA s.H H.length aX w')(he:tn H.length rs s=some (r,c)) :
  ∃ v aX,(results fn a.tmps).run P w=.ok v w/\mz G base H iP w0 r c v aX w:=by
 obtain⟨hr,Ig,rM⟩:=yX he
 have hlen:=hI.lo.len
 have lG:=(Lc hI.lo rM).2
 have By:(oE H c).length=H.length:=by rw[lG];simp;omega
 have zY:=uH hI.W H.length H.length
 have N1:Ext H.length gh w (gh.Td s.H H.length) w:=⟨zY.mono (fun r h=>by obtain⟨l,_,rfl⟩:=h;exact⟨by simp,by simp⟩),fun b hb=>hb⟩
 have fin:∀ {v:Value},(results fn a.tmps).run P w=.ok v w->VR (gh.Td s.H H.length) s.H.length w v r->∃ v aX,(results fn a.tmps).run P w=.ok v w/\mz G base H iP w0 r c v aX w:=by
  intro v h1 h4
  have hE:=hI.E.trans N1 (an4 _)
  refine⟨v,_,h1,apy By.symm,by rw[lG];exact aei hI.W hlen (hold _ _ hI.W),?_,hE.out,by rw[By];exact .inl (h4.leaves Ig)⟩
  have st:=hE.step
  refine⟨st.S,st.cell,st.size,st.os,st.tape,st.output,fun b hb hn=>st.Ap b hb (fun ht=>hn ?_),st.fresh,st.ρ,st.len,st.mp⟩
  rcases j5 b with h|h|h|h
  ·exact absurd h ht.1
  ·exact absurd h ht.2
  ·exact .inl h
  ·exact .inr h
 obtain⟨hl,qX⟩:=jF hc
 have one:∀ (rv:ResultVar) (v:Value),fn.results.toList=[rv]->(nF a.tmps rv).run P w=.ok v w->(results fn a.tmps).run P w=.ok v w:=by
  intro rv v h1 h2
  have:=jS (P:=P) (w:=w) (fn:=fn) (tmps:=a.tmps) (vs:=[v]) (by rw[h1];rfl) (fun j r' v' hr hv=>by
   rw[h1] at hr
   cases j with
   | zero=>simp at hr hv;subst hr hv;exact h2
   | succ j=>simp at hr)
  simpa using this
 unfold xT at hr
 split at hr
 ·rename_i i
  have Ls:([i]:List hJ)=[i]:=rfl
  rw[Ls] at hl
  obtain⟨rv,MZ⟩:∃ rv,fn.results.toList=[rv]:=apv.1 (by simpa using hl)
  have Ui:=qX 0 rv i (by rw[MZ];rfl) (by rw[Ls];rfl)
  simp only[anT] at hr
  obtain⟨z,hz,rfl⟩:=hr
  obtain⟨v,h1,h2⟩:=zR (P:=P) hI.W hI.F Ui hz
  have hv:VR gh s.H.length w v z.bU:=by
   rcases h2 with ⟨t,_,_,_,_,l8⟩|C6
   ·exact kC l8.dropped
   ·exact kC C6.dropped
  exact fin (one _ _ MZ h1) (Lh hI.W hv)
 ·rename_i ff
  simp only[anT] at hr
  obtain⟨xs,hxs,rfl⟩:=hr
  obtain⟨vs,k1,k2,k3,k4⟩:=DL (P:=P) hI.W hI.F _ _ xs hl qX hxs
  have MY:vs.length≠1:=by
   intro h
   rw[<- k1,hl] at h
   obtain⟨i,hi⟩:=apv.1 h
   exact ff i hi
  have dm:=jS (P:=P) (w:=w) (fn:=fn) (tmps:=a.tmps) k1 k3
  rw[dif_neg (by simpa using MY)] at dm
  refine fin dm (.tuple vs.toArray _ (by simpa using k2) (fun j v x hv hx=>?_))
  simp only[aol,anT] at hx
  obtain⟨y,hy,rfl⟩:=hx
  exact Lh hI.W (k4 j v y (by simpa using hv) hy)
theorem Xn{iP:Gh}{w0:World}(j5:clean iP)(hI:Inv G base nt L H iP w0 s gh w a){fn:Func}{rs:List hJ}(hc:j1 P nt fn.results.toList=some rs){r:AV}{c:Option gS}(he:yU rs s=some (r,c)) :
  ∃ v aX,(results fn a.tmps).run P w=.ok v w/\mz G base H iP w0 r c v aX w:=by
 obtain⟨ff,xs,hxs,rfl,rfl⟩:=yV he
 obtain⟨hl,qX⟩:=jF hc
 obtain⟨vs,k1,k2,k3,k4⟩:=DL (P:=P) hI.W hI.F _ _ xs hl qX hxs
 have MY:vs.length≠1:=by
  intro h
  rw[<- k1,hl] at h
  exact ff h
 have dm:=jS (P:=P) (w:=w) (fn:=fn) (tmps:=a.tmps) k1 k3
 rw[dif_neg (by simpa using MY)] at dm
 refine⟨_,gh,dm,hI.lo.len,hI.W,?_,hI.E.out,.inl (.tuple vs.toArray xs (by simpa using k2) (fun j v x hv hx=>k4 j v x (by simpa using hv) hx))⟩
 have st:=hI.E.step
 refine⟨st.S,st.cell,st.size,st.os,st.tape,st.output,fun b hb hn=>st.Ap b hb (fun ht=>hn ?_),st.fresh,st.ρ,st.len,st.mp⟩
 rcases j5 b with h|h|h|h
 ·exact absurd h ht.1
 ·exact absurd h ht.2
 ·exact .inl h
 ·exact .inr h
theorem po{iP ghI:Gh}{w0 wI:World}(MR:bc G base H ghI wI)(j5:clean iP)(hI:Inv G base nt L H iP w0 s gh w a){fn:Func}{lI:aP}(hc:j1 P nt fn.results.toList=some lI.results){r:AV}{c:Option gS}(he:finish H.length lI s=some (r,c)) :
  kI H c/\∃ v aX,(results fn a.tmps).run P w=.ok v w/\mz G base H iP w0 r c v aX w:=by
 refine⟨nu hI.lo he,?_⟩
 rcases wO he with ⟨r0,he,hr⟩|he
 case inr=>exact Xn j5 hI hc he
 suffices hs:∃ v aX,(results fn a.tmps).run P w=.ok v w/\mz G base H iP w0 r0 c v aX w by
  obtain⟨v,aX,k1,k2⟩:=hs
  rcases hr with rfl|rfl
  ·exact⟨v,aX,k1,k2⟩
  ·exact⟨v,aX,k1,{ k2 with val:=Wu k2.val }⟩
 clear hr
 obtain⟨ho,he⟩:=yZ he
 have hold:∀ aX w',bc G base s.H aX w'->wA s.H H.length aX w':=fun aX w' h=>abX MR hI.lo ho h
 rcases he with he|he|he|he
 ·exact Xo j5 hI hc hold he
 ·exact (KA j5 hI hc hold he).2
 ·exact Xq j5 hI hc hold he
 ·exact Xp j5 hI hc hold he
section
variable {cf:dK}(jK:∀ f args H r c,cf f args H=some (r,c)->kI H c)
include jK
theorem O'{draw:Bool}{o:aO}{z:AV}{s s1:AS}(he:nr G cf draw s o=some (z,s1))(h:fU H s):fU H s1:=by
 have dm:((aA G cf s o.op).bind fun r=>match r.2 with
   | none=>cond (draw&&(bB r.1).isSome) none (some (r.1,s))
   | some s'=>cond draw none (some (r.1,s')))=some (z,s1)->fU H s1:=by
  intro h1
  simp only[anU] at h1
  obtain⟨⟨z',s'⟩,bV,h1⟩:=h1
  cases s' with
  | none =>
   simp only at h1
   cases hb:(draw&&(bB z').isSome) with
   | true=>rw[hb] at h1;cases h1
   | false =>
    rw[hb] at h1
    simp only[anZ,anV,anY] at h1
    rw[<- h1.2];exact h
  | some s' =>
   simp only at h1
   cases draw with
   | true=>cases h1
   | false =>
    simp only[anZ,anV,anY] at h1
    rw[<- h1.2];exact K7 jK bV h
 unfold nr at he
 cases hg:o.guard with
 | none=>rw[hg] at he;exact dm he
 | some gw =>
  obtain⟨g,want⟩:=gw
  rw[hg] at he
  simp only at he
  generalize s.T g=X at he
  cases X with
  | bool b =>
   simp only at he
   cases hc:(b==want) with
   | false =>
    rw[hc] at he
    simp only[anZ,anV,anY] at he
    rw[<- he.2];exact h
   | true=>rw[hc] at he;exact dm he
  | tuple vs =>
   cases vs with
   | nil=>simp only[anV,anY] at he;rw[<- he.2];exact h
   | cons v vs=>cases he
  | _=>cases he
theorem qP{draw:Bool} : ∀ (is:List aO) (s s' : AS),fX G cf draw is s=some s'->fU H s->fU H s'
 | [],s,s',he,h=>by simp only[fX,anV] at he;rw[<- he];exact h
 | o :: r,s,s',he,h=>by
  simp only[fX,anU,nq,anT] at he
  obtain⟨s1,⟨⟨z,s2⟩,hz,rfl⟩,he⟩:=he
  have h2:=O' jK hz h
  exact qP r _ s' he (h2.gp (jt _ _ _).1 (jt _ _ _).2.2)
theorem tf(n:Nat):∀ (c:bq) (s s' : AS) (ex:cq),jq G cf n c s=some (ex,s')->fU H s->fU H s'
 | .skip,s,s',ex,he,h=>by simp only[jq,anV,anY] at he;rw[<- he.2];exact h
 | .region d ops,s,s',ex,he,h=>by
  simp only[jq,anT,anY] at he
  obtain⟨s2,he,_,rfl⟩:=he
  exact qP jK ops s s2 he h
 | .seq a b,s,s',ex,he,h=>by
  simp only[jq,anU] at he
  obtain⟨⟨e1,s1⟩,h1,he⟩:=he
  have h2:=tf n a s s1 e1 h1 h
  cases e1 with
  | normal=>exact tf n b s1 s' ex he h2
  | _=>simp only[anV,anY] at he;rw[<- he.2];exact h2
 | .cond c a b,s,s',ex,he,h=>by
  simp only[jq] at he
  split at he
  ·rename_i t _
   cases t with
   | true=>exact tf n a s s' ex he h
   | false=>exact tf n b s s' ex he h
  ·cases he
 | .block id a,s,s',ex,he,h=>by
  simp only[jq,anT] at he
  obtain⟨⟨e1,s1⟩,h1,he⟩:=he
  have h2:=tf n a s s1 e1 h1 h
  cases e1<;>(simp only[anY] at he;rw[<- he.2];exact h2)
 | .loop a,s,s',ex,he,h=>by
  simp only[jq] at he
  have go:∀ (m:Nat) (s:AS),iter (jq G cf n a) m s=some (ex,s')->fU H s->fU H s':=by
   intro m
   induction m with
   | zero=>intro s h;cases h
   | succ m ih =>
    intro s h1 h
    simp only[iter,anU] at h1
    obtain⟨⟨e1,s1⟩,h1,h2⟩:=h1
    have h3:=tf n a s s1 e1 h1 h
    cases e1 with
    | normal=>exact ih s1 h2 h3
    | _=>simp only[anV,anY] at h2;rw[<- h2.2];exact h3
  exact go n s he h
 | .exit id,s,s',ex,he,h=>by simp only[jq,anV,anY] at he;rw[<- he.2];exact h
 | .ret,s,s',ex,he,h=>by simp only[jq,anV,anY] at he;rw[<- he.2];exact h
 | .nf _ _ _,s,s',ex,he,h=>by simp[jq] at he
end
def Gh.taken(gh:Gh):Gh:={ gh with κ:=fun b=>match gh.κ b with|.par j=>.sl j|o=>o }
def afs(p:bM):Prop:=∃ j,p=.par j
theorem tT(hW:bc G base H gh w)(n:Nat):Step afs n gh w gh.taken w:=by
 refine⟨fun _ _ h=>h,fun _ _ _=>rfl,an4 _,rfl,rfl,rfl,fun b hb hn=>⟨.inl rfl,?_,fun _ h=>h⟩,fun b hb=>?_,fun _ _=>rfl,fun _ _ _ h=>h,fun _ _ _ _ h=>h⟩
 ·simp only[Gh.taken]
  cases h:gh.κ b<;>first|rfl|skip
  exact absurd ⟨_,h⟩ hn
 ·simp only[Gh.taken,hW.fresh b hb]
  simp
theorem XV(hW:bc G base H gh w):bc G base H gh.taken w:=by
 refine hW.step (tT hW H.length) (fun l=>⟨fun h=>(by obtain⟨j,h⟩:=h;cases h),fun k h=>(by obtain⟨j,h⟩:=h;cases h)⟩) hW.nT (fun b hb=>hW.pR b fun h=>hb ?_) (fun _ _ _ h=>.inl h)
 simp[Gh.taken,h]
theorem SQ(hW:bc G base H gh w){n j:Nat}{v:Value}{x:AV}(h:CR gh n w (.par j) v x):CR gh.taken n w (.sl j) v x:=by
 have st:=tT hW n
 rcases h with h|⟨e,rfl,h1,h2⟩
 ·exact .inl (h.mono st (an4 _))
 ·refine .inr ⟨e,rfl,h1,?_⟩
  obtain⟨b,cap,C,ty,lo,hi,sz,k1,k2,k3,k4,k5⟩:=h2
  exact⟨b,cap,C,ty,lo,hi,sz,k1,by simp[Gh.taken,k2],k3,k4,k5⟩
theorem zf{H:ai}{fn:Func}{locals muts:List Nat}{args:List AV}{gh:Gh}{w:World}{vs:Array Value}(hW:bc G base H gh w)(tX:vs.size=args.length)(iF:vs.size<=fn.ntmps)(de:∀ (j:Nat) (v:Value) (x:AV),vs[j]?=some v->args[j]?=some x->CR gh H.length w (.par j) v x) :
  Inv G base fn.ntmps (locals++muts) H gh w ({ T:=gY args,H,lo:=H.length,gen:=0 } : AS) gh.taken w { tmps:=vs++Array.replicate (fn.ntmps-vs.size) undef,defers:=[] }:=by
 have gm:∀ b,w.heap.size<=b->gh.κ b≠.outer:=fun b hb=>hW.cB b hb
 have hE:Ext H.length gh w gh.taken w:=⟨(tT hW H.length).mono (fun p hp=>by obtain⟨j,rfl⟩:=hp;simp[pv]),fun b hb=>by
  simp only[Gh.taken] at hb
  cases h:gh.κ b<;>rw[h] at hb<;>first|exact hb|cases hb⟩
 refine⟨XV hW,⟨⟨rfl,by simp;omega,fun i hi=>?_⟩,fun i hi=>?_⟩,hE,⟨an4 _,an4 _,fun _ _=>rfl⟩⟩
 ·have l8:CR gh.taken H.length w (.sl i) ((vs++Array.replicate (fn.ntmps-vs.size) undef).getD i undef) (gY args i):=by
   by_cases bA:i<vs.size
   ·have h1:=aok bA
    have h2:=an3 (show i<args.length by omega)
    have h3:=de i _ _ h1 h2
    have e1:(vs++Array.replicate (fn.ntmps-vs.size) undef).getD i undef=vs[i]:=by
     rw[ap8,aqe bA,h1];rfl
    have e2:gY args i=args[i]:=by simp only[gY,aoO,h2];rfl
    rw[e1,e2]
    exact SQ hW h3
   ·have e1:(vs++Array.replicate (fn.ntmps-vs.size) undef).getD i undef=undef:=by
     rw[ap8,Array.getElem?_append_right (by omega)]
     by_cases h:i-vs.size<fn.ntmps-vs.size
     ·simp[h]
     ·simp[h]
    have e2:gY args i=.undef:=by simp only[gY,aoO,apq (show args.length<=i by omega)];rfl
    rw[e1,e2]
    exact .inl .undef
  exact nI l8.aH l8
 ·exfalso
  have hn:bB (gY args i)=none:=by
   by_cases bA:i<args.length
   ·have h1:=aok (show i<vs.size by omega)
    have h2:=an3 bA
    have e2:gY args i=args[i]:=by simp only[gY,aoO,h2];rfl
    rw[e2]
    exact kq (de i _ _ h1 h2).aH
   ·have e2:gY args i=.undef:=by simp only[gY,aoO,apq (show args.length<=i by omega)];rfl
    rw[e2];rfl
  have mn:(bB (gY args i)).isSome=true:=hi
  rw[hn] at mn
  cases mn
theorem KC{cf:dK}(jK:fD P G cf)(hm:P.follows .mixedOrders=true){f:FuncId}{fn:Func}(Ai:P.funcs[f]?=some fn){cz locals muts:List Nat}{lI:aP}(hc:mA P cz locals muts fn=some lI)
  {n:Nat} {args:List AV} {r:AV} {c:Option gS} (he:wj G cf n lI args H=some (r,c)) :
  (fn.body.isSome=true/\fn.name≠ "runtime.NumGoroutine")/\kI H c /\
  ∀ (base:Nat) (gh:Gh) (w:World) (vs:Array Value),bc G base H gh w->clean gh->vs.size=args.length->(∀ (j:Nat) (v:Value) (x:AV),vs[j]?=some v->args[j]?=some x->CR gh H.length w (.par j) v x) ->
   Calls P f vs w fun e w'=>∃ v aX,e=.returned v/\mz G base H gh w r c v aX w':=by
 simp only[mA,anU] at hc
 obtain⟨code,qS,b,hb,rs,BD,hc⟩:=hc
 obtain⟨h0,hc⟩:=ag hc
 injection hc with hc
 subst hc
 simp only[an7,aoU,bne_iff_ne,ne_eq] at h0
 simp only[wj] at he
 obtain⟨h1,he⟩:=ag he
 have GF:args.length=fn.params.size+fn.nfree:=by simpa [gI] using h1
 simp only[anU] at he
 obtain⟨⟨ex,s'⟩,bV,he⟩:=he
 have rM:kI H c:=by
  have wX:=tf (H:=H) (fun f args H r c h=>(jK f args H r c h).2.1) n b _ s' ex bV ⟨an4 _,an4 _,fun _ _=>rfl⟩
  cases ex with
  | normal=>exact nu wX he
  | exit id=>cases he
  | ret=>exact nu wX he
 refine⟨⟨by rw[qS];rfl,h0.2⟩,rM,fun base gh w vs hW j5 tX de=>?_⟩
 refine calls_of_wp Ai qS ?_
 have gm:∀ b,w.heap.size<=b->gh.κ b≠.outer:=fun b hb=>hW.cB b hb
 have iF:vs.size<=fn.ntmps:=by omega
 have hI:=zf (locals:=locals) (muts:=muts) hW tX iF de
 refine iL jK hm n code b hb _ s' ex gh.taken w _ _ hI bV (fun a' aX w' kT=>?_)
 have done:finish H.length { cz,locals,muts,nt:=fn.ntmps,np:=fn.params.size+fn.nfree,results:=rs,body:=b } s'=some (r,c) ->
   a'.defers=[]/\∃ v,(results fn a'.tmps).run P w'=.ok v w'/\∃ v' aX,Ending.returned v=.returned v'/\mz G base H gh w r c v' aX w':=by
  intro hf
  obtain⟨_,v,Jy,hv,hR⟩:=po (P:=P) hW j5 kT BD hf
  exact⟨kT.F.defers,v,hv,v,Jy,rfl,hR⟩
 cases ex with
 | normal=>exact done he
 | exit id=>cases he
 | ret=>exact done he
def jb(P:Program)(G:Nat->List AV)(f:FuncId)(g:List AV->ai->Option (AV × Option gS)):Prop :=
 ∀ args H r c,g args H=some (r,c)->(∃ fn,P.funcs[f]?=some fn/\fn.body.isSome=true/\fn.name≠ "runtime.NumGoroutine")/\kI H c /\
  ∀ (base:Nat) (gh:Gh) (w:World) (vs:Array Value),bc G base H gh w->clean gh->vs.size=args.length->(∀ (j:Nat) (v:Value) (x:AV),vs[j]?=some v->args[j]?=some x->VR gh H.length w v x) ->
   Calls P f vs w fun e w'=>∃ v aX,e=.returned v/\mz G base H gh w r c v aX w'
structure mj (P:Program) (A:AP):Prop where
 mixed:P.follows .mixedOrders=true
 fns:∀ f lI,A.fns f=some lI->∃ fn cz locals muts,P.funcs[f]?=some fn/\mA P cz locals muts fn=some lI
 ov:∀ f g,A.ov f=some g->jb P A.aZ f g
theorem rI{A:AP}(h:mj P A):∀ n,fD P A.aZ (Ag A n)
 | 0=>fun f args H r c he=>by cases he
 | n+1=>fun f args H r c he=>by
  simp only[Ag] at he
  split at he
  ·rename_i g hg
   obtain⟨h0,he⟩:=ag he
   obtain⟨k1,k2,k3⟩:=h.ov f g hg args H r c he
   refine⟨k1,k2,fun base gh w vs hW j5 tX de=>k3 base gh w vs hW j5 tX (fun j v x hv hx=>?_)⟩
   rcases de j v x hv hx with h|⟨e,rfl,_⟩
   ·exact h
   ·have:=an'.1 h0 _ (aoh hx)
    simp[rS] at this
  ·split at he
   ·cases he
   ·rename_i lI hf
    obtain⟨fn,cz,locals,muts,Ai,hc⟩:=h.fns f lI hf
    obtain⟨⟨h1,h2⟩,h3,h4⟩:=KC (rI h n) h.mixed Ai hc he
    exact⟨⟨fn,Ai,h1,h2⟩,h3,h4⟩
end
end
end Go.Abs
