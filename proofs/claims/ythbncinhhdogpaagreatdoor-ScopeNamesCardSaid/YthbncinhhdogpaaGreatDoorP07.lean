/-
  A part of the proof of ScopeNames: AbsCode.
-/
import Derived.Test.YthbncinhhdogpaaGreatDoorP06
set_option linter.unusedSimpArgs false
set_option linter.unusedVariables false
set_option linter.defProp false
namespace Go.Abs
section
def bp.Ka:bp->Exit
 | .normal=>.normal
 | .exit id=>.exit id
 | .ret=>.ret
section
variable {P:Program}{G:Nat->List AV}{base nt:Nat}{gh:Gh}{w w' : World}{a:Act}{s:AS}{H:ah}{L:List Nat}
theorem Inv.drew{H0:ah}{gq:Gh}{w0:World}(h:Inv G base nt L H0 gq w0 s gh w a):Inv G base nt L H0 gq w0 s gh { w with drawn:=w.drawn+1 } a:=by
 have st:Step (fun _=>False) s.H.length gh w gh { w with drawn:=w.drawn+1 }:=⟨fun _ _ h=>h,fun _ _ _=>rfl,aoU _,rfl,rfl,rfl,fun _ _ _=>⟨.inl rfl,rfl,fun _ h=>h⟩,fun b hb=>h.W.bG b hb,fun _ _=>rfl,fun _ _ _ h=>h,fun _ _ _ _ h=>h⟩
 exact⟨h.W.step st (fun l=>⟨id,fun _=>id⟩) h.W.mX h.W.ow (fun _ _ _ h=>.inl h),h.F.grown (H':=s.H) (lo':=s.lo) st (fun i=>⟨id,id,fun _=>id⟩) (aoU _),
  h.E.trans ⟨st.mono (fun _ h=>h.elim),fun _ h=>h⟩ h.lo.len,h.lo⟩
theorem gx{cf:cu}(iu:cP P G cf)(hm:P.follows .mixedOrders=true){H0:ah}{gq:Gh}{w0:World}{bF locals muts:List Nat}(n:Nat) :
  ∀ (c:Code) (ic:bJ),fC P bF locals muts nt c=some ic->∀ (s s' : AS) (ex:bp) (gh:Gh) (w:World) (a:Act) (Q:Exit->Act->World->Prop),Inv G base nt (locals++muts) H0 gq w0 s gh w a->im G cf n ic s=some (ex,s') ->
   (∀ a' aH w',Inv G base nt (locals++muts) H0 gq w0 s' aH w' a'->Q ex.Ka a' w')->c.wp P Q a w
 | .skip,ic,hc,s,s',ex,gh,w,a,Q,hI,he,hQ=>by
  simp only[fC,aoQ] at hc
  subst hc
  simp only[im,aoQ,aoS] at he
  obtain⟨rfl,rfl⟩:=he
  exact wp_skip (hQ a gh w hI)
 | .region id ops draw,ic,hc,s,s',ex,gh,w,a,Q,hI,he,hQ=>by
  simp only[fC,aoP] at hc
  obtain⟨is,Dq,hc⟩:=hc
  cases hd3:cond draw (xx locals ops.toList is) none with
  | some c3 =>
   rw[hd3] at hc
   injection hc with hc
   subst hc
   obtain⟨rfl,mode,pc,es,h1,h2,rfl⟩:=xy hd3
   simp only[im,aoO,aoS] at he
   obtain⟨s2,he,rfl,rfl⟩:=he
   exact wp_region_any hm (D2 iu (fun x hx=>aoX.2 (.inl hx)) (fun x hx=>aoX.2 (.inr hx)) Q hI.drew Dq h1 h2 he hQ)
  | none =>
  rw[hd3] at hc
  simp only at hc
  cases hb:(!draw || (!(locals.elem 999998)&&uC (locals++muts) (ops.toList.zip is))) with
  | false =>
   rw[hb,aoZ] at hc
   cases h0:(!(locals.elem 999998)&&rn (locals++muts) (ops.toList.zip is)) with
   | false =>
    rw[h0,aoZ] at hc
    obtain⟨_,hc⟩:=ab hc
    injection hc with hc
    subst hc
    simp[im] at he
   | true =>
   rw[h0,cond_true] at hc
   injection hc with hc
   subst hc
   cases draw with
   | false=>cases hb
   | true =>
    simp only[drawn,im] at he
    cases h1:bK G cf false (lE (ay is)) s with
    | none=>rw[h1] at he;cases he
    | some s1 =>
    simp only[h1,Option.map_some,aoW] at he
    cases h2:bK G cf true (oW (ay is) is) s1 with
    | none=>rw[h2] at he;cases he
    | some s2 =>
    simp only[h2,Option.map_some,aoW] at he
    cases h3:bK G cf false (rl is) s2 with
    | none=>rw[h3] at he;cases he
    | some s3 =>
    simp only[h3,Option.map_some,aoW] at he
    cases h4:bK G cf false (wj (ay is) is) s3 with
    | none=>rw[h4] at he;cases he
    | some s4 =>
    simp only[h4,Option.map_some,aoQ,aoS] at he
    obtain⟨rfl,rfl⟩:=he
    have hl:ops.size=is.length:=by simpa using (gm Dq).1
    exact wp_region_any hm (D1 iu (fun x hx=>aoX.2 (.inl hx)) (fun x hx=>aoX.2 (.inr hx)) Q hI.drew Dq (CN hl (ard.1 h0).2) h1 h2 h3 h4 hQ)
  | true =>
  have h0:=hb
  rw[hb,cond_true] at hc
  injection hc with hc
  subst hc
  simp only[im,aoO,aoS] at he
  obtain⟨s2,he,rfl,rfl⟩:=he
  have uQ:∀ x,x∈locals->x∈locals++muts:=fun x hx=>aoX.2 (.inl hx)
  have uR:∀ x,x∈muts->x∈locals++muts:=fun x hx=>aoX.2 (.inr hx)
  cases draw with
  | false=>exact wp_region_list (A6 iu uQ uR Q ops.toList is s s2 gh w a hI Dq he hQ)
  | true =>
   rw[aq1,aq'] at h0
   have hl:ops.size=is.length:=by simpa using (gm Dq).1
   exact wp_region_any hm (HW iu uQ uR Q hI.drew Dq (Gy hl (ard.1 h0).2) he hQ)
 | .seq x y,ic,hc,s,s',ex,gh,w,a,Q,hI,he,hQ=>by
  simp only[fC,aoP,aoO] at hc
  obtain⟨ix,hx,iy,hy,rfl⟩:=hc
  simp only[im,aoP] at he
  obtain⟨⟨e1,s1⟩,h1,he⟩:=he
  refine wp_seq (gx iu hm n x ix hx s s1 e1 gh w a _ hI h1 (fun a' aH w' iG=>?_))
  cases e1 with
  | normal=>exact gx iu hm n y iy hy s1 s' ex aH w' a' Q iG he hQ
  | exit id =>
   simp only[aoQ,aoS] at he
   obtain⟨rfl,rfl⟩:=he
   exact hQ a' aH w' iG
  | ret =>
   simp only[aoQ,aoS] at he
   obtain⟨rfl,rfl⟩:=he
   exact hQ a' aH w' iG
 | .cond c x y,ic,hc,s,s',ex,gh,w,a,Q,hI,he,hQ=>by
  simp only[fC,aoP,aoO] at hc
  obtain⟨iq,hq,ix,hx,iy,hy,rfl⟩:=hc
  simp only[im] at he
  split at he
  ·rename_i t ht
   have hv:=(bY hI.W hI.F hq ht rfl).jm
   cases t with
   | true=>exact wp_cond_true hv (gx iu hm n x ix hx s s' ex gh w a Q hI he hQ)
   | false=>exact wp_cond_false hv (gx iu hm n y iy hy s s' ex gh w a Q hI he hQ)
  ·cases he
 | .block id c,ic,hc,s,s',ex,gh,w,a,Q,hI,he,hQ=>by
  simp only[fC,aoO] at hc
  obtain⟨ix,hx,rfl⟩:=hc
  simp only[im,aoO] at he
  obtain⟨⟨e1,s1⟩,h1,he⟩:=he
  refine wp_block (gx iu hm n c ix hx s s1 e1 gh w a _ hI h1 (fun a' aH w' iG=>?_))
  cases e1 with
  | normal =>
   simp only[aoS] at he
   obtain⟨rfl,rfl⟩:=he
   exact hQ a' aH w' iG
  | exit i =>
   simp only[aoS] at he
   obtain⟨rfl,rfl⟩:=he
   show if i=id then Q .normal a' w' else Q (.exit i) a' w'
   have:=hQ a' aH w' iG
   rw[dR] at this
   by_cases hi:i=id
   ·rw[if_pos hi];simpa [hi,bp.Ka] using this
   ·rw[if_neg hi];simpa [hi,bp.Ka] using this
  | ret =>
   simp only[aoS] at he
   obtain⟨rfl,rfl⟩:=he
   exact hQ a' aH w' iG
 | .loop c,ic,hc,s,s',ex,gh,w,a,Q,hI,he,hQ=>by
  simp only[fC,aoO] at hc
  obtain⟨ix,hx,rfl⟩:=hc
  simp only[im] at he
  have rounds:∀ (m:Nat) (s:AS) (gh:Gh) (w:World) (a:Act),Inv G base nt (locals++muts) H0 gq w0 s gh w a->iter (im G cf n ix) m s=some (ex,s')->Code.rounds P c Q m a w:=by
   intro m
   induction m with
   | zero=>intro s gh w a _ h;cases h
   | succ m ih =>
    intro s gh w a hI h
    simp only[iter,aoP] at h
    obtain⟨⟨e1,s1⟩,h1,h⟩:=h
    rw[rounds_succ]
    refine gx iu hm n c ix hx s s1 e1 gh w a _ hI h1 (fun a' aH w' iG=>?_)
    cases e1 with
    | normal=>exact ih s1 aH w' a' iG h
    | exit id =>
     simp only[aoQ,aoS] at h
     obtain⟨rfl,rfl⟩:=h
     exact hQ a' aH w' iG
    | ret =>
     simp only[aoQ,aoS] at h
     obtain⟨rfl,rfl⟩:=h
     exact hQ a' aH w' iG
  exact wp_loop_rounds n (rounds n s gh w a hI he)
 | .exit id,ic,hc,s,s',ex,gh,w,a,Q,hI,he,hQ=>by
  simp only[fC,aoQ] at hc
  subst hc
  simp only[im,aoQ,aoS] at he
  obtain⟨rfl,rfl⟩:=he
  exact wp_exit (hQ a gh w hI)
 | .ret,ic,hc,s,s',ex,gh,w,a,Q,hI,he,hQ=>by
  simp only[fC,aoQ] at hc
  subst hc
  simp only[im,aoQ,aoS] at he
  obtain⟨rfl,rfl⟩:=he
  exact wp_ret (hQ a gh w hI)
 | .label l,ic,hc,s,s',ex,gh,w,a,Q,hI,he,hQ=>by
  simp only[fC,aoQ] at hc
  subst hc
  simp only[im,aoQ,aoS] at he
  obtain⟨rfl,rfl⟩:=he
  exact wp_label (hQ a gh w hI)
 | .scope c,ic,hc,s,s',ex,gh,w,a,Q,hI,he,hQ=>by
  simp only[fC] at hc
  refine wp_scope_straight (gx iu hm n c ic hc s s' ex gh w a _ hI he (fun a' aH w' iG=>?_))
  have:=hQ a' aH w' iG
  cases ex<;>exact this
 | .rangeFunc _ _ _ _,_,hc,_,_,_,_,_,_,_,_,_,_=>by simp[fC] at hc
 | .goto _,_,hc,_,_,_,_,_,_,_,_,_,_=>by simp[fC] at hc
 | .refuse _,_,hc,_,_,_,_,_,_,_,_,_,_=>by simp[fC] at hc
def nF(tmps:Array Value):ResultVar->Sem Value
 | .tmp t=>pure (tmps.getD t undef)
 | .cell a t=>do loadVar t (<- asAddr (tmps.getD a undef))
theorem sM{g:ResultVar->Sem Value} : ∀ (l:List ResultVar) (vs:List Value),l.length=vs.length->(∀ (j:Nat) (r:ResultVar) (v:Value),l[j]?=some r->vs[j]?=some v->(g r).run P w=.ok v w)->(l.mapM g).run P w=.ok vs w
 | [],[],_,_=>by simp
 | r :: l,v :: vs,hl,h=>by
  have h1:=h 0 r v rfl rfl
  have h2:=sM l vs (by simpa using hl) (fun j r v hr hv=>h (j+1) r v (by simpa using hr) (by simpa using hv))
  simp[List.mapM_cons,h1,h2]
 | [],_ :: _,hl,_=>by simp at hl
 | _ :: _,[],hl,_=>by simp at hl
theorem js{fn:Func}{tmps:Array Value}{vs:List Value}(hl:fn.results.toList.length=vs.length)(h:∀ (j:Nat) (r:ResultVar) (v:Value),fn.results.toList[j]?=some r->vs[j]?=some v->(nF tmps r).run P w=.ok v w) :
  (results fn tmps).run P w=.ok (if h:vs.toArray.size=1 then vs.toArray[0] else .tuple vs.toArray) w:=by
 have e:results fn tmps=(do let vs <- fn.results.mapM (nF tmps);pure (if h:vs.size=1 then vs[0] else .tuple vs)):=by
  unfold results
  congr 1
 rw[e,Sem.run_bind]
 have h2:(fn.results.mapM (nF tmps)).run P w=.ok vs.toArray w:=by
  rw[Array.mapM_eq_mapM_toList]
  have:=sM (P:=P) (w:=w) fn.results.toList vs hl h
  simp[this]
 rw[h2]
 rfl
theorem jh:∀ {l:List ResultVar} {rs:List fZ},jA P nt l=some rs->l.length=rs.length/\∀ (j:Nat) (r:ResultVar) (i:fZ),l[j]?=some r->rs[j]?=some i ->
  (∃ t,r=.tmp t/\i=.tmp t/\t<nt)\/∃ t ty g sz,r=.cell t ty/\i=.cell t g sz/\t<nt/\kQ P ty=some g/\de P ty=some sz
 | [],rs,h=>by simp[jA] at h;subst h;exact⟨rfl,fun j r i h=>by simp at h⟩
 | .tmp t :: l,rs,h=>by
  simp only[jA] at h
  obtain⟨h0,h⟩:=ab h
  simp only[aoO] at h
  obtain⟨rs',hr,rfl⟩:=h
  obtain⟨h1,h2⟩:=jh hr
  refine⟨by simp[h1],fun j r i hj hi=>?_⟩
  cases j with
  | zero=>simp at hj hi;subst hj hi;exact .inl ⟨t,rfl,rfl,by simpa [api] using h0⟩
  | succ j=>exact h2 j r i (by simpa using hj) (by simpa using hi)
 | .cell t ty :: l,rs,h=>by
  simp only[jA] at h
  obtain⟨h0,h⟩:=ab h
  simp only[aoP,aoO] at h
  obtain⟨g,hg,sz,hs,rs',hr,rfl⟩:=h
  obtain⟨h1,h2⟩:=jh hr
  refine⟨by simp[h1],fun j r i hj hi=>?_⟩
  cases j with
  | zero=>simp at hj hi;subst hj hi;exact .inr ⟨t,ty,g,sz,rfl,rfl,by simpa [api] using h0,hg,hs⟩
  | succ j=>exact h2 j r i (by simpa using hj) (by simpa using hi)
theorem yT(hW:aK G base s.H gh w)(hF:FR L nt gh w a s){r:ResultVar}{i:fZ}(hc:(∃ t,r=.tmp t/\i=.tmp t/\t<nt)\/∃ t ty g sz,r=.cell t ty/\i=.cell t g sz/\t<nt/\kQ P ty=some g/\de P ty=some sz)
  {z:AV} (hz:iR s i=some z):∃ v,(nF a.tmps r).run P w=.ok v w/\((∃ t,i=.tmp t/\t<nt/\v=fj a t/\z=s.T t/\CR gh s.H.length w (.sl t) v z)\/VR gh s.H.length w v z):=by
 rcases hc with ⟨t,rfl,rfl,ht⟩|⟨t,ty,g,sz,rfl,rfl,ht,hg,hs⟩
 ·refine⟨fj a t,rfl,.inl ⟨t,rfl,ht,rfl,?_⟩⟩
  simp only[iR] at hz
  obtain⟨h0,hz⟩:=ab hz
  injection hz with hz
  subst hz
  have h:=hF.slot t ht
  change SR gh s.H.length nt w s.T s.gen (fj a) t (fj a t) (s.T t) at h
  refine⟨rfl,?_⟩
  generalize s.T t=X at h h0
  cases X<;>first|exact h|(simp[al] at h0)
 ·have h:=hF.slot t ht
  change SR gh s.H.length nt w s.T s.gen (fj a) t (fj a t) (s.T t) at h
  simp only[iR] at hz
  have run:∀ {b:Nat} {f:Nat->Value} {cs:List AV},fj a t=.pointer (some ⟨b,0,none⟩)->ag false g sz 0 cs=some z->(∀ (j:Nat) (x:AV),cs[j]?=some x->w.cell? ⟨b,0+j,none⟩=some (f j)/\(f j).oneCell'=true/\VR gh s.H.length w (f j) x.drop) ->
    ∃ v,(nF a.tmps (.cell t ty)).run P w=.ok v w/\((∃ t',fZ.cell t g sz=.tmp t'/\t' < nt/\v=fj a t'/\z=s.T t'/\CR gh s.H.length w (.sl t') v z)\/VR gh s.H.length w v z):=by
   intro b f cs hb hl hf
   obtain⟨v,h1,h2⟩:=j8 (P:=P) hl hg hs hf
   refine⟨v,?_,.inr h2⟩
   have fP:a.tmps.getD t undef=.pointer (some ⟨b,0,none⟩):=hb
   show (do loadVar ty (<- asAddr (a.tmps.getD t undef)):Sem Value).run P w=_
   rw[fP]
   simpa [asAddr] using h1
  split at hz
  ·rename_i gg cs hT
   rw[hT] at h
   obtain⟨_,b,hb,hB⟩:=h
   obtain⟨f,hf⟩:=oG hB
   exact run hb hz hf
  ·rename_i loc hT
   rw[hT] at h
   have hv:=CR.dropped (h:CR gh s.H.length w (.sl t) (fj a t) (.ref loc 0))
   obtain⟨aU,hp⟩:=VR.lC hv
   split at hz
   ·rename_i NS cs hH
    obtain⟨f,hf⟩:=oG (hW.boxes loc _ cs hH)
    exact run hp hz hf
   ·cases hz
  ·cases hz
theorem freeze(hW:aK G base s.H gh w)(hF:FR L nt gh w a s){b g:Nat}{e:List (List AV)}(hb:b<nt)(hT:s.T b=.lsl g e)(oD:iY e=true) :
  ∃ aH,aK G base s.H aH w/\Ext s.H.length gh w aH w/\CR aH s.H.length w .ret (fj a b) (.slice e true):=by
 obtain⟨ad,cap,hV,⟨rfl,rfl,FW⟩|⟨k,C,ty,sz,bB,rfl,hκ,hS,hk,hC,hl,hr,fi⟩⟩:=nI hF hb hT
 ·refine⟨gh,hW,Ext.refl _ _ _ (fun b hb=>hW.bG b hb),.inl ?_⟩
  rw[hV]
  refine .full ad 0 [] ?_ trivial
  cases ad with
  | none=>exact .cT
  | some ad =>
   obtain⟨b',o',sp⟩:=ad
   have:=(FW _ rfl).1
   simp only at this
   subst this
   exact .slice b' o' 0 0 0 [] (fun _ _=>undef) rfl (aoU _) (fun i r h=>by simp at h) (fun i j r x h=>by simp at h) (fun i j r x h=>by simp at h)
 ·have jg:∀ o,gh.S k o->C[o]?=C[o]?:=fun _ _=>rfl
  have hn:gh.κ k≠.none:=by rw[hκ];simp
  have Mo:∀ j m,j<e.length*sz->C[j]?=some (.int .u8 m)->ty=iF:=by
   intro j m hj hc
   have cN:ik gh.S w sz (C.toList.take (e.length*sz)).toArray e:=by
    have hle:e.length*sz<=C.size:=by rw[hC];exact apl _ hl
    refine⟨by simp;omega,hr,fun i j r x hi hj=>?_⟩
    obtain⟨u,hu,hp⟩:=fi i j r x hi hj
    refine⟨u,?_,hp⟩
    have h1:=(aoR.1 hi).1
    have h2:j<sz:=by rw[<- hr i r hi];exact (aoR.1 hj).1
    simp only[ape,apa,if_pos (tp h1 h2)]
    simpa using hu
   refine nH (isB:=false) (m:=m) cN oD (fun h=>by cases h) hj ?_
   simp only[ape,apa,if_pos hj]
   simpa using hc
  have hE:=wY hW hk rfl (fun o=>o<e.length*sz) jg (p:=.ret) (by simp) hn (by rw[hκ];simp) s.H.length
  have kR:=KV hW hk rfl (fun o=>o<e.length*sz) jg Mo .ret hn (by rw[hκ];simp)
  have PK:=setRow_self w k C ty (0,0) hk
  rw[PK] at hE kR
  refine⟨_,kR,hE,.inr ⟨e,rfl,?_,k,cap,C,ty,0,0,sz,hV,by simp,bB,hk,hC,hr,hl,apZ _,?_⟩⟩
  ·rw[hV]
   have key:∀ (i j:Nat) (r:List AV) (x:AV),e[i]?=some r->r[j]?=some x->C[i*sz+j]?=some (C.getD (i*sz+j) undef)/\PR gh.S w (C.getD (i*sz+j) undef) x/\i*sz+j<e.length*sz:=by
    intro i j r x hi hj
    obtain⟨u,hu,hp⟩:=fi i j r x hi hj
    have aU:=(aoY.1 hu).1
    have:C.getD (i*sz+j) undef=u:=by
     rw[ao2 aU] at hu
     injection hu with hu
     simp[aU,hu]
    rw[this]
    exact⟨hu,hp,tp (aoR.1 hi).1 (by rw[<- hr i r hi];exact (aoR.1 hj).1)⟩
   refine .slice k 0 e.length cap sz e (fun i j=>C.getD (i*sz+j) undef) rfl hl hr (fun i j r x hi hj=>?_) (fun i j r x hi hj=>?_)
   ·obtain⟨h1,h2,h3⟩:=key i j r x hi hj
    refine⟨.inr ⟨rfl,by simpa using h3⟩,?_,h2.dX⟩
    rw[Nat.zero_add,cell_of_row w k _ C ty _ hk];exact h1
   ·exact (key i j r x hi hj).2.1.mono (fun b o h=>.inl h) (fun _ _ _=>rfl) (fun _ _ _ _ h=>h)
  ·rintro o ho (h|⟨_,h⟩)
   ·exact hS o h
   ·omega
theorem VR.aG{n m:Nat}{v:Value}{x:AV}(h:VR gh n w v x)(hx:x.aG m=true):VR gh m w v x:=by
 cases x
 case ref loc off =>
  obtain⟨_,rfl⟩:=h.lC
  exact .ref loc off (by simpa [AV.aG,api] using hx)
 case sref loc off k z =>
  obtain⟨_,cap,hk,hz,rfl⟩:=h.jn
  exact .sref loc off k cap z (by simpa [AV.aG,api] using hx) hk hz
 case mref loc =>
  obtain⟨_,rfl⟩:=h.ny
  exact .mref loc (by simpa [AV.aG,api] using hx)
 all_goals exact .plain _ _ (h.jX hx)
theorem VR.bn{n m:Nat}{v:Value}{x:AV}(h:VR gh n w v x)(hx:x.bn m=true):VR gh m w v x:=by
 cases x
 case agg cs =>
  obtain⟨C,rfl,hs,fL,hc⟩:=h.jD
  exact .agg C cs hs fL (fun j v x hv nM=>(hc j v x hv nM).aG (aoV.1 hx x (ao0 nM)))
 all_goals exact h.aG hx
theorem VR.leaves{n m:Nat}{v:Value}{x:AV}(h:VR gh n w v x)(hx:x.leaves m=true):VR gh m w v x:=by
 cases x
 case func f fs cs =>
  simp only[AV.leaves,Bool.and_eq_true] at hx
  obtain⟨us,ts,rfl,h1,h2,h3,h4⟩:=h.rb
  exact .func f us ts fs cs h1 h2 (fun j v x hv nM=>(h3 j v x hv nM).aG (aoV.1 hx.1 x (ao0 nM))) (fun j v x hv nM=>(h4 j v x hv nM).aG (aoV.1 hx.2 x (ao0 nM)))
 case iface t y =>
  cases h with
  | plain _ _ h=>exact .plain _ _ h
  | iface _ u _ h=>exact .iface t u y (h.aG hx)
 case tuple vs =>
  obtain⟨us,rfl,hs,h1⟩:=h.rR
  exact .tuple us vs hs (fun j v x hv nM=>(h1 j v x hv nM).bn (aoV.1 hx x (ao0 nM)))
 case slice e own =>
  cases h with
  | plain _ _ h=>exact .plain _ _ h
  | full a k _ h hz=>exact .full a k e h hz
 all_goals exact h.bn hx
theorem CR.leaves{n m:Nat}{p:ba}{v:Value}{x:AV}(h:CR gh n w p v x)(hx:x.leaves m=true):CR gh m w p v x:=by
 rcases h with h|h
 ·exact .inl (h.leaves hx)
 ·exact .inr h
theorem VR.gH{n m loc:Nat}{v:Value}{x:AV}(h:VR gh n w v x)(hx:gH loc x=true)(hl:loc<m):VR gh m w v x:=by
 cases x
 case ref l off =>
  obtain⟨_,rfl⟩:=h.lC
  have:l<=loc:=by simpa [Abs.gH,Nat.ble_eq] using hx
  exact .ref l off (by omega)
 case sref l off k z =>
  obtain⟨_,cap,hk,hz,rfl⟩:=h.jn
  have:l<=loc:=by simpa [Abs.gH,Nat.ble_eq] using hx
  exact .sref l off k cap z (by omega) hk hz
 case mref l =>
  obtain⟨_,rfl⟩:=h.ny
  have:l<=loc:=by simpa [Abs.gH,Nat.ble_eq] using hx
  exact .mref l (by omega)
 case slice e own =>
  cases h with
  | plain _ _ h=>exact .plain _ _ h
  | full a k _ h hz=>exact .full a k e h hz
 all_goals exact .plain _ _ (h.jX hx)
theorem VR.kJ{n m loc:Nat}{v:Value}{x:AV}(h:VR gh n w v x)(hx:kJ loc x=true)(hl:loc<m):VR gh m w v x:=by
 cases x
 case agg cs =>
  obtain⟨C,rfl,hs,fL,hc⟩:=h.jD
  exact .agg C cs hs fL (fun j v x hv nM=>(hc j v x hv nM).gH (aoV.1 hx x (ao0 nM)) hl)
 all_goals exact h.gH hx hl
theorem VR.aV{n m loc:Nat}{v:Value}{x:AV}(h:VR gh n w v x)(hx:aV loc x=true)(hl:loc<m):VR gh m w v x:=by
 cases x
 case ref l off =>
  obtain⟨_,rfl⟩:=h.lC
  have:l<=loc:=by simpa [Abs.aV,Nat.ble_eq] using hx
  exact .ref l off (by omega)
 case sref l off k z =>
  obtain⟨_,cap,hk,hz,rfl⟩:=h.jn
  have:l<=loc:=by simpa [Abs.aV,Nat.ble_eq] using hx
  exact .sref l off k cap z (by omega) hk hz
 case mref l =>
  obtain⟨_,rfl⟩:=h.ny
  have:l<=loc:=by simpa [Abs.aV,Nat.ble_eq] using hx
  exact .mref l (by omega)
 case slice e own =>
  cases h with
  | plain _ _ h=>exact .plain _ _ h
  | full a k _ h hz=>exact .full a k e h hz
 case func f fs cs =>
  simp only[Abs.aV,Bool.and_eq_true] at hx
  obtain⟨us,ts,rfl,h1,h2,h3,h4⟩:=h.rb
  exact .func f us ts fs cs h1 h2 (fun j v x hv nM=>(h3 j v x hv nM).kJ (aoV.1 hx.1 x (ao0 nM)) hl) (fun j v x hv nM=>(h4 j v x hv nM).kJ (aoV.1 hx.2 x (ao0 nM)) hl)
 all_goals exact .plain _ _ (h.jX hx)
theorem PR.lower{S:Nat->Nat->Prop}{w0:World}{v0:Value}{x:AV}(h:PR S w0 v0 x){n m:Nat} : ∀ {v:Value},VR gh n w v x->VR gh m w v x:=by
 induction h with
 | iface t v0 x h ih =>
  intro v hv
  cases hv with
  | plain _ _ h=>exact .plain _ _ h
  | iface _ u _ h=>exact .iface t u x (ih h)
 | func f =>
  intro v hv
  cases hv with
  | plain _ _ h=>exact .plain _ _ h
  | func _ fs cs _ _ h1 h2 h3 h4=>exact .func f fs cs [] [] h1 h2 (fun j v x _ hx=>by simp at hx) (fun j v x _ hx=>by simp at hx)
 | _ =>
  intro v hv
  cases hv<;>exact .plain _ _ ‹_›
theorem VR.lower{gq:Gh}{w0:World}{m:Nat}{v0:Value}{x:AV}(h:VR gq m w0 v0 x){n:Nat} : ∀ {v:Value},VR gh n w v x->VR gh m w v x:=by
 induction h with
 | plain v0 x h=>intro v hv;exact h.lower hv
 | full a k e h hz =>
  intro v hv
  cases hv with
  | plain _ _ h=>cases h
  | full a k _ h hz=>exact .full a k e h hz
 | ref loc off h=>intro v hv;obtain⟨_,rfl⟩:=hv.lC;exact .ref loc off h
 | sref loc off k cap z h hk hz=>intro v hv;obtain⟨_,cap,hk,hz,rfl⟩:=hv.jn;exact .sref loc off k cap z h hk hz
 | mref loc h=>intro v hv;obtain⟨_,rfl⟩:=hv.ny;exact .mref loc h
 | func f fs cs xs ys hf hc _ _ ih1 ih2 =>
  intro v hv
  obtain⟨us,ts,rfl,h1,h2,h3,h4⟩:=hv.rb
  refine .func f us ts xs ys h1 h2 (fun j v x hv hx=>?_) (fun j v x hv hx=>?_)
  ·have hj:j<fs.size:=by rw[hf];exact (aoR.1 hx).1
   exact ih1 j _ x (ao2 hj) hx (h3 j v x hv hx)
  ·have hj:j<cs.size:=by rw[hc];exact (aoR.1 hx).1
   exact ih2 j _ x (ao2 hj) hx (h4 j v x hv hx)
 | iface t v0 x h ih =>
  intro v hv
  cases hv with
  | plain _ _ h=>exact .plain _ _ h
  | iface _ u _ h=>exact .iface t u x (ih h)
 | agg cs xs hs fL _ ih =>
  intro v hv
  obtain⟨C,rfl,qy,PD,hc⟩:=hv.jD
  refine .agg C xs qy PD (fun j v x hv hx=>?_)
  have hj:j<cs.size:=by rw[hs];exact (aoR.1 hx).1
  exact ih j _ x (ao2 hj) hx (hc j v x hv hx)
 | tuple vs xs hs _ ih =>
  intro v hv
  obtain⟨us,rfl,qy,h1⟩:=hv.rR
  refine .tuple us xs qy (fun j v x hv hx=>?_)
  have hj:j<vs.size:=by rw[hs];exact (aoR.1 hx).1
  exact ih j _ x (ao2 hj) hx (h1 j v x hv hx)
def vI(H:ah)(m:Nat)(gh:Gh)(w:World):Prop:=∀ (l:Nat) (cs:List AV),l<m->H[l]?=some (.ca cs)->gF gh m w (gh.ρ l) (.hb l) (fun j=>.hs l j) cs
theorem aci{ghI:Gh}{wI:World}{H0:ah}(Mc:aK G base H0 ghI wI)(qn:dT H0 s)(ho:nD H0.length s=true)(hW:aK G base s.H gh w):vI s.H H0.length gh w:=by
 intro l cs hl hH
 obtain⟨h1,h2,C,NT,h3,h4,h5⟩:=(hW.more l _ hH:gF gh s.H.length w (gh.ρ l) (.hb l) (fun j=>.hs l j) cs)
 refine⟨h1,h2,C,NT,h3,h4,fun j v x hv hx=>⟨(h5 j v x hv hx).1,?_⟩⟩
 have kD:=(h5 j v x hv hx).2
 by_cases fY:l<s.lo
 ·have hH0:H0[l]?=some (.ca cs):=by rw[<- qn.same l fY];exact hH
  obtain⟨_,_,C0,NS,g3,g4,g5⟩:=(Mc.more l _ hH0:gF ghI H0.length wI (ghI.ρ l) (.hb l) (fun j=>.hs l j) cs)
  have hj:j<C0.size:=by have:=(aoR.1 hx).1;omega
  rcases kD with Cm|aaI
  ·rcases (g5 j _ x (ao2 hj) hx).2 with k|⟨e,rfl,_⟩
   ·exact .inl (k.lower Cm)
   ·cases Cm with
    | plain _ _ h=>cases h
    | full a k _ h hz=>exact .inl (.full a k e h hz)
  ·exact .inr aaI
 ·have hc:x.aG H0.length=true:=by
   unfold nD at ho
   cases hb:Nat.beq s.lo H0.length with
   | true=>have:=apQ hb;omega
   | false =>
    rw[hb,aoZ] at ho
    have hm:cj.ca cs∈(s.H.take H0.length).drop s.lo:=by
     refine ao0 (i:=l-s.lo) ?_
     rw[apq,apa,if_pos (by omega),show s.lo+(l-s.lo)=l by omega]
     exact hH
    exact aoV.1 (aoV.1 ho _ hm) x (ao0 hx)
  rcases kD with Cm|⟨e,rfl,_⟩
  ·exact .inl (Cm.aG hc)
  ·simp[AV.aG,AV.plain] at hc
theorem CR.aV{n m loc:Nat}{p:ba}{v:Value}{x:AV}(h:CR gh n w p v x)(hx:aV loc x=true)(hl:loc<m):CR gh m w p v x:=by
 rcases h with h|h
 ·exact .inl (h.aV hx hl)
 ·exact .inr h
theorem aK.C5(hW:aK G base H gh w){m:Nat}(hm:m<=H.length)(hold:vI H m gh w):aK G base (H.take m) gh w:=by
 have YR:(H.take m).length=m:=by simp;omega
 refine⟨hW.size,hW.mX,hW.ow,hW.aN,fun loc ty cs hl=>?_,fun loc ty cs hl=>?_,hW.wL,hW.bytes,fun loc o hl=>?_,fun loc ty cs hl=>?_⟩
 rotate_left 2
 ·rw[apa] at hl
  split at hl
  ·rename_i aU
   have h:=hW.more loc o hl
   rw[YR]
   cases o with
   | map kz ka va es =>
    obtain⟨⟨h1,h2,E,ck,f,h3,h4,h5,h6⟩,h7⟩:=h
    refine⟨⟨h1,h2,E,ck,f,h3,h4,h5,fun i j r x hi hj hl=>?_⟩,h7⟩
    have hc:=aoV.1 (aoV.1 h7 r (ao0 hi)) x (ao0 hj)
    obtain⟨k1,k2,k3⟩:=h6 i j r x hi hj hl
    refine⟨k1,fun hv=>?_,k3.aV hc aU⟩
    exact (k2 hv).aV hc aU
   | dM kz ka va es=>exact h
   | Im cs=>exact h
   | ca cs=>exact hold loc cs aU hl
   | _=>trivial
  ·cases hl
 ·rw[apa] at hl
  split at hl
  ·exact hW.types loc ty cs hl
  ·cases hl
 ·rw[apa] at hl
  split at hl
  ·rename_i aU
   obtain⟨h1,h2,C,NT,h3,h4,h5⟩:=hW.boxes loc _ cs hl
   refine⟨h1,h2,C,NT,h3,h4,fun j v x hv hx=>⟨(h5 j v x hv hx).1,?_⟩⟩
   have hlen:(H.take m).length=m:=by simp;omega
   rw[hlen]
   exact (h5 j v x hv hx).2.aV (aoV.1 (hW.refs loc _ cs hl) x (ao0 hx)) aU
  ·cases hl
 ·rw[apa] at hl
  split at hl
  ·exact hW.refs loc _ cs hl
  ·cases hl
theorem Db(hW:aK G base s.H gh w)(hF:FR L nt gh w a s):∀ (l:List ResultVar) (rs:List fZ) (xs:List AV),l.length=rs.length->(∀ (j:Nat) (r:ResultVar) (i:fZ),l[j]?=some r->rs[j]?=some i ->
    (∃ t,r=.tmp t/\i=.tmp t/\t<nt)\/∃ t ty g sz,r=.cell t ty/\i=.cell t g sz/\t<nt/\kQ P ty=some g/\de P ty=some sz)->mq s rs=some xs ->
    ∃ vs:List Value,l.length=vs.length/\vs.length=xs.length/\(∀ (j:Nat) (r:ResultVar) (v:Value),l[j]?=some r->vs[j]?=some v->(nF a.tmps r).run P w=.ok v w)/\∀ (j:Nat) (v:Value) (x:AV),vs[j]?=some v->xs[j]?=some x->VR gh s.H.length w v x:=by
 intro l
 induction l with
 | nil =>
  intro rs xs hl _ h
  have:rs=[]:=aqJ.1 (by simpa using hl.symm)
  subst this
  simp only[mq,aoQ] at h
  subst h
  exact⟨[],rfl,rfl,fun j r v h=>by simp at h,fun j v x h=>by simp at h⟩
 | cons rv l ih =>
  intro rs xs hl hc h
  cases rs with
  | nil=>simp at hl
  | cons i rs =>
   simp only[mq,aoP,aoO] at h
   obtain⟨z,hz,ys,Mu,rfl⟩:=h
   obtain⟨v,h1,h2⟩:=yT (P:=P) hW hF (hc 0 rv i rfl rfl) hz
   have hv:VR gh s.H.length w v z.aX:=by
    rcases h2 with ⟨t,_,_,_,_,kD⟩|Cm
    ·exact jj kD.dropped
    ·exact jj Cm.dropped
   obtain⟨vs,k1,k2,k3,k4⟩:=ih rs ys (by simpa using hl) (fun j r i hr hi=>hc (j+1) r i (by simpa using hr) (by simpa using hi)) Mu
   refine⟨v :: vs,by simp[k1],by simp[k2],fun j r u hr hu=>?_,fun j u x hu hx=>?_⟩
   ·cases j with
    | zero=>simp at hr hu;subst hr hu;exact h1
    | succ j=>exact k3 j r u (by simpa using hr) (by simpa using hu)
   ·cases j with
    | zero=>simp at hu hx;subst hu hx;exact hv
    | succ j=>exact k4 j u x (by simpa using hu) (by simpa using hx)
theorem JF{gq:Gh}{w0:World}(ig:clean gq)(hI:Inv G base nt L H gq w0 s gh w a){fn:Func}{rs:List fZ}(hc:jA P nt fn.results.toList=some rs){r:AV}{c:Option fQ}(hold:∀ aH w',aK G base s.H aH w'->vI s.H H.length aH w')(he:gN H.length rs s=some (r,c)) :
  jI H c/\∃ v aH,(results fn a.tmps).run P w=.ok v w/\lG G base H gq w0 r c v aH w:=by
 simp only[gN,aoP] at he
 obtain⟨r',hr,he⟩:=he
 obtain⟨hlv,he⟩:=ab he
 simp only[aoQ,aoS] at he
 obtain⟨rfl,pN⟩:=he
 have hlen:=hI.lo.len
 have qt:oy H c=s.H.take H.length:=by
  cases hb:Nat.beq s.lo H.length with
  | false=>rw[hb] at pN;subst pN;rfl
  | true =>
   rw[hb] at pN
   subst pN
   have qn:s.lo=H.length:=apQ hb
   show H=_
   refine aqa fun l=>?_
   rw[apa]
   split
   ·rename_i hl;exact (hI.lo.same l (by omega)).symm
   ·rename_i hl;exact aqc (by omega)
 have AG:(oy H c).length=H.length:=by rw[qt];simp;omega
 have Pn:jI H c:=by
  refine⟨ap0 AG.symm,fun c' tD=>?_⟩
  cases hb:Nat.beq s.lo H.length with
  | true=>rw[hb] at pN;rw[<- pN] at tD;cases tD
  | false =>
   rw[hb] at pN
   rw[<- pN] at tD
   simp only[aoZ,aoQ] at tD
   subst tD
   refine⟨hI.lo.lo,fun l hl=>?_⟩
   have:=hI.lo.lo
   rw[apa,if_pos (by simp only at hl;omega)]
   exact hI.lo.same l hl
 refine⟨Pn,?_⟩
 have fin:∀ {v:Value} {aH:Gh},(results fn a.tmps).run P w=.ok v w->aK G base s.H aH w->Ext s.H.length gh w aH w->CR aH s.H.length w .ret v r'->∃ v aH,(results fn a.tmps).run P w=.ok v w/\lG G base H gq w0 r' c v aH w:=by
  intro v aH h1 h2 h3 h4
  have hE:=hI.E.trans h3 hlen
  refine⟨v,aH,h1,ap0 AG.symm,by rw[qt];exact h2.C5 hlen (hold _ _ h2),?_,hE.out,by rw[AG];exact h4.leaves hlv⟩
  have st:=hE.step
  refine⟨st.S,st.cell,st.size,st.os,st.tape,st.output,fun b hb hn=>st.zi b hb (fun ht=>hn ?_),st.fresh,st.ρ,st.len,st.mp⟩
  rcases ig b with h|h|h|h
  ·exact absurd h ht.1
  ·exact absurd h ht.2
  ·exact .inl h
  ·exact .inr h
 obtain⟨hl,qX⟩:=jh hc
 have hrefl:Ext s.H.length gh w gh w:=Ext.refl _ _ _ (fun b hb=>hI.W.bG b hb)
 have one:∀ (rv:ResultVar) (v:Value),fn.results.toList=[rv]->(nF a.tmps rv).run P w=.ok v w->(results fn a.tmps).run P w=.ok v w:=by
  intro rv v h1 h2
  have:=js (P:=P) (w:=w) (fn:=fn) (tmps:=a.tmps) (vs:=[v]) (by rw[h1];rfl) (fun j r' v' hr hv=>by
   rw[h1] at hr
   cases j with
   | zero=>simp at hr hv;subst hr hv;exact h2
   | succ j=>simp at hr)
  simpa using this
 unfold kO at hr
 split at hr
 ·rename_i i
  have Kr:([i]:List fZ)=[i]:=rfl
  rw[Kr] at hl
  obtain⟨rv,Ms⟩:∃ rv,fn.results.toList=[rv]:=ap8.1 (by simpa using hl)
  have NG:=qX 0 rv i (by rw[Ms];rfl) (by rw[Kr];rfl)
  split at hr
  ·rename_i b bE
   rcases NG with ⟨t,rfl,rfl,ht⟩|⟨t,ty,g,sz,rfl,rfl,_⟩
   ·simp only[mr] at bE
    have pn:=hI.F.slot t ht
    change SR gh s.H.length nt w s.T s.gen (fj a) t (fj a t) (s.T t) at pn
    split at bE
    ·rename_i g e hT
     injection bE with bE
     subst bE
     rw[hT] at hr
     obtain⟨oD,hr⟩:=ab hr
     injection hr with hr
     subst hr
     obtain⟨aH,h2,h3,h4⟩:=freeze hI.W hI.F ht hT oD
     exact fin (one _ _ Ms rfl) h2 h3 h4
    ·rename_i b' g hT
     rw[hT] at pn
     obtain⟨fP,_,hv⟩:=pn
     split at bE
     ·rename_i g' e Uy
      obtain⟨h0,bE⟩:=ab bE
      injection bE with bE
      subst bE
      rw[Uy] at hr
      obtain⟨oD,hr⟩:=ab hr
      injection hr with hr
      subst hr
      have Dp:g=g':=by simpa [dR] using h0
      have gE:fj a t=fj a b':=hv (by rw[Uy,Dp];rfl)
      obtain⟨aH,h2,h3,h4⟩:=freeze hI.W hI.F fP Uy oD
      exact fin (one _ _ Ms rfl) h2 h3 (by show CR aH s.H.length w .ret (fj a t) _;rw[gE];exact h4)
     ·cases bE
    ·cases bE
   ·cases bE
  ·obtain⟨v,h1,h2⟩:=yT (P:=P) hI.W hI.F NG hr
   rcases h2 with ⟨t,_,ht,rfl,hz,kD⟩|Cm
   ·rcases kD with Cm|⟨e,rfl,_⟩
    ·exact fin (one _ _ Ms h1) hI.W hrefl (.inl Cm)
    ·obtain⟨aH,h2,_,h3,_,h4⟩:=rq hI.W hI.F ht hz.symm .ret (by simp)
     exact fin (one _ _ Ms h1) h2 h3 h4
   ·exact fin (one _ _ Ms h1) hI.W hrefl (.inl Cm)
 ·rename_i bB
  simp only[aoO] at hr
  obtain⟨xs,hxs,rfl⟩:=hr
  obtain⟨vs,k1,k2,k3,k4⟩:=Db (P:=P) hI.W hI.F _ _ xs hl qX hxs
  have sE:vs.length≠1:=by
   intro h
   rw[<- k1,hl] at h
   obtain⟨i,hi⟩:=ap8.1 h
   exact bB i hi
  have cz:=js (P:=P) (w:=w) (fn:=fn) (tmps:=a.tmps) k1 k3
  rw[dif_neg (by simpa using sE)] at cz
  exact fin cz hI.W hrefl (.inl (.tuple vs.toArray xs (by simpa using k2) (fun j v x hv hx=>k4 j v x (by simpa using hv) hx)))
theorem FB{rs:List fZ}(hI:dT H s){r:AV}{c:Option fQ}(he:gN H.length rs s=some (r,c)):jI H c:=by
 simp only[gN,aoP] at he
 obtain⟨r',hr,he⟩:=he
 obtain⟨hlv,he⟩:=ab he
 simp only[aoQ,aoS] at he
 obtain⟨rfl,pN⟩:=he
 have hlen:=hI.len
 cases hb:Nat.beq s.lo H.length with
 | true=>rw[hb] at pN;subst pN;exact⟨aoU _,fun c' h=>by cases h⟩
 | false =>
  rw[hb] at pN
  subst pN
  refine⟨by simp[oy];omega,fun c' tD=>?_⟩
  simp only[aoZ,aoQ] at tD
  subst tD
  refine⟨hI.lo,fun l hl=>?_⟩
  have:=hI.lo
  rw[apa,if_pos (by simp only at hl;omega)]
  exact hI.same l hl
theorem xQ{m:Nat}{rs:List fZ}{r:AV}{c:Option fQ}(he:pL m rs s=some (r,c)):rs.length≠1/\∃ xs e,vu s m rs=some (xs,some e)/\r=.tuple xs/\c=some ⟨s.H.take m++[.box aJ e.flatten],s.lo⟩:=by
 unfold pL at he
 cases hb:Nat.beq rs.length 1 with
 | true=>rw[hb] at he;cases he
 | false =>
  rw[hb] at he
  simp only[aoZ,aoP,aoO,aoS] at he
  obtain⟨⟨xs,eo⟩,hq,e,rfl,rfl,rfl⟩:=he
  exact⟨(fun h=>by rw[h] at hb;cases hb),xs,e,hq,rfl,rfl⟩
theorem xS{kK:ax}{m:Nat}{x:AV × Option fQ}(he:kI m kK s=some x):nD m s=true/\(s5 m kK.results s=some x\/gN m kK.results s=some x\/pL m kK.results s=some x\/pK m kK.results s=some x):=by
 unfold kI at he
 obtain⟨h0,he⟩:=ab he
 refine⟨h0,?_⟩
 unfold rP at he
 split at he
 ·rename_i h
  unfold nW at h
  obtain⟨_,h⟩:=ab h
  rw[<- he];exact .inl h
 ·split at he
  ·rename_i h;rw[h];exact .inr (.inl he)
  ·split at he
   ·rename_i h;rw[h];exact .inr (.inr (.inl he))
   ·exact .inr (.inr (.inr he))
theorem xO{m:Nat}{rs:List fZ}{r:AV}{c:Option fQ}(he:s5 m rs s=some (r,c)):∃ i l off n z ty cs,rs=[i]/\iR s i=some (.sref l off n z)/\s.H[l]?=some (.box ty cs)/\m<=l/\cs.all AV.plain=true/\r=.sref m off n z/\c=some ⟨s.H.take m++[.ca cs],s.lo⟩:=by
 unfold s5 at he
 split at he
 ·rename_i i
  simp only[aoP] at he
  obtain⟨v,hv,he⟩:=he
  split at he
  ·rename_i l off n z
   split at he
   ·rename_i ty cs hH
    obtain⟨h0,he⟩:=ab he
    simp only[aoQ,aoS] at he
    simp only[Bool.and_eq_true,Nat.ble_eq] at h0
    exact⟨i,l,off,n,z,ty,cs,rfl,hv,hH,h0.1,h0.2,he.1.symm,he.2.symm⟩
   ·cases he
  ·cases he
 ·cases he
theorem Kc(hI:dT H s){c:Option fQ}(pN:cond (Nat.beq s.lo H.length) none (some ⟨s.H.take H.length,s.lo⟩)=c):jI H c/\oy H c=s.H.take H.length:=by
 have hlen:=hI.len
 cases hb:Nat.beq s.lo H.length with
 | true =>
  rw[hb] at pN
  subst pN
  have qn:s.lo=H.length:=apQ hb
  refine⟨⟨aoU _,fun c' h=>by cases h⟩,?_⟩
  show H=_
  refine aqa fun l=>?_
  rw[apa]
  split
  ·rename_i hl;exact (hI.same l (by omega)).symm
  ·rename_i hl;exact aqc (by omega)
 | false =>
  rw[hb] at pN
  subst pN
  refine⟨⟨by simp[oy];omega,fun c' tD=>?_⟩,rfl⟩
  simp only[aoZ,aoQ] at tD
  subst tD
  refine⟨hI.lo,fun l hl=>?_⟩
  have:=hI.lo
  rw[apa,if_pos (by simp only at hl;omega)]
  exact hI.same l hl
theorem xP{m:Nat}{rs:List fZ}{r:AV}{c:Option fQ}(he:pK m rs s=some (r,c)):uG m s rs=some r/\r.leaves m=true/\cond (Nat.beq s.lo m) none (some ⟨s.H.take m,s.lo⟩)=c:=by
 simp only[pK,aoP] at he
 obtain⟨r',hr,he⟩:=he
 obtain⟨hlv,he⟩:=ab he
 simp only[aoQ,aoS] at he
 obtain⟨rfl,pN⟩:=he
 exact⟨hr,hlv,pN⟩
theorem FJ(hI:dT H s)(o:cj):jI H (some ⟨s.H.take H.length++[o],s.lo⟩):=by
 have:=hI.len
 have h1:=hI.lo
 refine⟨by simp[oy];omega,fun c' tD=>?_⟩
 injection tD with tD
 subst tD
 refine⟨hI.lo,fun l hl=>?_⟩
 simp only at hl ⊢
 rw[ao7 (by simp;omega),apa,if_pos (by omega)]
 exact hI.same l hl
theorem xN{rs:List fZ}{r:AV}{c:Option fQ}(he:xM rs s=some (r,c)):rs.length≠1/\∃ xs,mq s rs=some xs/\r=.tuple xs/\c=some ⟨s.H,s.lo⟩:=by
 unfold xM at he
 cases hb:Nat.beq rs.length 1 with
 | true=>rw[hb] at he;cases he
 | false =>
  rw[hb] at he
  simp only[aoZ,aoO,aoS] at he
  obtain⟨xs,h1,h2,h3⟩:=he
  exact⟨fun h=>by (rw[h] at hb;cases hb),xs,h1,h2.symm,h3.symm⟩
theorem TF(hI:dT H s):jI H (some ⟨s.H,s.lo⟩):=by
 refine⟨hI.len,fun c' tD=>?_⟩
 injection tD with tD
 subst tD
 exact⟨hI.lo,hI.same⟩
theorem vR{m:Nat}{kK:ax}{x:AV × Option fQ}(he:finish m kK s=some x):(∃ r0,kI m kK s=some (r0,x.2)/\(x.1=r0\/x.1=oV r0))\/xM kK.results s=some x:=by
 unfold finish at he
 split at he
 case h_2 =>
  unfold Kb at he
  obtain⟨_,he⟩:=ab he
  exact .inr he
 rename_i y hy
 injection he with he
 subst he
 refine .inl ?_
 have he:=hy
 simp only[aoO] at he
 obtain⟨⟨r0,c0⟩,h1,h2⟩:=he
 unfold sI at h2
 cases hm:kK.muts.elem 777777 with
 | false=>rw[hm,aoZ] at h2;subst h2;exact⟨r0,h1,.inl rfl⟩
 | true=>rw[hm,cond_true] at h2;subst h2;exact⟨r0,h1,.inr rfl⟩
theorem PR.n2{S:Nat->Nat->Prop}{w:World}{v:Value}{x:AV}(h:PR S w v x):PR S w v (n2 x):=by
 have one:∀ {v x},PR S w v x->PR S w v (n1 x):=by
  intro v x h
  have h0:=h
  cases h<;>first|exact .cT|exact h0
 have h0:=h
 cases h with
 | ae=>exact .cT
 | slice b o n cap sz e f hn jC bE cL cr =>
  have vh:∀ (i:Nat) (r:List AV),(e.map fun r=>r.map n1)[i]?=some r->∃ r0,e[i]?=some r0/\r=r0.map n1:=by
   intro i r hr
   rw[ao1] at hr
   cases NM:e[i]? with
   | none=>rw[NM] at hr;cases hr
   | some r0=>rw[NM] at hr;injection hr with hr;exact⟨r0,rfl,hr.symm⟩
  have Me:∀ (r0:List AV) (j:Nat) (x:AV),(r0.map n1)[j]?=some x->∃ x0,r0[j]?=some x0/\x=n1 x0:=by
   intro r0 j x hx
   rw[ao1] at hx
   cases qY:r0[j]? with
   | none=>rw[qY] at hx;cases hx
   | some x0=>rw[qY] at hx;injection hx with hx;exact⟨x0,rfl,hx.symm⟩
  refine .slice b o n cap sz _ f (by rw[ao'];exact hn) jC (fun i r hr=>?_) (fun i j r x hr hx=>?_) (fun i j r x hr hx=>?_)
  ·obtain⟨r0,h1,rfl⟩:=vh i r hr
   rw[ao'];exact bE i r0 h1
  ·obtain⟨r0,h1,rfl⟩:=vh i r hr
   obtain⟨x0,h2,rfl⟩:=Me r0 j x hx
   exact cL i j r0 x0 h1 h2
  ·obtain⟨r0,h1,rfl⟩:=vh i r hr
   obtain⟨x0,h2,rfl⟩:=Me r0 j x hx
   exact one (cr i j r0 x0 h1 h2)
 | cT=>exact .cT
 | any v ho=>exact h0
 | _=>exact h0
theorem VR.n2{gh:Gh}{n:Nat}{w:World}{v:Value}{x:AV}(h:VR gh n w v x):VR gh n w v (n2 x):=by
 have h0:=h
 cases h with
 | plain _ _ h=>exact .plain _ _ h.n2
 | _=>exact h0
theorem VR.n3{gh:Gh}{n:Nat}{w:World}{v:Value}{x:AV}(h:VR gh n w v x):VR gh n w v (n3 x):=by
 have h0:=h
 cases h with
 | agg cs xs hs fL h =>
  refine .agg cs _ (by rw[ao'];exact hs) fL (fun j v x hv hx=>?_)
  rw[ao1] at hx
  cases qY:xs[j]? with
  | none=>rw[qY] at hx;cases hx
  | some x0=>rw[qY] at hx;injection hx with hx;subst hx;exact (h j v x0 hv qY).n2
 | plain _ _ h =>
  cases x with
  | agg cs=>cases h
  | _=>exact h0.n2
 | _=>exact h0
theorem VR.oV{gh:Gh}{n:Nat}{w:World}{v:Value}{x:AV}(h:VR gh n w v x):VR gh n w v (oV x):=by
 have h0:=h
 cases h with
 | tuple vs xs hs h =>
  refine .tuple vs _ (by rw[ao'];exact hs) (fun j v x hv hx=>?_)
  rw[ao1] at hx
  cases qY:xs[j]? with
  | none=>rw[qY] at hx;cases hx
  | some x0=>rw[qY] at hx;injection hx with hx;subst hx;exact (h j v x0 hv qY).n3
 | agg cs xs hs fL h=>exact h0.n3
 | plain _ _ h =>
  cases x with
  | tuple cs=>cases h
  | _=>exact h0.n3
 | _=>exact h0
theorem W1{gh:Gh}{n:Nat}{w:World}{p:ba}{v:Value}{x:AV}(h:CR gh n w p v x):CR gh n w p v (oV x):=by
 rcases h with h|⟨e,rfl,h1,h2⟩
 ·exact .inl h.oV
 ·exact .inr ⟨e,rfl,h1,h2⟩
theorem j7{kK:ax}(hI:dT H s){r:AV}{c:Option fQ}(he:finish H.length kK s=some (r,c)):jI H c:=by
 rcases vR he with ⟨r0,he,_⟩|he
 case inr =>
  obtain⟨_,xs,_,_,rfl⟩:=xN he
  exact TF hI
 rcases (xS he).2 with he|he|he|he
 ·obtain⟨_,_,_,_,_,_,cs,_,_,_,_,_,_,rfl⟩:=xO he
  exact FJ hI _
 ·exact FB hI he
 ·obtain⟨_,xs,e,_,_,rfl⟩:=xQ he
  exact FJ hI _
 ·exact (Kc hI (xP he).2.2).1
theorem s7{α:Type}{sz:Nat} : ∀ (e:List (List α)) (idx:Nat) (x:α),(∀ r∈e,r.length=sz)->e.flatten[idx]?=some x->∃ i j r,e[i]?=some r/\r[j]?=some x/\idx=i*sz+j
 | [],_,_,_,h=>by simp at h
 | r :: e,idx,x,hr,h=>by
  rw[apJ] at h
  by_cases hl:idx<r.length
  ·rw[ao7 hl] at h;exact⟨0,idx,r,rfl,h,by simp⟩
  ·rw[ao5 (by omega)] at h
   obtain⟨i,j,r',h1,h2,h3⟩:=s7 e _ x (fun r h=>hr r (by simp[h])) h
   have:=hr r (by simp)
   exact⟨i+1,j,r',by simpa using h1,h2,by rw[apy];omega⟩
theorem vS{α:Type}{sz:Nat} : ∀ (e:List (List α)),(∀ r∈e,r.length=sz)->e.flatten.length=e.length*sz
 | [],_=>by simp
 | r :: e,hr=>by
  have:=hr r (by simp)
  have ih:=vS e (fun r h=>hr r (by simp[h]))
  simp only[apJ,ao6,List.length_cons,apy];omega
def Gh.kE(gh:Gh)(k n:Nat):Gh:={ gh.ma k (.hb n) with ρ:=fun l=>if l=n then k else gh.ρ l }
theorem pw(hW:aK G base H gh w){k:Nat}(hk:k<w.heap.size){m n:Nat}(hn:m<=n):Step (fun r=>r=gh.κ k) m gh w (gh.kE k n) w:=by
 have h:=iU hW hk (.hb n) m
 refine⟨h.S,h.cell,h.size,h.os,h.tape,h.output,h.zi,h.fresh,fun loc hl=>?_,h.len,h.mp⟩
 show (if loc=n then _ else _)=_
 rw[if_neg (by omega)]
theorem aK.kE(hW:aK G base H gh w){k:Nat}{C:Array Value}{ty:TypeId}(hk:w.heap[k]?=some (.cells C ty (0,0)))(hS:∀ o,¬ gh.S k o)(h0:gh.κ k≠.none)(ht:∀ l,l<H.length->gh.κ k≠.hb l/\∀ j,gh.κ k≠.hs l j)
  {cs:List AV} (hlen:cs.length<=C.size) (fi:∀ (j:Nat) (u:Value) (x:AV),C[j]?=some u->cs[j]?=some x->u.oneCell'=true/\VR gh H.length w u x) (hr:cs.all (aV H.length)=true) :
  aK G base (H++[.box aJ cs]) (gh.kE k H.length) w:=by
 have aU:k<w.heap.size:=(aoY.1 hk).1
 have st:=pw hW aU (aoU H.length)
 have hn:∀ l,l<H.length->¬ (ba.hb l=gh.κ k)/\∀ j,¬ (ba.hs l j=gh.κ k):=fun l hl=>⟨fun h=>(ht l hl).1 h.symm,fun j h=>(ht l hl).2 j h.symm⟩
 have last:∀ {loc:Nat} {o:cj},(H++[cj.box aJ cs])[loc]?=some o->¬ loc<H.length->loc=H.length/\o=.box aJ cs:=by
  intro loc o hl hge
  rw[ao5 (by omega)] at hl
  have hz:loc=H.length:=by
   have:=(aoR.1 hl).1
   simp at this;omega
  subst hz
  simp at hl
  exact⟨rfl,hl.symm⟩
 refine⟨hW.size,hW.mX,fun b hb=>?_,fun g j x hx=>?_,fun loc kC ds hl=>?_,fun loc kC ds hl=>?_,hW.wL,hW.bytes,fun loc o hl=>?_,fun loc kC ds hl hf=>?_⟩
 ·have iO:(if b=k then ba.hb H.length else gh.κ b)≠.none:=hb
  split at iO
  ·rename_i e;rw[e];exact hW.ow k h0
  ·exact hW.ow b iO
 ·obtain⟨v,h1,h2,h3⟩:=hW.aN g j x hx
  exact⟨v,h1,h2.mono st.S st.cell st.mp,h3⟩
 ·rw[ao6,apt]
  by_cases iH:loc<H.length
  ·rw[ao7 iH] at hl
   have h:=(hW.boxes loc kC ds hl).mono st (n':=H.length+1) (apH _) (hn loc iH).1 (hn loc iH).2
   rw[st.ρ loc iH];exact h
  ·obtain⟨rfl,ho⟩:=last hl iH
   injection ho with pP qx
   subst pP qx
   have hρ:(gh.kE k H.length).ρ H.length=k:=by simp[Gh.kE]
   rw[hρ]
   refine⟨by simp[Gh.kE,Gh.ma],hS,C,ty,hk,hlen,fun j v x hv hx=>?_⟩
   obtain⟨h1,h2⟩:=fi j v x hv hx
   exact⟨h1,.inl (h2.mono st (apH _))⟩
 ·by_cases iH:loc<H.length
  ·rw[ao7 iH] at hl
   exact hW.refs loc kC ds hl
  ·obtain⟨rfl,ho⟩:=last hl iH
   injection ho with pP qx
   subst pP qx
   exact hr
 ·rw[ao6,apt]
  by_cases iH:loc<H.length
  ·rw[ao7 iH] at hl
   rw[st.ρ loc iH]
   exact (hW.more loc o hl).mono st (apH _) (hn loc iH).1 (hn loc iH).2
  ·obtain⟨rfl,rfl⟩:=last hl iH
   trivial
 ·by_cases iH:loc<H.length
  ·rw[ao7 iH] at hl
   rw[st.ρ loc iH]
   exact hW.types loc kC ds hl hf
  ·obtain⟨rfl,ho⟩:=last hl iH
   injection ho with pP qx
   exact absurd pP hf
theorem aK.Zs(hW:aK G base H gh w){k:Nat}{C:Array Value}{ty:TypeId}(hk:w.heap[k]?=some (.cells C ty (0,0)))(hS:∀ o,¬ gh.S k o)(h0:gh.κ k≠.none)(ht:∀ l,l<H.length->gh.κ k≠.hb l/\∀ j,gh.κ k≠.hs l j)
  {cs:List AV} (hlen:cs.length<=C.size) (fi:∀ (j:Nat) (u:Value) (x:AV),C[j]?=some u->cs[j]?=some x->u.oneCell'=true/\VR gh H.length w u x) :
  aK G base (H++[.ca cs]) (gh.kE k H.length) w:=by
 have aU:k<w.heap.size:=(aoY.1 hk).1
 have st:=pw hW aU (aoU H.length)
 have hn:∀ l,l<H.length->¬ (ba.hb l=gh.κ k)/\∀ j,¬ (ba.hs l j=gh.κ k):=fun l hl=>⟨fun h=>(ht l hl).1 h.symm,fun j h=>(ht l hl).2 j h.symm⟩
 have last:∀ {loc:Nat} {o:cj},(H++[cj.ca cs])[loc]?=some o->¬ loc<H.length->loc=H.length/\o=.ca cs:=by
  intro loc o hl hge
  rw[ao5 (by omega)] at hl
  have hz:loc=H.length:=by
   have:=(aoR.1 hl).1
   simp at this;omega
  subst hz
  simp at hl
  exact⟨rfl,hl.symm⟩
 refine⟨hW.size,hW.mX,fun b hb=>?_,fun g j x hx=>?_,fun loc kC ds hl=>?_,fun loc kC ds hl=>?_,hW.wL,hW.bytes,fun loc o hl=>?_,fun loc kC ds hl hf=>?_⟩
 ·have iO:(if b=k then ba.hb H.length else gh.κ b)≠.none:=hb
  split at iO
  ·rename_i e;rw[e];exact hW.ow k h0
  ·exact hW.ow b iO
 ·obtain⟨v,h1,h2,h3⟩:=hW.aN g j x hx
  exact⟨v,h1,h2.mono st.S st.cell st.mp,h3⟩
 ·rw[ao6,apt]
  by_cases iH:loc<H.length
  ·rw[ao7 iH] at hl
   have h:=(hW.boxes loc kC ds hl).mono st (n':=H.length+1) (apH _) (hn loc iH).1 (hn loc iH).2
   rw[st.ρ loc iH];exact h
  ·obtain⟨rfl,ho⟩:=last hl iH
   cases ho
 ·by_cases iH:loc<H.length
  ·rw[ao7 iH] at hl
   exact hW.refs loc kC ds hl
  ·obtain⟨rfl,ho⟩:=last hl iH
   cases ho
 ·rw[ao6,apt]
  by_cases iH:loc<H.length
  ·rw[ao7 iH] at hl
   rw[st.ρ loc iH]
   exact (hW.more loc o hl).mono st (apH _) (hn loc iH).1 (hn loc iH).2
  ·obtain⟨rfl,rfl⟩:=last hl iH
   have hρ:(gh.kE k H.length).ρ H.length=k:=by simp[Gh.kE]
   rw[hρ]
   refine⟨by simp[Gh.kE,Gh.ma],hS,C,ty,hk,hlen,fun j v x hv hx=>?_⟩
   obtain⟨h1,h2⟩:=fi j v x hv hx
   exact⟨h1,.inl (h2.mono st (apH _))⟩
 ·by_cases iH:loc<H.length
  ·rw[ao7 iH] at hl
   rw[st.ρ loc iH]
   exact hW.types loc kC ds hl hf
  ·obtain⟨rfl,ho⟩:=last hl iH
   cases ho
theorem PR.aaq{S:Nat->Nat->Prop}{v:Value}{x:AV}(h:PR S w v x)(hp:x.plain=true)(m:Nat):aV m x=true:=by
 cases h<;>first|rfl|exact hp
theorem Xa{gq:Gh}{w0:World}(hI:Inv G base nt L H gq w0 s gh w a){m:Nat}(hm:m<=s.H.length):∀ (l:List ResultVar) (rs:List fZ) (xs:List AV) (q:Option (List (List AV))),l.length=rs.length->(∀ (j:Nat) (r:ResultVar) (i:fZ),l[j]?=some r->rs[j]?=some i ->
    (∃ t,r=.tmp t/\i=.tmp t/\t<nt)\/∃ t ty g sz,r=.cell t ty/\i=.cell t g sz/\t<nt/\kQ P ty=some g/\de P ty=some sz)->vu s m rs=some (xs,q) ->
    ∃ vs:List Value,l.length=vs.length/\vs.length=xs.length/\(∀ (j:Nat) (r:ResultVar) (v:Value),l[j]?=some r->vs[j]?=some v->(nF a.tmps r).run P w=.ok v w) /\
     (q=none->∀ (j:Nat) (v:Value) (x:AV),vs[j]?=some v->xs[j]?=some x->VR gh m w v x) /\
     ∀ e,q=some e->∃ b g,b<nt/\s.T b=.lsl g e/\e≠[]/\(e.all fun r=>r.all AV.plain)=true/\∀ (j:Nat) (v:Value) (x:AV),vs[j]?=some v->xs[j]?=some x->VR gh m w v x\/(x=.sref m 0 e.length (SO e)/\v=fj a b):=by
 intro l
 induction l with
 | nil =>
  intro rs xs q hl _ h
  have:rs=[]:=aqJ.1 (by simpa using hl.symm)
  subst this
  simp only[vu,aoQ,aoS] at h
  obtain⟨rfl,rfl⟩:=h
  exact⟨[],rfl,rfl,fun j r v h=>by simp at h,fun _ j v x h=>by simp at h,fun e h=>by cases h⟩
 | cons rv l ih =>
  intro rs xs q hl hc h
  cases rs with
  | nil=>simp at hl
  | cons i rs =>
   simp only[vu,aoP] at h
   obtain⟨⟨ys,q'⟩,Mu,h⟩:=h
   obtain⟨vs,k1,k2,k3,k4,k5⟩:=ih rs ys q' (by simpa using hl) (fun j r i hr hi=>hc (j+1) r i (by simpa using hr) (by simpa using hi)) Mu
   have NG:=hc 0 rv i rfl rfl
   have runs:∀ v,(nF a.tmps rv).run P w=.ok v w->∀ (j:Nat) (r:ResultVar) (u:Value),(rv :: l)[j]?=some r->(v :: vs)[j]?=some u->(nF a.tmps r).run P w=.ok u w:=by
    intro v h1 j r u hr hu
    cases j with
    | zero=>simp at hr hu;subst hr hu;exact h1
    | succ j=>exact k3 j r u (by simpa using hr) (by simpa using hu)
   split at h
   ·rename_i b bE
    split at h
    ·rename_i gg e hT
     obtain⟨h0,h⟩:=ab h
     simp only[Bool.and_eq_true,aqj,apB,aqD] at h0
     simp only[aoQ,aoS] at h
     obtain⟨rfl,rfl⟩:=h
     obtain⟨⟨YV,bB⟩,mf⟩:=h0
     rcases NG with ⟨t,rfl,rfl,ht⟩|⟨t,ty,g,sz,rfl,rfl,_⟩
     ·have hb:b<nt/\fj a t=fj a b:=by
       simp only[mr] at bE
       have pn:=hI.F.slot t ht
       change SR gh s.H.length nt w s.T s.gen (fj a) t (fj a t) (s.T t) at pn
       split at bE
       ·injection bE with bE;subst bE;exact⟨ht,rfl⟩
       ·rename_i b' g Uz
        rw[Uz] at pn
        obtain⟨fP,_,hv⟩:=pn
        split at bE
        ·rename_i g' e' Uy
         obtain⟨h0,bE⟩:=ab bE
         injection bE with bE
         subst bE
         have Dp:g=g':=by simpa [dR] using h0
         exact⟨fP,hv (by rw[Uy,Dp];rfl)⟩
        ·cases bE
       ·cases bE
      refine⟨fj a t :: vs,by simp[k1],by simp[k2],runs _ rfl,(fun h=>by cases h),fun e' uS=>?_⟩
      injection uS with uS
      subst uS
      refine⟨b,gg,hb.1,hT,bB,mf,fun j u x hu hx=>?_⟩
      cases j with
      | zero=>simp at hu hx;subst hu hx;exact .inr ⟨rfl,hb.2⟩
      | succ j=>exact .inl (k4 YV j u x (by simpa using hu) (by simpa using hx))
     ·cases bE
    ·cases h
   ·simp only[aoP] at h
    obtain⟨z,hz,h⟩:=h
    obtain⟨h0,h⟩:=ab h
    simp only[aoQ,aoS] at h
    obtain⟨rfl,rfl⟩:=h
    obtain⟨v,h1,h2⟩:=yT (P:=P) hI.W hI.F NG hz
    have hv:VR gh m w v z.aX:=by
     rcases h2 with ⟨t,_,_,_,_,kD⟩|Cm
     ·exact (jj kD.dropped).bn h0
     ·exact (jj Cm.dropped).bn h0
    refine⟨v :: vs,by simp[k1],by simp[k2],runs v h1,fun hq j u x hu hx=>?_,fun e he=>?_⟩
    ·cases j with
     | zero=>simp at hu hx;subst hu hx;exact hv
     | succ j=>exact k4 hq j u x (by simpa using hu) (by simpa using hx)
    ·obtain⟨b,g,c1,c2,c3,c4,c5⟩:=k5 e he
     refine⟨b,g,c1,c2,c3,c4,fun j u x hu hx=>?_⟩
     cases j with
     | zero=>simp at hu hx;subst hu hx;exact .inl hv
     | succ j=>exact c5 j u x (by simpa using hu) (by simpa using hx)
theorem XS{gq:Gh}{w0:World}(ig:clean gq)(hI:Inv G base nt L H gq w0 s gh w a){fn:Func}{rs:List fZ}(hc:jA P nt fn.results.toList=some rs){r:AV}{c:Option fQ}(hold:∀ aH w',aK G base s.H aH w'->vI s.H H.length aH w')(he:pL H.length rs s=some (r,c)) :
  ∃ v aH,(results fn a.tmps).run P w=.ok v w/\lG G base H gq w0 r c v aH w:=by
 obtain⟨ajo,xs,e,hq,rfl,rfl⟩:=xQ he
 obtain⟨hl,qX⟩:=jh hc
 have hlen:=hI.lo.len
 obtain⟨vs,k1,k2,k3,_,k5⟩:=Xa (P:=P) hI hlen _ _ xs (some e) hl qX hq
 obtain⟨b,g,hb,hT,bB,mf,gE⟩:=k5 e rfl
 have cz:=js (P:=P) (w:=w) (fn:=fn) (tmps:=a.tmps) k1 k3
 rw[dif_neg (by intro h;apply ajo;rw[<- hl,k1];simpa using h)] at cz
 obtain⟨ad,cap,hV,⟨h0,_⟩|⟨k,C,ty,sz,_,rfl,hκ,hS,hk,hC,hle,hr,fi⟩⟩:=nI hI.F hb hT
 ·exact absurd h0 bB
 have aay:k<w.heap.size:=(aoY.1 hk).1
 have hWp:=hI.W.C5 hlen (hold _ _ hI.W)
 have Ko:(s.H.take H.length).length=H.length:=by simp;omega
 have bE:∀ r∈e,r.length=sz:=fun r hm=>by obtain⟨i,hi⟩:=apw hm;exact hr i r hi
 have h0:gh.κ k≠.none:=by rw[hκ];simp
 have h1:gh.κ k≠.outer:=by rw[hκ];simp
 have ht:∀ l,l<(s.H.take H.length).length->gh.κ k≠.hb l/\∀ j,gh.κ k≠.hs l j:=fun l _=>by rw[hκ];simp
 have kR:=hWp.kE hk hS h0 ht (cs:=e.flatten) (by rw[vS e bE,hC];exact apl _ hle)
  (fun j u x hu hx=>by
   obtain⟨i,j',r,e1,e2,rfl⟩:=s7 e j x bE hx
   obtain⟨u',PM,hp⟩:=fi i j' r x e1 e2
   rw[hu] at PM
   injection PM with PM
   subst PM
   exact⟨hp.dX,.plain _ _ hp⟩)
  (aoV.2 fun x hx=>by
   obtain⟨j,hj⟩:=apw hx
   obtain⟨i,j',r,e1,e2,_⟩:=s7 e j x bE hj
   obtain⟨u',_,hp⟩:=fi i j' r x e1 e2
   exact hp.aaq (aoV.1 (aoV.1 mf r (ao0 e1)) x (ao0 e2)) _)
 rw[Ko] at kR
 have y5:=pw hI.W aay (m:=H.length) (aoU H.length)
 have hE:Ext H.length gh w (gh.kE k H.length) w:=⟨y5.mono (fun r h=>by rw[h];exact⟨h0,h1⟩),fun b' fP=>by
  have iO:(if b'=k then ba.hb H.length else gh.κ b')=.outer:=fP
  split at iO
  ·cases iO
  ·exact iO⟩
 have xW:=hI.E.trans hE (aoU _)
 have IS:(oy H (some ⟨s.H.take H.length++[.box aJ e.flatten],s.lo⟩)).length=H.length+1:=by simp[oy];omega
 refine⟨_,_,cz,by rw[IS];omega,kR,?_,xW.out,?_⟩
 ·have st:=xW.step
  refine⟨st.S,st.cell,st.size,st.os,st.tape,st.output,fun b hb hn=>st.zi b hb (fun ht=>hn ?_),st.fresh,st.ρ,st.len,st.mp⟩
  rcases ig b with h|h|h|h
  ·exact absurd h ht.1
  ·exact absurd h ht.2
  ·exact .inl h
  ·exact .inr h
 ·rw[IS]
  refine .inl (.tuple vs.toArray xs (by simpa using k2) (fun j v x hv hx=>?_))
  rcases gE j v x (by simpa using hv) hx with h|⟨rfl,rfl⟩
  ·exact h.mono y5 (apH _)
  ·rw[hV]
   have hρ:(gh.kE k H.length).ρ H.length=k:=by simp[Gh.kE]
   have hrw:SO e=sz:=by
    cases e with
    | nil=>exact absurd rfl bB
    | cons r0 e=>simp[SO,bE r0 (ao9 ..)]
   have:=VR.sref (gh:=gh.kE k H.length) (w:=w) (n:=H.length+1) H.length 0 e.length cap (SO e) (by omega) hle (fun _=>⟨ty,by rw[hρ];exact⟨C,(0,0),hk,by rw[hC,hrw,Nat.zero_add]⟩⟩)
   rw[hρ] at this
   exact this
theorem XQ{gq:Gh}{w0:World}(ig:clean gq)(hI:Inv G base nt L H gq w0 s gh w a){fn:Func}{rs:List fZ}(hc:jA P nt fn.results.toList=some rs){r:AV}{c:Option fQ}(hold:∀ aH w',aK G base s.H aH w'->vI s.H H.length aH w')(he:s5 H.length rs s=some (r,c)) :
  ∃ v aH,(results fn a.tmps).run P w=.ok v w/\lG G base H gq w0 r c v aH w:=by
 obtain⟨i,l,off,n,z,NS,cs,x6,afW,hH,Kp,mf,rfl,rfl⟩:=xO he
 obtain⟨hl,qX⟩:=jh hc
 have hlen:=hI.lo.len
 rw[x6] at hl
 obtain⟨rv,Ms⟩:∃ rv,fn.results.toList=[rv]:=ap8.1 (by simpa using hl)
 have NG:=qX 0 rv i (by rw[Ms];rfl) (by rw[x6];rfl)
 obtain⟨v,h1,h2⟩:=yT (P:=P) hI.W hI.F NG afW
 have hv:VR gh s.H.length w v (.sref l off n z):=by
  rcases h2 with ⟨t,_,_,_,_,kD⟩|Cm
  ·exact kD.dropped
  ·exact Cm
 obtain⟨_,cap,hk,hz,rfl⟩:=hv.jn
 have cz:=js (P:=P) (w:=w) (fn:=fn) (tmps:=a.tmps) (vs:=[.slice (some ⟨gh.ρ l,off,none⟩) n cap]) (by rw[Ms];rfl) (fun j r' v' hr hv=>by
  rw[Ms] at hr
  cases j with
  | zero=>simp at hr hv;subst hr hv;exact h1
  | succ j=>simp at hr)
 obtain⟨hκ,hS,C,ty,hb,hC,fi⟩:=hI.W.boxes l _ cs hH
 have aay:gh.ρ l<w.heap.size:=(aoY.1 hb).1
 have hWp:=hI.W.C5 hlen (hold _ _ hI.W)
 have Ko:(s.H.take H.length).length=H.length:=by simp;omega
 have h0:gh.κ (gh.ρ l)≠.none:=by rw[hκ];simp
 have h1' : gh.κ (gh.ρ l)≠.outer:=by rw[hκ];simp
 have kR:=hWp.Zs hb hS h0 (fun l' Km=>by rw[hκ];rw[Ko] at Km;exact⟨by intro e;injection e with e;omega,by simp⟩) (cs:=cs) hC (fun j u x hu hx=>by
  obtain⟨k1,k2⟩:=fi j u x hu hx
  have hp:=aoV.1 mf x (ao0 hx)
  have:=k2.dropped
  rw[sA hp] at this
  exact⟨k1,.plain _ _ (this.jX hp)⟩)
 rw[Ko] at kR
 have y5:=pw hI.W aay (m:=H.length) (aoU H.length)
 have hE:Ext H.length gh w (gh.kE (gh.ρ l) H.length) w:=⟨y5.mono (fun r h=>by rw[h];exact⟨h0,h1'⟩),fun b' fP=>by
  have iO:(if b'=gh.ρ l then ba.hb H.length else gh.κ b')=.outer:=fP
  split at iO
  ·cases iO
  ·exact iO⟩
 have xW:=hI.E.trans hE (aoU _)
 have IS:(oy H (some ⟨s.H.take H.length++[.ca cs],s.lo⟩)).length=H.length+1:=by simp[oy];omega
 refine⟨_,_,by simpa using cz,by rw[IS];omega,kR,?_,xW.out,?_⟩
 ·have st:=xW.step
  refine⟨st.S,st.cell,st.size,st.os,st.tape,st.output,fun b hb hn=>st.zi b hb (fun ht=>hn ?_),st.fresh,st.ρ,st.len,st.mp⟩
  rcases ig b with h|h|h|h
  ·exact absurd h ht.1
  ·exact absurd h ht.2
  ·exact .inl h
  ·exact .inr h
 ·rw[IS]
  have hρ:(gh.kE (gh.ρ l) H.length).ρ H.length=gh.ρ l:=by simp[Gh.kE]
  have:=VR.sref (gh:=gh.kE (gh.ρ l) H.length) (w:=w) (n:=H.length+1) H.length off n cap z (by omega) hk (fun hz0=>by rw[hρ];exact hz hz0)
  rw[hρ] at this
  exact .inl this
def oK(H:ah)(m k l:Nat):Option (List AV) :=
 ((H[l]?).bind jV).bind fun cs=>cond (cs.all fun x=>(dY H m k x.drop).plain&&jG x) (some (cs.map fun x=>dY H m k x.drop)) none
def aip(gh:Gh)(H:ah)(m:Nat)(b o:Nat):Prop:=gh.S b o\/∃ k l cs,m<=l/\oK H m k l=some cs/\gh.ρ l=b/\o<cs.length
def Gh.Tq(gh:Gh)(H:ah)(m:Nat):Gh:={ gh with S:=aip gh H m }
theorem pM{m k l:Nat}{cs:List AV}(h:oK H m k l=some cs):∃ o ds,H[l]?=some o/\jV o=some ds/\cs=ds.map (fun x=>dY H m k x.drop)/\∀ x,x∈ds->(dY H m k x.drop).plain=true/\jG x=true:=by
 unfold oK at h
 simp only[aoP] at h
 obtain⟨ds,⟨o,ho,hd⟩,h⟩:=h
 obtain⟨h0,h⟩:=ab h
 injection h with h
 refine⟨o,ds,ho,hd,h.symm,fun x hx=>?_⟩
 have:=aoV.1 h0 x hx
 simpa using this
theorem Js(hW:aK G base H gh w){l:Nat}{o:cj}{ds:List AV}(ho:H[l]?=some o)(hd:jV o=some ds):gF gh H.length w (gh.ρ l) (.hb l) (fun j=>.hs l j) ds:=by
 cases o<;>simp only[jV,reduceCtorEq,aoQ] at hd
 ·subst hd;exact hW.boxes l _ _ ho
 ·subst hd;exact hW.more l _ ho
theorem uc(hW:aK G base H gh w)(m n:Nat):Step (fun r=>∃ l,m<=l/\r=.hb l) n gh w (gh.Tq H m) w:=by
 refine⟨fun b o h=>.inl h,fun _ _ _=>rfl,aoU _,rfl,rfl,rfl,fun b hb hn=>⟨.inl rfl,rfl,fun o ho=>?_⟩,fun b hb=>hW.bG b hb,fun _ _=>rfl,fun _ _ _ h=>h,fun _ _ _ _ h=>h⟩
 rcases ho with ho|⟨k,l,cs,hl,hf,hρ,_⟩
 ·exact ho
 ·exfalso
  obtain⟨o',ds,mG,hd,_⟩:=pM hf
  exact hn ⟨l,hl,by rw[<- hρ];exact (Js hW mG hd).1⟩
theorem xT(hW:aK G base H gh w){m k l:Nat}(hV:∀ {v:Value} {x:AV},VR gh H.length w v x->VR (gh.Tq H m) H.length w v (dY H m k x))(hm:m<=l){cs:List AV}(hf:oK H m k l=some cs){j:Nat}{x:AV}(hx:cs[j]?=some x) :
  ∃ v,w.cell? ⟨gh.ρ l,j,none⟩=some v/\PR (gh.Tq H m).S w v x/\(gh.Tq H m).S (gh.ρ l) j/\∀ n,v≠.int .u8 n:=by
 have hf0:=hf
 obtain⟨o',ds,mG,hd,rfl,dq⟩:=pM hf
 obtain⟨hκ,hS,C,NT,hb,hle,cL⟩:=Js hW mG hd
 have Dr:=(aoR.1 hx).1
 simp only[ao1,aoO] at hx
 obtain⟨y,hy,rfl⟩:=hx
 have hj2:=(aoR.1 hy).1
 have hv:C[j]?=some C[j]:=ao2 (by omega)
 obtain⟨k1,k2⟩:=cL j _ y hv hy
 obtain⟨p1,p2⟩:=dq y (ao0 hy)
 refine⟨C[j],by rw[cell_of_row w _ j C NT _ hb];exact hv,(hV k2.dropped).jX p1,.inr ⟨k,l,_,hm,hf0,rfl,Dr⟩,fun n hn=>?_⟩
 have Cm:=k2.dropped
 rw[hn] at Cm
 cases Cm with
 | plain _ _ h =>
  cases y<;>simp only[AV.drop] at h<;>cases h<;>simp[jG] at p2
theorem qG{z:Nat} : ∀ {n:Nat} {l:List AV} {i:Nat} {r:List AV},(chunks z n l)[i]?=some r->i<n/\r=(l.drop (i*z)).take z
 | 0,l,i,r,h=>by simp[chunks] at h
 | n+1,l,0,r,h=>by simp[chunks] at h;exact⟨by omega,by simp[h]⟩
 | n+1,l,i+1,r,h=>by
  simp only[chunks,apf] at h
  obtain⟨h1,h2⟩:=qG h
  refine⟨by omega,?_⟩
  rw[h2,aqr,apy,aqE,aq5 z]
theorem vL{z:Nat} : ∀ {n:Nat} {l:List AV},(chunks z n l).length=n
 | 0,l=>rfl
 | n+1,l=>by simp[chunks,vL]
theorem wV(hW:aK G base H gh w){m:Nat} : ∀ (k:Nat) {v:Value} {x:AV},VR gh H.length w v x->VR (gh.Tq H m) H.length w v (dY H m k x)
 | 0,v,x,h=>h.mono (uc hW m _) (aoU _)
 | d+1,v,x,h=>by
  have ih:=@wV hW m d
  have h0:VR (gh.Tq H m) H.length w v x:=h.mono (uc hW m _) (aoU _)
  unfold dY
  split
  ·rename_i l off k z
   cases hb:Nat.ble m l with
   | false=>exact h0
   | true =>
    rw[cond_true]
    split
    ·rename_i ds wE
     cases iO:(Nat.blt 0 z&&Nat.ble (off+k*z) ds.length&&ds.all fun x=>(dY H m d x.drop).plain&&jG x) with
     | false=>exact h0
     | true =>
      rw[cond_true]
      simp only[Bool.and_eq_true,api,Nat.ble_eq] at iO
      obtain⟨⟨hz,hle⟩,dq⟩:=iO
      have fi:oK H m d l=some (ds.map fun x=>dY H m d x.drop):=by
       unfold oK
       rw[wE,aoW,dq];rfl
      generalize Tr:ds.map (fun x=>dY H m d x.drop)=cs at *
      obtain⟨_,cap,hk,_,rfl⟩:=h.jn
      have Kp:m<=l:=by simpa [Nat.ble_eq] using hb
      have cell:∀ {i j:Nat} {r:List AV} {y:AV},(chunks z k (cs.drop off))[i]?=some r->r[j]?=some y->i<k/\j<z/\cs[off+i*z+j]?=some y:=by
       intro i j r y hi hj
       obtain⟨h1,rfl⟩:=qG hi
       rw[apa] at hj
       split at hj
       ·rename_i h2
        rw[apq,apq] at hj
        exact⟨h1,h2,by rw[<- hj];congr 1;omega⟩
       ·cases hj
      have hlen:cs.length=ds.length:=by rw[<- Tr];simp
      refine .plain _ _ (.slice (gh.ρ l) off k cap z _ (fun i j=>(w.cell? ⟨gh.ρ l,off+i*z+j,none⟩).getD undef) vL hk (fun i r hi=>?_) (fun i j r y hi hj=>?_) (fun i j r y hi hj=>?_))
      ·obtain⟨h1,rfl⟩:=qG hi
       have:(i+1)*z<=k*z:=apl _ h1
       rw[apy] at this
       simp;omega
      ·obtain⟨_,_,hc⟩:=cell hi hj
       obtain⟨u,k1,k2,k3,_⟩:=xT hW ih Kp fi hc
       exact⟨k3,by rw[k1];rfl,by rw[k1];exact k2.dX⟩
      ·obtain⟨_,_,hc⟩:=cell hi hj
       obtain⟨u,k1,k2,_⟩:=xT hW ih Kp fi hc
       rw[k1];exact k2
    ·exact h0
  ·exact h0
theorem Ke(hW:aK G base H gh w){m:Nat}{v:Value}{x:AV}(h:VR gh H.length w v x):VR (gh.Tq H m) H.length w v (L4 H m x):=by
 unfold L4
 split
 ·rename_i cs
  obtain⟨C,rfl,hs,fL,hc⟩:=h.jD
  refine .agg C _ (by simpa using hs) fL (fun j v x hv hx=>?_)
  simp only[ao1,aoO] at hx
  obtain⟨y,hy,rfl⟩:=hx
  exact wV hW Uu (hc j v y hv hy)
 ·exact wV hW Uu h
theorem ae1(hW:aK G base H gh w){m:Nat}(hm:m<=H.length)(hold:vI H m gh w):aK G base (H.take m) (gh.Tq H m) w:=by
 have Mc:=hW.C5 hm hold
 have YR:(H.take m).length=m:=by simp;omega
 have st:=uc hW m (H.take m).length
 have ht:∀ l,l<m->¬ (∃ k,m<=k/\ba.hb l=.hb k)/\∀ j,¬ (∃ k,m<=k/\ba.hs l j=.hb k):=by
  refine fun l hl=>⟨?_,fun j=>?_⟩
  ·rintro ⟨k,hk,h⟩
   injection h with h
   omega
  ·rintro ⟨k,hk,h⟩
   cases h
 have lt:∀ {l:Nat} {o:cj},(H.take m)[l]?=some o->l<m:=fun h=>by have:=(aoR.1 h).1;omega
 refine⟨Mc.size,fun b o ho=>?_,Mc.ow,fun g j x hx=>?_,fun loc ty cs hl=>?_,Mc.refs,Mc.wL,Mc.j4 st (fun b o n ho=>?_),fun loc o hl=>?_,fun loc ty cs hl=>Mc.types loc ty cs hl⟩
 ·rcases ho with ho|⟨k,l,cs,hl,hf,rfl,_⟩
  ·exact hW.mX b o ho
  ·obtain⟨o',ds,mG,hd,_⟩:=pM hf
   obtain⟨_,_,C,NT,hb,_⟩:=Js hW mG hd
   exact (aoY.1 hb).1
 ·obtain⟨v,h1,h2,h3⟩:=Mc.aN g j x hx
  exact⟨v,h1,h2.mono st.S st.cell st.mp,st.S g j h3⟩
 ·exact (Mc.boxes loc ty cs hl).mono st (aoU _) (ht loc (lt hl)).1 (ht loc (lt hl)).2
 ·rcases ho with ho|⟨k,l,cs,hl,hf,rfl,aU⟩
  ·exact .inl ho
  ·refine .inr fun hc=>?_
   obtain⟨v,k1,_,_,k4⟩:=xT hW (wV hW k) hl hf (aoT aU)
   rw[k1] at hc
   injection hc with hc
   exact absurd hc (k4 n)
 ·exact (Mc.more loc o hl).mono st (aoU _) (ht loc (lt hl)).1 (ht loc (lt hl)).2
theorem XR{gq:Gh}{w0:World}(ig:clean gq)(hI:Inv G base nt L H gq w0 s gh w a){fn:Func}{rs:List fZ}(hc:jA P nt fn.results.toList=some rs){r:AV}{c:Option fQ}(hold:∀ aH w',aK G base s.H aH w'->vI s.H H.length aH w')(he:pK H.length rs s=some (r,c)) :
  ∃ v aH,(results fn a.tmps).run P w=.ok v w/\lG G base H gq w0 r c v aH w:=by
 obtain⟨hr,hlv,pN⟩:=xP he
 have hlen:=hI.lo.len
 have qt:=(Kc hI.lo pN).2
 have AG:(oy H c).length=H.length:=by rw[qt];simp;omega
 have y5:=uc hI.W H.length H.length
 have NF:Ext H.length gh w (gh.Tq s.H H.length) w:=⟨y5.mono (fun r h=>by obtain⟨l,_,rfl⟩:=h;exact⟨by simp,by simp⟩),fun b hb=>hb⟩
 have fin:∀ {v:Value},(results fn a.tmps).run P w=.ok v w->VR (gh.Tq s.H H.length) s.H.length w v r->∃ v aH,(results fn a.tmps).run P w=.ok v w/\lG G base H gq w0 r c v aH w:=by
  intro v h1 h4
  have hE:=hI.E.trans NF (aoU _)
  refine⟨v,_,h1,ap0 AG.symm,by rw[qt];exact ae1 hI.W hlen (hold _ _ hI.W),?_,hE.out,by rw[AG];exact .inl (h4.leaves hlv)⟩
  have st:=hE.step
  refine⟨st.S,st.cell,st.size,st.os,st.tape,st.output,fun b hb hn=>st.zi b hb (fun ht=>hn ?_),st.fresh,st.ρ,st.len,st.mp⟩
  rcases ig b with h|h|h|h
  ·exact absurd h ht.1
  ·exact absurd h ht.2
  ·exact .inl h
  ·exact .inr h
 obtain⟨hl,qX⟩:=jh hc
 have one:∀ (rv:ResultVar) (v:Value),fn.results.toList=[rv]->(nF a.tmps rv).run P w=.ok v w->(results fn a.tmps).run P w=.ok v w:=by
  intro rv v h1 h2
  have:=js (P:=P) (w:=w) (fn:=fn) (tmps:=a.tmps) (vs:=[v]) (by rw[h1];rfl) (fun j r' v' hr hv=>by
   rw[h1] at hr
   cases j with
   | zero=>simp at hr hv;subst hr hv;exact h2
   | succ j=>simp at hr)
  simpa using this
 unfold uG at hr
 split at hr
 ·rename_i i
  have Kr:([i]:List fZ)=[i]:=rfl
  rw[Kr] at hl
  obtain⟨rv,Ms⟩:∃ rv,fn.results.toList=[rv]:=ap8.1 (by simpa using hl)
  have NG:=qX 0 rv i (by rw[Ms];rfl) (by rw[Kr];rfl)
  simp only[aoO] at hr
  obtain⟨z,hz,rfl⟩:=hr
  obtain⟨v,h1,h2⟩:=yT (P:=P) hI.W hI.F NG hz
  have hv:VR gh s.H.length w v z.aX:=by
   rcases h2 with ⟨t,_,_,_,_,kD⟩|Cm
   ·exact jj kD.dropped
   ·exact jj Cm.dropped
  exact fin (one _ _ Ms h1) (Ke hI.W hv)
 ·rename_i bB
  simp only[aoO] at hr
  obtain⟨xs,hxs,rfl⟩:=hr
  obtain⟨vs,k1,k2,k3,k4⟩:=Db (P:=P) hI.W hI.F _ _ xs hl qX hxs
  have sE:vs.length≠1:=by
   intro h
   rw[<- k1,hl] at h
   obtain⟨i,hi⟩:=ap8.1 h
   exact bB i hi
  have cz:=js (P:=P) (w:=w) (fn:=fn) (tmps:=a.tmps) k1 k3
  rw[dif_neg (by simpa using sE)] at cz
  refine fin cz (.tuple vs.toArray _ (by simpa using k2) (fun j v x hv hx=>?_))
  simp only[ao1,aoO] at hx
  obtain⟨y,hy,rfl⟩:=hx
  exact Ke hI.W (k4 j v y (by simpa using hv) hy)
theorem XP{gq:Gh}{w0:World}(ig:clean gq)(hI:Inv G base nt L H gq w0 s gh w a){fn:Func}{rs:List fZ}(hc:jA P nt fn.results.toList=some rs){r:AV}{c:Option fQ}(he:xM rs s=some (r,c)) :
  ∃ v aH,(results fn a.tmps).run P w=.ok v w/\lG G base H gq w0 r c v aH w:=by
 obtain⟨bB,xs,hxs,rfl,rfl⟩:=xN he
 obtain⟨hl,qX⟩:=jh hc
 obtain⟨vs,k1,k2,k3,k4⟩:=Db (P:=P) hI.W hI.F _ _ xs hl qX hxs
 have sE:vs.length≠1:=by
  intro h
  rw[<- k1,hl] at h
  exact bB h
 have cz:=js (P:=P) (w:=w) (fn:=fn) (tmps:=a.tmps) k1 k3
 rw[dif_neg (by simpa using sE)] at cz
 refine⟨_,gh,cz,hI.lo.len,hI.W,?_,hI.E.out,.inl (.tuple vs.toArray xs (by simpa using k2) (fun j v x hv hx=>k4 j v x (by simpa using hv) hx))⟩
 have st:=hI.E.step
 refine⟨st.S,st.cell,st.size,st.os,st.tape,st.output,fun b hb hn=>st.zi b hb (fun ht=>hn ?_),st.fresh,st.ρ,st.len,st.mp⟩
 rcases ig b with h|h|h|h
 ·exact absurd h ht.1
 ·exact absurd h ht.2
 ·exact .inl h
 ·exact .inr h
theorem lu{gq ghI:Gh}{w0 wI:World}(Mc:aK G base H ghI wI)(ig:clean gq)(hI:Inv G base nt L H gq w0 s gh w a){fn:Func}{kK:ax}(hc:jA P nt fn.results.toList=some kK.results){r:AV}{c:Option fQ}(he:finish H.length kK s=some (r,c)) :
  jI H c/\∃ v aH,(results fn a.tmps).run P w=.ok v w/\lG G base H gq w0 r c v aH w:=by
 refine⟨j7 hI.lo he,?_⟩
 rcases vR he with ⟨r0,he,hr⟩|he
 case inr=>exact XP ig hI hc he
 suffices hs:∃ v aH,(results fn a.tmps).run P w=.ok v w/\lG G base H gq w0 r0 c v aH w by
  obtain⟨v,aH,k1,k2⟩:=hs
  rcases hr with rfl|rfl
  ·exact⟨v,aH,k1,k2⟩
  ·exact⟨v,aH,k1,{ k2 with val:=W1 k2.val }⟩
 clear hr
 obtain⟨ho,he⟩:=xS he
 have hold:∀ aH w',aK G base s.H aH w'->vI s.H H.length aH w':=fun aH w' h=>aci Mc hI.lo ho h
 rcases he with he|he|he|he
 ·exact XQ ig hI hc hold he
 ·exact (JF ig hI hc hold he).2
 ·exact XS ig hI hc hold he
 ·exact XR ig hI hc hold he
section
variable {cf:cu}(iu:∀ f args H r c,cf f args H=some (r,c)->jI H c)
include iu
theorem OS{draw:Bool}{o:aj}{z:AV}{s s1:AS}(he:kj G cf draw s o=some (z,s1))(h:dT H s):dT H s1:=by
 have cz:((aq G cf s o.op).bind fun r=>match r.2 with
   | none=>cond (draw&&(aO r.1).isSome) none (some (r.1,s))
   | some s'=>cond draw none (some (r.1,s')))=some (z,s1)->dT H s1:=by
  intro h1
  simp only[aoP] at h1
  obtain⟨⟨z',s'⟩,bc,h1⟩:=h1
  cases s' with
  | none =>
   simp only at h1
   cases hb:(draw&&(aO z').isSome) with
   | true=>rw[hb] at h1;cases h1
   | false =>
    rw[hb] at h1
    simp only[aoZ,aoQ,aoS] at h1
    rw[<- h1.2];exact h
  | some s' =>
   simp only at h1
   cases draw with
   | true=>cases h1
   | false =>
    simp only[aoZ,aoQ,aoS] at h1
    rw[<- h1.2];exact J9 iu bc h
 unfold kj at he
 cases hg:o.guard with
 | none=>rw[hg] at he;exact cz he
 | some gw =>
  obtain⟨g,want⟩:=gw
  rw[hg] at he
  simp only at he
  generalize s.T g=X at he
  cases X with
  | bool b =>
   simp only at he
   cases hc:(b==want) with
   | false =>
    rw[hc] at he
    simp only[aoZ,aoQ,aoS] at he
    rw[<- he.2];exact h
   | true=>rw[hc] at he;exact cz he
  | tuple vs =>
   cases vs with
   | nil=>simp only[aoQ,aoS] at he;rw[<- he.2];exact h
   | cons v vs=>cases he
  | _=>cases he
theorem qP{draw:Bool} : ∀ (is:List aj) (s s' : AS),bK G cf draw is s=some s'->dT H s->dT H s'
 | [],s,s',he,h=>by simp only[bK,aoQ] at he;rw[<- he];exact h
 | o :: r,s,s',he,h=>by
  simp only[bK,aoP,nk,aoO] at he
  obtain⟨s1,⟨⟨z,s2⟩,hz,rfl⟩,he⟩:=he
  have h2:=OS iu hz h
  exact qP r _ s' he (h2.dS (gG _ _ _).1 (gG _ _ _).2.2)
theorem qO(n:Nat):∀ (c:bJ) (s s' : AS) (ex:bp),im G cf n c s=some (ex,s')->dT H s->dT H s'
 | .skip,s,s',ex,he,h=>by simp only[im,aoQ,aoS] at he;rw[<- he.2];exact h
 | .region d ops,s,s',ex,he,h=>by
  simp only[im,aoO,aoS] at he
  obtain⟨s2,he,_,rfl⟩:=he
  exact qP iu ops s s2 he h
 | .seq a b,s,s',ex,he,h=>by
  simp only[im,aoP] at he
  obtain⟨⟨e1,s1⟩,h1,he⟩:=he
  have h2:=qO n a s s1 e1 h1 h
  cases e1 with
  | normal=>exact qO n b s1 s' ex he h2
  | _=>simp only[aoQ,aoS] at he;rw[<- he.2];exact h2
 | .cond c a b,s,s',ex,he,h=>by
  simp only[im] at he
  split at he
  ·rename_i t _
   cases t with
   | true=>exact qO n a s s' ex he h
   | false=>exact qO n b s s' ex he h
  ·cases he
 | .block id a,s,s',ex,he,h=>by
  simp only[im,aoO] at he
  obtain⟨⟨e1,s1⟩,h1,he⟩:=he
  have h2:=qO n a s s1 e1 h1 h
  cases e1<;>(simp only[aoS] at he;rw[<- he.2];exact h2)
 | .loop a,s,s',ex,he,h=>by
  simp only[im] at he
  have go:∀ (m:Nat) (s:AS),iter (im G cf n a) m s=some (ex,s')->dT H s->dT H s':=by
   intro m
   induction m with
   | zero=>intro s h;cases h
   | succ m ih =>
    intro s h1 h
    simp only[iter,aoP] at h1
    obtain⟨⟨e1,s1⟩,h1,h2⟩:=h1
    have h3:=qO n a s s1 e1 h1 h
    cases e1 with
    | normal=>exact ih s1 h2 h3
    | _=>simp only[aoQ,aoS] at h2;rw[<- h2.2];exact h3
  exact go n s he h
 | .exit id,s,s',ex,he,h=>by simp only[im,aoQ,aoS] at he;rw[<- he.2];exact h
 | .ret,s,s',ex,he,h=>by simp only[im,aoQ,aoS] at he;rw[<- he.2];exact h
 | .tG _ _ _,s,s',ex,he,h=>by simp[im] at he
end
def Gh.taken(gh:Gh):Gh:={ gh with κ:=fun b=>match gh.κ b with|.par j=>.sl j|o=>o }
def agi(p:ba):Prop:=∃ j,p=.par j
theorem tC(hW:aK G base H gh w)(n:Nat):Step agi n gh w gh.taken w:=by
 refine⟨fun _ _ h=>h,fun _ _ _=>rfl,aoU _,rfl,rfl,rfl,fun b hb hn=>⟨.inl rfl,?_,fun _ h=>h⟩,fun b hb=>?_,fun _ _=>rfl,fun _ _ _ h=>h,fun _ _ _ _ h=>h⟩
 ·simp only[Gh.taken]
  cases h:gh.κ b<;>first|rfl|skip
  exact absurd ⟨_,h⟩ hn
 ·simp only[Gh.taken,hW.fresh b hb]
  simp
theorem Yj(hW:aK G base H gh w):aK G base H gh.taken w:=by
 refine hW.step (tC hW H.length) (fun l=>⟨fun h=>(by obtain⟨j,h⟩:=h;cases h),fun k h=>(by obtain⟨j,h⟩:=h;cases h)⟩) hW.mX (fun b hb=>hW.ow b fun h=>hb ?_) (fun _ _ _ h=>.inl h)
 simp[Gh.taken,h]
theorem Tf(hW:aK G base H gh w){n j:Nat}{v:Value}{x:AV}(h:CR gh n w (.par j) v x):CR gh.taken n w (.sl j) v x:=by
 have st:=tC hW n
 rcases h with h|⟨e,rfl,h1,h2⟩
 ·exact .inl (h.mono st (aoU _))
 ·refine .inr ⟨e,rfl,h1,?_⟩
  obtain⟨b,cap,C,ty,lo,hi,sz,k1,k2,k3,k4,k5⟩:=h2
  exact⟨b,cap,C,ty,lo,hi,sz,k1,by simp[Gh.taken,k2],k3,k4,k5⟩
theorem um{H:ah}{fn:Func}{locals muts:List Nat}{args:List AV}{gh:Gh}{w:World}{vs:Array Value}(hW:aK G base H gh w)(po:vs.size=args.length)(gA:vs.size<=fn.ntmps)(cr:∀ (j:Nat) (v:Value) (x:AV),vs[j]?=some v->args[j]?=some x->CR gh H.length w (.par j) v x) :
  Inv G base fn.ntmps (locals++muts) H gh w ({ T:=gn args,H,lo:=H.length,gen:=0 } : AS) gh.taken w { tmps:=vs++Array.replicate (fn.ntmps-vs.size) undef,defers:=[] }:=by
 have dA:∀ b,w.heap.size<=b->gh.κ b≠.outer:=fun b hb=>hW.bG b hb
 have hE:Ext H.length gh w gh.taken w:=⟨(tC hW H.length).mono (fun p hp=>by obtain⟨j,rfl⟩:=hp;simp[pg]),fun b hb=>by
  simp only[Gh.taken] at hb
  cases h:gh.κ b<;>rw[h] at hb<;>first|exact hb|cases hb⟩
 refine⟨Yj hW,⟨⟨rfl,by simp;omega,fun i hi=>?_⟩,fun i hi=>?_⟩,hE,⟨aoU _,aoU _,fun _ _=>rfl⟩⟩
 ·have kD:CR gh.taken H.length w (.sl i) ((vs++Array.replicate (fn.ntmps-vs.size) undef).getD i undef) (gn args i):=by
   by_cases aU:i<vs.size
   ·have h1:=ao2 aU
    have h2:=aoT (show i<args.length by omega)
    have h3:=cr i _ _ h1 h2
    have e1:(vs++Array.replicate (fn.ntmps-vs.size) undef).getD i undef=vs[i]:=by
     rw[aqT,arn aU,h1];rfl
    have e2:gn args i=args[i]:=by simp only[gn,apg,h2];rfl
    rw[e1,e2]
    exact Tf hW h3
   ·have e1:(vs++Array.replicate (fn.ntmps-vs.size) undef).getD i undef=undef:=by
     rw[aqT,Array.getElem?_append_right (by omega)]
     by_cases h:i-vs.size<fn.ntmps-vs.size
     ·simp[h]
     ·simp[h]
    have e2:gn args i=.undef:=by simp only[gn,apg,aqc (show args.length<=i by omega)];rfl
    rw[e1,e2]
    exact .inl .undef
  exact lx kD.al kD
 ·exfalso
  have hn:aO (gn args i)=none:=by
   by_cases aU:i<args.length
   ·have h1:=ao2 (show i<vs.size by omega)
    have h2:=aoT aU
    have e2:gn args i=args[i]:=by simp only[gn,apg,h2];rfl
    rw[e2]
    exact iN (cr i _ _ h1 h2).al
   ·have e2:gn args i=.undef:=by simp only[gn,apg,aqc (show args.length<=i by omega)];rfl
    rw[e2];rfl
  have jT:(aO (gn args i)).isSome=true:=hi
  rw[hn] at jT
  cases jT
theorem yV{cf:cu}(iu:cP P G cf)(hm:P.follows .mixedOrders=true){f:FuncId}{fn:Func}(sq:P.funcs[f]?=some fn){bF locals muts:List Nat}{kK:ax}(hc:kU P bF locals muts fn=some kK)
  {n:Nat} {args:List AV} {r:AV} {c:Option fQ} (he:tv G cf n kK args H=some (r,c)) :
  (fn.body.isSome=true/\fn.name≠ "runtime.NumGoroutine")/\jI H c /\
  ∀ (base:Nat) (gh:Gh) (w:World) (vs:Array Value),aK G base H gh w->clean gh->vs.size=args.length->(∀ (j:Nat) (v:Value) (x:AV),vs[j]?=some v->args[j]?=some x->CR gh H.length w (.par j) v x) ->
   Calls P f vs w fun e w'=>∃ v aH,e=.returned v/\lG G base H gh w r c v aH w':=by
 simp only[kU,aoP] at hc
 obtain⟨code,lN,b,hb,rs,x6,hc⟩:=hc
 obtain⟨h0,hc⟩:=ab hc
 injection hc with hc
 subst hc
 simp only[Bool.and_eq_true,Nat.ble_eq,bne_iff_ne,ne_eq] at h0
 simp only[tv] at he
 obtain⟨h1,he⟩:=ab he
 have Md:args.length=fn.params.size+fn.nfree:=by simpa [dR] using h1
 simp only[aoP] at he
 obtain⟨⟨ex,s'⟩,bc,he⟩:=he
 have pN:jI H c:=by
  have qn:=qO (H:=H) (fun f args H r c h=>(iu f args H r c h).2.1) n b _ s' ex bc ⟨aoU _,aoU _,fun _ _=>rfl⟩
  cases ex with
  | normal=>exact j7 qn he
  | exit id=>cases he
  | ret=>exact j7 qn he
 refine⟨⟨by rw[lN];rfl,h0.2⟩,pN,fun base gh w vs hW ig po cr=>?_⟩
 refine calls_of_wp sq lN ?_
 have dA:∀ b,w.heap.size<=b->gh.κ b≠.outer:=fun b hb=>hW.bG b hb
 have gA:vs.size<=fn.ntmps:=by omega
 have hI:=um (locals:=locals) (muts:=muts) hW po gA cr
 refine gx iu hm n code b hb _ s' ex gh.taken w _ _ hI bc (fun a' aH w' iG=>?_)
 have done:finish H.length { bF,locals,muts,nt:=fn.ntmps,np:=fn.params.size+fn.nfree,results:=rs,body:=b } s'=some (r,c) ->
   a'.defers=[]/\∃ v,(results fn a'.tmps).run P w'=.ok v w'/\∃ v' aH,Ending.returned v=.returned v'/\lG G base H gh w r c v' aH w':=by
  intro hf
  obtain⟨_,v,Cl,hv,hR⟩:=lu (P:=P) hW ig iG x6 hf
  exact⟨iG.F.defers,v,hv,v,Cl,rfl,hR⟩
 cases ex with
 | normal=>exact done he
 | exit id=>cases he
 | ret=>exact done he
def jb(P:Program)(G:Nat->List AV)(f:FuncId)(g:List AV->ah->Option (AV × Option fQ)):Prop :=
 ∀ args H r c,g args H=some (r,c)->(∃ fn,P.funcs[f]?=some fn/\fn.body.isSome=true/\fn.name≠ "runtime.NumGoroutine")/\jI H c /\
  ∀ (base:Nat) (gh:Gh) (w:World) (vs:Array Value),aK G base H gh w->clean gh->vs.size=args.length->(∀ (j:Nat) (v:Value) (x:AV),vs[j]?=some v->args[j]?=some x->VR gh H.length w v x) ->
   Calls P f vs w fun e w'=>∃ v aH,e=.returned v/\lG G base H gh w r c v aH w'
structure mZ (P:Program) (A:AP):Prop where
 mixed:P.follows .mixedOrders=true
 fns:∀ f kK,A.fns f=some kK->∃ fn bF locals muts,P.funcs[f]?=some fn/\kU P bF locals muts fn=some kK
 ov:∀ f g,A.ov f=some g->jb P A.aN f g
theorem vb{A:AP}(h:mZ P A):∀ n,cP P A.aN (zd A n)
 | 0=>fun f args H r c he=>by cases he
 | n+1=>fun f args H r c he=>by
  simp only[zd] at he
  split at he
  ·rename_i g hg
   obtain⟨h0,he⟩:=ab he
   obtain⟨k1,k2,k3⟩:=h.ov f g hg args H r c he
   refine⟨k1,k2,fun base gh w vs hW ig po cr=>k3 base gh w vs hW ig po (fun j v x hv hx=>?_)⟩
   rcases cr j v x hv hx with h|⟨e,rfl,_⟩
   ·exact h
   ·have:=aoV.1 h0 _ (ao0 hx)
    simp[pV] at this
  ·split at he
   ·cases he
   ·rename_i kK hf
    obtain⟨fn,bF,locals,muts,sq,hc⟩:=h.fns f kK hf
    obtain⟨⟨h1,h2⟩,h3,h4⟩:=yV (vb h n) h.mixed sq hc he
    exact⟨⟨fn,sq,h1,h2⟩,h3,h4⟩
end
end
end Go.Abs
