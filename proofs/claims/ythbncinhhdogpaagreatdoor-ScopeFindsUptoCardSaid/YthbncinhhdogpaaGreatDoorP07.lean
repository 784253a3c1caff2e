/-
  A part of the proof of ScopeFinds: AbsCode.
-/
import Derived.Test.YthbncinhhdogpaaGreatDoorP06
set_option linter.unusedSimpArgs false
set_option linter.unusedVariables false
set_option linter.defProp false
namespace Go.Abs
section
def bq.KP:bq->Exit
 | .normal=>.normal
 | .exit id=>.exit id
 | .ret=>.ret
section
variable {P:Program}{G:Nat->List AV}{base nt:Nat}{gh:Gh}{w w' : World}{a:Act}{s:AS}{H:ag}{L:List Nat}
theorem Inv.drew{H0:ag}{gC:Gh}{w0:World}(h:Inv G base nt L H0 gC w0 s gh w a):Inv G base nt L H0 gC w0 s gh { w with drawn:=w.drawn+1 } a:=by
 have st:Step (fun _=>False) s.H.length gh w gh { w with drawn:=w.drawn+1 }:=⟨fun _ _ h=>h,fun _ _ _=>rfl,apz _,rfl,rfl,rfl,fun _ _ _=>⟨.inl rfl,rfl,fun _ h=>h⟩,fun b hb=>h.W.bL b hb,fun _ _=>rfl,fun _ _ _ h=>h,fun _ _ _ _ h=>h⟩
 exact⟨h.W.step st (fun l=>⟨id,fun _=>id⟩) h.W.nB h.W.oT (fun _ _ _ h=>.inl h),h.F.grown (H':=s.H) (lo':=s.lo) st (fun i=>⟨id,id,fun _=>id⟩) (apz _),
  h.E.trans ⟨st.mono (fun _ h=>h.elim),fun _ h=>h⟩ h.lo.len,h.lo⟩
theorem gJ{cf:cA}(iI:cU P G cf)(hm:P.follows .mixedOrders=true){H0:ag}{gC:Gh}{w0:World}{bJ locals muts:List Nat}(n:Nat) :
  ∀ (c:Code) (ic:bO),fO P bJ locals muts nt c=some ic->∀ (s s' : AS) (ex:bq) (gh:Gh) (w:World) (a:Act) (Q:Exit->Act->World->Prop),Inv G base nt (locals++muts) H0 gC w0 s gh w a->iG G cf n ic s=some (ex,s') ->
   (∀ a' aK w',Inv G base nt (locals++muts) H0 gC w0 s' aK w' a'->Q ex.KP a' w')->c.wp P Q a w
 | .skip,ic,hc,s,s',ex,gh,w,a,Q,hI,he,hQ=>by
  simp only[fO,apv] at hc
  subst hc
  simp only[iG,apv,apx] at he
  obtain⟨rfl,rfl⟩:=he
  exact wp_skip (hQ a gh w hI)
 | .region id ops draw,ic,hc,s,s',ex,gh,w,a,Q,hI,he,hQ=>by
  simp only[fO,apu] at hc
  obtain⟨is,DY,hc⟩:=hc
  cases hd3:cond draw (xW locals ops.toList is) none with
  | some c3 =>
   rw[hd3] at hc
   injection hc with hc
   subst hc
   obtain⟨rfl,mode,pc,es,h1,h2,rfl⟩:=xX hd3
   simp only[iG,apt,apx] at he
   obtain⟨s2,he,rfl,rfl⟩:=he
   exact wp_region_any hm (FC iI (fun x hx=>apC.2 (.inl hx)) (fun x hx=>apC.2 (.inr hx)) Q hI.drew DY h1 h2 he hQ)
  | none =>
  rw[hd3] at hc
  simp only at hc
  cases hb:(!draw || (!(locals.elem 999998)&&uZ (locals++muts) (ops.toList.zip is))) with
  | false =>
   rw[hb,apE] at hc
   cases h0:(!(locals.elem 999998)&&rR (locals++muts) (ops.toList.zip is)) with
   | false =>
    rw[h0,apE] at hc
    obtain⟨_,hc⟩:=ab hc
    injection hc with hc
    subst hc
    simp[iG] at he
   | true =>
   rw[h0,cond_true] at hc
   injection hc with hc
   subst hc
   cases draw with
   | false=>cases hb
   | true =>
    simp only[drawn,iG] at he
    cases h1:bP G cf false (lU (aB is)) s with
    | none=>rw[h1] at he;cases he
    | some s1 =>
    simp only[h1,Option.map_some,apB] at he
    cases h2:bP G cf true (pD (aB is) is) s1 with
    | none=>rw[h2] at he;cases he
    | some s2 =>
    simp only[h2,Option.map_some,apB] at he
    cases h3:bP G cf false (rQ is) s2 with
    | none=>rw[h3] at he;cases he
    | some s3 =>
    simp only[h3,Option.map_some,apB] at he
    cases h4:bP G cf false (wQ (aB is) is) s3 with
    | none=>rw[h4] at he;cases he
    | some s4 =>
    simp only[h4,Option.map_some,apv,apx] at he
    obtain⟨rfl,rfl⟩:=he
    have hl:ops.size=is.length:=by simpa using (gB DY).1
    exact wp_region_any hm (FB iI (fun x hx=>apC.2 (.inl hx)) (fun x hx=>apC.2 (.inr hx)) Q hI.drew DY (Dn hl (arW.1 h0).2) h1 h2 h3 h4 hQ)
  | true =>
  have h0:=hb
  rw[hb,cond_true] at hc
  injection hc with hc
  subst hc
  simp only[iG,apt,apx] at he
  obtain⟨s2,he,rfl,rfl⟩:=he
  have vg:∀ x,x∈locals->x∈locals++muts:=fun x hx=>apC.2 (.inl hx)
  have vh:∀ x,x∈muts->x∈locals++muts:=fun x hx=>apC.2 (.inr hx)
  cases draw with
  | false=>exact wp_region_list (BA iI vg vh Q ops.toList is s s2 gh w a hI DY he hQ)
  | true =>
   rw[arv,arR] at h0
   have hl:ops.size=is.length:=by simpa using (gB DY).1
   exact wp_region_any hm (IJ iI vg vh Q hI.drew DY (Hf hl (arW.1 h0).2) he hQ)
 | .seq x y,ic,hc,s,s',ex,gh,w,a,Q,hI,he,hQ=>by
  simp only[fO,apu,apt] at hc
  obtain⟨ix,hx,iy,hy,rfl⟩:=hc
  simp only[iG,apu] at he
  obtain⟨⟨e1,s1⟩,h1,he⟩:=he
  refine wp_seq (gJ iI hm n x ix hx s s1 e1 gh w a _ hI h1 (fun a' aK w' iT=>?_))
  cases e1 with
  | normal=>exact gJ iI hm n y iy hy s1 s' ex aK w' a' Q iT he hQ
  | exit id =>
   simp only[apv,apx] at he
   obtain⟨rfl,rfl⟩:=he
   exact hQ a' aK w' iT
  | ret =>
   simp only[apv,apx] at he
   obtain⟨rfl,rfl⟩:=he
   exact hQ a' aK w' iT
 | .cond c x y,ic,hc,s,s',ex,gh,w,a,Q,hI,he,hQ=>by
  simp only[fO,apu,apt] at hc
  obtain⟨iq,hq,ix,hx,iy,hy,rfl⟩:=hc
  simp only[iG] at he
  split at he
  ·rename_i t ht
   have hv:=(cc hI.W hI.F hq ht rfl).jz
   cases t with
   | true=>exact wp_cond_true hv (gJ iI hm n x ix hx s s' ex gh w a Q hI he hQ)
   | false=>exact wp_cond_false hv (gJ iI hm n y iy hy s s' ex gh w a Q hI he hQ)
  ·cases he
 | .block id c,ic,hc,s,s',ex,gh,w,a,Q,hI,he,hQ=>by
  simp only[fO,apt] at hc
  obtain⟨ix,hx,rfl⟩:=hc
  simp only[iG,apt] at he
  obtain⟨⟨e1,s1⟩,h1,he⟩:=he
  refine wp_block (gJ iI hm n c ix hx s s1 e1 gh w a _ hI h1 (fun a' aK w' iT=>?_))
  cases e1 with
  | normal =>
   simp only[apx] at he
   obtain⟨rfl,rfl⟩:=he
   exact hQ a' aK w' iT
  | exit i =>
   simp only[apx] at he
   obtain⟨rfl,rfl⟩:=he
   show if i=id then Q .normal a' w' else Q (.exit i) a' w'
   have:=hQ a' aK w' iT
   rw[dX] at this
   by_cases hi:i=id
   ·rw[if_pos hi];simpa [hi,bq.KP] using this
   ·rw[if_neg hi];simpa [hi,bq.KP] using this
  | ret =>
   simp only[apx] at he
   obtain⟨rfl,rfl⟩:=he
   exact hQ a' aK w' iT
 | .loop c,ic,hc,s,s',ex,gh,w,a,Q,hI,he,hQ=>by
  simp only[fO,apt] at hc
  obtain⟨ix,hx,rfl⟩:=hc
  simp only[iG] at he
  have rounds:∀ (m:Nat) (s:AS) (gh:Gh) (w:World) (a:Act),Inv G base nt (locals++muts) H0 gC w0 s gh w a->iter (iG G cf n ix) m s=some (ex,s')->Code.rounds P c Q m a w:=by
   intro m
   induction m with
   | zero=>intro s gh w a _ h;cases h
   | succ m ih =>
    intro s gh w a hI h
    simp only[iter,apu] at h
    obtain⟨⟨e1,s1⟩,h1,h⟩:=h
    rw[rounds_succ]
    refine gJ iI hm n c ix hx s s1 e1 gh w a _ hI h1 (fun a' aK w' iT=>?_)
    cases e1 with
    | normal=>exact ih s1 aK w' a' iT h
    | exit id =>
     simp only[apv,apx] at h
     obtain⟨rfl,rfl⟩:=h
     exact hQ a' aK w' iT
    | ret =>
     simp only[apv,apx] at h
     obtain⟨rfl,rfl⟩:=h
     exact hQ a' aK w' iT
  exact wp_loop_rounds n (rounds n s gh w a hI he)
 | .exit id,ic,hc,s,s',ex,gh,w,a,Q,hI,he,hQ=>by
  simp only[fO,apv] at hc
  subst hc
  simp only[iG,apv,apx] at he
  obtain⟨rfl,rfl⟩:=he
  exact wp_exit (hQ a gh w hI)
 | .ret,ic,hc,s,s',ex,gh,w,a,Q,hI,he,hQ=>by
  simp only[fO,apv] at hc
  subst hc
  simp only[iG,apv,apx] at he
  obtain⟨rfl,rfl⟩:=he
  exact wp_ret (hQ a gh w hI)
 | .label l,ic,hc,s,s',ex,gh,w,a,Q,hI,he,hQ=>by
  simp only[fO,apv] at hc
  subst hc
  simp only[iG,apv,apx] at he
  obtain⟨rfl,rfl⟩:=he
  exact wp_label (hQ a gh w hI)
 | .scope c,ic,hc,s,s',ex,gh,w,a,Q,hI,he,hQ=>by
  simp only[fO] at hc
  refine wp_scope_straight (gJ iI hm n c ic hc s s' ex gh w a _ hI he (fun a' aK w' iT=>?_))
  have:=hQ a' aK w' iT
  cases ex<;>exact this
 | .rangeFunc _ _ _ _,_,hc,_,_,_,_,_,_,_,_,_,_=>by simp[fO] at hc
 | .goto _,_,hc,_,_,_,_,_,_,_,_,_,_=>by simp[fO] at hc
 | .refuse _,_,hc,_,_,_,_,_,_,_,_,_,_=>by simp[fO] at hc
def nX(tmps:Array Value):ResultVar->Sem Value
 | .tmp t=>pure (tmps.getD t undef)
 | .cell a t=>do loadVar t (<- asAddr (tmps.getD a undef))
theorem tg{g:ResultVar->Sem Value} : ∀ (l:List ResultVar) (vs:List Value),l.length=vs.length->(∀ (j:Nat) (r:ResultVar) (v:Value),l[j]?=some r->vs[j]?=some v->(g r).run P w=.ok v w)->(l.mapM g).run P w=.ok vs w
 | [],[],_,_=>by simp
 | r :: l,v :: vs,hl,h=>by
  have h1:=h 0 r v rfl rfl
  have h2:=tg l vs (by simpa using hl) (fun j r v hr hv=>h (j+1) r v (by simpa using hr) (by simpa using hv))
  simp[List.mapM_cons,h1,h2]
 | [],_ :: _,hl,_=>by simp at hl
 | _ :: _,[],hl,_=>by simp at hl
theorem jF{fn:Func}{tmps:Array Value}{vs:List Value}(hl:fn.results.toList.length=vs.length)(h:∀ (j:Nat) (r:ResultVar) (v:Value),fn.results.toList[j]?=some r->vs[j]?=some v->(nX tmps r).run P w=.ok v w) :
  (results fn tmps).run P w=.ok (if h:vs.toArray.size=1 then vs.toArray[0] else .tuple vs.toArray) w:=by
 have e:results fn tmps=(do let vs <- fn.results.mapM (nX tmps);pure (if h:vs.size=1 then vs[0] else .tuple vs)):=by
  unfold results
  congr 1
 rw[e,Sem.run_bind]
 have h2:(fn.results.mapM (nX tmps)).run P w=.ok vs.toArray w:=by
  rw[Array.mapM_eq_mapM_toList]
  have:=tg (P:=P) (w:=w) fn.results.toList vs hl h
  simp[this]
 rw[h2]
 rfl
theorem jt:∀ {l:List ResultVar} {rs:List gu},jN P nt l=some rs->l.length=rs.length/\∀ (j:Nat) (r:ResultVar) (i:gu),l[j]?=some r->rs[j]?=some i ->
  (∃ t,r=.tmp t/\i=.tmp t/\t<nt)\/∃ t ty g sz,r=.cell t ty/\i=.cell t g sz/\t<nt/\lj P ty=some g/\dg P ty=some sz
 | [],rs,h=>by simp[jN] at h;subst h;exact⟨rfl,fun j r i h=>by simp at h⟩
 | .tmp t :: l,rs,h=>by
  simp only[jN] at h
  obtain⟨h0,h⟩:=ab h
  simp only[apt] at h
  obtain⟨rs',hr,rfl⟩:=h
  obtain⟨h1,h2⟩:=jt hr
  refine⟨by simp[h1],fun j r i hj hi=>?_⟩
  cases j with
  | zero=>simp at hj hi;subst hj hi;exact .inl ⟨t,rfl,rfl,by simpa [ap0] using h0⟩
  | succ j=>exact h2 j r i (by simpa using hj) (by simpa using hi)
 | .cell t ty :: l,rs,h=>by
  simp only[jN] at h
  obtain⟨h0,h⟩:=ab h
  simp only[apu,apt] at h
  obtain⟨g,hg,sz,hs,rs',hr,rfl⟩:=h
  obtain⟨h1,h2⟩:=jt hr
  refine⟨by simp[h1],fun j r i hj hi=>?_⟩
  cases j with
  | zero=>simp at hj hi;subst hj hi;exact .inr ⟨t,ty,g,sz,rfl,rfl,by simpa [ap0] using h0,hg,hs⟩
  | succ j=>exact h2 j r i (by simpa using hj) (by simpa using hi)
theorem zr(hW:aM G base s.H gh w)(hF:FR L nt gh w a s){r:ResultVar}{i:gu}(hc:(∃ t,r=.tmp t/\i=.tmp t/\t<nt)\/∃ t ty g sz,r=.cell t ty/\i=.cell t g sz/\t<nt/\lj P ty=some g/\dg P ty=some sz)
  {z:AV} (hz:iZ s i=some z):∃ v,(nX a.tmps r).run P w=.ok v w/\((∃ t,i=.tmp t/\t<nt/\v=fB a t/\z=s.T t/\CR gh s.H.length w (.sl t) v z)\/VR gh s.H.length w v z):=by
 rcases hc with ⟨t,rfl,rfl,ht⟩|⟨t,ty,g,sz,rfl,rfl,ht,hg,hs⟩
 ·refine⟨fB a t,rfl,.inl ⟨t,rfl,ht,rfl,?_⟩⟩
  simp only[iZ] at hz
  obtain⟨h0,hz⟩:=ab hz
  injection hz with hz
  subst hz
  have h:=hF.slot t ht
  change SR gh s.H.length nt w s.T s.gen (fB a) t (fB a t) (s.T t) at h
  refine⟨rfl,?_⟩
  generalize s.T t=X at h h0
  cases X<;>first|exact h|(simp[aq] at h0)
 ·have h:=hF.slot t ht
  change SR gh s.H.length nt w s.T s.gen (fB a) t (fB a t) (s.T t) at h
  simp only[iZ] at hz
  have run:∀ {b:Nat} {f:Nat->Value} {cs:List AV},fB a t=.pointer (some ⟨b,0,none⟩)->ah false g sz 0 cs=some z->(∀ (j:Nat) (x:AV),cs[j]?=some x->w.cell? ⟨b,0+j,none⟩=some (f j)/\(f j).oneCell'=true/\VR gh s.H.length w (f j) x.drop) ->
    ∃ v,(nX a.tmps (.cell t ty)).run P w=.ok v w/\((∃ t',gu.cell t g sz=.tmp t'/\t' < nt/\v=fB a t'/\z=s.T t'/\CR gh s.H.length w (.sl t') v z)\/VR gh s.H.length w v z):=by
   intro b f cs hb hl hf
   obtain⟨v,h1,h2⟩:=ku (P:=P) hl hg hs hf
   refine⟨v,?_,.inr h2⟩
   have gb:a.tmps.getD t undef=.pointer (some ⟨b,0,none⟩):=hb
   show (do loadVar ty (<- asAddr (a.tmps.getD t undef)):Sem Value).run P w=_
   rw[gb]
   simpa [asAddr] using h1
  split at hz
  ·rename_i gg cs hT
   rw[hT] at h
   obtain⟨_,b,hb,hB⟩:=h
   obtain⟨f,hf⟩:=pj hB
   exact run hb hz hf
  ·rename_i loc hT
   rw[hT] at h
   have hv:=CR.dropped (h:CR gh s.H.length w (.sl t) (fB a t) (.ref loc 0))
   obtain⟨aU,hp⟩:=VR.lS hv
   split at hz
   ·rename_i Ox cs hH
    obtain⟨f,hf⟩:=pj (hW.boxes loc _ cs hH)
    exact run hp hz hf
   ·cases hz
  ·cases hz
theorem freeze(hW:aM G base s.H gh w)(hF:FR L nt gh w a s){b g:Nat}{e:List (List AV)}(hb:b<nt)(hT:s.T b=.lsl g e)(pa:jh e=true) :
  ∃ aK,aM G base s.H aK w/\Ext s.H.length gh w aK w/\CR aK s.H.length w .ret (fB a b) (.slice e true):=by
 obtain⟨ad,cap,hV,⟨rfl,rfl,Gx⟩|⟨k,C,ty,sz,bC,rfl,hκ,hS,hk,hC,hl,hr,fF⟩⟩:=n4 hF hb hT
 ·refine⟨gh,hW,Ext.refl _ _ _ (fun b hb=>hW.bL b hb),.inl ?_⟩
  rw[hV]
  refine .full ad 0 [] ?_ trivial
  cases ad with
  | none=>exact .cW
  | some ad =>
   obtain⟨b',o',sp⟩:=ad
   have:=(Gx _ rfl).1
   simp only at this
   subst this
   exact .slice b' o' 0 0 0 [] (fun _ _=>undef) rfl (apz _) (fun i r h=>by simp at h) (fun i j r x h=>by simp at h) (fun i j r x h=>by simp at h)
 ·have jI:∀ o,gh.S k o->C[o]?=C[o]?:=fun _ _=>rfl
  have hn:gh.κ k≠.none:=by rw[hκ];simp
  have M8:∀ j m,j<e.length*sz->C[j]?=some (.int .u8 m)->ty=iS:=by
   intro j m hj hc
   have cS:iD gh.S w sz (C.toList.take (e.length*sz)).toArray e:=by
    have hle:e.length*sz<=C.size:=by rw[hC];exact ap4 _ hl
    refine⟨by simp;omega,hr,fun i j r x hi hj=>?_⟩
    obtain⟨u,hu,hp⟩:=fF i j r x hi hj
    refine⟨u,?_,hp⟩
    have h1:=(apw.1 hi).1
    have h2:j<sz:=by rw[<- hr i r hi];exact (apw.1 hj).1
    simp only[apW,apR,if_pos (tP h1 h2)]
    simpa using hu
   refine nZ (isB:=false) (m:=m) cS pa (fun h=>by cases h) hj ?_
   simp only[apW,apR,if_pos hj]
   simpa using hc
  have hE:=xx hW hk rfl (fun o=>o<e.length*sz) jI (p:=.ret) (by simp) hn (by rw[hκ];simp) s.H.length
  have lk:=LC hW hk rfl (fun o=>o<e.length*sz) jI M8 .ret hn (by rw[hκ];simp)
  have Qu:=setRow_self w k C ty (0,0) hk
  rw[Qu] at hE lk
  refine⟨_,lk,hE,.inr ⟨e,rfl,?_,k,cap,C,ty,0,0,sz,hV,by simp,bC,hk,hC,hr,hl,aqF _,?_⟩⟩
  ·rw[hV]
   have key:∀ (i j:Nat) (r:List AV) (x:AV),e[i]?=some r->r[j]?=some x->C[i*sz+j]?=some (C.getD (i*sz+j) undef)/\PR gh.S w (C.getD (i*sz+j) undef) x/\i*sz+j<e.length*sz:=by
    intro i j r x hi hj
    obtain⟨u,hu,hp⟩:=fF i j r x hi hj
    have aU:=(apD.1 hu).1
    have:C.getD (i*sz+j) undef=u:=by
     rw[apJ aU] at hu
     injection hu with hu
     simp[aU,hu]
    rw[this]
    exact⟨hu,hp,tP (apw.1 hi).1 (by rw[<- hr i r hi];exact (apw.1 hj).1)⟩
   refine .slice k 0 e.length cap sz e (fun i j=>C.getD (i*sz+j) undef) rfl hl hr (fun i j r x hi hj=>?_) (fun i j r x hi hj=>?_)
   ·obtain⟨h1,h2,h3⟩:=key i j r x hi hj
    refine⟨.inr ⟨rfl,by simpa using h3⟩,?_,h2.fg⟩
    rw[Nat.zero_add,cell_of_row w k _ C ty _ hk];exact h1
   ·exact (key i j r x hi hj).2.1.mono (fun b o h=>.inl h) (fun _ _ _=>rfl) (fun _ _ _ _ h=>h)
  ·rintro o ho (h|⟨_,h⟩)
   ·exact hS o h
   ·omega
theorem VR.aJ{n m:Nat}{v:Value}{x:AV}(h:VR gh n w v x)(hx:x.aJ m=true):VR gh m w v x:=by
 cases x
 case ref loc off =>
  obtain⟨_,rfl⟩:=h.lS
  exact .ref loc off (by simpa [AV.aJ,ap0] using hx)
 case sref loc off k z =>
  obtain⟨_,cap,hk,hz,rfl⟩:=h.jA
  exact .sref loc off k cap z (by simpa [AV.aJ,ap0] using hx) hk hz
 case mref loc =>
  obtain⟨_,rfl⟩:=h.nR
  exact .mref loc (by simpa [AV.aJ,ap0] using hx)
 all_goals exact .plain _ _ (h.kb hx)
theorem VR.bp{n m:Nat}{v:Value}{x:AV}(h:VR gh n w v x)(hx:x.bp m=true):VR gh m w v x:=by
 cases x
 case agg cs =>
  obtain⟨C,rfl,hs,fX,hc⟩:=h.jQ
  exact .agg C cs hs fX (fun j v x hv n8=>(hc j v x hv n8).aJ (apA.1 hx x (apF n8)))
 all_goals exact h.aJ hx
theorem VR.leaves{n m:Nat}{v:Value}{x:AV}(h:VR gh n w v x)(hx:x.leaves m=true):VR gh m w v x:=by
 cases x
 case func f fs cs =>
  simp only[AV.leaves,Bool.and_eq_true] at hx
  obtain⟨us,ts,rfl,h1,h2,h3,h4⟩:=h.rK
  exact .func f us ts fs cs h1 h2 (fun j v x hv n8=>(h3 j v x hv n8).aJ (apA.1 hx.1 x (apF n8))) (fun j v x hv n8=>(h4 j v x hv n8).aJ (apA.1 hx.2 x (apF n8)))
 case iface t y =>
  cases h with
  | plain _ _ h=>exact .plain _ _ h
  | iface _ u _ h=>exact .iface t u y (h.aJ hx)
 case tuple vs =>
  obtain⟨us,rfl,hs,h1⟩:=h.sv
  exact .tuple us vs hs (fun j v x hv n8=>(h1 j v x hv n8).bp (apA.1 hx x (apF n8)))
 case slice e own =>
  cases h with
  | plain _ _ h=>exact .plain _ _ h
  | full a k _ h hz=>exact .full a k e h hz
 all_goals exact h.bp hx
theorem CR.leaves{n m:Nat}{p:bc}{v:Value}{x:AV}(h:CR gh n w p v x)(hx:x.leaves m=true):CR gh m w p v x:=by
 rcases h with h|h
 ·exact .inl (h.leaves hx)
 ·exact .inr h
theorem VR.gT{n m loc:Nat}{v:Value}{x:AV}(h:VR gh n w v x)(hx:gT loc x=true)(hl:loc<m):VR gh m w v x:=by
 cases x
 case ref l off =>
  obtain⟨_,rfl⟩:=h.lS
  have:l<=loc:=by simpa [Abs.gT,Nat.ble_eq] using hx
  exact .ref l off (by omega)
 case sref l off k z =>
  obtain⟨_,cap,hk,hz,rfl⟩:=h.jA
  have:l<=loc:=by simpa [Abs.gT,Nat.ble_eq] using hx
  exact .sref l off k cap z (by omega) hk hz
 case mref l =>
  obtain⟨_,rfl⟩:=h.nR
  have:l<=loc:=by simpa [Abs.gT,Nat.ble_eq] using hx
  exact .mref l (by omega)
 case slice e own =>
  cases h with
  | plain _ _ h=>exact .plain _ _ h
  | full a k _ h hz=>exact .full a k e h hz
 all_goals exact .plain _ _ (h.kb hx)
theorem VR.kZ{n m loc:Nat}{v:Value}{x:AV}(h:VR gh n w v x)(hx:kZ loc x=true)(hl:loc<m):VR gh m w v x:=by
 cases x
 case agg cs =>
  obtain⟨C,rfl,hs,fX,hc⟩:=h.jQ
  exact .agg C cs hs fX (fun j v x hv n8=>(hc j v x hv n8).gT (apA.1 hx x (apF n8)) hl)
 all_goals exact h.gT hx hl
theorem VR.aV{n m loc:Nat}{v:Value}{x:AV}(h:VR gh n w v x)(hx:aV loc x=true)(hl:loc<m):VR gh m w v x:=by
 cases x
 case ref l off =>
  obtain⟨_,rfl⟩:=h.lS
  have:l<=loc:=by simpa [Abs.aV,Nat.ble_eq] using hx
  exact .ref l off (by omega)
 case sref l off k z =>
  obtain⟨_,cap,hk,hz,rfl⟩:=h.jA
  have:l<=loc:=by simpa [Abs.aV,Nat.ble_eq] using hx
  exact .sref l off k cap z (by omega) hk hz
 case mref l =>
  obtain⟨_,rfl⟩:=h.nR
  have:l<=loc:=by simpa [Abs.aV,Nat.ble_eq] using hx
  exact .mref l (by omega)
 case slice e own =>
  cases h with
  | plain _ _ h=>exact .plain _ _ h
  | full a k _ h hz=>exact .full a k e h hz
 case func f fs cs =>
  simp only[Abs.aV,Bool.and_eq_true] at hx
  obtain⟨us,ts,rfl,h1,h2,h3,h4⟩:=h.rK
  exact .func f us ts fs cs h1 h2 (fun j v x hv n8=>(h3 j v x hv n8).kZ (apA.1 hx.1 x (apF n8)) hl) (fun j v x hv n8=>(h4 j v x hv n8).kZ (apA.1 hx.2 x (apF n8)) hl)
 all_goals exact .plain _ _ (h.kb hx)
theorem PR.lower{S:Nat->Nat->Prop}{w0:World}{v0:Value}{x:AV}(h:PR S w0 v0 x){n m:Nat} : ∀ {v:Value},VR gh n w v x->VR gh m w v x:=by
 induction h with
 | iface t v0 x h ih =>
  intro v hv
  cases hv with
  | plain _ _ h=>exact .plain _ _ h
  | iface _ u _ h=>exact .iface t u x (ih h)
 | func f =>
  intro v hv
  cases hv with
  | plain _ _ h=>exact .plain _ _ h
  | func _ fs cs _ _ h1 h2 h3 h4=>exact .func f fs cs [] [] h1 h2 (fun j v x _ hx=>by simp at hx) (fun j v x _ hx=>by simp at hx)
 | _ =>
  intro v hv
  cases hv<;>exact .plain _ _ ‹_›
theorem VR.lower{gC:Gh}{w0:World}{m:Nat}{v0:Value}{x:AV}(h:VR gC m w0 v0 x){n:Nat} : ∀ {v:Value},VR gh n w v x->VR gh m w v x:=by
 induction h with
 | plain v0 x h=>intro v hv;exact h.lower hv
 | full a k e h hz =>
  intro v hv
  cases hv with
  | plain _ _ h=>cases h
  | full a k _ h hz=>exact .full a k e h hz
 | ref loc off h=>intro v hv;obtain⟨_,rfl⟩:=hv.lS;exact .ref loc off h
 | sref loc off k cap z h hk hz=>intro v hv;obtain⟨_,cap,hk,hz,rfl⟩:=hv.jA;exact .sref loc off k cap z h hk hz
 | mref loc h=>intro v hv;obtain⟨_,rfl⟩:=hv.nR;exact .mref loc h
 | func f fs cs xs ys hf hc _ _ ih1 ih2 =>
  intro v hv
  obtain⟨us,ts,rfl,h1,h2,h3,h4⟩:=hv.rK
  refine .func f us ts xs ys h1 h2 (fun j v x hv hx=>?_) (fun j v x hv hx=>?_)
  ·have hj:j<fs.size:=by rw[hf];exact (apw.1 hx).1
   exact ih1 j _ x (apJ hj) hx (h3 j v x hv hx)
  ·have hj:j<cs.size:=by rw[hc];exact (apw.1 hx).1
   exact ih2 j _ x (apJ hj) hx (h4 j v x hv hx)
 | iface t v0 x h ih =>
  intro v hv
  cases hv with
  | plain _ _ h=>exact .plain _ _ h
  | iface _ u _ h=>exact .iface t u x (ih h)
 | agg cs xs hs fX _ ih =>
  intro v hv
  obtain⟨C,rfl,pb,Qo,hc⟩:=hv.jQ
  refine .agg C xs pb Qo (fun j v x hv hx=>?_)
  have hj:j<cs.size:=by rw[hs];exact (apw.1 hx).1
  exact ih j _ x (apJ hj) hx (hc j v x hv hx)
 | tuple vs xs hs _ ih =>
  intro v hv
  obtain⟨us,rfl,pb,h1⟩:=hv.sv
  refine .tuple us xs pb (fun j v x hv hx=>?_)
  have hj:j<vs.size:=by rw[hs];exact (apw.1 hx).1
  exact ih j _ x (apJ hj) hx (h1 j v x hv hx)
def wi(H:ag)(m:Nat)(gh:Gh)(w:World):Prop:=∀ (l:Nat) (cs:List AV),l<m->H[l]?=some (.cj cs)->gR gh m w (gh.ρ l) (.hb l) (fun j=>.hs l j) cs
theorem ac'{ghI:Gh}{wI:World}{H0:ag}(MX:aM G base H0 ghI wI)(qO:dZ H0 s)(ho:nV H0.length s=true)(hW:aM G base s.H gh w):wi s.H H0.length gh w:=by
 intro l cs hl hH
 obtain⟨h1,h2,C,Oy,h3,h4,h5⟩:=(hW.more l _ hH:gR gh s.H.length w (gh.ρ l) (.hb l) (fun j=>.hs l j) cs)
 refine⟨h1,h2,C,Oy,h3,h4,fun j v x hv hx=>⟨(h5 j v x hv hx).1,?_⟩⟩
 have kQ:=(h5 j v x hv hx).2
 by_cases gr:l<s.lo
 ·have hH0:H0[l]?=some (.cj cs):=by rw[<- qO.same l gr];exact hH
  obtain⟨_,_,C0,Ox,g3,g4,g5⟩:=(MX.more l _ hH0:gR ghI H0.length wI (ghI.ρ l) (.hb l) (fun j=>.hs l j) cs)
  have hj:j<C0.size:=by have:=(apw.1 hx).1;omega
  rcases kQ with CY|abC
  ·rcases (g5 j _ x (apJ hj) hx).2 with k|⟨e,rfl,_⟩
   ·exact .inl (k.lower CY)
   ·cases CY with
    | plain _ _ h=>cases h
    | full a k _ h hz=>exact .inl (.full a k e h hz)
  ·exact .inr abC
 ·have hc:x.aJ H0.length=true:=by
   unfold nV at ho
   cases hb:Nat.beq s.lo H0.length with
   | true=>have:=aqw hb;omega
   | false =>
    rw[hb,apE] at ho
    have hm:ct.cj cs∈(s.H.take H0.length).drop s.lo:=by
     refine apF (i:=l-s.lo) ?_
     rw[ap',apR,if_pos (by omega),show s.lo+(l-s.lo)=l by omega]
     exact hH
    exact apA.1 (apA.1 ho _ hm) x (apF hx)
  rcases kQ with CY|⟨e,rfl,_⟩
  ·exact .inl (CY.aJ hc)
  ·simp[AV.aJ,AV.plain] at hc
theorem CR.aV{n m loc:Nat}{p:bc}{v:Value}{x:AV}(h:CR gh n w p v x)(hx:aV loc x=true)(hl:loc<m):CR gh m w p v x:=by
 rcases h with h|h
 ·exact .inl (h.aV hx hl)
 ·exact .inr h
theorem aM.DB(hW:aM G base H gh w){m:Nat}(hm:m<=H.length)(hold:wi H m gh w):aM G base (H.take m) gh w:=by
 have ZL:(H.take m).length=m:=by simp;omega
 refine⟨hW.size,hW.nB,hW.oT,hW.aO,fun loc ty cs hl=>?_,fun loc ty cs hl=>?_,hW.xg,hW.bytes,fun loc o hl=>?_,fun loc ty cs hl=>?_⟩
 rotate_left 2
 ·rw[apR] at hl
  split at hl
  ·rename_i aU
   have h:=hW.more loc o hl
   rw[ZL]
   cases o with
   | map kz ka va es =>
    obtain⟨⟨h1,h2,E,ck,f,h3,h4,h5,h6⟩,h7⟩:=h
    refine⟨⟨h1,h2,E,ck,f,h3,h4,h5,fun i j r x hi hj hl=>?_⟩,h7⟩
    have hc:=apA.1 (apA.1 h7 r (apF hi)) x (apF hj)
    obtain⟨k1,k2,k3⟩:=h6 i j r x hi hj hl
    refine⟨k1,fun hv=>?_,k3.aV hc aU⟩
    exact (k2 hv).aV hc aU
   | dR kz ka va es=>exact h
   | I6 cs=>exact h
   | cj cs=>exact hold loc cs aU hl
   | _=>trivial
  ·cases hl
 ·rw[apR] at hl
  split at hl
  ·exact hW.types loc ty cs hl
  ·cases hl
 ·rw[apR] at hl
  split at hl
  ·rename_i aU
   obtain⟨h1,h2,C,Oy,h3,h4,h5⟩:=hW.boxes loc _ cs hl
   refine⟨h1,h2,C,Oy,h3,h4,fun j v x hv hx=>⟨(h5 j v x hv hx).1,?_⟩⟩
   have hlen:(H.take m).length=m:=by simp;omega
   rw[hlen]
   exact (h5 j v x hv hx).2.aV (apA.1 (hW.refs loc _ cs hl) x (apF hx)) aU
  ·cases hl
 ·rw[apR] at hl
  split at hl
  ·exact hW.refs loc _ cs hl
  ·cases hl
theorem DG(hW:aM G base s.H gh w)(hF:FR L nt gh w a s):∀ (l:List ResultVar) (rs:List gu) (xs:List AV),l.length=rs.length->(∀ (j:Nat) (r:ResultVar) (i:gu),l[j]?=some r->rs[j]?=some i ->
    (∃ t,r=.tmp t/\i=.tmp t/\t<nt)\/∃ t ty g sz,r=.cell t ty/\i=.cell t g sz/\t<nt/\lj P ty=some g/\dg P ty=some sz)->mM s rs=some xs ->
    ∃ vs:List Value,l.length=vs.length/\vs.length=xs.length/\(∀ (j:Nat) (r:ResultVar) (v:Value),l[j]?=some r->vs[j]?=some v->(nX a.tmps r).run P w=.ok v w)/\∀ (j:Nat) (v:Value) (x:AV),vs[j]?=some v->xs[j]?=some x->VR gh s.H.length w v x:=by
 intro l
 induction l with
 | nil =>
  intro rs xs hl _ h
  have:rs=[]:=aru.1 (by simpa using hl.symm)
  subst this
  simp only[mM,apv] at h
  subst h
  exact⟨[],rfl,rfl,fun j r v h=>by simp at h,fun j v x h=>by simp at h⟩
 | cons rv l ih =>
  intro rs xs hl hc h
  cases rs with
  | nil=>simp at hl
  | cons i rs =>
   simp only[mM,apu,apt] at h
   obtain⟨z,hz,ys,Nf,rfl⟩:=h
   obtain⟨v,h1,h2⟩:=zr (P:=P) hW hF (hc 0 rv i rfl rfl) hz
   have hv:VR gh s.H.length w v z.aX:=by
    rcases h2 with ⟨t,_,_,_,_,kQ⟩|CY
    ·exact jv kQ.dropped
    ·exact jv CY.dropped
   obtain⟨vs,k1,k2,k3,k4⟩:=ih rs ys (by simpa using hl) (fun j r i hr hi=>hc (j+1) r i (by simpa using hr) (by simpa using hi)) Nf
   refine⟨v :: vs,by simp[k1],by simp[k2],fun j r u hr hu=>?_,fun j u x hu hx=>?_⟩
   ·cases j with
    | zero=>simp at hr hu;subst hr hu;exact h1
    | succ j=>exact k3 j r u (by simpa using hr) (by simpa using hu)
   ·cases j with
    | zero=>simp at hu hx;subst hu hx;exact hv
    | succ j=>exact k4 j u x (by simpa using hu) (by simpa using hx)
theorem Ki{gC:Gh}{w0:World}(iw:clean gC)(hI:Inv G base nt L H gC w0 s gh w a){fn:Func}{rs:List gu}(hc:jN P nt fn.results.toList=some rs){r:AV}{c:Option gk}(hold:∀ aK w',aM G base s.H aK w'->wi s.H H.length aK w')(he:gZ H.length rs s=some (r,c)) :
  jW H c/\∃ v aK,(results fn a.tmps).run P w=.ok v w/\lW G base H gC w0 r c v aK w:=by
 simp only[gZ,apu] at he
 obtain⟨r',hr,he⟩:=he
 obtain⟨hlv,he⟩:=ab he
 simp only[apv,apx] at he
 obtain⟨rfl,ql⟩:=he
 have hlen:=hI.lo.len
 have qT:oV H c=s.H.take H.length:=by
  cases hb:Nat.beq s.lo H.length with
  | false=>rw[hb] at ql;subst ql;rfl
  | true =>
   rw[hb] at ql
   subst ql
   have qO:s.lo=H.length:=aqw hb
   show H=_
   refine aqS fun l=>?_
   rw[apR]
   split
   ·rename_i hl;exact (hI.lo.same l (by omega)).symm
   ·rename_i hl;exact aqK (by omega)
 have Bf:(oV H c).length=H.length:=by rw[qT];simp;omega
 have P3:jW H c:=by
  refine⟨aqJ Bf.symm,fun c' tY=>?_⟩
  cases hb:Nat.beq s.lo H.length with
  | true=>rw[hb] at ql;rw[<- ql] at tY;cases tY
  | false =>
   rw[hb] at ql
   rw[<- ql] at tY
   simp only[apE,apv] at tY
   subst tY
   refine⟨hI.lo.lo,fun l hl=>?_⟩
   have:=hI.lo.lo
   rw[apR,if_pos (by simp only at hl;omega)]
   exact hI.lo.same l hl
 refine⟨P3,?_⟩
 have fin:∀ {v:Value} {aK:Gh},(results fn a.tmps).run P w=.ok v w->aM G base s.H aK w->Ext s.H.length gh w aK w->CR aK s.H.length w .ret v r'->∃ v aK,(results fn a.tmps).run P w=.ok v w/\lW G base H gC w0 r' c v aK w:=by
  intro v aK h1 h2 h3 h4
  have hE:=hI.E.trans h3 hlen
  refine⟨v,aK,h1,aqJ Bf.symm,by rw[qT];exact h2.DB hlen (hold _ _ h2),?_,hE.out,by rw[Bf];exact h4.leaves hlv⟩
  have st:=hE.step
  refine⟨st.S,st.cell,st.size,st.os,st.tape,st.output,fun b hb hn=>st.zS b hb (fun ht=>hn ?_),st.fresh,st.ρ,st.len,st.mp⟩
  rcases iw b with h|h|h|h
  ·exact absurd h ht.1
  ·exact absurd h ht.2
  ·exact .inl h
  ·exact .inr h
 obtain⟨hl,rG⟩:=jt hc
 have hrefl:Ext s.H.length gh w gh w:=Ext.refl _ _ _ (fun b hb=>hI.W.bL b hb)
 have one:∀ (rv:ResultVar) (v:Value),fn.results.toList=[rv]->(nX a.tmps rv).run P w=.ok v w->(results fn a.tmps).run P w=.ok v w:=by
  intro rv v h1 h2
  have:=jF (P:=P) (w:=w) (fn:=fn) (tmps:=a.tmps) (vs:=[v]) (by rw[h1];rfl) (fun j r' v' hr hv=>by
   rw[h1] at hr
   cases j with
   | zero=>simp at hr hv;subst hr hv;exact h2
   | succ j=>simp at hr)
  simpa using this
 unfold lg at hr
 split at hr
 ·rename_i i
  have K7:([i]:List gu)=[i]:=rfl
  rw[K7] at hl
  obtain⟨rv,Nc⟩:∃ rv,fn.results.toList=[rv]:=aqQ.1 (by simpa using hl)
  have Ok:=rG 0 rv i (by rw[Nc];rfl) (by rw[K7];rfl)
  split at hr
  ·rename_i b bI
   rcases Ok with ⟨t,rfl,rfl,ht⟩|⟨t,ty,g,sz,rfl,rfl,_⟩
   ·simp only[mN] at bI
    have pP:=hI.F.slot t ht
    change SR gh s.H.length nt w s.T s.gen (fB a) t (fB a t) (s.T t) at pP
    split at bI
    ·rename_i g e hT
     injection bI with bI
     subst bI
     rw[hT] at hr
     obtain⟨pa,hr⟩:=ab hr
     injection hr with hr
     subst hr
     obtain⟨aK,h2,h3,h4⟩:=freeze hI.W hI.F ht hT pa
     exact fin (one _ _ Nc rfl) h2 h3 h4
    ·rename_i b' g hT
     rw[hT] at pP
     obtain⟨gb,_,hv⟩:=pP
     split at bI
     ·rename_i g' e Vp
      obtain⟨h0,bI⟩:=ab bI
      injection bI with bI
      subst bI
      rw[Vp] at hr
      obtain⟨pa,hr⟩:=ab hr
      injection hr with hr
      subst hr
      have DX:g=g':=by simpa [dX] using h0
      have gy:fB a t=fB a b':=hv (by rw[Vp,DX];rfl)
      obtain⟨aK,h2,h3,h4⟩:=freeze hI.W hI.F gb Vp pa
      exact fin (one _ _ Nc rfl) h2 h3 (by show CR aK s.H.length w .ret (fB a t) _;rw[gy];exact h4)
     ·cases bI
    ·cases bI
   ·cases bI
  ·obtain⟨v,h1,h2⟩:=zr (P:=P) hI.W hI.F Ok hr
   rcases h2 with ⟨t,_,ht,rfl,hz,kQ⟩|CY
   ·rcases kQ with CY|⟨e,rfl,_⟩
    ·exact fin (one _ _ Nc h1) hI.W hrefl (.inl CY)
    ·obtain⟨aK,h2,_,h3,_,h4⟩:=rT hI.W hI.F ht hz.symm .ret (by simp)
     exact fin (one _ _ Nc h1) h2 h3 h4
   ·exact fin (one _ _ Nc h1) hI.W hrefl (.inl CY)
 ·rename_i bC
  simp only[apt] at hr
  obtain⟨xs,hxs,rfl⟩:=hr
  obtain⟨vs,k1,k2,k3,k4⟩:=DG (P:=P) hI.W hI.F _ _ xs hl rG hxs
  have s6:vs.length≠1:=by
   intro h
   rw[<- k1,hl] at h
   obtain⟨i,hi⟩:=aqQ.1 h
   exact bC i hi
  have cE:=jF (P:=P) (w:=w) (fn:=fn) (tmps:=a.tmps) k1 k3
  rw[dif_neg (by simpa using s6)] at cE
  exact fin cE hI.W hrefl (.inl (.tuple vs.toArray xs (by simpa using k2) (fun j v x hv hx=>k4 j v x (by simpa using hv) hx)))
theorem Ga{rs:List gu}(hI:dZ H s){r:AV}{c:Option gk}(he:gZ H.length rs s=some (r,c)):jW H c:=by
 simp only[gZ,apu] at he
 obtain⟨r',hr,he⟩:=he
 obtain⟨hlv,he⟩:=ab he
 simp only[apv,apx] at he
 obtain⟨rfl,ql⟩:=he
 have hlen:=hI.len
 cases hb:Nat.beq s.lo H.length with
 | true=>rw[hb] at ql;subst ql;exact⟨apz _,fun c' h=>by cases h⟩
 | false =>
  rw[hb] at ql
  subst ql
  refine⟨by simp[oV];omega,fun c' tY=>?_⟩
  simp only[apE,apv] at tY
  subst tY
  refine⟨hI.lo,fun l hl=>?_⟩
  have:=hI.lo
  rw[apR,if_pos (by simp only at hl;omega)]
  exact hI.same l hl
theorem yq{m:Nat}{rs:List gu}{r:AV}{c:Option gk}(he:qj m rs s=some (r,c)):rs.length≠1/\∃ xs e,vU s m rs=some (xs,some e)/\r=.tuple xs/\c=some ⟨s.H.take m++[.box aL e.flatten],s.lo⟩:=by
 unfold qj at he
 cases hb:Nat.beq rs.length 1 with
 | true=>rw[hb] at he;cases he
 | false =>
  rw[hb] at he
  simp only[apE,apu,apt,apx] at he
  obtain⟨⟨xs,eo⟩,hq,e,rfl,rfl,rfl⟩:=he
  exact⟨(fun h=>by rw[h] at hb;cases hb),xs,e,hq,rfl,rfl⟩
theorem yt{la:ay}{m:Nat}{x:AV × Option gk}(he:kX m la s=some x):nV m s=true/\(tC m la.results s=some x\/gZ m la.results s=some x\/qj m la.results s=some x\/qi m la.results s=some x):=by
 unfold kX at he
 obtain⟨h0,he⟩:=ab he
 refine⟨h0,?_⟩
 unfold sn at he
 split at he
 ·rename_i h
  unfold ou at h
  obtain⟨_,h⟩:=ab h
  rw[<- he];exact .inl h
 ·split at he
  ·rename_i h;rw[h];exact .inr (.inl he)
  ·split at he
   ·rename_i h;rw[h];exact .inr (.inr (.inl he))
   ·exact .inr (.inr (.inr he))
theorem yo{m:Nat}{rs:List gu}{r:AV}{c:Option gk}(he:tC m rs s=some (r,c)):∃ i l off n z ty cs,rs=[i]/\iZ s i=some (.sref l off n z)/\s.H[l]?=some (.box ty cs)/\m<=l/\cs.all AV.plain=true/\r=.sref m off n z/\c=some ⟨s.H.take m++[.cj cs],s.lo⟩:=by
 unfold tC at he
 split at he
 ·rename_i i
  simp only[apu] at he
  obtain⟨v,hv,he⟩:=he
  split at he
  ·rename_i l off n z
   split at he
   ·rename_i ty cs hH
    obtain⟨h0,he⟩:=ab he
    simp only[apv,apx] at he
    simp only[Bool.and_eq_true,Nat.ble_eq] at h0
    exact⟨i,l,off,n,z,ty,cs,rfl,hv,hH,h0.1,h0.2,he.1.symm,he.2.symm⟩
   ·cases he
  ·cases he
 ·cases he
theorem KR(hI:dZ H s){c:Option gk}(ql:cond (Nat.beq s.lo H.length) none (some ⟨s.H.take H.length,s.lo⟩)=c):jW H c/\oV H c=s.H.take H.length:=by
 have hlen:=hI.len
 cases hb:Nat.beq s.lo H.length with
 | true =>
  rw[hb] at ql
  subst ql
  have qO:s.lo=H.length:=aqw hb
  refine⟨⟨apz _,fun c' h=>by cases h⟩,?_⟩
  show H=_
  refine aqS fun l=>?_
  rw[apR]
  split
  ·rename_i hl;exact (hI.same l (by omega)).symm
  ·rename_i hl;exact aqK (by omega)
 | false =>
  rw[hb] at ql
  subst ql
  refine⟨⟨by simp[oV];omega,fun c' tY=>?_⟩,rfl⟩
  simp only[apE,apv] at tY
  subst tY
  refine⟨hI.lo,fun l hl=>?_⟩
  have:=hI.lo
  rw[apR,if_pos (by simp only at hl;omega)]
  exact hI.same l hl
theorem yp{m:Nat}{rs:List gu}{r:AV}{c:Option gk}(he:qi m rs s=some (r,c)):u3 m s rs=some r/\r.leaves m=true/\cond (Nat.beq s.lo m) none (some ⟨s.H.take m,s.lo⟩)=c:=by
 simp only[qi,apu] at he
 obtain⟨r',hr,he⟩:=he
 obtain⟨hlv,he⟩:=ab he
 simp only[apv,apx] at he
 obtain⟨rfl,ql⟩:=he
 exact⟨hr,hlv,ql⟩
theorem Gj(hI:dZ H s)(o:ct):jW H (some ⟨s.H.take H.length++[o],s.lo⟩):=by
 have:=hI.len
 have h1:=hI.lo
 refine⟨by simp[oV];omega,fun c' tY=>?_⟩
 injection tY with tY
 subst tY
 refine⟨hI.lo,fun l hl=>?_⟩
 simp only at hl ⊢
 rw[apN (by simp;omega),apR,if_pos (by omega)]
 exact hI.same l hl
theorem yn{rs:List gu}{r:AV}{c:Option gk}(he:yl rs s=some (r,c)):rs.length≠1/\∃ xs,mM s rs=some xs/\r=.tuple xs/\c=some ⟨s.H,s.lo⟩:=by
 unfold yl at he
 cases hb:Nat.beq rs.length 1 with
 | true=>rw[hb] at he;cases he
 | false =>
  rw[hb] at he
  simp only[apE,apt,apx] at he
  obtain⟨xs,h1,h2,h3⟩:=he
  exact⟨fun h=>by (rw[h] at hb;cases hb),xs,h1,h2.symm,h3.symm⟩
theorem UB(hI:dZ H s):jW H (some ⟨s.H,s.lo⟩):=by
 refine⟨hI.len,fun c' tY=>?_⟩
 injection tY with tY
 subst tY
 exact⟨hI.lo,hI.same⟩
theorem wy{m:Nat}{la:ay}{x:AV × Option gk}(he:finish m la s=some x):(∃ r0,kX m la s=some (r0,x.2)/\(x.1=r0\/x.1=pB r0))\/yl la.results s=some x:=by
 unfold finish at he
 split at he
 case h_2 =>
  unfold KQ at he
  obtain⟨_,he⟩:=ab he
  exact .inr he
 rename_i y hy
 injection he with he
 subst he
 refine .inl ?_
 have he:=hy
 simp only[apt] at he
 obtain⟨⟨r0,c0⟩,h1,h2⟩:=he
 unfold ta at h2
 cases hm:la.muts.elem 777777 with
 | false=>rw[hm,apE] at h2;subst h2;exact⟨r0,h1,.inl rfl⟩
 | true=>rw[hm,cond_true] at h2;subst h2;exact⟨r0,h1,.inr rfl⟩
theorem PR.n2{S:Nat->Nat->Prop}{w:World}{v:Value}{x:AV}(h:PR S w v x):PR S w v (n2 x):=by
 have one:∀ {v x},PR S w v x->PR S w v (n1 x):=by
  intro v x h
  have h0:=h
  cases h<;>first|exact .cW|exact h0
 have h0:=h
 cases h with
 | ae=>exact .cW
 | slice b o n cap sz e f hn jP bI cP cy =>
  have vI:∀ (i:Nat) (r:List AV),(e.map fun r=>r.map n1)[i]?=some r->∃ r0,e[i]?=some r0/\r=r0.map n1:=by
   intro i r hr
   rw[apG] at hr
   cases Oq:e[i]? with
   | none=>rw[Oq] at hr;cases hr
   | some r0=>rw[Oq] at hr;injection hr with hr;exact⟨r0,rfl,hr.symm⟩
  have MY:∀ (r0:List AV) (j:Nat) (x:AV),(r0.map n1)[j]?=some x->∃ x0,r0[j]?=some x0/\x=n1 x0:=by
   intro r0 j x hx
   rw[apG] at hx
   cases rH:r0[j]? with
   | none=>rw[rH] at hx;cases hx
   | some x0=>rw[rH] at hx;injection hx with hx;exact⟨x0,rfl,hx.symm⟩
  refine .slice b o n cap sz _ f (by rw[apQ];exact hn) jP (fun i r hr=>?_) (fun i j r x hr hx=>?_) (fun i j r x hr hx=>?_)
  ·obtain⟨r0,h1,rfl⟩:=vI i r hr
   rw[apQ];exact bI i r0 h1
  ·obtain⟨r0,h1,rfl⟩:=vI i r hr
   obtain⟨x0,h2,rfl⟩:=MY r0 j x hx
   exact cP i j r0 x0 h1 h2
  ·obtain⟨r0,h1,rfl⟩:=vI i r hr
   obtain⟨x0,h2,rfl⟩:=MY r0 j x hx
   exact one (cy i j r0 x0 h1 h2)
 | cW=>exact .cW
 | any v ho=>exact h0
 | _=>exact h0
theorem VR.n2{gh:Gh}{n:Nat}{w:World}{v:Value}{x:AV}(h:VR gh n w v x):VR gh n w v (n2 x):=by
 have h0:=h
 cases h with
 | plain _ _ h=>exact .plain _ _ h.n2
 | _=>exact h0
theorem VR.n3{gh:Gh}{n:Nat}{w:World}{v:Value}{x:AV}(h:VR gh n w v x):VR gh n w v (n3 x):=by
 have h0:=h
 cases h with
 | agg cs xs hs fX h =>
  refine .agg cs _ (by rw[apQ];exact hs) fX (fun j v x hv hx=>?_)
  rw[apG] at hx
  cases rH:xs[j]? with
  | none=>rw[rH] at hx;cases hx
  | some x0=>rw[rH] at hx;injection hx with hx;subst hx;exact (h j v x0 hv rH).n2
 | plain _ _ h =>
  cases x with
  | agg cs=>cases h
  | _=>exact h0.n2
 | _=>exact h0
theorem VR.pB{gh:Gh}{n:Nat}{w:World}{v:Value}{x:AV}(h:VR gh n w v x):VR gh n w v (pB x):=by
 have h0:=h
 cases h with
 | tuple vs xs hs h =>
  refine .tuple vs _ (by rw[apQ];exact hs) (fun j v x hv hx=>?_)
  rw[apG] at hx
  cases rH:xs[j]? with
  | none=>rw[rH] at hx;cases hx
  | some x0=>rw[rH] at hx;injection hx with hx;subst hx;exact (h j v x0 hv rH).n3
 | agg cs xs hs fX h=>exact h0.n3
 | plain _ _ h =>
  cases x with
  | tuple cs=>cases h
  | _=>exact h0.n3
 | _=>exact h0
theorem XT{gh:Gh}{n:Nat}{w:World}{p:bc}{v:Value}{x:AV}(h:CR gh n w p v x):CR gh n w p v (pB x):=by
 rcases h with h|⟨e,rfl,h1,h2⟩
 ·exact .inl h.pB
 ·exact .inr ⟨e,rfl,h1,h2⟩
theorem kq{la:ay}(hI:dZ H s){r:AV}{c:Option gk}(he:finish H.length la s=some (r,c)):jW H c:=by
 rcases wy he with ⟨r0,he,_⟩|he
 case inr =>
  obtain⟨_,xs,_,_,rfl⟩:=yn he
  exact UB hI
 rcases (yt he).2 with he|he|he|he
 ·obtain⟨_,_,_,_,_,_,cs,_,_,_,_,_,_,rfl⟩:=yo he
  exact Gj hI _
 ·exact Ga hI he
 ·obtain⟨_,xs,e,_,_,rfl⟩:=yq he
  exact Gj hI _
 ·exact (KR hI (yp he).2.2).1
theorem tE{α:Type}{sz:Nat} : ∀ (e:List (List α)) (idx:Nat) (x:α),(∀ r∈e,r.length=sz)->e.flatten[idx]?=some x->∃ i j r,e[i]?=some r/\r[j]?=some x/\idx=i*sz+j
 | [],_,_,_,h=>by simp at h
 | r :: e,idx,x,hr,h=>by
  rw[aqq] at h
  by_cases hl:idx<r.length
  ·rw[apN hl] at h;exact⟨0,idx,r,rfl,h,by simp⟩
  ·rw[apM (by omega)] at h
   obtain⟨i,j,r',h1,h2,h3⟩:=tE e _ x (fun r h=>hr r (by simp[h])) h
   have:=hr r (by simp)
   exact⟨i+1,j,r',by simpa using h1,h2,by rw[aqd];omega⟩
theorem wz{α:Type}{sz:Nat} : ∀ (e:List (List α)),(∀ r∈e,r.length=sz)->e.flatten.length=e.length*sz
 | [],_=>by simp
 | r :: e,hr=>by
  have:=hr r (by simp)
  have ih:=wz e (fun r h=>hr r (by simp[h]))
  simp only[aqq,apL,List.length_cons,aqd];omega
def Gh.kR(gh:Gh)(k n:Nat):Gh:={ gh.mG k (.hb n) with ρ:=fun l=>if l=n then k else gh.ρ l }
theorem pV(hW:aM G base H gh w){k:Nat}(hk:k<w.heap.size){m n:Nat}(hn:m<=n):Step (fun r=>r=gh.κ k) m gh w (gh.kR k n) w:=by
 have h:=jc hW hk (.hb n) m
 refine⟨h.S,h.cell,h.size,h.os,h.tape,h.output,h.zS,h.fresh,fun loc hl=>?_,h.len,h.mp⟩
 show (if loc=n then _ else _)=_
 rw[if_neg (by omega)]
theorem aM.kR(hW:aM G base H gh w){k:Nat}{C:Array Value}{ty:TypeId}(hk:w.heap[k]?=some (.cells C ty (0,0)))(hS:∀ o,¬ gh.S k o)(h0:gh.κ k≠.none)(ht:∀ l,l<H.length->gh.κ k≠.hb l/\∀ j,gh.κ k≠.hs l j)
  {cs:List AV} (hlen:cs.length<=C.size) (fF:∀ (j:Nat) (u:Value) (x:AV),C[j]?=some u->cs[j]?=some x->u.oneCell'=true/\VR gh H.length w u x) (hr:cs.all (aV H.length)=true) :
  aM G base (H++[.box aL cs]) (gh.kR k H.length) w:=by
 have aU:k<w.heap.size:=(apD.1 hk).1
 have st:=pV hW aU (apz H.length)
 have hn:∀ l,l<H.length->¬ (bc.hb l=gh.κ k)/\∀ j,¬ (bc.hs l j=gh.κ k):=fun l hl=>⟨fun h=>(ht l hl).1 h.symm,fun j h=>(ht l hl).2 j h.symm⟩
 have last:∀ {loc:Nat} {o:ct},(H++[ct.box aL cs])[loc]?=some o->¬ loc<H.length->loc=H.length/\o=.box aL cs:=by
  intro loc o hl ZE
  rw[apM (by omega)] at hl
  have hz:loc=H.length:=by
   have:=(apw.1 hl).1
   simp at this;omega
  subst hz
  simp at hl
  exact⟨rfl,hl.symm⟩
 refine⟨hW.size,hW.nB,fun b hb=>?_,fun g j x hx=>?_,fun loc kP ds hl=>?_,fun loc kP ds hl=>?_,hW.xg,hW.bytes,fun loc o hl=>?_,fun loc kP ds hl hf=>?_⟩
 ·have jd:(if b=k then bc.hb H.length else gh.κ b)≠.none:=hb
  split at jd
  ·rename_i e;rw[e];exact hW.oT k h0
  ·exact hW.oT b jd
 ·obtain⟨v,h1,h2,h3⟩:=hW.aO g j x hx
  exact⟨v,h1,h2.mono st.S st.cell st.mp,h3⟩
 ·rw[apL,ap3]
  by_cases iU:loc<H.length
  ·rw[apN iU] at hl
   have h:=(hW.boxes loc kP ds hl).mono st (n':=H.length+1) (aqo _) (hn loc iU).1 (hn loc iU).2
   rw[st.ρ loc iU];exact h
  ·obtain⟨rfl,ho⟩:=last hl iU
   injection ho with qn qW
   subst qn qW
   have hρ:(gh.kR k H.length).ρ H.length=k:=by simp[Gh.kR]
   rw[hρ]
   refine⟨by simp[Gh.kR,Gh.mG],hS,C,ty,hk,hlen,fun j v x hv hx=>?_⟩
   obtain⟨h1,h2⟩:=fF j v x hv hx
   exact⟨h1,.inl (h2.mono st (aqo _))⟩
 ·by_cases iU:loc<H.length
  ·rw[apN iU] at hl
   exact hW.refs loc kP ds hl
  ·obtain⟨rfl,ho⟩:=last hl iU
   injection ho with qn qW
   subst qn qW
   exact hr
 ·rw[apL,ap3]
  by_cases iU:loc<H.length
  ·rw[apN iU] at hl
   rw[st.ρ loc iU]
   exact (hW.more loc o hl).mono st (aqo _) (hn loc iU).1 (hn loc iU).2
  ·obtain⟨rfl,rfl⟩:=last hl iU
   trivial
 ·by_cases iU:loc<H.length
  ·rw[apN iU] at hl
   rw[st.ρ loc iU]
   exact hW.types loc kP ds hl hf
  ·obtain⟨rfl,ho⟩:=last hl iU
   injection ho with qn qW
   exact absurd qn hf
theorem aM.aak(hW:aM G base H gh w){k:Nat}{C:Array Value}{ty:TypeId}(hk:w.heap[k]?=some (.cells C ty (0,0)))(hS:∀ o,¬ gh.S k o)(h0:gh.κ k≠.none)(ht:∀ l,l<H.length->gh.κ k≠.hb l/\∀ j,gh.κ k≠.hs l j)
  {cs:List AV} (hlen:cs.length<=C.size) (fF:∀ (j:Nat) (u:Value) (x:AV),C[j]?=some u->cs[j]?=some x->u.oneCell'=true/\VR gh H.length w u x) :
  aM G base (H++[.cj cs]) (gh.kR k H.length) w:=by
 have aU:k<w.heap.size:=(apD.1 hk).1
 have st:=pV hW aU (apz H.length)
 have hn:∀ l,l<H.length->¬ (bc.hb l=gh.κ k)/\∀ j,¬ (bc.hs l j=gh.κ k):=fun l hl=>⟨fun h=>(ht l hl).1 h.symm,fun j h=>(ht l hl).2 j h.symm⟩
 have last:∀ {loc:Nat} {o:ct},(H++[ct.cj cs])[loc]?=some o->¬ loc<H.length->loc=H.length/\o=.cj cs:=by
  intro loc o hl ZE
  rw[apM (by omega)] at hl
  have hz:loc=H.length:=by
   have:=(apw.1 hl).1
   simp at this;omega
  subst hz
  simp at hl
  exact⟨rfl,hl.symm⟩
 refine⟨hW.size,hW.nB,fun b hb=>?_,fun g j x hx=>?_,fun loc kP ds hl=>?_,fun loc kP ds hl=>?_,hW.xg,hW.bytes,fun loc o hl=>?_,fun loc kP ds hl hf=>?_⟩
 ·have jd:(if b=k then bc.hb H.length else gh.κ b)≠.none:=hb
  split at jd
  ·rename_i e;rw[e];exact hW.oT k h0
  ·exact hW.oT b jd
 ·obtain⟨v,h1,h2,h3⟩:=hW.aO g j x hx
  exact⟨v,h1,h2.mono st.S st.cell st.mp,h3⟩
 ·rw[apL,ap3]
  by_cases iU:loc<H.length
  ·rw[apN iU] at hl
   have h:=(hW.boxes loc kP ds hl).mono st (n':=H.length+1) (aqo _) (hn loc iU).1 (hn loc iU).2
   rw[st.ρ loc iU];exact h
  ·obtain⟨rfl,ho⟩:=last hl iU
   cases ho
 ·by_cases iU:loc<H.length
  ·rw[apN iU] at hl
   exact hW.refs loc kP ds hl
  ·obtain⟨rfl,ho⟩:=last hl iU
   cases ho
 ·rw[apL,ap3]
  by_cases iU:loc<H.length
  ·rw[apN iU] at hl
   rw[st.ρ loc iU]
   exact (hW.more loc o hl).mono st (aqo _) (hn loc iU).1 (hn loc iU).2
  ·obtain⟨rfl,rfl⟩:=last hl iU
   have hρ:(gh.kR k H.length).ρ H.length=k:=by simp[Gh.kR]
   rw[hρ]
   refine⟨by simp[Gh.kR,Gh.mG],hS,C,ty,hk,hlen,fun j v x hv hx=>?_⟩
   obtain⟨h1,h2⟩:=fF j v x hv hx
   exact⟨h1,.inl (h2.mono st (aqo _))⟩
 ·by_cases iU:loc<H.length
  ·rw[apN iU] at hl
   rw[st.ρ loc iU]
   exact hW.types loc kP ds hl hf
  ·obtain⟨rfl,ho⟩:=last hl iU
   cases ho
theorem PR.abh{S:Nat->Nat->Prop}{v:Value}{x:AV}(h:PR S w v x)(hp:x.plain=true)(m:Nat):aV m x=true:=by
 cases h<;>first|rfl|exact hp
theorem X2{gC:Gh}{w0:World}(hI:Inv G base nt L H gC w0 s gh w a){m:Nat}(hm:m<=s.H.length):∀ (l:List ResultVar) (rs:List gu) (xs:List AV) (q:Option (List (List AV))),l.length=rs.length->(∀ (j:Nat) (r:ResultVar) (i:gu),l[j]?=some r->rs[j]?=some i ->
    (∃ t,r=.tmp t/\i=.tmp t/\t<nt)\/∃ t ty g sz,r=.cell t ty/\i=.cell t g sz/\t<nt/\lj P ty=some g/\dg P ty=some sz)->vU s m rs=some (xs,q) ->
    ∃ vs:List Value,l.length=vs.length/\vs.length=xs.length/\(∀ (j:Nat) (r:ResultVar) (v:Value),l[j]?=some r->vs[j]?=some v->(nX a.tmps r).run P w=.ok v w) /\
     (q=none->∀ (j:Nat) (v:Value) (x:AV),vs[j]?=some v->xs[j]?=some x->VR gh m w v x) /\
     ∀ e,q=some e->∃ b g,b<nt/\s.T b=.lsl g e/\e≠[]/\(e.all fun r=>r.all AV.plain)=true/\∀ (j:Nat) (v:Value) (x:AV),vs[j]?=some v->xs[j]?=some x->VR gh m w v x\/(x=.sref m 0 e.length (TJ e)/\v=fB a b):=by
 intro l
 induction l with
 | nil =>
  intro rs xs q hl _ h
  have:rs=[]:=aru.1 (by simpa using hl.symm)
  subst this
  simp only[vU,apv,apx] at h
  obtain⟨rfl,rfl⟩:=h
  exact⟨[],rfl,rfl,fun j r v h=>by simp at h,fun _ j v x h=>by simp at h,fun e h=>by cases h⟩
 | cons rv l ih =>
  intro rs xs q hl hc h
  cases rs with
  | nil=>simp at hl
  | cons i rs =>
   simp only[vU,apu] at h
   obtain⟨⟨ys,q'⟩,Nf,h⟩:=h
   obtain⟨vs,k1,k2,k3,k4,k5⟩:=ih rs ys q' (by simpa using hl) (fun j r i hr hi=>hc (j+1) r i (by simpa using hr) (by simpa using hi)) Nf
   have Ok:=hc 0 rv i rfl rfl
   have runs:∀ v,(nX a.tmps rv).run P w=.ok v w->∀ (j:Nat) (r:ResultVar) (u:Value),(rv :: l)[j]?=some r->(v :: vs)[j]?=some u->(nX a.tmps r).run P w=.ok u w:=by
    intro v h1 j r u hr hu
    cases j with
    | zero=>simp at hr hu;subst hr hu;exact h1
    | succ j=>exact k3 j r u (by simpa using hr) (by simpa using hu)
   split at h
   ·rename_i b bI
    split at h
    ·rename_i gg e hT
     obtain⟨h0,h⟩:=ab h
     simp only[Bool.and_eq_true,aq0,aqg,arj] at h0
     simp only[apv,apx] at h
     obtain⟨rfl,rfl⟩:=h
     obtain⟨⟨hq',bC⟩,mJ⟩:=h0
     rcases Ok with ⟨t,rfl,rfl,ht⟩|⟨t,ty,g,sz,rfl,rfl,_⟩
     ·have hb:b<nt/\fB a t=fB a b:=by
       simp only[mN] at bI
       have pP:=hI.F.slot t ht
       change SR gh s.H.length nt w s.T s.gen (fB a) t (fB a t) (s.T t) at pP
       split at bI
       ·injection bI with bI;subst bI;exact⟨ht,rfl⟩
       ·rename_i b' g Vq
        rw[Vq] at pP
        obtain⟨gb,_,hv⟩:=pP
        split at bI
        ·rename_i g' e' Vp
         obtain⟨h0,bI⟩:=ab bI
         injection bI with bI
         subst bI
         have DX:g=g':=by simpa [dX] using h0
         exact⟨gb,hv (by rw[Vp,DX];rfl)⟩
        ·cases bI
       ·cases bI
      refine⟨fB a t :: vs,by simp[k1],by simp[k2],runs _ rfl,(fun h=>by cases h),fun e' xt=>?_⟩
      injection xt with xt
      subst xt
      refine⟨b,gg,hb.1,hT,bC,mJ,fun j u x hu hx=>?_⟩
      cases j with
      | zero=>simp at hu hx;subst hu hx;exact .inr ⟨rfl,hb.2⟩
      | succ j=>exact .inl (k4 hq' j u x (by simpa using hu) (by simpa using hx))
     ·cases bI
    ·cases h
   ·simp only[apu] at h
    obtain⟨z,hz,h⟩:=h
    obtain⟨h0,h⟩:=ab h
    simp only[apv,apx] at h
    obtain⟨rfl,rfl⟩:=h
    obtain⟨v,h1,h2⟩:=zr (P:=P) hI.W hI.F Ok hz
    have hv:VR gh m w v z.aX:=by
     rcases h2 with ⟨t,_,_,_,_,kQ⟩|CY
     ·exact (jv kQ.dropped).bp h0
     ·exact (jv CY.dropped).bp h0
    refine⟨v :: vs,by simp[k1],by simp[k2],runs v h1,fun hq j u x hu hx=>?_,fun e he=>?_⟩
    ·cases j with
     | zero=>simp at hu hx;subst hu hx;exact hv
     | succ j=>exact k4 hq j u x (by simpa using hu) (by simpa using hx)
    ·obtain⟨b,g,c1,c2,c3,c4,c5⟩:=k5 e he
     refine⟨b,g,c1,c2,c3,c4,fun j u x hu hx=>?_⟩
     cases j with
     | zero=>simp at hu hx;subst hu hx;exact .inl hv
     | succ j=>exact c5 j u x (by simpa using hu) (by simpa using hx)
theorem YK{gC:Gh}{w0:World}(iw:clean gC)(hI:Inv G base nt L H gC w0 s gh w a){fn:Func}{rs:List gu}(hc:jN P nt fn.results.toList=some rs){r:AV}{c:Option gk}(hold:∀ aK w',aM G base s.H aK w'->wi s.H H.length aK w')(he:qj H.length rs s=some (r,c)) :
  ∃ v aK,(results fn a.tmps).run P w=.ok v w/\lW G base H gC w0 r c v aK w:=by
 obtain⟨akf,xs,e,hq,rfl,rfl⟩:=yq he
 obtain⟨hl,rG⟩:=jt hc
 have hlen:=hI.lo.len
 obtain⟨vs,k1,k2,k3,_,k5⟩:=X2 (P:=P) hI hlen _ _ xs (some e) hl rG hq
 obtain⟨b,g,hb,hT,bC,mJ,gy⟩:=k5 e rfl
 have cE:=jF (P:=P) (w:=w) (fn:=fn) (tmps:=a.tmps) k1 k3
 rw[dif_neg (by intro h;apply akf;rw[<- hl,k1];simpa using h)] at cE
 obtain⟨ad,cap,hV,⟨h0,_⟩|⟨k,C,ty,sz,_,rfl,hκ,hS,hk,hC,hle,hr,fF⟩⟩:=n4 hI.F hb hT
 ·exact absurd h0 bC
 have abt:k<w.heap.size:=(apD.1 hk).1
 have hWp:=hI.W.DB hlen (hold _ _ hI.W)
 have K5:(s.H.take H.length).length=H.length:=by simp;omega
 have bI:∀ r∈e,r.length=sz:=fun r hm=>by obtain⟨i,hi⟩:=aqb hm;exact hr i r hi
 have h0:gh.κ k≠.none:=by rw[hκ];simp
 have h1:gh.κ k≠.outer:=by rw[hκ];simp
 have ht:∀ l,l<(s.H.take H.length).length->gh.κ k≠.hb l/\∀ j,gh.κ k≠.hs l j:=fun l _=>by rw[hκ];simp
 have lk:=hWp.kR hk hS h0 ht (cs:=e.flatten) (by rw[wz e bI,hC];exact ap4 _ hle)
  (fun j u x hu hx=>by
   obtain⟨i,j',r,e1,e2,rfl⟩:=tE e j x bI hx
   obtain⟨u',Qw,hp⟩:=fF i j' r x e1 e2
   rw[hu] at Qw
   injection Qw with Qw
   subst Qw
   exact⟨hp.fg,.plain _ _ hp⟩)
  (apA.2 fun x hx=>by
   obtain⟨j,hj⟩:=aqb hx
   obtain⟨i,j',r,e1,e2,_⟩:=tE e j x bI hj
   obtain⟨u',_,hp⟩:=fF i j' r x e1 e2
   exact hp.abh (apA.1 (apA.1 mJ r (apF e1)) x (apF e2)) _)
 rw[K5] at lk
 have zE:=pV hI.W abt (m:=H.length) (apz H.length)
 have hE:Ext H.length gh w (gh.kR k H.length) w:=⟨zE.mono (fun r h=>by rw[h];exact⟨h0,h1⟩),fun b' gb=>by
  have jd:(if b'=k then bc.hb H.length else gh.κ b')=.outer:=gb
  split at jd
  ·cases jd
  ·exact jd⟩
 have yB:=hI.E.trans hE (apz _)
 have H2:(oV H (some ⟨s.H.take H.length++[.box aL e.flatten],s.lo⟩)).length=H.length+1:=by simp[oV];omega
 refine⟨_,_,cE,by rw[H2];omega,lk,?_,yB.out,?_⟩
 ·have st:=yB.step
  refine⟨st.S,st.cell,st.size,st.os,st.tape,st.output,fun b hb hn=>st.zS b hb (fun ht=>hn ?_),st.fresh,st.ρ,st.len,st.mp⟩
  rcases iw b with h|h|h|h
  ·exact absurd h ht.1
  ·exact absurd h ht.2
  ·exact .inl h
  ·exact .inr h
 ·rw[H2]
  refine .inl (.tuple vs.toArray xs (by simpa using k2) (fun j v x hv hx=>?_))
  rcases gy j v x (by simpa using hv) hx with h|⟨rfl,rfl⟩
  ·exact h.mono zE (aqo _)
  ·rw[hV]
   have hρ:(gh.kR k H.length).ρ H.length=k:=by simp[Gh.kR]
   have hrw:TJ e=sz:=by
    cases e with
    | nil=>exact absurd rfl bC
    | cons r0 e=>simp[TJ,bI r0 (apP ..)]
   have:=VR.sref (gh:=gh.kR k H.length) (w:=w) (n:=H.length+1) H.length 0 e.length cap (TJ e) (by omega) hle (fun _=>⟨ty,by rw[hρ];exact⟨C,(0,0),hk,by rw[hC,hrw,Nat.zero_add]⟩⟩)
   rw[hρ] at this
   exact this
theorem YI{gC:Gh}{w0:World}(iw:clean gC)(hI:Inv G base nt L H gC w0 s gh w a){fn:Func}{rs:List gu}(hc:jN P nt fn.results.toList=some rs){r:AV}{c:Option gk}(hold:∀ aK w',aM G base s.H aK w'->wi s.H H.length aK w')(he:tC H.length rs s=some (r,c)) :
  ∃ v aK,(results fn a.tmps).run P w=.ok v w/\lW G base H gC w0 r c v aK w:=by
 obtain⟨i,l,off,n,z,Ox,cs,yK,agK,hH,HZ,mJ,rfl,rfl⟩:=yo he
 obtain⟨hl,rG⟩:=jt hc
 have hlen:=hI.lo.len
 rw[yK] at hl
 obtain⟨rv,Nc⟩:∃ rv,fn.results.toList=[rv]:=aqQ.1 (by simpa using hl)
 have Ok:=rG 0 rv i (by rw[Nc];rfl) (by rw[yK];rfl)
 obtain⟨v,h1,h2⟩:=zr (P:=P) hI.W hI.F Ok agK
 have hv:VR gh s.H.length w v (.sref l off n z):=by
  rcases h2 with ⟨t,_,_,_,_,kQ⟩|CY
  ·exact kQ.dropped
  ·exact CY
 obtain⟨_,cap,hk,hz,rfl⟩:=hv.jA
 have cE:=jF (P:=P) (w:=w) (fn:=fn) (tmps:=a.tmps) (vs:=[.slice (some ⟨gh.ρ l,off,none⟩) n cap]) (by rw[Nc];rfl) (fun j r' v' hr hv=>by
  rw[Nc] at hr
  cases j with
  | zero=>simp at hr hv;subst hr hv;exact h1
  | succ j=>simp at hr)
 obtain⟨hκ,hS,C,ty,hb,hC,fF⟩:=hI.W.boxes l _ cs hH
 have abt:gh.ρ l<w.heap.size:=(apD.1 hb).1
 have hWp:=hI.W.DB hlen (hold _ _ hI.W)
 have K5:(s.H.take H.length).length=H.length:=by simp;omega
 have h0:gh.κ (gh.ρ l)≠.none:=by rw[hκ];simp
 have h1' : gh.κ (gh.ρ l)≠.outer:=by rw[hκ];simp
 have lk:=hWp.aak hb hS h0 (fun l' K3=>by rw[hκ];rw[K5] at K3;exact⟨by intro e;injection e with e;omega,by simp⟩) (cs:=cs) hC (fun j u x hu hx=>by
  obtain⟨k1,k2⟩:=fF j u x hu hx
  have hp:=apA.1 mJ x (apF hx)
  have:=k2.dropped
  rw[sW hp] at this
  exact⟨k1,.plain _ _ (this.kb hp)⟩)
 rw[K5] at lk
 have zE:=pV hI.W abt (m:=H.length) (apz H.length)
 have hE:Ext H.length gh w (gh.kR (gh.ρ l) H.length) w:=⟨zE.mono (fun r h=>by rw[h];exact⟨h0,h1'⟩),fun b' gb=>by
  have jd:(if b'=gh.ρ l then bc.hb H.length else gh.κ b')=.outer:=gb
  split at jd
  ·cases jd
  ·exact jd⟩
 have yB:=hI.E.trans hE (apz _)
 have H2:(oV H (some ⟨s.H.take H.length++[.cj cs],s.lo⟩)).length=H.length+1:=by simp[oV];omega
 refine⟨_,_,by simpa using cE,by rw[H2];omega,lk,?_,yB.out,?_⟩
 ·have st:=yB.step
  refine⟨st.S,st.cell,st.size,st.os,st.tape,st.output,fun b hb hn=>st.zS b hb (fun ht=>hn ?_),st.fresh,st.ρ,st.len,st.mp⟩
  rcases iw b with h|h|h|h
  ·exact absurd h ht.1
  ·exact absurd h ht.2
  ·exact .inl h
  ·exact .inr h
 ·rw[H2]
  have hρ:(gh.kR (gh.ρ l) H.length).ρ H.length=gh.ρ l:=by simp[Gh.kR]
  have:=VR.sref (gh:=gh.kR (gh.ρ l) H.length) (w:=w) (n:=H.length+1) H.length off n cap z (by omega) hk (fun hz0=>by rw[hρ];exact hz hz0)
  rw[hρ] at this
  exact .inl this
def po(H:ag)(m k l:Nat):Option (List AV) :=
 ((H[l]?).bind j8).bind fun cs=>cond (cs.all fun x=>(fh H m k x.drop).plain&&jU x) (some (cs.map fun x=>fh H m k x.drop)) none
def ajd(gh:Gh)(H:ag)(m:Nat)(b o:Nat):Prop:=gh.S b o\/∃ k l cs,m<=l/\po H m k l=some cs/\gh.ρ l=b/\o<cs.length
def Gh.Un(gh:Gh)(H:ag)(m:Nat):Gh:={ gh with S:=ajd gh H m }
theorem qk{m k l:Nat}{cs:List AV}(h:po H m k l=some cs):∃ o ds,H[l]?=some o/\j8 o=some ds/\cs=ds.map (fun x=>fh H m k x.drop)/\∀ x,x∈ds->(fh H m k x.drop).plain=true/\jU x=true:=by
 unfold po at h
 simp only[apu] at h
 obtain⟨ds,⟨o,ho,hd⟩,h⟩:=h
 obtain⟨h0,h⟩:=ab h
 injection h with h
 refine⟨o,ds,ho,hd,h.symm,fun x hx=>?_⟩
 have:=apA.1 h0 x hx
 simpa using this
theorem J6(hW:aM G base H gh w){l:Nat}{o:ct}{ds:List AV}(ho:H[l]?=some o)(hd:j8 o=some ds):gR gh H.length w (gh.ρ l) (.hb l) (fun j=>.hs l j) ds:=by
 cases o<;>simp only[j8,reduceCtorEq,apv] at hd
 ·subst hd;exact hW.boxes l _ _ ho
 ·subst hd;exact hW.more l _ ho
theorem uE(hW:aM G base H gh w)(m n:Nat):Step (fun r=>∃ l,m<=l/\r=.hb l) n gh w (gh.Un H m) w:=by
 refine⟨fun b o h=>.inl h,fun _ _ _=>rfl,apz _,rfl,rfl,rfl,fun b hb hn=>⟨.inl rfl,rfl,fun o ho=>?_⟩,fun b hb=>hW.bL b hb,fun _ _=>rfl,fun _ _ _ h=>h,fun _ _ _ _ h=>h⟩
 rcases ho with ho|⟨k,l,cs,hl,hf,hρ,_⟩
 ·exact ho
 ·exfalso
  obtain⟨o',ds,mY,hd,_⟩:=qk hf
  exact hn ⟨l,hl,by rw[<- hρ];exact (J6 hW mY hd).1⟩
theorem yw(hW:aM G base H gh w){m k l:Nat}(hV:∀ {v:Value} {x:AV},VR gh H.length w v x->VR (gh.Un H m) H.length w v (fh H m k x))(hm:m<=l){cs:List AV}(hf:po H m k l=some cs){j:Nat}{x:AV}(hx:cs[j]?=some x) :
  ∃ v,w.cell? ⟨gh.ρ l,j,none⟩=some v/\PR (gh.Un H m).S w v x/\(gh.Un H m).S (gh.ρ l) j/\∀ n,v≠.int .u8 n:=by
 have hf0:=hf
 obtain⟨o',ds,mY,hd,rfl,dy⟩:=qk hf
 obtain⟨hκ,hS,C,Oy,hb,hle,cP⟩:=J6 hW mY hd
 have DZ:=(apw.1 hx).1
 simp only[apG,apt] at hx
 obtain⟨y,hy,rfl⟩:=hx
 have hj2:=(apw.1 hy).1
 have hv:C[j]?=some C[j]:=apJ (by omega)
 obtain⟨k1,k2⟩:=cP j _ y hv hy
 obtain⟨p1,p2⟩:=dy y (apF hy)
 refine⟨C[j],by rw[cell_of_row w _ j C Oy _ hb];exact hv,(hV k2.dropped).kb p1,.inr ⟨k,l,_,hm,hf0,rfl,DZ⟩,fun n hn=>?_⟩
 have CY:=k2.dropped
 rw[hn] at CY
 cases CY with
 | plain _ _ h =>
  cases y<;>simp only[AV.drop] at h<;>cases h<;>simp[jU] at p2
theorem ri{z:Nat} : ∀ {n:Nat} {l:List AV} {i:Nat} {r:List AV},(chunks z n l)[i]?=some r->i<n/\r=(l.drop (i*z)).take z
 | 0,l,i,r,h=>by simp[chunks] at h
 | n+1,l,0,r,h=>by simp[chunks] at h;exact⟨by omega,by simp[h]⟩
 | n+1,l,i+1,r,h=>by
  simp only[chunks,apT] at h
  obtain⟨h1,h2⟩:=ri h
  refine⟨by omega,?_⟩
  rw[h2,aq8,aqd,ark,arM z]
theorem wm{z:Nat} : ∀ {n:Nat} {l:List AV},(chunks z n l).length=n
 | 0,l=>rfl
 | n+1,l=>by simp[chunks,wm]
theorem xr(hW:aM G base H gh w){m:Nat} : ∀ (k:Nat) {v:Value} {x:AV},VR gh H.length w v x->VR (gh.Un H m) H.length w v (fh H m k x)
 | 0,v,x,h=>h.mono (uE hW m _) (apz _)
 | d+1,v,x,h=>by
  have ih:=@xr hW m d
  have h0:VR (gh.Un H m) H.length w v x:=h.mono (uE hW m _) (apz _)
  unfold fh
  split
  ·rename_i l off k z
   cases hb:Nat.ble m l with
   | false=>exact h0
   | true =>
    rw[cond_true]
    split
    ·rename_i ds w9
     cases jd:(Nat.blt 0 z&&Nat.ble (off+k*z) ds.length&&ds.all fun x=>(fh H m d x.drop).plain&&jU x) with
     | false=>exact h0
     | true =>
      rw[cond_true]
      simp only[Bool.and_eq_true,ap0,Nat.ble_eq] at jd
      obtain⟨⟨hz,hle⟩,dy⟩:=jd
      have fF:po H m d l=some (ds.map fun x=>fh H m d x.drop):=by
       unfold po
       rw[w9,apB,dy];rfl
      generalize hcc:ds.map (fun x=>fh H m d x.drop)=cs at *
      obtain⟨_,cap,hk,_,rfl⟩:=h.jA
      have HZ:m<=l:=by simpa [Nat.ble_eq] using hb
      have cell:∀ {i j:Nat} {r:List AV} {y:AV},(chunks z k (cs.drop off))[i]?=some r->r[j]?=some y->i<k/\j<z/\cs[off+i*z+j]?=some y:=by
       intro i j r y hi hj
       obtain⟨h1,rfl⟩:=ri hi
       rw[apR] at hj
       split at hj
       ·rename_i h2
        rw[ap',ap'] at hj
        exact⟨h1,h2,by rw[<- hj];congr 1;omega⟩
       ·cases hj
      have hlen:cs.length=ds.length:=by rw[<- hcc];simp
      refine .plain _ _ (.slice (gh.ρ l) off k cap z _ (fun i j=>(w.cell? ⟨gh.ρ l,off+i*z+j,none⟩).getD undef) wm hk (fun i r hi=>?_) (fun i j r y hi hj=>?_) (fun i j r y hi hj=>?_))
      ·obtain⟨h1,rfl⟩:=ri hi
       have:(i+1)*z<=k*z:=ap4 _ h1
       rw[aqd] at this
       simp;omega
      ·obtain⟨_,_,hc⟩:=cell hi hj
       obtain⟨u,k1,k2,k3,_⟩:=yw hW ih HZ fF hc
       exact⟨k3,by rw[k1];rfl,by rw[k1];exact k2.fg⟩
      ·obtain⟨_,_,hc⟩:=cell hi hj
       obtain⟨u,k1,k2,_⟩:=yw hW ih HZ fF hc
       rw[k1];exact k2
    ·exact h0
  ·exact h0
theorem KU(hW:aM G base H gh w){m:Nat}{v:Value}{x:AV}(h:VR gh H.length w v x):VR (gh.Un H m) H.length w v (MN H m x):=by
 unfold MN
 split
 ·rename_i cs
  obtain⟨C,rfl,hs,fX,hc⟩:=h.jQ
  refine .agg C _ (by simpa using hs) fX (fun j v x hv hx=>?_)
  simp only[apG,apt] at hx
  obtain⟨y,hy,rfl⟩:=hx
  exact xr hW Vk (hc j v y hv hy)
 ·exact xr hW Vk h
theorem afS(hW:aM G base H gh w){m:Nat}(hm:m<=H.length)(hold:wi H m gh w):aM G base (H.take m) (gh.Un H m) w:=by
 have MX:=hW.DB hm hold
 have ZL:(H.take m).length=m:=by simp;omega
 have st:=uE hW m (H.take m).length
 have ht:∀ l,l<m->¬ (∃ k,m<=k/\bc.hb l=.hb k)/\∀ j,¬ (∃ k,m<=k/\bc.hs l j=.hb k):=by
  refine fun l hl=>⟨?_,fun j=>?_⟩
  ·rintro ⟨k,hk,h⟩
   injection h with h
   omega
  ·rintro ⟨k,hk,h⟩
   cases h
 have lt:∀ {l:Nat} {o:ct},(H.take m)[l]?=some o->l<m:=fun h=>by have:=(apw.1 h).1;omega
 refine⟨MX.size,fun b o ho=>?_,MX.oT,fun g j x hx=>?_,fun loc ty cs hl=>?_,MX.refs,MX.xg,MX.kj st (fun b o n ho=>?_),fun loc o hl=>?_,fun loc ty cs hl=>MX.types loc ty cs hl⟩
 ·rcases ho with ho|⟨k,l,cs,hl,hf,rfl,_⟩
  ·exact hW.nB b o ho
  ·obtain⟨o',ds,mY,hd,_⟩:=qk hf
   obtain⟨_,_,C,Oy,hb,_⟩:=J6 hW mY hd
   exact (apD.1 hb).1
 ·obtain⟨v,h1,h2,h3⟩:=MX.aO g j x hx
  exact⟨v,h1,h2.mono st.S st.cell st.mp,st.S g j h3⟩
 ·exact (MX.boxes loc ty cs hl).mono st (apz _) (ht loc (lt hl)).1 (ht loc (lt hl)).2
 ·rcases ho with ho|⟨k,l,cs,hl,hf,rfl,aU⟩
  ·exact .inl ho
  ·refine .inr fun hc=>?_
   obtain⟨v,k1,_,_,k4⟩:=yw hW (xr hW k) hl hf (apy aU)
   rw[k1] at hc
   injection hc with hc
   exact absurd hc (k4 n)
 ·exact (MX.more loc o hl).mono st (apz _) (ht loc (lt hl)).1 (ht loc (lt hl)).2
theorem YJ{gC:Gh}{w0:World}(iw:clean gC)(hI:Inv G base nt L H gC w0 s gh w a){fn:Func}{rs:List gu}(hc:jN P nt fn.results.toList=some rs){r:AV}{c:Option gk}(hold:∀ aK w',aM G base s.H aK w'->wi s.H H.length aK w')(he:qi H.length rs s=some (r,c)) :
  ∃ v aK,(results fn a.tmps).run P w=.ok v w/\lW G base H gC w0 r c v aK w:=by
 obtain⟨hr,hlv,ql⟩:=yp he
 have hlen:=hI.lo.len
 have qT:=(KR hI.lo ql).2
 have Bf:(oV H c).length=H.length:=by rw[qT];simp;omega
 have zE:=uE hI.W H.length H.length
 have Oj:Ext H.length gh w (gh.Un s.H H.length) w:=⟨zE.mono (fun r h=>by obtain⟨l,_,rfl⟩:=h;exact⟨by simp,by simp⟩),fun b hb=>hb⟩
 have fin:∀ {v:Value},(results fn a.tmps).run P w=.ok v w->VR (gh.Un s.H H.length) s.H.length w v r->∃ v aK,(results fn a.tmps).run P w=.ok v w/\lW G base H gC w0 r c v aK w:=by
  intro v h1 h4
  have hE:=hI.E.trans Oj (apz _)
  refine⟨v,_,h1,aqJ Bf.symm,by rw[qT];exact afS hI.W hlen (hold _ _ hI.W),?_,hE.out,by rw[Bf];exact .inl (h4.leaves hlv)⟩
  have st:=hE.step
  refine⟨st.S,st.cell,st.size,st.os,st.tape,st.output,fun b hb hn=>st.zS b hb (fun ht=>hn ?_),st.fresh,st.ρ,st.len,st.mp⟩
  rcases iw b with h|h|h|h
  ·exact absurd h ht.1
  ·exact absurd h ht.2
  ·exact .inl h
  ·exact .inr h
 obtain⟨hl,rG⟩:=jt hc
 have one:∀ (rv:ResultVar) (v:Value),fn.results.toList=[rv]->(nX a.tmps rv).run P w=.ok v w->(results fn a.tmps).run P w=.ok v w:=by
  intro rv v h1 h2
  have:=jF (P:=P) (w:=w) (fn:=fn) (tmps:=a.tmps) (vs:=[v]) (by rw[h1];rfl) (fun j r' v' hr hv=>by
   rw[h1] at hr
   cases j with
   | zero=>simp at hr hv;subst hr hv;exact h2
   | succ j=>simp at hr)
  simpa using this
 unfold u3 at hr
 split at hr
 ·rename_i i
  have K7:([i]:List gu)=[i]:=rfl
  rw[K7] at hl
  obtain⟨rv,Nc⟩:∃ rv,fn.results.toList=[rv]:=aqQ.1 (by simpa using hl)
  have Ok:=rG 0 rv i (by rw[Nc];rfl) (by rw[K7];rfl)
  simp only[apt] at hr
  obtain⟨z,hz,rfl⟩:=hr
  obtain⟨v,h1,h2⟩:=zr (P:=P) hI.W hI.F Ok hz
  have hv:VR gh s.H.length w v z.aX:=by
   rcases h2 with ⟨t,_,_,_,_,kQ⟩|CY
   ·exact jv kQ.dropped
   ·exact jv CY.dropped
  exact fin (one _ _ Nc h1) (KU hI.W hv)
 ·rename_i bC
  simp only[apt] at hr
  obtain⟨xs,hxs,rfl⟩:=hr
  obtain⟨vs,k1,k2,k3,k4⟩:=DG (P:=P) hI.W hI.F _ _ xs hl rG hxs
  have s6:vs.length≠1:=by
   intro h
   rw[<- k1,hl] at h
   obtain⟨i,hi⟩:=aqQ.1 h
   exact bC i hi
  have cE:=jF (P:=P) (w:=w) (fn:=fn) (tmps:=a.tmps) k1 k3
  rw[dif_neg (by simpa using s6)] at cE
  refine fin cE (.tuple vs.toArray _ (by simpa using k2) (fun j v x hv hx=>?_))
  simp only[apG,apt] at hx
  obtain⟨y,hy,rfl⟩:=hx
  exact KU hI.W (k4 j v y (by simpa using hv) hy)
theorem YH{gC:Gh}{w0:World}(iw:clean gC)(hI:Inv G base nt L H gC w0 s gh w a){fn:Func}{rs:List gu}(hc:jN P nt fn.results.toList=some rs){r:AV}{c:Option gk}(he:yl rs s=some (r,c)) :
  ∃ v aK,(results fn a.tmps).run P w=.ok v w/\lW G base H gC w0 r c v aK w:=by
 obtain⟨bC,xs,hxs,rfl,rfl⟩:=yn he
 obtain⟨hl,rG⟩:=jt hc
 obtain⟨vs,k1,k2,k3,k4⟩:=DG (P:=P) hI.W hI.F _ _ xs hl rG hxs
 have s6:vs.length≠1:=by
  intro h
  rw[<- k1,hl] at h
  exact bC h
 have cE:=jF (P:=P) (w:=w) (fn:=fn) (tmps:=a.tmps) k1 k3
 rw[dif_neg (by simpa using s6)] at cE
 refine⟨_,gh,cE,hI.lo.len,hI.W,?_,hI.E.out,.inl (.tuple vs.toArray xs (by simpa using k2) (fun j v x hv hx=>k4 j v x (by simpa using hv) hx))⟩
 have st:=hI.E.step
 refine⟨st.S,st.cell,st.size,st.os,st.tape,st.output,fun b hb hn=>st.zS b hb (fun ht=>hn ?_),st.fresh,st.ρ,st.len,st.mp⟩
 rcases iw b with h|h|h|h
 ·exact absurd h ht.1
 ·exact absurd h ht.2
 ·exact .inl h
 ·exact .inr h
theorem lL{gC ghI:Gh}{w0 wI:World}(MX:aM G base H ghI wI)(iw:clean gC)(hI:Inv G base nt L H gC w0 s gh w a){fn:Func}{la:ay}(hc:jN P nt fn.results.toList=some la.results){r:AV}{c:Option gk}(he:finish H.length la s=some (r,c)) :
  jW H c/\∃ v aK,(results fn a.tmps).run P w=.ok v w/\lW G base H gC w0 r c v aK w:=by
 refine⟨kq hI.lo he,?_⟩
 rcases wy he with ⟨r0,he,hr⟩|he
 case inr=>exact YH iw hI hc he
 suffices hs:∃ v aK,(results fn a.tmps).run P w=.ok v w/\lW G base H gC w0 r0 c v aK w by
  obtain⟨v,aK,k1,k2⟩:=hs
  rcases hr with rfl|rfl
  ·exact⟨v,aK,k1,k2⟩
  ·exact⟨v,aK,k1,{ k2 with val:=XT k2.val }⟩
 clear hr
 obtain⟨ho,he⟩:=yt he
 have hold:∀ aK w',aM G base s.H aK w'->wi s.H H.length aK w':=fun aK w' h=>ac' MX hI.lo ho h
 rcases he with he|he|he|he
 ·exact YI iw hI hc hold he
 ·exact (Ki iw hI hc hold he).2
 ·exact YK iw hI hc hold he
 ·exact YJ iw hI hc hold he
section
variable {cf:cA}(iI:∀ f args H r c,cf f args H=some (r,c)->jW H c)
include iI
theorem Pt{draw:Bool}{o:aj}{z:AV}{s s1:AS}(he:kD G cf draw s o=some (z,s1))(h:dZ H s):dZ H s1:=by
 have cE:((au G cf s o.op).bind fun r=>match r.2 with
   | none=>cond (draw&&(aP r.1).isSome) none (some (r.1,s))
   | some s'=>cond draw none (some (r.1,s')))=some (z,s1)->dZ H s1:=by
  intro h1
  simp only[apu] at h1
  obtain⟨⟨z',s'⟩,bf,h1⟩:=h1
  cases s' with
  | none =>
   simp only at h1
   cases hb:(draw&&(aP z').isSome) with
   | true=>rw[hb] at h1;cases h1
   | false =>
    rw[hb] at h1
    simp only[apE,apv,apx] at h1
    rw[<- h1.2];exact h
  | some s' =>
   simp only at h1
   cases draw with
   | true=>cases h1
   | false =>
    simp only[apE,apv,apx] at h1
    rw[<- h1.2];exact KN iI bf h
 unfold kD at he
 cases hg:o.guard with
 | none=>rw[hg] at he;exact cE he
 | some gw =>
  obtain⟨g,want⟩:=gw
  rw[hg] at he
  simp only at he
  generalize s.T g=X at he
  cases X with
  | bool b =>
   simp only at he
   cases hc:(b==want) with
   | false =>
    rw[hc] at he
    simp only[apE,apv,apx] at he
    rw[<- he.2];exact h
   | true=>rw[hc] at he;exact cE he
  | tuple vs =>
   cases vs with
   | nil=>simp only[apv,apx] at he;rw[<- he.2];exact h
   | cons v vs=>cases he
  | _=>cases he
theorem ry{draw:Bool} : ∀ (is:List aj) (s s' : AS),bP G cf draw is s=some s'->dZ H s->dZ H s'
 | [],s,s',he,h=>by simp only[bP,apv] at he;rw[<- he];exact h
 | o :: r,s,s',he,h=>by
  simp only[bP,apu,nL,apt] at he
  obtain⟨s1,⟨⟨z,s2⟩,hz,rfl⟩,he⟩:=he
  have h2:=Pt iI hz h
  exact ry r _ s' he (h2.dY (gS _ _ _).1 (gS _ _ _).2.2)
theorem ru(n:Nat):∀ (c:bO) (s s' : AS) (ex:bq),iG G cf n c s=some (ex,s')->dZ H s->dZ H s'
 | .skip,s,s',ex,he,h=>by simp only[iG,apv,apx] at he;rw[<- he.2];exact h
 | .region d ops,s,s',ex,he,h=>by
  simp only[iG,apt,apx] at he
  obtain⟨s2,he,_,rfl⟩:=he
  exact ry iI ops s s2 he h
 | .seq a b,s,s',ex,he,h=>by
  simp only[iG,apu] at he
  obtain⟨⟨e1,s1⟩,h1,he⟩:=he
  have h2:=ru n a s s1 e1 h1 h
  cases e1 with
  | normal=>exact ru n b s1 s' ex he h2
  | _=>simp only[apv,apx] at he;rw[<- he.2];exact h2
 | .cond c a b,s,s',ex,he,h=>by
  simp only[iG] at he
  split at he
  ·rename_i t _
   cases t with
   | true=>exact ru n a s s' ex he h
   | false=>exact ru n b s s' ex he h
  ·cases he
 | .block id a,s,s',ex,he,h=>by
  simp only[iG,apt] at he
  obtain⟨⟨e1,s1⟩,h1,he⟩:=he
  have h2:=ru n a s s1 e1 h1 h
  cases e1<;>(simp only[apx] at he;rw[<- he.2];exact h2)
 | .loop a,s,s',ex,he,h=>by
  simp only[iG] at he
  have go:∀ (m:Nat) (s:AS),iter (iG G cf n a) m s=some (ex,s')->dZ H s->dZ H s':=by
   intro m
   induction m with
   | zero=>intro s h;cases h
   | succ m ih =>
    intro s h1 h
    simp only[iter,apu] at h1
    obtain⟨⟨e1,s1⟩,h1,h2⟩:=h1
    have h3:=ru n a s s1 e1 h1 h
    cases e1 with
    | normal=>exact ih s1 h2 h3
    | _=>simp only[apv,apx] at h2;rw[<- h2.2];exact h3
  exact go n s he h
 | .exit id,s,s',ex,he,h=>by simp only[iG,apv,apx] at he;rw[<- he.2];exact h
 | .ret,s,s',ex,he,h=>by simp only[iG,apv,apx] at he;rw[<- he.2];exact h
 | .ub _ _ _,s,s',ex,he,h=>by simp[iG] at he
end
def Gh.taken(gh:Gh):Gh:={ gh with κ:=fun b=>match gh.κ b with|.par j=>.sl j|o=>o }
def ag7(p:bc):Prop:=∃ j,p=.par j
theorem tX(hW:aM G base H gh w)(n:Nat):Step ag7 n gh w gh.taken w:=by
 refine⟨fun _ _ h=>h,fun _ _ _=>rfl,apz _,rfl,rfl,rfl,fun b hb hn=>⟨.inl rfl,?_,fun _ h=>h⟩,fun b hb=>?_,fun _ _=>rfl,fun _ _ _ h=>h,fun _ _ _ _ h=>h⟩
 ·simp only[Gh.taken]
  cases h:gh.κ b<;>first|rfl|skip
  exact absurd ⟨_,h⟩ hn
 ·simp only[Gh.taken,hW.fresh b hb]
  simp
theorem Za(hW:aM G base H gh w):aM G base H gh.taken w:=by
 refine hW.step (tX hW H.length) (fun l=>⟨fun h=>(by obtain⟨j,h⟩:=h;cases h),fun k h=>(by obtain⟨j,h⟩:=h;cases h)⟩) hW.nB (fun b hb=>hW.oT b fun h=>hb ?_) (fun _ _ _ h=>.inl h)
 simp[Gh.taken,h]
theorem Uc(hW:aM G base H gh w){n j:Nat}{v:Value}{x:AV}(h:CR gh n w (.par j) v x):CR gh.taken n w (.sl j) v x:=by
 have st:=tX hW n
 rcases h with h|⟨e,rfl,h1,h2⟩
 ·exact .inl (h.mono st (apz _))
 ·refine .inr ⟨e,rfl,h1,?_⟩
  obtain⟨b,cap,C,ty,lo,hi,sz,k1,k2,k3,k4,k5⟩:=h2
  exact⟨b,cap,C,ty,lo,hi,sz,k1,by simp[Gh.taken,k2],k3,k4,k5⟩
theorem uO{H:ag}{fn:Func}{locals muts:List Nat}{args:List AV}{gh:Gh}{w:World}{vs:Array Value}(hW:aM G base H gh w)(pQ:vs.size=args.length)(gM:vs.size<=fn.ntmps)(cy:∀ (j:Nat) (v:Value) (x:AV),vs[j]?=some v->args[j]?=some x->CR gh H.length w (.par j) v x) :
  Inv G base fn.ntmps (locals++muts) H gh w ({ T:=gD args,H,lo:=H.length,gen:=0 } : AS) gh.taken w { tmps:=vs++Array.replicate (fn.ntmps-vs.size) undef,defers:=[] }:=by
 have dH:∀ b,w.heap.size<=b->gh.κ b≠.outer:=fun b hb=>hW.bL b hb
 have hE:Ext H.length gh w gh.taken w:=⟨(tX hW H.length).mono (fun p hp=>by obtain⟨j,rfl⟩:=hp;simp[pM]),fun b hb=>by
  simp only[Gh.taken] at hb
  cases h:gh.κ b<;>rw[h] at hb<;>first|exact hb|cases hb⟩
 refine⟨Za hW,⟨⟨rfl,by simp;omega,fun i hi=>?_⟩,fun i hi=>?_⟩,hE,⟨apz _,apz _,fun _ _=>rfl⟩⟩
 ·have kQ:CR gh.taken H.length w (.sl i) ((vs++Array.replicate (fn.ntmps-vs.size) undef).getD i undef) (gD args i):=by
   by_cases aU:i<vs.size
   ·have h1:=apJ aU
    have h2:=apy (show i<args.length by omega)
    have h3:=cy i _ _ h1 h2
    have e1:(vs++Array.replicate (fn.ntmps-vs.size) undef).getD i undef=vs[i]:=by
     rw[arE,ar4 aU,h1];rfl
    have e2:gD args i=args[i]:=by simp only[gD,apX,h2];rfl
    rw[e1,e2]
    exact Uc hW h3
   ·have e1:(vs++Array.replicate (fn.ntmps-vs.size) undef).getD i undef=undef:=by
     rw[arE,Array.getElem?_append_right (by omega)]
     by_cases h:i-vs.size<fn.ntmps-vs.size
     ·simp[h]
     ·simp[h]
    have e2:gD args i=.undef:=by simp only[gD,apX,aqK (show args.length<=i by omega)];rfl
    rw[e1,e2]
    exact .inl .undef
  exact lM kQ.aq kQ
 ·exfalso
  have hn:aP (gD args i)=none:=by
   by_cases aU:i<args.length
   ·have h1:=apJ (show i<vs.size by omega)
    have h2:=apy aU
    have e2:gD args i=args[i]:=by simp only[gD,apX,h2];rfl
    rw[e2]
    exact iY (cy i _ _ h1 h2).aq
   ·have e2:gD args i=.undef:=by simp only[gD,apX,aqK (show args.length<=i by omega)];rfl
    rw[e2];rfl
  have jr:(aP (gD args i)).isSome=true:=hi
  rw[hn] at jr
  cases jr
theorem zu{cf:cA}(iI:cU P G cf)(hm:P.follows .mixedOrders=true){f:FuncId}{fn:Func}(sQ:P.funcs[f]?=some fn){bJ locals muts:List Nat}{la:ay}(hc:lq P bJ locals muts fn=some la)
  {n:Nat} {args:List AV} {r:AV} {c:Option gk} (he:tS G cf n la args H=some (r,c)) :
  (fn.body.isSome=true/\fn.name≠ "runtime.NumGoroutine")/\jW H c /\
  ∀ (base:Nat) (gh:Gh) (w:World) (vs:Array Value),aM G base H gh w->clean gh->vs.size=args.length->(∀ (j:Nat) (v:Value) (x:AV),vs[j]?=some v->args[j]?=some x->CR gh H.length w (.par j) v x) ->
   Calls P f vs w fun e w'=>∃ v aK,e=.returned v/\lW G base H gh w r c v aK w':=by
 simp only[lq,apu] at hc
 obtain⟨code,l9,b,hb,rs,yK,hc⟩:=hc
 obtain⟨h0,hc⟩:=ab hc
 injection hc with hc
 subst hc
 simp only[Bool.and_eq_true,Nat.ble_eq,bne_iff_ne,ne_eq] at h0
 simp only[tS] at he
 obtain⟨h1,he⟩:=ab he
 have Ur:args.length=fn.params.size+fn.nfree:=by simpa [dX] using h1
 simp only[apu] at he
 obtain⟨⟨ex,s'⟩,bf,he⟩:=he
 have ql:jW H c:=by
  have qO:=ru (H:=H) (fun f args H r c h=>(iI f args H r c h).2.1) n b _ s' ex bf ⟨apz _,apz _,fun _ _=>rfl⟩
  cases ex with
  | normal=>exact kq qO he
  | exit id=>cases he
  | ret=>exact kq qO he
 refine⟨⟨by rw[l9];rfl,h0.2⟩,ql,fun base gh w vs hW iw pQ cy=>?_⟩
 refine calls_of_wp sQ l9 ?_
 have dH:∀ b,w.heap.size<=b->gh.κ b≠.outer:=fun b hb=>hW.bL b hb
 have gM:vs.size<=fn.ntmps:=by omega
 have hI:=uO (locals:=locals) (muts:=muts) hW pQ gM cy
 refine gJ iI hm n code b hb _ s' ex gh.taken w _ _ hI bf (fun a' aK w' iT=>?_)
 have done:finish H.length { bJ,locals,muts,nt:=fn.ntmps,np:=fn.params.size+fn.nfree,results:=rs,body:=b } s'=some (r,c) ->
   a'.defers=[]/\∃ v,(results fn a'.tmps).run P w'=.ok v w'/\∃ v' aK,Ending.returned v=.returned v'/\lW G base H gh w r c v' aK w':=by
  intro hf
  obtain⟨_,v,CX,hv,hR⟩:=lL (P:=P) hW iw iT yK hf
  exact⟨iT.F.defers,v,hv,v,CX,rfl,hR⟩
 cases ex with
 | normal=>exact done he
 | exit id=>cases he
 | ret=>exact done he
def jk(P:Program)(G:Nat->List AV)(f:FuncId)(g:List AV->ag->Option (AV × Option gk)):Prop :=
 ∀ args H r c,g args H=some (r,c)->(∃ fn,P.funcs[f]?=some fn/\fn.body.isSome=true/\fn.name≠ "runtime.NumGoroutine")/\jW H c /\
  ∀ (base:Nat) (gh:Gh) (w:World) (vs:Array Value),aM G base H gh w->clean gh->vs.size=args.length->(∀ (j:Nat) (v:Value) (x:AV),vs[j]?=some v->args[j]?=some x->VR gh H.length w v x) ->
   Calls P f vs w fun e w'=>∃ v aK,e=.returned v/\lW G base H gh w r c v aK w'
structure nD (P:Program) (A:AP):Prop where
 mixed:P.follows .mixedOrders=true
 fns:∀ f la,A.fns f=some la->∃ fn bJ locals muts,P.funcs[f]?=some fn/\lq P bJ locals muts fn=some la
 ov:∀ f g,A.ov f=some g->jk P A.aO f g
theorem vB{A:AP}(h:nD P A):∀ n,cU P A.aO (zN A n)
 | 0=>fun f args H r c he=>by cases he
 | n+1=>fun f args H r c he=>by
  simp only[zN] at he
  split at he
  ·rename_i g hg
   obtain⟨h0,he⟩:=ab he
   obtain⟨k1,k2,k3⟩:=h.ov f g hg args H r c he
   refine⟨k1,k2,fun base gh w vs hW iw pQ cy=>k3 base gh w vs hW iw pQ (fun j v x hv hx=>?_)⟩
   rcases cy j v x hv hx with h|⟨e,rfl,_⟩
   ·exact h
   ·have:=apA.1 h0 _ (apF hx)
    simp[qw] at this
  ·split at he
   ·cases he
   ·rename_i la hf
    obtain⟨fn,bJ,locals,muts,sQ,hc⟩:=h.fns f la hf
    obtain⟨⟨h1,h2⟩,h3,h4⟩:=zu (vB h n) h.mixed sQ hc he
    exact⟨⟨fn,sQ,h1,h2⟩,h3,h4⟩
end
end
end Go.Abs
