/-
  A part of the proof of PrintKept: AbsCode.
-/
import Derived.Test.YtaedakihpnghjaaGreatDoorP10
set_option linter.unusedSimpArgs false
set_option linter.unusedVariables false
section
namespace Go.Abs
set_option linter.unusedSimpArgs false
set_option linter.unusedVariables false
def IExit.exit' : IExit→Exit
 | .normal=>.normal
 | .exit id=>.exit id
 | .ret=>.ret
section
variable {P:Program} {G:Nat→List AV} {base nt:Nat} {gh:Gh} {w w' : World} {a:Act} {s:AS} {H:AHeap} {L:List Nat}
theorem Inv.drew {H0:AHeap} {gh0:Gh} {w0:World} (h:Inv G base nt L H0 gh0 w0 s gh w a):Inv G base nt L H0 gh0 w0 s gh { w with drawn:=w.drawn+1 } a:=by
 have st:Step (fun _=>False) s.H.length gh w gh { w with drawn:=w.drawn+1 }:=⟨fun _ _ h=>h,fun _ _ _=>rfl,Nat.le_refl _,rfl,rfl,rfl,fun _ _ _=>⟨.inl rfl,rfl,fun _ h=>h⟩,fun b hb=>h.W.not_outer b hb,fun _ _=>rfl,fun _ _ _ h=>h,fun _ _ _ _ h=>h⟩
 exact⟨h.W.step st (fun l=>⟨id,fun _=>id⟩) h.W.sLt h.W.kLt (fun _ _ _ h=>.inl h),h.F.grown (H':=s.H) (lo':=s.lo) st (fun i=>⟨id,id,fun _=>id⟩) (Nat.le_refl _),
  h.E.trans ⟨st.mono (fun _ h=>h.elim),fun _ h=>h⟩ h.lo.len,h.lo⟩
theorem code_sound {cf:CallF} (hcf:CallsSound P G cf) (hm:P.follows .mixedOrders=true) {H0:AHeap} {gh0:Gh} {w0:World} {takes locals muts:List Nat} (n:Nat) :
  ∀ (c:Code) (ic:ICode),compC P takes locals muts nt c=some ic→∀ (s s' : AS) (ex:IExit) (gh:Gh) (w:World) (a:Act) (Q:Exit→Act→World→Prop),Inv G base nt (locals++muts) H0 gh0 w0 s gh w a→evC G cf n ic s=some (ex,s') →
   (∀ a' gh' w',Inv G base nt (locals++muts) H0 gh0 w0 s' gh' w' a'→Q ex.exit' a' w')→c.wp P Q a w
 | .skip,ic,hc,s,s',ex,gh,w,a,Q,hI,he,hQ=>by
  simp only[compC,Option.some.injEq] at hc
  subst hc
  simp only[evC,Option.some.injEq,Prod.mk.injEq] at he
  obtain⟨rfl,rfl⟩:=he
  exact wp_skip (hQ a gh w hI)
 | .region id ops draw,ic,hc,s,s',ex,gh,w,a,Q,hI,he,hQ=>by
  simp only[compC,Option.bind_eq_some_iff] at hc
  obtain⟨is,his,hc⟩:=hc
  cases hd3:cond draw (drawn3 locals ops.toList is) none with
  | some c3 =>
   rw[hd3] at hc
   injection hc with hc
   subst hc
   obtain⟨rfl,mode,pc,es,h1,h2,rfl⟩:=drawn3_inv hd3
   simp only[evC,Option.map_eq_some_iff,Prod.mk.injEq] at he
   obtain⟨s2,he,rfl,rfl⟩:=he
   exact wp_region_any hm (draw3_sound hcf (fun x hx=>List.mem_append.2 (.inl hx)) (fun x hx=>List.mem_append.2 (.inr hx)) Q hI.drew his h1 h2 he hQ)
  | none =>
  rw[hd3] at hc
  simp only at hc
  cases hb:(!draw || (!(locals.elem 999998)&&orderOk (locals++muts) (ops.toList.zip is))) with
  | false =>
   rw[hb,cond_false] at hc
   cases h0:(!(locals.elem 999998)&&orderOk2 (locals++muts) (ops.toList.zip is)) with
   | false =>
    rw[h0,cond_false] at hc
    obtain⟨_,hc⟩:=cond_some hc
    injection hc with hc
    subst hc
    simp[evC] at he
   | true =>
   rw[h0,cond_true] at hc
   injection hc with hc
   subst hc
   cases draw with
   | false=>cases hb
   | true =>
    simp only[drawn,evC] at he
    cases h1:evOps G cf false (maskOps (boxesOf is)) s with
    | none=>rw[h1] at he;cases he
    | some s1 =>
    simp only[h1,Option.map_some,Option.bind_some] at he
    cases h2:evOps G cf true (onlyP (boxesOf is) is) s1 with
    | none=>rw[h2] at he;cases he
    | some s2 =>
    simp only[h2,Option.map_some,Option.bind_some] at he
    cases h3:evOps G cf false (onlyA is) s2 with
    | none=>rw[h3] at he;cases he
    | some s3 =>
    simp only[h3,Option.map_some,Option.bind_some] at he
    cases h4:evOps G cf false (onlyS (boxesOf is) is) s3 with
    | none=>rw[h4] at he;cases he
    | some s4 =>
    simp only[h4,Option.map_some,Option.some.injEq,Prod.mk.injEq] at he
    obtain⟨rfl,rfl⟩:=he
    have hl:ops.size=is.length:=by simpa using (compOpers_inv his).1
    exact wp_region_any hm (draw2_sound hcf (fun x hx=>List.mem_append.2 (.inl hx)) (fun x hx=>List.mem_append.2 (.inr hx)) Q hI.drew his (orderOk2_inv hl (Bool.and_eq_true_iff.1 h0).2) h1 h2 h3 h4 hQ)
  | true =>
  have h0:=hb
  rw[hb,cond_true] at hc
  injection hc with hc
  subst hc
  simp only[evC,Option.map_eq_some_iff,Prod.mk.injEq] at he
  obtain⟨s2,he,rfl,rfl⟩:=he
  have hLl:∀ x,x∈locals→x∈locals++muts:=fun x hx=>List.mem_append.2 (.inl hx)
  have hLm:∀ x,x∈muts→x∈locals++muts:=fun x hx=>List.mem_append.2 (.inr hx)
  cases draw with
  | false=>exact wp_region_list (ops_sound hcf hLl hLm Q ops.toList is s s2 gh w a hI his he hQ)
  | true =>
   rw[Bool.not_true,Bool.false_or] at h0
   have hl:ops.size=is.length:=by simpa using (compOpers_inv his).1
   exact wp_region_any hm (draw_sound hcf hLl hLm Q hI.drew his (orderOk_inv hl (Bool.and_eq_true_iff.1 h0).2) he hQ)
 | .seq x y,ic,hc,s,s',ex,gh,w,a,Q,hI,he,hQ=>by
  simp only[compC,Option.bind_eq_some_iff,Option.map_eq_some_iff] at hc
  obtain⟨ix,hx,iy,hy,rfl⟩:=hc
  simp only[evC,Option.bind_eq_some_iff] at he
  obtain⟨⟨e1,s1⟩,h1,he⟩:=he
  refine wp_seq (code_sound hcf hm n x ix hx s s1 e1 gh w a _ hI h1 (fun a' gh' w' hI'=>?_))
  cases e1 with
  | normal=>exact code_sound hcf hm n y iy hy s1 s' ex gh' w' a' Q hI' he hQ
  | exit id =>
   simp only[Option.some.injEq,Prod.mk.injEq] at he
   obtain⟨rfl,rfl⟩:=he
   exact hQ a' gh' w' hI'
  | ret =>
   simp only[Option.some.injEq,Prod.mk.injEq] at he
   obtain⟨rfl,rfl⟩:=he
   exact hQ a' gh' w' hI'
 | .cond c x y,ic,hc,s,s',ex,gh,w,a,Q,hI,he,hQ=>by
  simp only[compC,Option.bind_eq_some_iff,Option.map_eq_some_iff] at hc
  obtain⟨iq,hq,ix,hx,iy,hy,rfl⟩:=hc
  simp only[evC] at he
  split at he
  ·rename_i t ht
   have hv:=(arg_VR hI.W hI.F hq ht rfl).inv_bool
   cases t with
   | true=>exact wp_cond_true hv (code_sound hcf hm n x ix hx s s' ex gh w a Q hI he hQ)
   | false=>exact wp_cond_false hv (code_sound hcf hm n y iy hy s s' ex gh w a Q hI he hQ)
  ·cases he
 | .block id c,ic,hc,s,s',ex,gh,w,a,Q,hI,he,hQ=>by
  simp only[compC,Option.map_eq_some_iff] at hc
  obtain⟨ix,hx,rfl⟩:=hc
  simp only[evC,Option.map_eq_some_iff] at he
  obtain⟨⟨e1,s1⟩,h1,he⟩:=he
  refine wp_block (code_sound hcf hm n c ix hx s s1 e1 gh w a _ hI h1 (fun a' gh' w' hI'=>?_))
  cases e1 with
  | normal =>
   simp only[Prod.mk.injEq] at he
   obtain⟨rfl,rfl⟩:=he
   exact hQ a' gh' w' hI'
  | exit i =>
   simp only[Prod.mk.injEq] at he
   obtain⟨rfl,rfl⟩:=he
   show if i=id then Q .normal a' w' else Q (.exit i) a' w'
   have:=hQ a' gh' w' hI'
   rw[nbeq] at this
   by_cases hi:i=id
   ·rw[if_pos hi];simpa [hi,IExit.exit'] using this
   ·rw[if_neg hi];simpa [hi,IExit.exit'] using this
  | ret =>
   simp only[Prod.mk.injEq] at he
   obtain⟨rfl,rfl⟩:=he
   exact hQ a' gh' w' hI'
 | .loop c,ic,hc,s,s',ex,gh,w,a,Q,hI,he,hQ=>by
  simp only[compC,Option.map_eq_some_iff] at hc
  obtain⟨ix,hx,rfl⟩:=hc
  simp only[evC] at he
  have rounds:∀ (m:Nat) (s:AS) (gh:Gh) (w:World) (a:Act),Inv G base nt (locals++muts) H0 gh0 w0 s gh w a→iter (evC G cf n ix) m s=some (ex,s')→Code.rounds P c Q m a w:=by
   intro m
   induction m with
   | zero=>intro s gh w a _ h;cases h
   | succ m ih =>
    intro s gh w a hI h
    simp only[iter,Option.bind_eq_some_iff] at h
    obtain⟨⟨e1,s1⟩,h1,h⟩:=h
    rw[rounds_succ]
    refine code_sound hcf hm n c ix hx s s1 e1 gh w a _ hI h1 (fun a' gh' w' hI'=>?_)
    cases e1 with
    | normal=>exact ih s1 gh' w' a' hI' h
    | exit id =>
     simp only[Option.some.injEq,Prod.mk.injEq] at h
     obtain⟨rfl,rfl⟩:=h
     exact hQ a' gh' w' hI'
    | ret =>
     simp only[Option.some.injEq,Prod.mk.injEq] at h
     obtain⟨rfl,rfl⟩:=h
     exact hQ a' gh' w' hI'
  exact wp_loop_rounds n (rounds n s gh w a hI he)
 | .exit id,ic,hc,s,s',ex,gh,w,a,Q,hI,he,hQ=>by
  simp only[compC,Option.some.injEq] at hc
  subst hc
  simp only[evC,Option.some.injEq,Prod.mk.injEq] at he
  obtain⟨rfl,rfl⟩:=he
  exact wp_exit (hQ a gh w hI)
 | .ret,ic,hc,s,s',ex,gh,w,a,Q,hI,he,hQ=>by
  simp only[compC,Option.some.injEq] at hc
  subst hc
  simp only[evC,Option.some.injEq,Prod.mk.injEq] at he
  obtain⟨rfl,rfl⟩:=he
  exact wp_ret (hQ a gh w hI)
 | .label l,ic,hc,s,s',ex,gh,w,a,Q,hI,he,hQ=>by
  simp only[compC,Option.some.injEq] at hc
  subst hc
  simp only[evC,Option.some.injEq,Prod.mk.injEq] at he
  obtain⟨rfl,rfl⟩:=he
  exact wp_label (hQ a gh w hI)
 | .scope c,ic,hc,s,s',ex,gh,w,a,Q,hI,he,hQ=>by
  simp only[compC] at hc
  refine wp_scope_straight (code_sound hcf hm n c ic hc s s' ex gh w a _ hI he (fun a' gh' w' hI'=>?_))
  have:=hQ a' gh' w' hI'
  cases ex<;>exact this
 | .rangeFunc _ _ _ _,_,hc,_,_,_,_,_,_,_,_,_,_=>by simp[compC] at hc
 | .goto _,_,hc,_,_,_,_,_,_,_,_,_,_=>by simp[compC] at hc
 | .refuse _,_,hc,_,_,_,_,_,_,_,_,_,_=>by simp[compC] at hc
def resSem (tmps:Array Value):ResultVar→Sem Value
 | .tmp t=>pure (tmps.getD t undef)
 | .cell a t=>do loadVar t (← asAddr (tmps.getD a undef))
theorem run_mapM_list {g:ResultVar→Sem Value} : ∀ (l:List ResultVar) (vs:List Value),l.length=vs.length→(∀ (j:Nat) (r:ResultVar) (v:Value),l[j]?=some r→vs[j]?=some v→(g r).run P w=.ok v w)→(l.mapM g).run P w=.ok vs w
 | [],[],_,_=>by simp
 | r :: l,v :: vs,hl,h=>by
  have h1:=h 0 r v rfl rfl
  have h2:=run_mapM_list l vs (by simpa using hl) (fun j r v hr hv=>h (j+1) r v (by simpa using hr) (by simpa using hv))
  simp[List.mapM_cons,h1,h2]
 | [],_ :: _,hl,_=>by simp at hl
 | _ :: _,[],hl,_=>by simp at hl
theorem run_results {fn:Func} {tmps:Array Value} {vs:List Value} (hl:fn.results.toList.length=vs.length) (h:∀ (j:Nat) (r:ResultVar) (v:Value),fn.results.toList[j]?=some r→vs[j]?=some v→(resSem tmps r).run P w=.ok v w) :
  (results fn tmps).run P w=.ok (if h:vs.toArray.size=1 then vs.toArray[0] else .tuple vs.toArray) w:=by
 have e:results fn tmps=(do let vs ← fn.results.mapM (resSem tmps);pure (if h:vs.size=1 then vs[0] else .tuple vs)):=by
  unfold results
  congr 1
 rw[e,Sem.run_bind]
 have h2:(fn.results.mapM (resSem tmps)).run P w=.ok vs.toArray w:=by
  rw[Array.mapM_eq_mapM_toList]
  have:=run_mapM_list (P:=P) (w:=w) fn.results.toList vs hl h
  simp[this]
 rw[h2]
 rfl
theorem compRes_inv:∀ {l:List ResultVar} {rs:List IRes},compRes P nt l=some rs→l.length=rs.length∧∀ (j:Nat) (r:ResultVar) (i:IRes),l[j]?=some r→rs[j]?=some i →
  (∃ t,r=.tmp t∧i=.tmp t∧t<nt)∨∃ t ty g sz,r=.cell t ty∧i=.cell t g sz∧t<nt∧aggT P ty=some g∧sizeT P ty=some sz
 | [],rs,h=>by simp[compRes] at h;subst h;exact⟨rfl,fun j r i h=>by simp at h⟩
 | .tmp t :: l,rs,h=>by
  simp only[compRes] at h
  obtain⟨h0,h⟩:=cond_some h
  simp only[Option.map_eq_some_iff] at h
  obtain⟨rs',hr,rfl⟩:=h
  obtain⟨h1,h2⟩:=compRes_inv hr
  refine⟨by simp[h1],fun j r i hj hi=>?_⟩
  cases j with
  | zero=>simp at hj hi;subst hj hi;exact .inl ⟨t,rfl,rfl,by simpa [Nat.blt_eq] using h0⟩
  | succ j=>exact h2 j r i (by simpa using hj) (by simpa using hi)
 | .cell t ty :: l,rs,h=>by
  simp only[compRes] at h
  obtain⟨h0,h⟩:=cond_some h
  simp only[Option.bind_eq_some_iff,Option.map_eq_some_iff] at h
  obtain⟨g,hg,sz,hs,rs',hr,rfl⟩:=h
  obtain⟨h1,h2⟩:=compRes_inv hr
  refine⟨by simp[h1],fun j r i hj hi=>?_⟩
  cases j with
  | zero=>simp at hj hi;subst hj hi;exact .inr ⟨t,ty,g,sz,rfl,rfl,by simpa [Nat.blt_eq] using h0,hg,hs⟩
  | succ j=>exact h2 j r i (by simpa using hj) (by simpa using hi)
theorem res_VR (hW:WRel G base s.H gh w) (hF:FR L nt gh w a s) {r:ResultVar} {i:IRes} (hc:(∃ t,r=.tmp t∧i=.tmp t∧t<nt)∨∃ t ty g sz,r=.cell t ty∧i=.cell t g sz∧t<nt∧aggT P ty=some g∧sizeT P ty=some sz)
  {z:AV} (hz:resOf s i=some z):∃ v,(resSem a.tmps r).run P w=.ok v w∧((∃ t,i=.tmp t∧t<nt∧v=tmv a t∧z=s.T t∧CR gh s.H.length w (.sl t) v z)∨VR gh s.H.length w v z):=by
 rcases hc with ⟨t,rfl,rfl,ht⟩|⟨t,ty,g,sz,rfl,rfl,ht,hg,hs⟩
 ·refine⟨tmv a t,rfl,.inl ⟨t,rfl,ht,rfl,?_⟩⟩
  simp only[resOf] at hz
  obtain⟨h0,hz⟩:=cond_some hz
  injection hz with hz
  subst hz
  have h:=hF.slot t ht
  change SR gh s.H.length nt w s.T s.gen (tmv a) t (tmv a t) (s.T t) at h
  refine⟨rfl,?_⟩
  generalize s.T t=X at h h0
  cases X<;>first|exact h|(simp[frameCell] at h0)
 ·have h:=hF.slot t ht
  change SR gh s.H.length nt w s.T s.gen (tmv a) t (tmv a t) (s.T t) at h
  simp only[resOf] at hz
  have run:∀ {b:Nat} {f:Nat→Value} {cs:List AV},tmv a t=.pointer (some ⟨b,0,none⟩)→loadCellsAV false g sz 0 cs=some z→(∀ (j:Nat) (x:AV),cs[j]?=some x→w.cell? ⟨b,0+j,none⟩=some (f j)∧(f j).oneCell'=true∧VR gh s.H.length w (f j) x.drop) →
    ∃ v,(resSem a.tmps (.cell t ty)).run P w=.ok v w∧((∃ t',IRes.cell t g sz=.tmp t'∧t' < nt∧v=tmv a t'∧z=s.T t'∧CR gh s.H.length w (.sl t') v z)∨VR gh s.H.length w v z):=by
   intro b f cs hb hl hf
   obtain⟨v,h1,h2⟩:=load_cells (P:=P) hl hg hs hf
   refine⟨v,?_,.inr h2⟩
   have hb' : a.tmps.getD t undef=.pointer (some ⟨b,0,none⟩):=hb
   show (do loadVar ty (← asAddr (a.tmps.getD t undef)):Sem Value).run P w=_
   rw[hb']
   simpa [asAddr] using h1
  split at hz
  ·rename_i gg cs hT
   rw[hT] at h
   obtain⟨_,b,hb,hB⟩:=h
   obtain⟨f,hf⟩:=box_cells hB
   exact run hb hz hf
  ·rename_i loc hT
   rw[hT] at h
   have hv:=CR.dropped (h:CR gh s.H.length w (.sl t) (tmv a t) (.ref loc 0))
   obtain⟨hlt,hp⟩:=VR.inv_ref hv
   split at hz
   ·rename_i ty0 cs hH
    obtain⟨f,hf⟩:=box_cells (hW.boxes loc _ cs hH)
    exact run hp hz hf
   ·cases hz
  ·cases hz
theorem freeze (hW:WRel G base s.H gh w) (hF:FR L nt gh w a s) {b g:Nat} {e:List (List AV)} (hb:b<nt) (hT:s.T b=.lsl g e) (hok:noByte e=true) :
  ∃ gh',WRel G base s.H gh' w∧Ext s.H.length gh w gh' w∧CR gh' s.H.length w .ret (tmv a b) (.slice e true):=by
 obtain⟨ad,cap,hV,⟨rfl,rfl,hspot⟩|⟨k,C,ty,sz,hne,rfl,hκ,hS,hk,hC,hl,hr,hcs⟩⟩:=sr_lsl hF hb hT
 ·refine⟨gh,hW,Ext.refl _ _ _ (fun b hb=>hW.not_outer b hb),.inl ?_⟩
  rw[hV]
  refine .full ad 0 [] ?_ (fun ad' h _=>(hspot ad' h).2)
  cases ad with
  | none=>exact .sliceNil
  | some ad =>
   obtain⟨b',o',sp⟩:=ad
   have:=(hspot _ rfl).1
   simp only at this
   subst this
   exact .slice b' o' 0 0 0 [] (fun _ _=>undef) rfl (Nat.le_refl _) (fun i r h=>by simp at h) (fun i j r x h=>by simp at h) (fun i j r x h=>by simp at h)
 ·have hno:∀ o,gh.S k o→C[o]?=C[o]?:=fun _ _=>rfl
  have hn:gh.κ k≠.none:=by rw[hκ];simp
  have hnb:∀ j m,j<e.length*sz→C[j]?=some (.int .u8 m)→ty=byteTy:=by
   intro j m hj hc
   have hrows:RowsP gh.S w sz (C.toList.take (e.length*sz)).toArray e:=by
    have hle:e.length*sz≤C.size:=by rw[hC];exact Nat.mul_le_mul_right _ hl
    refine⟨by simp;omega,hr,fun i j r x hi hj=>?_⟩
    obtain⟨u,hu,hp⟩:=hcs i j r x hi hj
    refine⟨u,?_,hp⟩
    have h1:=(List.getElem?_eq_some_iff.1 hi).1
    have h2:j<sz:=by rw[← hr i r hi];exact (List.getElem?_eq_some_iff.1 hj).1
    simp only[List.getElem?_toArray,List.getElem?_take,if_pos (mul_lt h1 h2)]
    simpa using hu
   refine rows_bytes (isB:=false) (m:=m) hrows hok (fun h=>by cases h) hj ?_
   simp only[List.getElem?_toArray,List.getElem?_take,if_pos hj]
   simpa using hc
  have hE:=row_ext hW hk rfl (fun o=>o<e.length*sz) hno (p:=.ret) (by simp) hn (by rw[hκ];simp) s.H.length
  have hW':=row_W hW hk rfl (fun o=>o<e.length*sz) hno hnb .ret hn (by rw[hκ];simp)
  have hself:=setRow_self w k C ty (0,0) hk
  rw[hself] at hE hW'
  refine⟨_,hW',hE,.inr ⟨e,rfl,?_,k,cap,C,ty,0,0,sz,hV,by simp,hne,hk,hC,hr,hl,Nat.zero_le _,?_⟩⟩
  ·rw[hV]
   have key:∀ (i j:Nat) (r:List AV) (x:AV),e[i]?=some r→r[j]?=some x→C[i*sz+j]?=some (C.getD (i*sz+j) undef)∧PR gh.S w (C.getD (i*sz+j) undef) x∧i*sz+j<e.length*sz:=by
    intro i j r x hi hj
    obtain⟨u,hu,hp⟩:=hcs i j r x hi hj
    have hlt:=(Array.getElem?_eq_some_iff.1 hu).1
    have:C.getD (i*sz+j) undef=u:=by
     rw[Array.getElem?_eq_getElem hlt] at hu
     injection hu with hu
     simp[hlt,hu]
    rw[this]
    exact⟨hu,hp,mul_lt (List.getElem?_eq_some_iff.1 hi).1 (by rw[← hr i r hi];exact (List.getElem?_eq_some_iff.1 hj).1)⟩
   refine .slice k 0 e.length cap sz e (fun i j=>C.getD (i*sz+j) undef) rfl hl hr (fun i j r x hi hj=>?_) (fun i j r x hi hj=>?_)
   ·obtain⟨h1,h2,h3⟩:=key i j r x hi hj
    refine⟨.inr ⟨rfl,by simpa using h3⟩,?_,h2.oneCell⟩
    rw[Nat.zero_add,cell_of_row w k _ C ty _ hk];exact h1
   ·exact (key i j r x hi hj).2.1.mono (fun b o h=>.inl h) (fun _ _ _=>rfl) (fun _ _ _ _ h=>h)
  ·rintro o ho (h|⟨_,h⟩)
   ·exact hS o h
   ·omega
theorem VR.cellOut {n m:Nat} {v:Value} {x:AV} (h:VR gh n w v x) (hx:x.cellOut m=true):VR gh m w v x:=by
 cases x
 case ref loc off =>
  obtain⟨_,rfl⟩:=h.inv_ref
  exact .ref loc off (by simpa [AV.cellOut,Nat.blt_eq] using hx)
 case sref loc off k z =>
  obtain⟨_,cap,hk,hz,rfl⟩:=h.inv_sref
  exact .sref loc off k cap z (by simpa [AV.cellOut,Nat.blt_eq] using hx) hk hz
 case mref loc =>
  obtain⟨_,rfl⟩:=h.inv_mref
  exact .mref loc (by simpa [AV.cellOut,Nat.blt_eq] using hx)
 all_goals exact .plain _ _ (h.plain_PR hx)
theorem VR.partOut {n m:Nat} {v:Value} {x:AV} (h:VR gh n w v x) (hx:x.partOut m=true):VR gh m w v x:=by
 cases x
 case agg cs =>
  obtain⟨C,rfl,hs,hone,hc⟩:=h.inv_agg
  exact .agg C cs hs hone (fun j v x hv hx'=>(hc j v x hv hx').cellOut (List.all_eq_true.1 hx x (List.mem_of_getElem? hx')))
 all_goals exact h.cellOut hx
theorem VR.leaves {n m:Nat} {v:Value} {x:AV} (h:VR gh n w v x) (hx:x.leaves m=true):VR gh m w v x:=by
 cases x
 case func f fs cs =>
  simp only[AV.leaves,Bool.and_eq_true] at hx
  obtain⟨us,ts,rfl,h1,h2,h3,h4⟩:=h.inv_func
  exact .func f us ts fs cs h1 h2 (fun j v x hv hx'=>(h3 j v x hv hx').cellOut (List.all_eq_true.1 hx.1 x (List.mem_of_getElem? hx'))) (fun j v x hv hx'=>(h4 j v x hv hx').cellOut (List.all_eq_true.1 hx.2 x (List.mem_of_getElem? hx')))
 case iface t y =>
  cases h with
  | plain _ _ h=>exact .plain _ _ h
  | iface _ u _ h=>exact .iface t u y (h.cellOut hx)
 case tuple vs =>
  obtain⟨us,rfl,hs,h1⟩:=h.inv_tuple
  exact .tuple us vs hs (fun j v x hv hx'=>(h1 j v x hv hx').partOut (List.all_eq_true.1 hx x (List.mem_of_getElem? hx')))
 case slice e own =>
  cases h with
  | plain _ _ h=>exact .plain _ _ h
  | full a k _ h hz=>exact .full a k e h hz
 all_goals exact h.partOut hx
theorem CR.leaves {n m:Nat} {p:Owner} {v:Value} {x:AV} (h:CR gh n w p v x) (hx:x.leaves m=true):CR gh m w p v x:=by
 rcases h with h|h
 ·exact .inl (h.leaves hx)
 ·exact .inr h
theorem VR.heapCell0 {n m loc:Nat} {v:Value} {x:AV} (h:VR gh n w v x) (hx:heapCell0 loc x=true) (hl:loc<m):VR gh m w v x:=by
 cases x
 case ref l off =>
  obtain⟨_,rfl⟩:=h.inv_ref
  have:l≤loc:=by simpa [Abs.heapCell0,Nat.ble_eq] using hx
  exact .ref l off (by omega)
 case sref l off k z =>
  obtain⟨_,cap,hk,hz,rfl⟩:=h.inv_sref
  have:l≤loc:=by simpa [Abs.heapCell0,Nat.ble_eq] using hx
  exact .sref l off k cap z (by omega) hk hz
 case mref l =>
  obtain⟨_,rfl⟩:=h.inv_mref
  have:l≤loc:=by simpa [Abs.heapCell0,Nat.ble_eq] using hx
  exact .mref l (by omega)
 case slice e own =>
  cases h with
  | plain _ _ h=>exact .plain _ _ h
  | full a k _ h hz=>exact .full a k e h hz
 all_goals exact .plain _ _ (h.plain_PR hx)
theorem VR.heapPart {n m loc:Nat} {v:Value} {x:AV} (h:VR gh n w v x) (hx:heapPart loc x=true) (hl:loc<m):VR gh m w v x:=by
 cases x
 case agg cs =>
  obtain⟨C,rfl,hs,hone,hc⟩:=h.inv_agg
  exact .agg C cs hs hone (fun j v x hv hx'=>(hc j v x hv hx').heapCell0 (List.all_eq_true.1 hx x (List.mem_of_getElem? hx')) hl)
 all_goals exact h.heapCell0 hx hl
theorem VR.heapCell {n m loc:Nat} {v:Value} {x:AV} (h:VR gh n w v x) (hx:heapCell loc x=true) (hl:loc<m):VR gh m w v x:=by
 cases x
 case ref l off =>
  obtain⟨_,rfl⟩:=h.inv_ref
  have:l≤loc:=by simpa [Abs.heapCell,Nat.ble_eq] using hx
  exact .ref l off (by omega)
 case sref l off k z =>
  obtain⟨_,cap,hk,hz,rfl⟩:=h.inv_sref
  have:l≤loc:=by simpa [Abs.heapCell,Nat.ble_eq] using hx
  exact .sref l off k cap z (by omega) hk hz
 case mref l =>
  obtain⟨_,rfl⟩:=h.inv_mref
  have:l≤loc:=by simpa [Abs.heapCell,Nat.ble_eq] using hx
  exact .mref l (by omega)
 case slice e own =>
  cases h with
  | plain _ _ h=>exact .plain _ _ h
  | full a k _ h hz=>exact .full a k e h hz
 case func f fs cs =>
  simp only[Abs.heapCell,Bool.and_eq_true] at hx
  obtain⟨us,ts,rfl,h1,h2,h3,h4⟩:=h.inv_func
  exact .func f us ts fs cs h1 h2 (fun j v x hv hx'=>(h3 j v x hv hx').heapPart (List.all_eq_true.1 hx.1 x (List.mem_of_getElem? hx')) hl) (fun j v x hv hx'=>(h4 j v x hv hx').heapPart (List.all_eq_true.1 hx.2 x (List.mem_of_getElem? hx')) hl)
 all_goals exact .plain _ _ (h.plain_PR hx)
theorem PR.lower {S:Nat→Nat→Prop} {w0:World} {v0:Value} {x:AV} (h:PR S w0 v0 x) {n m:Nat} : ∀ {v:Value},VR gh n w v x→VR gh m w v x:=by
 induction h with
 | iface t v0 x h ih =>
  intro v hv
  cases hv with
  | plain _ _ h=>exact .plain _ _ h
  | iface _ u _ h=>exact .iface t u x (ih h)
 | func f =>
  intro v hv
  cases hv with
  | plain _ _ h=>exact .plain _ _ h
  | func _ fs cs _ _ h1 h2 h3 h4=>exact .func f fs cs [] [] h1 h2 (fun j v x _ hx=>by simp at hx) (fun j v x _ hx=>by simp at hx)
 | _ =>
  intro v hv
  cases hv<;>exact .plain _ _ ‹_›
theorem VR.lower {gh0:Gh} {w0:World} {m:Nat} {v0:Value} {x:AV} (h:VR gh0 m w0 v0 x) {n:Nat} : ∀ {v:Value},VR gh n w v x→VR gh m w v x:=by
 induction h with
 | plain v0 x h=>intro v hv;exact h.lower hv
 | full a k e h hz =>
  intro v hv
  cases hv with
  | plain _ _ h=>cases h
  | full a k _ h hz=>exact .full a k e h hz
 | ref loc off h=>intro v hv;obtain⟨_,rfl⟩:=hv.inv_ref;exact .ref loc off h
 | sref loc off k cap z h hk hz=>intro v hv;obtain⟨_,cap,hk,hz,rfl⟩:=hv.inv_sref;exact .sref loc off k cap z h hk hz
 | mref loc h=>intro v hv;obtain⟨_,rfl⟩:=hv.inv_mref;exact .mref loc h
 | func f fs cs xs ys hf hc _ _ ih1 ih2 =>
  intro v hv
  obtain⟨us,ts,rfl,h1,h2,h3,h4⟩:=hv.inv_func
  refine .func f us ts xs ys h1 h2 (fun j v x hv hx=>?_) (fun j v x hv hx=>?_)
  ·have hj:j<fs.size:=by rw[hf];exact (List.getElem?_eq_some_iff.1 hx).1
   exact ih1 j _ x (Array.getElem?_eq_getElem hj) hx (h3 j v x hv hx)
  ·have hj:j<cs.size:=by rw[hc];exact (List.getElem?_eq_some_iff.1 hx).1
   exact ih2 j _ x (Array.getElem?_eq_getElem hj) hx (h4 j v x hv hx)
 | iface t v0 x h ih =>
  intro v hv
  cases hv with
  | plain _ _ h=>exact .plain _ _ h
  | iface _ u _ h=>exact .iface t u x (ih h)
 | agg cs xs hs hone _ ih =>
  intro v hv
  obtain⟨C,rfl,hs',hone',hc⟩:=hv.inv_agg
  refine .agg C xs hs' hone' (fun j v x hv hx=>?_)
  have hj:j<cs.size:=by rw[hs];exact (List.getElem?_eq_some_iff.1 hx).1
  exact ih j _ x (Array.getElem?_eq_getElem hj) hx (hc j v x hv hx)
 | tuple vs xs hs _ ih =>
  intro v hv
  obtain⟨us,rfl,hs',h1⟩:=hv.inv_tuple
  refine .tuple us xs hs' (fun j v x hv hx=>?_)
  have hj:j<vs.size:=by rw[hs];exact (List.getElem?_eq_some_iff.1 hx).1
  exact ih j _ x (Array.getElem?_eq_getElem hj) hx (h1 j v x hv hx)
def OldOK (H:AHeap) (m:Nat) (gh:Gh) (w:World):Prop:=∀ (l:Nat) (cs:List AV),l<m→H[l]?=some (.obox cs)→BoxAt gh m w (gh.ρ l) (.hb l) (fun j=>.hs l j) cs
theorem old_ok {ghI:Gh} {wI:World} {H0:AHeap} (hW0:WRel G base H0 ghI wI) (hlo:LoInv H0 s) (ho:openOK H0.length s=true) (hW:WRel G base s.H gh w):OldOK s.H H0.length gh w:=by
 intro l cs hl hH
 obtain⟨h1,h2,C,ty1,h3,h4,h5⟩:=(hW.more l _ hH:BoxAt gh s.H.length w (gh.ρ l) (.hb l) (fun j=>.hs l j) cs)
 refine⟨h1,h2,C,ty1,h3,h4,fun j v x hv hx=>⟨(h5 j v x hv hx).1,?_⟩⟩
 have hCR:=(h5 j v x hv hx).2
 by_cases hll:l<s.lo
 ·have hH0:H0[l]?=some (.obox cs):=by rw[← hlo.same l hll];exact hH
  obtain⟨_,_,C0,ty0,g3,g4,g5⟩:=(hW0.more l _ hH0:BoxAt ghI H0.length wI (ghI.ρ l) (.hb l) (fun j=>.hs l j) cs)
  have hj:j<C0.size:=by have:=(List.getElem?_eq_some_iff.1 hx).1;omega
  rcases hCR with hVR|hown
  ·rcases (g5 j _ x (Array.getElem?_eq_getElem hj) hx).2 with k|⟨e,rfl,_⟩
   ·exact .inl (k.lower hVR)
   ·cases hVR with
    | plain _ _ h=>cases h
    | full a k _ h hz=>exact .inl (.full a k e h hz)
  ·exact .inr hown
 ·have hc:x.cellOut H0.length=true:=by
   unfold openOK at ho
   cases hb:Nat.beq s.lo H0.length with
   | true=>have:=Nat.eq_of_beq_eq_true hb;omega
   | false =>
    rw[hb,cond_false] at ho
    have hm:AObj.obox cs∈(s.H.take H0.length).drop s.lo:=by
     refine List.mem_of_getElem? (i:=l-s.lo) ?_
     rw[List.getElem?_drop,List.getElem?_take,if_pos (by omega),show s.lo+(l-s.lo)=l by omega]
     exact hH
    exact List.all_eq_true.1 (List.all_eq_true.1 ho _ hm) x (List.mem_of_getElem? hx)
  rcases hCR with hVR|⟨e,rfl,_⟩
  ·exact .inl (hVR.cellOut hc)
  ·simp[AV.cellOut,AV.plain] at hc
theorem CR.heapCell {n m loc:Nat} {p:Owner} {v:Value} {x:AV} (h:CR gh n w p v x) (hx:heapCell loc x=true) (hl:loc<m):CR gh m w p v x:=by
 rcases h with h|h
 ·exact .inl (h.heapCell hx hl)
 ·exact .inr h
theorem WRel.popped (hW:WRel G base H gh w) {m:Nat} (hm:m≤H.length) (hold:OldOK H m gh w):WRel G base (H.take m) gh w:=by
 have hlenm:(H.take m).length=m:=by simp;omega
 refine⟨hW.size,hW.sLt,hW.kLt,hW.glob,fun loc ty cs hl=>?_,fun loc ty cs hl=>?_,hW.tabs,hW.bytes,fun loc o hl=>?_,fun loc ty cs hl=>?_⟩
 rotate_left 2
 ·rw[List.getElem?_take] at hl
  split at hl
  ·rename_i hlt
   have h:=hW.more loc o hl
   rw[hlenm]
   cases o with
   | map kz ka va es =>
    obtain⟨⟨h1,h2,E,ck,f,h3,h4,h5,h6⟩,h7⟩:=h
    refine⟨⟨h1,h2,E,ck,f,h3,h4,h5,fun i j r x hi hj hl=>?_⟩,h7⟩
    have hc:=List.all_eq_true.1 (List.all_eq_true.1 h7 r (List.mem_of_getElem? hi)) x (List.mem_of_getElem? hj)
    obtain⟨k1,k2,k3⟩:=h6 i j r x hi hj hl
    refine⟨k1,fun hv=>?_,k3.heapCell hc hlt⟩
    exact (k2 hv).heapCell hc hlt
   | fmap kz ka va es=>exact h
   | fbox cs=>exact h
   | obox cs=>exact hold loc cs hlt hl
   | _=>trivial
  ·cases hl
 ·rw[List.getElem?_take] at hl
  split at hl
  ·exact hW.types loc ty cs hl
  ·cases hl
 ·rw[List.getElem?_take] at hl
  split at hl
  ·rename_i hlt
   obtain⟨h1,h2,C,ty1,h3,h4,h5⟩:=hW.boxes loc _ cs hl
   refine⟨h1,h2,C,ty1,h3,h4,fun j v x hv hx=>⟨(h5 j v x hv hx).1,?_⟩⟩
   have hlen:(H.take m).length=m:=by simp;omega
   rw[hlen]
   exact (h5 j v x hv hx).2.heapCell (List.all_eq_true.1 (hW.refs loc _ cs hl) x (List.mem_of_getElem? hx)) hlt
  ·cases hl
 ·rw[List.getElem?_take] at hl
  split at hl
  ·exact hW.refs loc _ cs hl
  ·cases hl
theorem res_all (hW:WRel G base s.H gh w) (hF:FR L nt gh w a s):∀ (l:List ResultVar) (rs:List IRes) (xs:List AV),l.length=rs.length→(∀ (j:Nat) (r:ResultVar) (i:IRes),l[j]?=some r→rs[j]?=some i →
    (∃ t,r=.tmp t∧i=.tmp t∧t<nt)∨∃ t ty g sz,r=.cell t ty∧i=.cell t g sz∧t<nt∧aggT P ty=some g∧sizeT P ty=some sz)→resAll s rs=some xs →
    ∃ vs:List Value,l.length=vs.length∧vs.length=xs.length∧(∀ (j:Nat) (r:ResultVar) (v:Value),l[j]?=some r→vs[j]?=some v→(resSem a.tmps r).run P w=.ok v w)∧∀ (j:Nat) (v:Value) (x:AV),vs[j]?=some v→xs[j]?=some x→VR gh s.H.length w v x:=by
 intro l
 induction l with
 | nil =>
  intro rs xs hl _ h
  have:rs=[]:=List.length_eq_zero_iff.1 (by simpa using hl.symm)
  subst this
  simp only[resAll,Option.some.injEq] at h
  subst h
  exact⟨[],rfl,rfl,fun j r v h=>by simp at h,fun j v x h=>by simp at h⟩
 | cons rv l ih =>
  intro rs xs hl hc h
  cases rs with
  | nil=>simp at hl
  | cons i rs =>
   simp only[resAll,Option.bind_eq_some_iff,Option.map_eq_some_iff] at h
   obtain⟨z,hz,ys,hys,rfl⟩:=h
   obtain⟨v,h1,h2⟩:=res_VR (P:=P) hW hF (hc 0 rv i rfl rfl) hz
   have hv:VR gh s.H.length w v z.dropAll:=by
    rcases h2 with ⟨t,_,_,_,_,hCR⟩|hVR
    ·exact dropAll_VR hCR.dropped
    ·exact dropAll_VR hVR.dropped
   obtain⟨vs,k1,k2,k3,k4⟩:=ih rs ys (by simpa using hl) (fun j r i hr hi=>hc (j+1) r i (by simpa using hr) (by simpa using hi)) hys
   refine⟨v :: vs,by simp[k1],by simp[k2],fun j r u hr hu=>?_,fun j u x hu hx=>?_⟩
   ·cases j with
    | zero=>simp at hr hu;subst hr hu;exact h1
    | succ j=>exact k3 j r u (by simpa using hr) (by simpa using hu)
   ·cases j with
    | zero=>simp at hu hx;subst hu hx;exact hv
    | succ j=>exact k4 j u x (by simpa using hu) (by simpa using hx)
theorem ret_sound0 {gh0:Gh} {w0:World} (hcl:clean gh0) (hI:Inv G base nt L H gh0 w0 s gh w a) {fn:Func} {rs:List IRes} (hc:compRes P nt fn.results.toList=some rs) {r:AV} {c:Option Chg} (hold:∀ gh' w',WRel G base s.H gh' w'→OldOK s.H H.length gh' w') (he:finish0 H.length rs s=some (r,c)) :
  ChgOK H c∧∃ v gh',(results fn a.tmps).run P w=.ok v w∧RetOK G base H gh0 w0 r c v gh' w:=by
 simp only[finish0,Option.bind_eq_some_iff] at he
 obtain⟨r',hr,he⟩:=he
 obtain⟨hlv,he⟩:=cond_some he
 simp only[Option.some.injEq,Prod.mk.injEq] at he
 obtain⟨rfl,hch⟩:=he
 have hlen:=hI.lo.len
 have hnew:newH H c=s.H.take H.length:=by
  cases hb:Nat.beq s.lo H.length with
  | false=>rw[hb] at hch;subst hch;rfl
  | true =>
   rw[hb] at hch
   subst hch
   have hlo:s.lo=H.length:=Nat.eq_of_beq_eq_true hb
   show H=_
   refine List.ext_getElem? fun l=>?_
   rw[List.getElem?_take]
   split
   ·rename_i hl;exact (hI.lo.same l (by omega)).symm
   ·rename_i hl;exact List.getElem?_eq_none (by omega)
 have hlen2:(newH H c).length=H.length:=by rw[hnew];simp;omega
 have hchg:ChgOK H c:=by
  refine⟨Nat.le_of_eq hlen2.symm,fun c' hc'=>?_⟩
  cases hb:Nat.beq s.lo H.length with
  | true=>rw[hb] at hch;rw[← hch] at hc';cases hc'
  | false =>
   rw[hb] at hch
   rw[← hch] at hc'
   simp only[cond_false,Option.some.injEq] at hc'
   subst hc'
   refine⟨hI.lo.lo,fun l hl=>?_⟩
   have:=hI.lo.lo
   rw[List.getElem?_take,if_pos (by simp only at hl;omega)]
   exact hI.lo.same l hl
 refine⟨hchg,?_⟩
 have fin:∀ {v:Value} {gh' : Gh},(results fn a.tmps).run P w=.ok v w→WRel G base s.H gh' w→Ext s.H.length gh w gh' w→CR gh' s.H.length w .ret v r'→∃ v gh',(results fn a.tmps).run P w=.ok v w∧RetOK G base H gh0 w0 r' c v gh' w:=by
  intro v gh' h1 h2 h3 h4
  have hE:=hI.E.trans h3 hlen
  refine⟨v,gh',h1,Nat.le_of_eq hlen2.symm,by rw[hnew];exact h2.popped hlen (hold _ _ h2),?_,hE.out,by rw[hlen2];exact h4.leaves hlv⟩
  have st:=hE.step
  refine⟨st.S,st.cell,st.size,st.os,st.tape,st.output,fun b hb hn=>st.blk b hb (fun ht=>hn ?_),st.fresh,st.ρ,st.len,st.mp⟩
  rcases hcl b with h|h|h|h
  ·exact absurd h ht.1
  ·exact absurd h ht.2
  ·exact .inl h
  ·exact .inr h
 obtain⟨hl,hres⟩:=compRes_inv hc
 have hrefl:Ext s.H.length gh w gh w:=Ext.refl _ _ _ (fun b hb=>hI.W.not_outer b hb)
 have one:∀ (rv:ResultVar) (v:Value),fn.results.toList=[rv]→(resSem a.tmps rv).run P w=.ok v w→(results fn a.tmps).run P w=.ok v w:=by
  intro rv v h1 h2
  have:=run_results (P:=P) (w:=w) (fn:=fn) (tmps:=a.tmps) (vs:=[v]) (by rw[h1];rfl) (fun j r' v' hr hv=>by
   rw[h1] at hr
   cases j with
   | zero=>simp at hr hv;subst hr hv;exact h2
   | succ j=>simp at hr)
  simpa using this
 unfold resVal at hr
 split at hr
 ·rename_i i
  have hri:([i]:List IRes)=[i]:=rfl
  rw[hri] at hl
  obtain⟨rv,hrv⟩:∃ rv,fn.results.toList=[rv]:=List.length_eq_one_iff.1 (by simpa using hl)
  have hci:=hres 0 rv i (by rw[hrv];rfl) (by rw[hri];rfl)
  split at hr
  ·rename_i b hrow
   rcases hci with ⟨t,rfl,rfl,ht⟩|⟨t,ty,g,sz,rfl,rfl,_⟩
   ·simp only[resRow] at hrow
    have hsl:=hI.F.slot t ht
    change SR gh s.H.length nt w s.T s.gen (tmv a) t (tmv a t) (s.T t) at hsl
    split at hrow
    ·rename_i g e hT
     injection hrow with hrow
     subst hrow
     rw[hT] at hr
     obtain⟨hok,hr⟩:=cond_some hr
     injection hr with hr
     subst hr
     obtain⟨gh',h2,h3,h4⟩:=freeze hI.W hI.F ht hT hok
     exact fin (one _ _ hrv rfl) h2 h3 h4
    ·rename_i b' g hT
     rw[hT] at hsl
     obtain⟨hb',_,hv⟩:=hsl
     split at hrow
     ·rename_i g' e hT'
      obtain⟨h0,hrow⟩:=cond_some hrow
      injection hrow with hrow
      subst hrow
      rw[hT'] at hr
      obtain⟨hok,hr⟩:=cond_some hr
      injection hr with hr
      subst hr
      have hgg:g=g':=by simpa [nbeq] using h0
      have hval:tmv a t=tmv a b':=hv (by rw[hT',hgg];rfl)
      obtain⟨gh',h2,h3,h4⟩:=freeze hI.W hI.F hb' hT' hok
      exact fin (one _ _ hrv rfl) h2 h3 (by show CR gh' s.H.length w .ret (tmv a t) _;rw[hval];exact h4)
     ·cases hrow
    ·cases hrow
   ·cases hrow
  ·obtain⟨v,h1,h2⟩:=res_VR (P:=P) hI.W hI.F hci hr
   rcases h2 with ⟨t,_,ht,rfl,hz,hCR⟩|hVR
   ·rcases hCR with hVR|⟨e,rfl,_⟩
    ·exact fin (one _ _ hrv h1) hI.W hrefl (.inl hVR)
    ·obtain⟨gh',h2,_,h3,_,h4⟩:=own_move hI.W hI.F ht hz.symm .ret (by simp)
     exact fin (one _ _ hrv h1) h2 h3 h4
   ·exact fin (one _ _ hrv h1) hI.W hrefl (.inl hVR)
 ·rename_i hne
  simp only[Option.map_eq_some_iff] at hr
  obtain⟨xs,hxs,rfl⟩:=hr
  obtain⟨vs,k1,k2,k3,k4⟩:=res_all (P:=P) hI.W hI.F _ _ xs hl hres hxs
  have hn1:vs.length≠1:=by
   intro h
   rw[← k1,hl] at h
   obtain⟨i,hi⟩:=List.length_eq_one_iff.1 h
   exact hne i hi
  have hrun:=run_results (P:=P) (w:=w) (fn:=fn) (tmps:=a.tmps) k1 k3
  rw[dif_neg (by simpa using hn1)] at hrun
  exact fin hrun hI.W hrefl (.inl (.tuple vs.toArray xs (by simpa using k2) (fun j v x hv hx=>k4 j v x (by simpa using hv) hx)))
theorem finish_chg0 {rs:List IRes} (hI:LoInv H s) {r:AV} {c:Option Chg} (he:finish0 H.length rs s=some (r,c)):ChgOK H c:=by
 simp only[finish0,Option.bind_eq_some_iff] at he
 obtain⟨r',hr,he⟩:=he
 obtain⟨hlv,he⟩:=cond_some he
 simp only[Option.some.injEq,Prod.mk.injEq] at he
 obtain⟨rfl,hch⟩:=he
 have hlen:=hI.len
 cases hb:Nat.beq s.lo H.length with
 | true=>rw[hb] at hch;subst hch;exact⟨Nat.le_refl _,fun c' h=>by cases h⟩
 | false =>
  rw[hb] at hch
  subst hch
  refine⟨by simp[newH];omega,fun c' hc'=>?_⟩
  simp only[cond_false,Option.some.injEq] at hc'
  subst hc'
  refine⟨hI.lo,fun l hl=>?_⟩
  have:=hI.lo
  rw[List.getElem?_take,if_pos (by simp only at hl;omega)]
  exact hI.same l hl
theorem finPub_inv {m:Nat} {rs:List IRes} {r:AV} {c:Option Chg} (he:finPub m rs s=some (r,c)):rs.length≠1∧∃ xs e,resPub s m rs=some (xs,some e)∧r=.tuple xs∧c=some ⟨s.H.take m++[.box freeTy e.flatten],s.lo⟩:=by
 unfold finPub at he
 cases hb:Nat.beq rs.length 1 with
 | true=>rw[hb] at he;cases he
 | false =>
  rw[hb] at he
  simp only[cond_false,Option.bind_eq_some_iff,Option.map_eq_some_iff,Prod.mk.injEq] at he
  obtain⟨⟨xs,eo⟩,hq,e,rfl,rfl,rfl⟩:=he
  exact⟨(fun h=>by rw[h] at hb;cases hb),xs,e,hq,rfl,rfl⟩
theorem finish_inv {ifn:IFunc} {m:Nat} {x:AV × Option Chg} (he:finish m ifn s=some x):openOK m s=true∧(finArr m ifn.results s=some x∨finish0 m ifn.results s=some x∨finPub m ifn.results s=some x∨finFrz m ifn.results s=some x):=by
 unfold finish at he
 obtain⟨h0,he⟩:=cond_some he
 refine⟨h0,?_⟩
 unfold finish1 at he
 split at he
 ·rename_i h
  unfold finArrF at h
  obtain⟨_,h⟩:=cond_some h
  rw[← he];exact .inl h
 ·split at he
  ·rename_i h;rw[h];exact .inr (.inl he)
  ·split at he
   ·rename_i h;rw[h];exact .inr (.inr (.inl he))
   ·exact .inr (.inr (.inr he))
theorem finArr_inv {m:Nat} {rs:List IRes} {r:AV} {c:Option Chg} (he:finArr m rs s=some (r,c)):∃ i l off n z ty cs,rs=[i]∧resOf s i=some (.sref l off n z)∧s.H[l]?=some (.box ty cs)∧m≤l∧cs.all AV.plain=true∧r=.sref m off n z∧c=some ⟨s.H.take m++[.obox cs],s.lo⟩:=by
 unfold finArr at he
 split at he
 ·rename_i i
  simp only[Option.bind_eq_some_iff] at he
  obtain⟨v,hv,he⟩:=he
  split at he
  ·rename_i l off n z
   split at he
   ·rename_i ty cs hH
    obtain⟨h0,he⟩:=cond_some he
    simp only[Option.some.injEq,Prod.mk.injEq] at he
    simp only[Bool.and_eq_true,Nat.ble_eq] at h0
    exact⟨i,l,off,n,z,ty,cs,rfl,hv,hH,h0.1,h0.2,he.1.symm,he.2.symm⟩
   ·cases he
  ·cases he
 ·cases he
theorem fin_chg (hI:LoInv H s) {c:Option Chg} (hch:cond (Nat.beq s.lo H.length) none (some ⟨s.H.take H.length,s.lo⟩)=c):ChgOK H c∧newH H c=s.H.take H.length:=by
 have hlen:=hI.len
 cases hb:Nat.beq s.lo H.length with
 | true =>
  rw[hb] at hch
  subst hch
  have hlo:s.lo=H.length:=Nat.eq_of_beq_eq_true hb
  refine⟨⟨Nat.le_refl _,fun c' h=>by cases h⟩,?_⟩
  show H=_
  refine List.ext_getElem? fun l=>?_
  rw[List.getElem?_take]
  split
  ·rename_i hl;exact (hI.same l (by omega)).symm
  ·rename_i hl;exact List.getElem?_eq_none (by omega)
 | false =>
  rw[hb] at hch
  subst hch
  refine⟨⟨by simp[newH];omega,fun c' hc'=>?_⟩,rfl⟩
  simp only[cond_false,Option.some.injEq] at hc'
  subst hc'
  refine⟨hI.lo,fun l hl=>?_⟩
  have:=hI.lo
  rw[List.getElem?_take,if_pos (by simp only at hl;omega)]
  exact hI.same l hl
theorem finFrz_inv {m:Nat} {rs:List IRes} {r:AV} {c:Option Chg} (he:finFrz m rs s=some (r,c)):resVal2 m s rs=some r∧r.leaves m=true∧cond (Nat.beq s.lo m) none (some ⟨s.H.take m,s.lo⟩)=c:=by
 simp only[finFrz,Option.bind_eq_some_iff] at he
 obtain⟨r',hr,he⟩:=he
 obtain⟨hlv,he⟩:=cond_some he
 simp only[Option.some.injEq,Prod.mk.injEq] at he
 obtain⟨rfl,hch⟩:=he
 exact⟨hr,hlv,hch⟩
theorem grow_chg (hI:LoInv H s) (o:AObj):ChgOK H (some ⟨s.H.take H.length++[o],s.lo⟩):=by
 have:=hI.len
 have h1:=hI.lo
 refine⟨by simp[newH];omega,fun c' hc'=>?_⟩
 injection hc' with hc'
 subst hc'
 refine⟨hI.lo,fun l hl=>?_⟩
 simp only at hl ⊢
 rw[List.getElem?_append_left (by simp;omega),List.getElem?_take,if_pos (by omega)]
 exact hI.same l hl
theorem finish_chg {ifn:IFunc} (hI:LoInv H s) {r:AV} {c:Option Chg} (he:finish H.length ifn s=some (r,c)):ChgOK H c:=by
 rcases (finish_inv he).2 with he|he|he|he
 ·obtain⟨_,_,_,_,_,_,cs,_,_,_,_,_,_,rfl⟩:=finArr_inv he
  exact grow_chg hI _
 ·exact finish_chg0 hI he
 ·obtain⟨_,xs,e,_,_,rfl⟩:=finPub_inv he
  exact grow_chg hI _
 ·exact (fin_chg hI (finFrz_inv he).2.2).1
theorem flatten_at {α:Type} {sz:Nat} : ∀ (e:List (List α)) (idx:Nat) (x:α),(∀ r∈e,r.length=sz)→e.flatten[idx]?=some x→∃ i j r,e[i]?=some r∧r[j]?=some x∧idx=i*sz+j
 | [],_,_,_,h=>by simp at h
 | r :: e,idx,x,hr,h=>by
  rw[List.flatten_cons] at h
  by_cases hl:idx<r.length
  ·rw[List.getElem?_append_left hl] at h;exact⟨0,idx,r,rfl,h,by simp⟩
  ·rw[List.getElem?_append_right (by omega)] at h
   obtain⟨i,j,r',h1,h2,h3⟩:=flatten_at e _ x (fun r h=>hr r (by simp[h])) h
   have:=hr r (by simp)
   exact⟨i+1,j,r',by simpa using h1,h2,by rw[Nat.add_mul];omega⟩
theorem flatten_len {α:Type} {sz:Nat} : ∀ (e:List (List α)),(∀ r∈e,r.length=sz)→e.flatten.length=e.length*sz
 | [],_=>by simp
 | r :: e,hr=>by
  have:=hr r (by simp)
  have ih:=flatten_len e (fun r h=>hr r (by simp[h]))
  simp only[List.flatten_cons,List.length_append,List.length_cons,Nat.add_mul];omega
def Gh.adopt (gh:Gh) (k n:Nat):Gh:={ gh.give k (.hb n) with ρ:=fun l=>if l=n then k else gh.ρ l }
theorem adopt_step (hW:WRel G base H gh w) {k:Nat} (hk:k<w.heap.size) {m n:Nat} (hn:m≤n):Step (fun r=>r=gh.κ k) m gh w (gh.adopt k n) w:=by
 have h:=give_step hW hk (.hb n) m
 refine⟨h.S,h.cell,h.size,h.os,h.tape,h.output,h.blk,h.fresh,fun loc hl=>?_,h.len,h.mp⟩
 show (if loc=n then _ else _)=_
 rw[if_neg (by omega)]
theorem WRel.adopt (hW:WRel G base H gh w) {k:Nat} {C:Array Value} {ty:TypeId} (hk:w.heap[k]?=some (.cells C ty (0,0))) (hS:∀ o,¬ gh.S k o) (h0:gh.κ k≠.none) (ht:∀ l,l<H.length→gh.κ k≠.hb l∧∀ j,gh.κ k≠.hs l j)
  {cs:List AV} (hlen:cs.length≤C.size) (hcs:∀ (j:Nat) (u:Value) (x:AV),C[j]?=some u→cs[j]?=some x→u.oneCell'=true∧VR gh H.length w u x) (hr:cs.all (heapCell H.length)=true) :
  WRel G base (H++[.box freeTy cs]) (gh.adopt k H.length) w:=by
 have hlt:k<w.heap.size:=(Array.getElem?_eq_some_iff.1 hk).1
 have st:=adopt_step hW hlt (Nat.le_refl H.length)
 have hn:∀ l,l<H.length→¬ (Owner.hb l=gh.κ k)∧∀ j,¬ (Owner.hs l j=gh.κ k):=fun l hl=>⟨fun h=>(ht l hl).1 h.symm,fun j h=>(ht l hl).2 j h.symm⟩
 have last:∀ {loc:Nat} {o:AObj},(H++[AObj.box freeTy cs])[loc]?=some o→¬ loc<H.length→loc=H.length∧o=.box freeTy cs:=by
  intro loc o hl hge
  rw[List.getElem?_append_right (by omega)] at hl
  have hz:loc=H.length:=by
   have:=(List.getElem?_eq_some_iff.1 hl).1
   simp at this;omega
  subst hz
  simp at hl
  exact⟨rfl,hl.symm⟩
 refine⟨hW.size,hW.sLt,fun b hb=>?_,fun g j x hx=>?_,fun loc ty' ds hl=>?_,fun loc ty' ds hl=>?_,hW.tabs,hW.bytes,fun loc o hl=>?_,fun loc ty' ds hl hf=>?_⟩
 ·have hb2:(if b=k then Owner.hb H.length else gh.κ b)≠.none:=hb
  split at hb2
  ·rename_i e;rw[e];exact hW.kLt k h0
  ·exact hW.kLt b hb2
 ·obtain⟨v,h1,h2,h3⟩:=hW.glob g j x hx
  exact⟨v,h1,h2.mono st.S st.cell st.mp,h3⟩
 ·rw[List.length_append,List.length_singleton]
  by_cases hloc:loc<H.length
  ·rw[List.getElem?_append_left hloc] at hl
   have h:=(hW.boxes loc ty' ds hl).mono st (n':=H.length+1) (Nat.le_succ _) (hn loc hloc).1 (hn loc hloc).2
   rw[st.ρ loc hloc];exact h
  ·obtain⟨rfl,ho⟩:=last hl hloc
   injection ho with ho1 ho2
   subst ho1 ho2
   have hρ:(gh.adopt k H.length).ρ H.length=k:=by simp[Gh.adopt]
   rw[hρ]
   refine⟨by simp[Gh.adopt,Gh.give],hS,C,ty,hk,hlen,fun j v x hv hx=>?_⟩
   obtain⟨h1,h2⟩:=hcs j v x hv hx
   exact⟨h1,.inl (h2.mono st (Nat.le_succ _))⟩
 ·by_cases hloc:loc<H.length
  ·rw[List.getElem?_append_left hloc] at hl
   exact hW.refs loc ty' ds hl
  ·obtain⟨rfl,ho⟩:=last hl hloc
   injection ho with ho1 ho2
   subst ho1 ho2
   exact hr
 ·rw[List.length_append,List.length_singleton]
  by_cases hloc:loc<H.length
  ·rw[List.getElem?_append_left hloc] at hl
   rw[st.ρ loc hloc]
   exact (hW.more loc o hl).mono st (Nat.le_succ _) (hn loc hloc).1 (hn loc hloc).2
  ·obtain⟨rfl,rfl⟩:=last hl hloc
   trivial
 ·by_cases hloc:loc<H.length
  ·rw[List.getElem?_append_left hloc] at hl
   rw[st.ρ loc hloc]
   exact hW.types loc ty' ds hl hf
  ·obtain⟨rfl,ho⟩:=last hl hloc
   injection ho with ho1 ho2
   exact absurd ho1 hf
theorem WRel.adoptO (hW:WRel G base H gh w) {k:Nat} {C:Array Value} {ty:TypeId} (hk:w.heap[k]?=some (.cells C ty (0,0))) (hS:∀ o,¬ gh.S k o) (h0:gh.κ k≠.none) (ht:∀ l,l<H.length→gh.κ k≠.hb l∧∀ j,gh.κ k≠.hs l j)
  {cs:List AV} (hlen:cs.length≤C.size) (hcs:∀ (j:Nat) (u:Value) (x:AV),C[j]?=some u→cs[j]?=some x→u.oneCell'=true∧VR gh H.length w u x) :
  WRel G base (H++[.obox cs]) (gh.adopt k H.length) w:=by
 have hlt:k<w.heap.size:=(Array.getElem?_eq_some_iff.1 hk).1
 have st:=adopt_step hW hlt (Nat.le_refl H.length)
 have hn:∀ l,l<H.length→¬ (Owner.hb l=gh.κ k)∧∀ j,¬ (Owner.hs l j=gh.κ k):=fun l hl=>⟨fun h=>(ht l hl).1 h.symm,fun j h=>(ht l hl).2 j h.symm⟩
 have last:∀ {loc:Nat} {o:AObj},(H++[AObj.obox cs])[loc]?=some o→¬ loc<H.length→loc=H.length∧o=.obox cs:=by
  intro loc o hl hge
  rw[List.getElem?_append_right (by omega)] at hl
  have hz:loc=H.length:=by
   have:=(List.getElem?_eq_some_iff.1 hl).1
   simp at this;omega
  subst hz
  simp at hl
  exact⟨rfl,hl.symm⟩
 refine⟨hW.size,hW.sLt,fun b hb=>?_,fun g j x hx=>?_,fun loc ty' ds hl=>?_,fun loc ty' ds hl=>?_,hW.tabs,hW.bytes,fun loc o hl=>?_,fun loc ty' ds hl hf=>?_⟩
 ·have hb2:(if b=k then Owner.hb H.length else gh.κ b)≠.none:=hb
  split at hb2
  ·rename_i e;rw[e];exact hW.kLt k h0
  ·exact hW.kLt b hb2
 ·obtain⟨v,h1,h2,h3⟩:=hW.glob g j x hx
  exact⟨v,h1,h2.mono st.S st.cell st.mp,h3⟩
 ·rw[List.length_append,List.length_singleton]
  by_cases hloc:loc<H.length
  ·rw[List.getElem?_append_left hloc] at hl
   have h:=(hW.boxes loc ty' ds hl).mono st (n':=H.length+1) (Nat.le_succ _) (hn loc hloc).1 (hn loc hloc).2
   rw[st.ρ loc hloc];exact h
  ·obtain⟨rfl,ho⟩:=last hl hloc
   cases ho
 ·by_cases hloc:loc<H.length
  ·rw[List.getElem?_append_left hloc] at hl
   exact hW.refs loc ty' ds hl
  ·obtain⟨rfl,ho⟩:=last hl hloc
   cases ho
 ·rw[List.length_append,List.length_singleton]
  by_cases hloc:loc<H.length
  ·rw[List.getElem?_append_left hloc] at hl
   rw[st.ρ loc hloc]
   exact (hW.more loc o hl).mono st (Nat.le_succ _) (hn loc hloc).1 (hn loc hloc).2
  ·obtain⟨rfl,rfl⟩:=last hl hloc
   have hρ:(gh.adopt k H.length).ρ H.length=k:=by simp[Gh.adopt]
   rw[hρ]
   refine⟨by simp[Gh.adopt,Gh.give],hS,C,ty,hk,hlen,fun j v x hv hx=>?_⟩
   obtain⟨h1,h2⟩:=hcs j v x hv hx
   exact⟨h1,.inl (h2.mono st (Nat.le_succ _))⟩
 ·by_cases hloc:loc<H.length
  ·rw[List.getElem?_append_left hloc] at hl
   rw[st.ρ loc hloc]
   exact hW.types loc ty' ds hl hf
  ·obtain⟨rfl,ho⟩:=last hl hloc
   cases ho
theorem PR.heapOK {S:Nat→Nat→Prop} {v:Value} {x:AV} (h:PR S w v x) (hp:x.plain=true) (m:Nat):heapCell m x=true:=by
 cases h<;>first|rfl|exact hp
theorem pub_all {gh0:Gh} {w0:World} (hI:Inv G base nt L H gh0 w0 s gh w a) {m:Nat} (hm:m≤s.H.length):∀ (l:List ResultVar) (rs:List IRes) (xs:List AV) (q:Option (List (List AV))),l.length=rs.length→(∀ (j:Nat) (r:ResultVar) (i:IRes),l[j]?=some r→rs[j]?=some i →
    (∃ t,r=.tmp t∧i=.tmp t∧t<nt)∨∃ t ty g sz,r=.cell t ty∧i=.cell t g sz∧t<nt∧aggT P ty=some g∧sizeT P ty=some sz)→resPub s m rs=some (xs,q) →
    ∃ vs:List Value,l.length=vs.length∧vs.length=xs.length∧(∀ (j:Nat) (r:ResultVar) (v:Value),l[j]?=some r→vs[j]?=some v→(resSem a.tmps r).run P w=.ok v w) ∧
     (q=none→∀ (j:Nat) (v:Value) (x:AV),vs[j]?=some v→xs[j]?=some x→VR gh m w v x) ∧
     ∀ e,q=some e→∃ b g,b<nt∧s.T b=.lsl g e∧e≠[]∧(e.all fun r=>r.all AV.plain)=true∧∀ (j:Nat) (v:Value) (x:AV),vs[j]?=some v→xs[j]?=some x→VR gh m w v x∨(x=.sref m 0 e.length (rowW e)∧v=tmv a b):=by
 intro l
 induction l with
 | nil =>
  intro rs xs q hl _ h
  have:rs=[]:=List.length_eq_zero_iff.1 (by simpa using hl.symm)
  subst this
  simp only[resPub,Option.some.injEq,Prod.mk.injEq] at h
  obtain⟨rfl,rfl⟩:=h
  exact⟨[],rfl,rfl,fun j r v h=>by simp at h,fun _ j v x h=>by simp at h,fun e h=>by cases h⟩
 | cons rv l ih =>
  intro rs xs q hl hc h
  cases rs with
  | nil=>simp at hl
  | cons i rs =>
   simp only[resPub,Option.bind_eq_some_iff] at h
   obtain⟨⟨ys,q'⟩,hys,h⟩:=h
   obtain⟨vs,k1,k2,k3,k4,k5⟩:=ih rs ys q' (by simpa using hl) (fun j r i hr hi=>hc (j+1) r i (by simpa using hr) (by simpa using hi)) hys
   have hci:=hc 0 rv i rfl rfl
   have runs:∀ v,(resSem a.tmps rv).run P w=.ok v w→∀ (j:Nat) (r:ResultVar) (u:Value),(rv :: l)[j]?=some r→(v :: vs)[j]?=some u→(resSem a.tmps r).run P w=.ok u w:=by
    intro v h1 j r u hr hu
    cases j with
    | zero=>simp at hr hu;subst hr hu;exact h1
    | succ j=>exact k3 j r u (by simpa using hr) (by simpa using hu)
   split at h
   ·rename_i b hrow
    split at h
    ·rename_i gg e hT
     obtain⟨h0,h⟩:=cond_some h
     simp only[Bool.and_eq_true,Option.isNone_iff_eq_none,Bool.not_eq_true',List.isEmpty_eq_false_iff] at h0
     simp only[Option.some.injEq,Prod.mk.injEq] at h
     obtain⟨rfl,rfl⟩:=h
     obtain⟨⟨hq',hne⟩,hpl⟩:=h0
     rcases hci with ⟨t,rfl,rfl,ht⟩|⟨t,ty,g,sz,rfl,rfl,_⟩
     ·have hb:b<nt∧tmv a t=tmv a b:=by
       simp only[resRow] at hrow
       have hsl:=hI.F.slot t ht
       change SR gh s.H.length nt w s.T s.gen (tmv a) t (tmv a t) (s.T t) at hsl
       split at hrow
       ·injection hrow with hrow;subst hrow;exact⟨ht,rfl⟩
       ·rename_i b' g hT1
        rw[hT1] at hsl
        obtain⟨hb',_,hv⟩:=hsl
        split at hrow
        ·rename_i g' e' hT'
         obtain⟨h0,hrow⟩:=cond_some hrow
         injection hrow with hrow
         subst hrow
         have hgg:g=g':=by simpa [nbeq] using h0
         exact⟨hb',hv (by rw[hT',hgg];rfl)⟩
        ·cases hrow
       ·cases hrow
      refine⟨tmv a t :: vs,by simp[k1],by simp[k2],runs _ rfl,(fun h=>by cases h),fun e' he'=>?_⟩
      injection he' with he'
      subst he'
      refine⟨b,gg,hb.1,hT,hne,hpl,fun j u x hu hx=>?_⟩
      cases j with
      | zero=>simp at hu hx;subst hu hx;exact .inr ⟨rfl,hb.2⟩
      | succ j=>exact .inl (k4 hq' j u x (by simpa using hu) (by simpa using hx))
     ·cases hrow
    ·cases h
   ·simp only[Option.bind_eq_some_iff] at h
    obtain⟨z,hz,h⟩:=h
    obtain⟨h0,h⟩:=cond_some h
    simp only[Option.some.injEq,Prod.mk.injEq] at h
    obtain⟨rfl,rfl⟩:=h
    obtain⟨v,h1,h2⟩:=res_VR (P:=P) hI.W hI.F hci hz
    have hv:VR gh m w v z.dropAll:=by
     rcases h2 with ⟨t,_,_,_,_,hCR⟩|hVR
     ·exact (dropAll_VR hCR.dropped).partOut h0
     ·exact (dropAll_VR hVR.dropped).partOut h0
    refine⟨v :: vs,by simp[k1],by simp[k2],runs v h1,fun hq j u x hu hx=>?_,fun e he=>?_⟩
    ·cases j with
     | zero=>simp at hu hx;subst hu hx;exact hv
     | succ j=>exact k4 hq j u x (by simpa using hu) (by simpa using hx)
    ·obtain⟨b,g,c1,c2,c3,c4,c5⟩:=k5 e he
     refine⟨b,g,c1,c2,c3,c4,fun j u x hu hx=>?_⟩
     cases j with
     | zero=>simp at hu hx;subst hu hx;exact .inl hv
     | succ j=>exact c5 j u x (by simpa using hu) (by simpa using hx)
theorem ret_pub {gh0:Gh} {w0:World} (hcl:clean gh0) (hI:Inv G base nt L H gh0 w0 s gh w a) {fn:Func} {rs:List IRes} (hc:compRes P nt fn.results.toList=some rs) {r:AV} {c:Option Chg} (hold:∀ gh' w',WRel G base s.H gh' w'→OldOK s.H H.length gh' w') (he:finPub H.length rs s=some (r,c)) :
  ∃ v gh',(results fn a.tmps).run P w=.ok v w∧RetOK G base H gh0 w0 r c v gh' w:=by
 obtain⟨hne1,xs,e,hq,rfl,rfl⟩:=finPub_inv he
 obtain⟨hl,hres⟩:=compRes_inv hc
 have hlen:=hI.lo.len
 obtain⟨vs,k1,k2,k3,_,k5⟩:=pub_all (P:=P) hI hlen _ _ xs (some e) hl hres hq
 obtain⟨b,g,hb,hT,hne,hpl,hval⟩:=k5 e rfl
 have hrun:=run_results (P:=P) (w:=w) (fn:=fn) (tmps:=a.tmps) k1 k3
 rw[dif_neg (by intro h;apply hne1;rw[← hl,k1];simpa using h)] at hrun
 obtain⟨ad,cap,hV,⟨h0,_⟩|⟨k,C,ty,sz,_,rfl,hκ,hS,hk,hC,hle,hr,hcs⟩⟩:=sr_lsl hI.F hb hT
 ·exact absurd h0 hne
 have hklt:k<w.heap.size:=(Array.getElem?_eq_some_iff.1 hk).1
 have hWp:=hI.W.popped hlen (hold _ _ hI.W)
 have hlenT:(s.H.take H.length).length=H.length:=by simp;omega
 have hrow:∀ r∈e,r.length=sz:=fun r hm=>by obtain⟨i,hi⟩:=List.getElem?_of_mem hm;exact hr i r hi
 have h0:gh.κ k≠.none:=by rw[hκ];simp
 have h1:gh.κ k≠.outer:=by rw[hκ];simp
 have ht:∀ l,l<(s.H.take H.length).length→gh.κ k≠.hb l∧∀ j,gh.κ k≠.hs l j:=fun l _=>by rw[hκ];simp
 have hW':=hWp.adopt hk hS h0 ht (cs:=e.flatten) (by rw[flatten_len e hrow,hC];exact Nat.mul_le_mul_right _ hle)
  (fun j u x hu hx=>by
   obtain⟨i,j',r,e1,e2,rfl⟩:=flatten_at e j x hrow hx
   obtain⟨u',hu',hp⟩:=hcs i j' r x e1 e2
   rw[hu] at hu'
   injection hu' with hu'
   subst hu'
   exact⟨hp.oneCell,.plain _ _ hp⟩)
  (List.all_eq_true.2 fun x hx=>by
   obtain⟨j,hj⟩:=List.getElem?_of_mem hx
   obtain⟨i,j',r,e1,e2,_⟩:=flatten_at e j x hrow hj
   obtain⟨u',_,hp⟩:=hcs i j' r x e1 e2
   exact hp.heapOK (List.all_eq_true.1 (List.all_eq_true.1 hpl r (List.mem_of_getElem? e1)) x (List.mem_of_getElem? e2)) _)
 rw[hlenT] at hW'
 have st0:=adopt_step hI.W hklt (m:=H.length) (Nat.le_refl H.length)
 have hE:Ext H.length gh w (gh.adopt k H.length) w:=⟨st0.mono (fun r h=>by rw[h];exact⟨h0,h1⟩),fun b' hb'=>by
  have hb2:(if b'=k then Owner.hb H.length else gh.κ b')=.outer:=hb'
  split at hb2
  ·cases hb2
  ·exact hb2⟩
 have hE2:=hI.E.trans hE (Nat.le_refl _)
 have hnl:(newH H (some ⟨s.H.take H.length++[.box freeTy e.flatten],s.lo⟩)).length=H.length+1:=by simp[newH];omega
 refine⟨_,_,hrun,by rw[hnl];omega,hW',?_,hE2.out,?_⟩
 ·have st:=hE2.step
  refine⟨st.S,st.cell,st.size,st.os,st.tape,st.output,fun b hb hn=>st.blk b hb (fun ht=>hn ?_),st.fresh,st.ρ,st.len,st.mp⟩
  rcases hcl b with h|h|h|h
  ·exact absurd h ht.1
  ·exact absurd h ht.2
  ·exact .inl h
  ·exact .inr h
 ·rw[hnl]
  refine .inl (.tuple vs.toArray xs (by simpa using k2) (fun j v x hv hx=>?_))
  rcases hval j v x (by simpa using hv) hx with h|⟨rfl,rfl⟩
  ·exact h.mono st0 (Nat.le_succ _)
  ·rw[hV]
   have hρ:(gh.adopt k H.length).ρ H.length=k:=by simp[Gh.adopt]
   have hrw:rowW e=sz:=by
    cases e with
    | nil=>exact absurd rfl hne
    | cons r0 e=>simp[rowW,hrow r0 (List.mem_cons_self ..)]
   have:=VR.sref (gh:=gh.adopt k H.length) (w:=w) (n:=H.length+1) H.length 0 e.length cap (rowW e) (by omega) hle (fun _=>⟨ty,by rw[hρ];exact⟨C,(0,0),hk,by rw[hC,hrw,Nat.zero_add]⟩⟩)
   rw[hρ] at this
   exact this
theorem ret_arr {gh0:Gh} {w0:World} (hcl:clean gh0) (hI:Inv G base nt L H gh0 w0 s gh w a) {fn:Func} {rs:List IRes} (hc:compRes P nt fn.results.toList=some rs) {r:AV} {c:Option Chg} (hold:∀ gh' w',WRel G base s.H gh' w'→OldOK s.H H.length gh' w') (he:finArr H.length rs s=some (r,c)) :
  ∃ v gh',(results fn a.tmps).run P w=.ok v w∧RetOK G base H gh0 w0 r c v gh' w:=by
 obtain⟨i,l,off,n,z,ty0,cs,hrs,hres0,hH,hml,hpl,rfl,rfl⟩:=finArr_inv he
 obtain⟨hl,hres⟩:=compRes_inv hc
 have hlen:=hI.lo.len
 rw[hrs] at hl
 obtain⟨rv,hrv⟩:∃ rv,fn.results.toList=[rv]:=List.length_eq_one_iff.1 (by simpa using hl)
 have hci:=hres 0 rv i (by rw[hrv];rfl) (by rw[hrs];rfl)
 obtain⟨v,h1,h2⟩:=res_VR (P:=P) hI.W hI.F hci hres0
 have hv:VR gh s.H.length w v (.sref l off n z):=by
  rcases h2 with ⟨t,_,_,_,_,hCR⟩|hVR
  ·exact hCR.dropped
  ·exact hVR
 obtain⟨_,cap,hk,hz,rfl⟩:=hv.inv_sref
 have hrun:=run_results (P:=P) (w:=w) (fn:=fn) (tmps:=a.tmps) (vs:=[.slice (some ⟨gh.ρ l,off,none⟩) n cap]) (by rw[hrv];rfl) (fun j r' v' hr hv=>by
  rw[hrv] at hr
  cases j with
  | zero=>simp at hr hv;subst hr hv;exact h1
  | succ j=>simp at hr)
 obtain⟨hκ,hS,C,ty,hb,hC,hcs⟩:=hI.W.boxes l _ cs hH
 have hklt:gh.ρ l<w.heap.size:=(Array.getElem?_eq_some_iff.1 hb).1
 have hWp:=hI.W.popped hlen (hold _ _ hI.W)
 have hlenT:(s.H.take H.length).length=H.length:=by simp;omega
 have h0:gh.κ (gh.ρ l)≠.none:=by rw[hκ];simp
 have h1' : gh.κ (gh.ρ l)≠.outer:=by rw[hκ];simp
 have hW':=hWp.adoptO hb hS h0 (fun l' hl'=>by rw[hκ];rw[hlenT] at hl';exact⟨by intro e;injection e with e;omega,by simp⟩) (cs:=cs) hC (fun j u x hu hx=>by
  obtain⟨k1,k2⟩:=hcs j u x hu hx
  have hp:=List.all_eq_true.1 hpl x (List.mem_of_getElem? hx)
  have:=k2.dropped
  rw[drop_of_plain hp] at this
  exact⟨k1,.plain _ _ (this.plain_PR hp)⟩)
 rw[hlenT] at hW'
 have st0:=adopt_step hI.W hklt (m:=H.length) (Nat.le_refl H.length)
 have hE:Ext H.length gh w (gh.adopt (gh.ρ l) H.length) w:=⟨st0.mono (fun r h=>by rw[h];exact⟨h0,h1'⟩),fun b' hb'=>by
  have hb2:(if b'=gh.ρ l then Owner.hb H.length else gh.κ b')=.outer:=hb'
  split at hb2
  ·cases hb2
  ·exact hb2⟩
 have hE2:=hI.E.trans hE (Nat.le_refl _)
 have hnl:(newH H (some ⟨s.H.take H.length++[.obox cs],s.lo⟩)).length=H.length+1:=by simp[newH];omega
 refine⟨_,_,by simpa using hrun,by rw[hnl];omega,hW',?_,hE2.out,?_⟩
 ·have st:=hE2.step
  refine⟨st.S,st.cell,st.size,st.os,st.tape,st.output,fun b hb hn=>st.blk b hb (fun ht=>hn ?_),st.fresh,st.ρ,st.len,st.mp⟩
  rcases hcl b with h|h|h|h
  ·exact absurd h ht.1
  ·exact absurd h ht.2
  ·exact .inl h
  ·exact .inr h
 ·rw[hnl]
  have hρ:(gh.adopt (gh.ρ l) H.length).ρ H.length=gh.ρ l:=by simp[Gh.adopt]
  have:=VR.sref (gh:=gh.adopt (gh.ρ l) H.length) (w:=w) (n:=H.length+1) H.length off n cap z (by omega) hk (fun hz0=>by rw[hρ];exact hz hz0)
  rw[hρ] at this
  exact .inl this
def frzCells (H:AHeap) (m k l:Nat):Option (List AV) :=
 ((H[l]?).bind objCells).bind fun cs=>cond (cs.all fun x=>(frzC H m k x.drop).plain&&noByteV x) (some (cs.map fun x=>frzC H m k x.drop)) none
def frzS (gh:Gh) (H:AHeap) (m:Nat) (b o:Nat):Prop:=gh.S b o∨∃ k l cs,m≤l∧frzCells H m k l=some cs∧gh.ρ l=b∧o<cs.length
def Gh.frz (gh:Gh) (H:AHeap) (m:Nat):Gh:={ gh with S:=frzS gh H m }
theorem frzCells_inv {m k l:Nat} {cs:List AV} (h:frzCells H m k l=some cs):∃ o ds,H[l]?=some o∧objCells o=some ds∧cs=ds.map (fun x=>frzC H m k x.drop)∧∀ x,x∈ds→(frzC H m k x.drop).plain=true∧noByteV x=true:=by
 unfold frzCells at h
 simp only[Option.bind_eq_some_iff] at h
 obtain⟨ds,⟨o,ho,hd⟩,h⟩:=h
 obtain⟨h0,h⟩:=cond_some h
 injection h with h
 refine⟨o,ds,ho,hd,h.symm,fun x hx=>?_⟩
 have:=List.all_eq_true.1 h0 x hx
 simpa using this
theorem obj_at (hW:WRel G base H gh w) {l:Nat} {o:AObj} {ds:List AV} (ho:H[l]?=some o) (hd:objCells o=some ds):BoxAt gh H.length w (gh.ρ l) (.hb l) (fun j=>.hs l j) ds:=by
 cases o<;>simp only[objCells,reduceCtorEq,Option.some.injEq] at hd
 ·subst hd;exact hW.boxes l _ _ ho
 ·subst hd;exact hW.more l _ ho
theorem frz_step (hW:WRel G base H gh w) (m n:Nat):Step (fun r=>∃ l,m≤l∧r=.hb l) n gh w (gh.frz H m) w:=by
 refine⟨fun b o h=>.inl h,fun _ _ _=>rfl,Nat.le_refl _,rfl,rfl,rfl,fun b hb hn=>⟨.inl rfl,rfl,fun o ho=>?_⟩,fun b hb=>hW.not_outer b hb,fun _ _=>rfl,fun _ _ _ h=>h,fun _ _ _ _ h=>h⟩
 rcases ho with ho|⟨k,l,cs,hl,hf,hρ,_⟩
 ·exact ho
 ·exfalso
  obtain⟨o',ds,ho',hd,_⟩:=frzCells_inv hf
  exact hn ⟨l,hl,by rw[← hρ];exact (obj_at hW ho' hd).1⟩
theorem frz_cell (hW:WRel G base H gh w) {m k l:Nat} (hV:∀ {v:Value} {x:AV},VR gh H.length w v x→VR (gh.frz H m) H.length w v (frzC H m k x)) (hm:m≤l) {cs:List AV} (hf:frzCells H m k l=some cs) {j:Nat} {x:AV} (hx:cs[j]?=some x) :
  ∃ v,w.cell? ⟨gh.ρ l,j,none⟩=some v∧PR (gh.frz H m).S w v x∧(gh.frz H m).S (gh.ρ l) j∧∀ n,v≠.int .u8 n:=by
 have hf0:=hf
 obtain⟨o',ds,ho',hd,rfl,hall⟩:=frzCells_inv hf
 obtain⟨hκ,hS,C,ty1,hb,hle,hcell⟩:=obj_at hW ho' hd
 have hjl:=(List.getElem?_eq_some_iff.1 hx).1
 simp only[List.getElem?_map,Option.map_eq_some_iff] at hx
 obtain⟨y,hy,rfl⟩:=hx
 have hj2:=(List.getElem?_eq_some_iff.1 hy).1
 have hv:C[j]?=some C[j]:=Array.getElem?_eq_getElem (by omega)
 obtain⟨k1,k2⟩:=hcell j _ y hv hy
 obtain⟨p1,p2⟩:=hall y (List.mem_of_getElem? hy)
 refine⟨C[j],by rw[cell_of_row w _ j C ty1 _ hb];exact hv,(hV k2.dropped).plain_PR p1,.inr ⟨k,l,_,hm,hf0,rfl,hjl⟩,fun n hn=>?_⟩
 have hVR:=k2.dropped
 rw[hn] at hVR
 cases hVR with
 | plain _ _ h =>
  cases y<;>simp only[AV.drop] at h<;>cases h<;>simp[noByteV] at p2
theorem chunksA_get {z:Nat} : ∀ {n:Nat} {l:List AV} {i:Nat} {r:List AV},(chunks z n l)[i]?=some r→i<n∧r=(l.drop (i*z)).take z
 | 0,l,i,r,h=>by simp[chunks] at h
 | n+1,l,0,r,h=>by simp[chunks] at h;exact⟨by omega,by simp[h]⟩
 | n+1,l,i+1,r,h=>by
  simp only[chunks,List.getElem?_cons_succ] at h
  obtain⟨h1,h2⟩:=chunksA_get h
  refine⟨by omega,?_⟩
  rw[h2,List.drop_drop,Nat.add_mul,Nat.one_mul,Nat.add_comm z]
theorem chunksA_len {z:Nat} : ∀ {n:Nat} {l:List AV},(chunks z n l).length=n
 | 0,l=>rfl
 | n+1,l=>by simp[chunks,chunksA_len]
theorem frzC_VR (hW:WRel G base H gh w) {m:Nat} : ∀ (k:Nat) {v:Value} {x:AV},VR gh H.length w v x→VR (gh.frz H m) H.length w v (frzC H m k x)
 | 0,v,x,h=>h.mono (frz_step hW m _) (Nat.le_refl _)
 | d+1,v,x,h=>by
  have ih:=@frzC_VR hW m d
  have h0:VR (gh.frz H m) H.length w v x:=h.mono (frz_step hW m _) (Nat.le_refl _)
  unfold frzC
  split
  ·rename_i l off k z
   cases hb:Nat.ble m l with
   | false=>exact h0
   | true =>
    rw[cond_true]
    split
    ·rename_i ds hds
     cases hb2:(Nat.blt 0 z&&Nat.ble (off+k*z) ds.length&&ds.all fun x=>(frzC H m d x.drop).plain&&noByteV x) with
     | false=>exact h0
     | true =>
      rw[cond_true]
      simp only[Bool.and_eq_true,Nat.blt_eq,Nat.ble_eq] at hb2
      obtain⟨⟨hz,hle⟩,hall⟩:=hb2
      have hcs:frzCells H m d l=some (ds.map fun x=>frzC H m d x.drop):=by
       unfold frzCells
       rw[hds,Option.bind_some,hall];rfl
      generalize hcc:ds.map (fun x=>frzC H m d x.drop)=cs at *
      obtain⟨_,cap,hk,_,rfl⟩:=h.inv_sref
      have hml:m≤l:=by simpa [Nat.ble_eq] using hb
      have cell:∀ {i j:Nat} {r:List AV} {y:AV},(chunks z k (cs.drop off))[i]?=some r→r[j]?=some y→i<k∧j<z∧cs[off+i*z+j]?=some y:=by
       intro i j r y hi hj
       obtain⟨h1,rfl⟩:=chunksA_get hi
       rw[List.getElem?_take] at hj
       split at hj
       ·rename_i h2
        rw[List.getElem?_drop,List.getElem?_drop] at hj
        exact⟨h1,h2,by rw[← hj];congr 1;omega⟩
       ·cases hj
      have hlen:cs.length=ds.length:=by rw[← hcc];simp
      refine .plain _ _ (.slice (gh.ρ l) off k cap z _ (fun i j=>(w.cell? ⟨gh.ρ l,off+i*z+j,none⟩).getD undef) chunksA_len hk (fun i r hi=>?_) (fun i j r y hi hj=>?_) (fun i j r y hi hj=>?_))
      ·obtain⟨h1,rfl⟩:=chunksA_get hi
       have:(i+1)*z≤k*z:=Nat.mul_le_mul_right _ h1
       rw[Nat.add_mul] at this
       simp;omega
      ·obtain⟨_,_,hc⟩:=cell hi hj
       obtain⟨u,k1,k2,k3,_⟩:=frz_cell hW ih hml hcs hc
       exact⟨k3,by rw[k1];rfl,by rw[k1];exact k2.oneCell⟩
      ·obtain⟨_,_,hc⟩:=cell hi hj
       obtain⟨u,k1,k2,_⟩:=frz_cell hW ih hml hcs hc
       rw[k1];exact k2
    ·exact h0
  ·exact h0
theorem frzP_VR (hW:WRel G base H gh w) {m:Nat} {v:Value} {x:AV} (h:VR gh H.length w v x):VR (gh.frz H m) H.length w v (frzP H m x):=by
 unfold frzP
 split
 ·rename_i cs
  obtain⟨C,rfl,hs,hone,hc⟩:=h.inv_agg
  refine .agg C _ (by simpa using hs) hone (fun j v x hv hx=>?_)
  simp only[List.getElem?_map,Option.map_eq_some_iff] at hx
  obtain⟨y,hy,rfl⟩:=hx
  exact frzC_VR hW frzD (hc j v y hv hy)
 ·exact frzC_VR hW frzD h
theorem frz_W (hW:WRel G base H gh w) {m:Nat} (hm:m≤H.length) (hold:OldOK H m gh w):WRel G base (H.take m) (gh.frz H m) w:=by
 have hW0:=hW.popped hm hold
 have hlenm:(H.take m).length=m:=by simp;omega
 have st:=frz_step hW m (H.take m).length
 have ht:∀ l,l<m→¬ (∃ k,m≤k∧Owner.hb l=.hb k)∧∀ j,¬ (∃ k,m≤k∧Owner.hs l j=.hb k):=by
  refine fun l hl=>⟨?_,fun j=>?_⟩
  ·rintro ⟨k,hk,h⟩
   injection h with h
   omega
  ·rintro ⟨k,hk,h⟩
   cases h
 have lt:∀ {l:Nat} {o:AObj},(H.take m)[l]?=some o→l<m:=fun h=>by have:=(List.getElem?_eq_some_iff.1 h).1;omega
 refine⟨hW0.size,fun b o ho=>?_,hW0.kLt,fun g j x hx=>?_,fun loc ty cs hl=>?_,hW0.refs,hW0.tabs,hW0.bytes_step st (fun b o n ho=>?_),fun loc o hl=>?_,fun loc ty cs hl=>hW0.types loc ty cs hl⟩
 ·rcases ho with ho|⟨k,l,cs,hl,hf,rfl,_⟩
  ·exact hW.sLt b o ho
  ·obtain⟨o',ds,ho',hd,_⟩:=frzCells_inv hf
   obtain⟨_,_,C,ty1,hb,_⟩:=obj_at hW ho' hd
   exact (Array.getElem?_eq_some_iff.1 hb).1
 ·obtain⟨v,h1,h2,h3⟩:=hW0.glob g j x hx
  exact⟨v,h1,h2.mono st.S st.cell st.mp,st.S g j h3⟩
 ·exact (hW0.boxes loc ty cs hl).mono st (Nat.le_refl _) (ht loc (lt hl)).1 (ht loc (lt hl)).2
 ·rcases ho with ho|⟨k,l,cs,hl,hf,rfl,hlt⟩
  ·exact .inl ho
  ·refine .inr fun hc=>?_
   obtain⟨v,k1,_,_,k4⟩:=frz_cell hW (frzC_VR hW k) hl hf (List.getElem?_eq_getElem hlt)
   rw[k1] at hc
   injection hc with hc
   exact absurd hc (k4 n)
 ·exact (hW0.more loc o hl).mono st (Nat.le_refl _) (ht loc (lt hl)).1 (ht loc (lt hl)).2
theorem ret_frz {gh0:Gh} {w0:World} (hcl:clean gh0) (hI:Inv G base nt L H gh0 w0 s gh w a) {fn:Func} {rs:List IRes} (hc:compRes P nt fn.results.toList=some rs) {r:AV} {c:Option Chg} (hold:∀ gh' w',WRel G base s.H gh' w'→OldOK s.H H.length gh' w') (he:finFrz H.length rs s=some (r,c)) :
  ∃ v gh',(results fn a.tmps).run P w=.ok v w∧RetOK G base H gh0 w0 r c v gh' w:=by
 obtain⟨hr,hlv,hch⟩:=finFrz_inv he
 have hlen:=hI.lo.len
 have hnew:=(fin_chg hI.lo hch).2
 have hlen2:(newH H c).length=H.length:=by rw[hnew];simp;omega
 have st0:=frz_step hI.W H.length H.length
 have hE0:Ext H.length gh w (gh.frz s.H H.length) w:=⟨st0.mono (fun r h=>by obtain⟨l,_,rfl⟩:=h;exact⟨by simp,by simp⟩),fun b hb=>hb⟩
 have fin:∀ {v:Value},(results fn a.tmps).run P w=.ok v w→VR (gh.frz s.H H.length) s.H.length w v r→∃ v gh',(results fn a.tmps).run P w=.ok v w∧RetOK G base H gh0 w0 r c v gh' w:=by
  intro v h1 h4
  have hE:=hI.E.trans hE0 (Nat.le_refl _)
  refine⟨v,_,h1,Nat.le_of_eq hlen2.symm,by rw[hnew];exact frz_W hI.W hlen (hold _ _ hI.W),?_,hE.out,by rw[hlen2];exact .inl (h4.leaves hlv)⟩
  have st:=hE.step
  refine⟨st.S,st.cell,st.size,st.os,st.tape,st.output,fun b hb hn=>st.blk b hb (fun ht=>hn ?_),st.fresh,st.ρ,st.len,st.mp⟩
  rcases hcl b with h|h|h|h
  ·exact absurd h ht.1
  ·exact absurd h ht.2
  ·exact .inl h
  ·exact .inr h
 obtain⟨hl,hres⟩:=compRes_inv hc
 have one:∀ (rv:ResultVar) (v:Value),fn.results.toList=[rv]→(resSem a.tmps rv).run P w=.ok v w→(results fn a.tmps).run P w=.ok v w:=by
  intro rv v h1 h2
  have:=run_results (P:=P) (w:=w) (fn:=fn) (tmps:=a.tmps) (vs:=[v]) (by rw[h1];rfl) (fun j r' v' hr hv=>by
   rw[h1] at hr
   cases j with
   | zero=>simp at hr hv;subst hr hv;exact h2
   | succ j=>simp at hr)
  simpa using this
 unfold resVal2 at hr
 split at hr
 ·rename_i i
  have hri:([i]:List IRes)=[i]:=rfl
  rw[hri] at hl
  obtain⟨rv,hrv⟩:∃ rv,fn.results.toList=[rv]:=List.length_eq_one_iff.1 (by simpa using hl)
  have hci:=hres 0 rv i (by rw[hrv];rfl) (by rw[hri];rfl)
  simp only[Option.map_eq_some_iff] at hr
  obtain⟨z,hz,rfl⟩:=hr
  obtain⟨v,h1,h2⟩:=res_VR (P:=P) hI.W hI.F hci hz
  have hv:VR gh s.H.length w v z.dropAll:=by
   rcases h2 with ⟨t,_,_,_,_,hCR⟩|hVR
   ·exact dropAll_VR hCR.dropped
   ·exact dropAll_VR hVR.dropped
  exact fin (one _ _ hrv h1) (frzP_VR hI.W hv)
 ·rename_i hne
  simp only[Option.map_eq_some_iff] at hr
  obtain⟨xs,hxs,rfl⟩:=hr
  obtain⟨vs,k1,k2,k3,k4⟩:=res_all (P:=P) hI.W hI.F _ _ xs hl hres hxs
  have hn1:vs.length≠1:=by
   intro h
   rw[← k1,hl] at h
   obtain⟨i,hi⟩:=List.length_eq_one_iff.1 h
   exact hne i hi
  have hrun:=run_results (P:=P) (w:=w) (fn:=fn) (tmps:=a.tmps) k1 k3
  rw[dif_neg (by simpa using hn1)] at hrun
  refine fin hrun (.tuple vs.toArray _ (by simpa using k2) (fun j v x hv hx=>?_))
  simp only[List.getElem?_map,Option.map_eq_some_iff] at hx
  obtain⟨y,hy,rfl⟩:=hx
  exact frzP_VR hI.W (k4 j v y (by simpa using hv) hy)
theorem ret_sound {gh0 ghI:Gh} {w0 wI:World} (hW0:WRel G base H ghI wI) (hcl:clean gh0) (hI:Inv G base nt L H gh0 w0 s gh w a) {fn:Func} {ifn:IFunc} (hc:compRes P nt fn.results.toList=some ifn.results) {r:AV} {c:Option Chg} (he:finish H.length ifn s=some (r,c)) :
  ChgOK H c∧∃ v gh',(results fn a.tmps).run P w=.ok v w∧RetOK G base H gh0 w0 r c v gh' w:=by
 refine⟨finish_chg hI.lo he,?_⟩
 obtain⟨ho,he⟩:=finish_inv he
 have hold:∀ gh' w',WRel G base s.H gh' w'→OldOK s.H H.length gh' w':=fun gh' w' h=>old_ok hW0 hI.lo ho h
 rcases he with he|he|he|he
 ·exact ret_arr hcl hI hc hold he
 ·exact (ret_sound0 hcl hI hc hold he).2
 ·exact ret_pub hcl hI hc hold he
 ·exact ret_frz hcl hI hc hold he
section
variable {cf:CallF} (hcf:∀ f args H r c,cf f args H=some (r,c)→ChgOK H c)
include hcf
theorem evVal_lo {draw:Bool} {o:IOper} {z:AV} {s s1:AS} (he:evVal G cf draw s o=some (z,s1)) (h:LoInv H s):LoInv H s1:=by
 have hrun:((evOp G cf s o.op).bind fun r=>match r.2 with
   | none=>cond (draw&&(genOf r.1).isSome) none (some (r.1,s))
   | some s'=>cond draw none (some (r.1,s')))=some (z,s1)→LoInv H s1:=by
  intro h1
  simp only[Option.bind_eq_some_iff] at h1
  obtain⟨⟨z',s'⟩,hev,h1⟩:=h1
  cases s' with
  | none =>
   simp only at h1
   cases hb:(draw&&(genOf z').isSome) with
   | true=>rw[hb] at h1;cases h1
   | false =>
    rw[hb] at h1
    simp only[cond_false,Option.some.injEq,Prod.mk.injEq] at h1
    rw[← h1.2];exact h
  | some s' =>
   simp only at h1
   cases draw with
   | true=>cases h1
   | false =>
    simp only[cond_false,Option.some.injEq,Prod.mk.injEq] at h1
    rw[← h1.2];exact evOp_lo hcf hev h
 unfold evVal at he
 cases hg:o.guard with
 | none=>rw[hg] at he;exact hrun he
 | some gw =>
  obtain⟨g,want⟩:=gw
  rw[hg] at he
  simp only at he
  generalize s.T g=X at he
  cases X with
  | bool b =>
   simp only at he
   cases hc:(b==want) with
   | false =>
    rw[hc] at he
    simp only[cond_false,Option.some.injEq,Prod.mk.injEq] at he
    rw[← he.2];exact h
   | true=>rw[hc] at he;exact hrun he
  | tuple vs =>
   cases vs with
   | nil=>simp only[Option.some.injEq,Prod.mk.injEq] at he;rw[← he.2];exact h
   | cons v vs=>cases he
  | _=>cases he
theorem evOps_lo {draw:Bool} : ∀ (is:List IOper) (s s' : AS),evOps G cf draw is s=some s'→LoInv H s→LoInv H s'
 | [],s,s',he,h=>by simp only[evOps,Option.some.injEq] at he;rw[← he];exact h
 | o :: r,s,s',he,h=>by
  simp only[evOps,Option.bind_eq_some_iff,evOper_val,Option.map_eq_some_iff] at he
  obtain⟨s1,⟨⟨z,s2⟩,hz,rfl⟩,he⟩:=he
  have h2:=evVal_lo hcf hz h
  exact evOps_lo r _ s' he (h2.same_HL (putD_T _ _ _).1 (putD_T _ _ _).2.2)
theorem evC_lo (n:Nat):∀ (c:ICode) (s s' : AS) (ex:IExit),evC G cf n c s=some (ex,s')→LoInv H s→LoInv H s'
 | .skip,s,s',ex,he,h=>by simp only[evC,Option.some.injEq,Prod.mk.injEq] at he;rw[← he.2];exact h
 | .region d ops,s,s',ex,he,h=>by
  simp only[evC,Option.map_eq_some_iff,Prod.mk.injEq] at he
  obtain⟨s2,he,_,rfl⟩:=he
  exact evOps_lo hcf ops s s2 he h
 | .seq a b,s,s',ex,he,h=>by
  simp only[evC,Option.bind_eq_some_iff] at he
  obtain⟨⟨e1,s1⟩,h1,he⟩:=he
  have h2:=evC_lo n a s s1 e1 h1 h
  cases e1 with
  | normal=>exact evC_lo n b s1 s' ex he h2
  | _=>simp only[Option.some.injEq,Prod.mk.injEq] at he;rw[← he.2];exact h2
 | .cond c a b,s,s',ex,he,h=>by
  simp only[evC] at he
  split at he
  ·rename_i t _
   cases t with
   | true=>exact evC_lo n a s s' ex he h
   | false=>exact evC_lo n b s s' ex he h
  ·cases he
 | .block id a,s,s',ex,he,h=>by
  simp only[evC,Option.map_eq_some_iff] at he
  obtain⟨⟨e1,s1⟩,h1,he⟩:=he
  have h2:=evC_lo n a s s1 e1 h1 h
  cases e1<;>(simp only[Prod.mk.injEq] at he;rw[← he.2];exact h2)
 | .loop a,s,s',ex,he,h=>by
  simp only[evC] at he
  have go:∀ (m:Nat) (s:AS),iter (evC G cf n a) m s=some (ex,s')→LoInv H s→LoInv H s':=by
   intro m
   induction m with
   | zero=>intro s h;cases h
   | succ m ih =>
    intro s h1 h
    simp only[iter,Option.bind_eq_some_iff] at h1
    obtain⟨⟨e1,s1⟩,h1,h2⟩:=h1
    have h3:=evC_lo n a s s1 e1 h1 h
    cases e1 with
    | normal=>exact ih s1 h2 h3
    | _=>simp only[Option.some.injEq,Prod.mk.injEq] at h2;rw[← h2.2];exact h3
  exact go n s he h
 | .exit id,s,s',ex,he,h=>by simp only[evC,Option.some.injEq,Prod.mk.injEq] at he;rw[← he.2];exact h
 | .ret,s,s',ex,he,h=>by simp only[evC,Option.some.injEq,Prod.mk.injEq] at he;rw[← he.2];exact h
 | .anyr _ _ _,s,s',ex,he,h=>by simp[evC] at he
end
def Gh.taken (gh:Gh):Gh:={ gh with κ:=fun b=>match gh.κ b with|.par j=>.sl j|o=>o }
def isPar (p:Owner):Prop:=∃ j,p=.par j
theorem taken_step (hW:WRel G base H gh w) (n:Nat):Step isPar n gh w gh.taken w:=by
 refine⟨fun _ _ h=>h,fun _ _ _=>rfl,Nat.le_refl _,rfl,rfl,rfl,fun b hb hn=>⟨.inl rfl,?_,fun _ h=>h⟩,fun b hb=>?_,fun _ _=>rfl,fun _ _ _ h=>h,fun _ _ _ _ h=>h⟩
 ·simp only[Gh.taken]
  cases h:gh.κ b<;>first|rfl|skip
  exact absurd ⟨_,h⟩ hn
 ·simp only[Gh.taken,hW.fresh b hb]
  simp
theorem taken_W (hW:WRel G base H gh w):WRel G base H gh.taken w:=by
 refine hW.step (taken_step hW H.length) (fun l=>⟨fun h=>(by obtain⟨j,h⟩:=h;cases h),fun k h=>(by obtain⟨j,h⟩:=h;cases h)⟩) hW.sLt (fun b hb=>hW.kLt b fun h=>hb ?_) (fun _ _ _ h=>.inl h)
 simp[Gh.taken,h]
theorem taken_CR (hW:WRel G base H gh w) {n j:Nat} {v:Value} {x:AV} (h:CR gh n w (.par j) v x):CR gh.taken n w (.sl j) v x:=by
 have st:=taken_step hW n
 rcases h with h|⟨e,rfl,h1,h2⟩
 ·exact .inl (h.mono st (Nat.le_refl _))
 ·refine .inr ⟨e,rfl,h1,?_⟩
  obtain⟨b,cap,C,ty,lo,hi,sz,k1,k2,k3,k4,k5⟩:=h2
  exact⟨b,cap,C,ty,lo,hi,sz,k1,by simp[Gh.taken,k2],k3,k4,k5⟩
theorem init_inv {H:AHeap} {fn:Func} {locals muts:List Nat} {args:List AV} {gh:Gh} {w:World} {vs:Array Value} (hW:WRel G base H gh w) (hvs:vs.size=args.length) (hsz:vs.size≤fn.ntmps) (hrel:∀ (j:Nat) (v:Value) (x:AV),vs[j]?=some v→args[j]?=some x→CR gh H.length w (.par j) v x) :
  Inv G base fn.ntmps (locals++muts) H gh w ({ T:=initT args,H,lo:=H.length,gen:=0 } : AS) gh.taken w { tmps:=vs++Array.replicate (fn.ntmps-vs.size) undef,defers:=[] }:=by
 have hfresh:∀ b,w.heap.size≤b→gh.κ b≠.outer:=fun b hb=>hW.not_outer b hb
 have hE:Ext H.length gh w gh.taken w:=⟨(taken_step hW H.length).mono (fun p hp=>by obtain⟨j,rfl⟩:=hp;simp[touchAny]),fun b hb=>by
  simp only[Gh.taken] at hb
  cases h:gh.κ b<;>rw[h] at hb<;>first|exact hb|cases hb⟩
 refine⟨taken_W hW,⟨⟨rfl,by simp;omega,fun i hi=>?_⟩,fun i hi=>?_⟩,hE,⟨Nat.le_refl _,Nat.le_refl _,fun _ _=>rfl⟩⟩
 ·have hCR:CR gh.taken H.length w (.sl i) ((vs++Array.replicate (fn.ntmps-vs.size) undef).getD i undef) (initT args i):=by
   by_cases hlt:i<vs.size
   ·have h1:=Array.getElem?_eq_getElem hlt
    have h2:=List.getElem?_eq_getElem (show i<args.length by omega)
    have h3:=hrel i _ _ h1 h2
    have e1:(vs++Array.replicate (fn.ntmps-vs.size) undef).getD i undef=vs[i]:=by
     rw[Array.getD_eq_getD_getElem?,Array.getElem?_append_left hlt,h1];rfl
    have e2:initT args i=args[i]:=by simp only[initT,List.getD_eq_getElem?_getD,h2];rfl
    rw[e1,e2]
    exact taken_CR hW h3
   ·have e1:(vs++Array.replicate (fn.ntmps-vs.size) undef).getD i undef=undef:=by
     rw[Array.getD_eq_getD_getElem?,Array.getElem?_append_right (by omega)]
     by_cases h:i-vs.size<fn.ntmps-vs.size
     ·simp[h]
     ·simp[h]
    have e2:initT args i=.undef:=by simp only[initT,List.getD_eq_getElem?_getD,List.getElem?_eq_none (show args.length≤i by omega)];rfl
    rw[e1,e2]
    exact .inl .undef
  exact sr_of_slot hCR.frameCell hCR
 ·exfalso
  have hn:genOf (initT args i)=none:=by
   by_cases hlt:i<args.length
   ·have h1:=Array.getElem?_eq_getElem (show i<vs.size by omega)
    have h2:=List.getElem?_eq_getElem hlt
    have e2:initT args i=args[i]:=by simp only[initT,List.getD_eq_getElem?_getD,h2];rfl
    rw[e2]
    exact genOf_frameCell (hrel i _ _ h1 h2).frameCell
   ·have e2:initT args i=.undef:=by simp only[initT,List.getD_eq_getElem?_getD,List.getElem?_eq_none (show args.length≤i by omega)];rfl
    rw[e2];rfl
  have hi' : (genOf (initT args i)).isSome=true:=hi
  rw[hn] at hi'
  cases hi'
theorem runF_sound {cf:CallF} (hcf:CallsSound P G cf) (hm:P.follows .mixedOrders=true) {f:FuncId} {fn:Func} (hfn:P.funcs[f]?=some fn) {takes locals muts:List Nat} {ifn:IFunc} (hc:compF P takes locals muts fn=some ifn)
  {n:Nat} {args:List AV} {r:AV} {c:Option Chg} (he:runF G cf n ifn args H=some (r,c)) :
  (fn.body.isSome=true∧fn.name≠ "runtime.NumGoroutine")∧ChgOK H c ∧
  ∀ (base:Nat) (gh:Gh) (w:World) (vs:Array Value),WRel G base H gh w→clean gh→vs.size=args.length→(∀ (j:Nat) (v:Value) (x:AV),vs[j]?=some v→args[j]?=some x→CR gh H.length w (.par j) v x) →
   Calls P f vs w fun e w'=>∃ v gh',e=.returned v∧RetOK G base H gh w r c v gh' w':=by
 simp only[compF,Option.bind_eq_some_iff] at hc
 obtain⟨code,hbody,b,hb,rs,hrs,hc⟩:=hc
 obtain⟨h0,hc⟩:=cond_some hc
 injection hc with hc
 subst hc
 simp only[Bool.and_eq_true,Nat.ble_eq,bne_iff_ne,ne_eq] at h0
 simp only[runF] at he
 obtain⟨h1,he⟩:=cond_some he
 have hal:args.length=fn.params.size+fn.nfree:=by simpa [nbeq] using h1
 simp only[Option.bind_eq_some_iff] at he
 obtain⟨⟨ex,s'⟩,hev,he⟩:=he
 have hch:ChgOK H c:=by
  have hlo:=evC_lo (H:=H) (fun f args H r c h=>(hcf f args H r c h).2.1) n b _ s' ex hev ⟨Nat.le_refl _,Nat.le_refl _,fun _ _=>rfl⟩
  cases ex with
  | normal=>exact finish_chg hlo he
  | exit id=>cases he
  | ret=>exact finish_chg hlo he
 refine⟨⟨by rw[hbody];rfl,h0.2⟩,hch,fun base gh w vs hW hcl hvs hrel=>?_⟩
 refine calls_of_wp hfn hbody ?_
 have hfresh:∀ b,w.heap.size≤b→gh.κ b≠.outer:=fun b hb=>hW.not_outer b hb
 have hsz:vs.size≤fn.ntmps:=by omega
 have hI:=init_inv (locals:=locals) (muts:=muts) hW hvs hsz hrel
 refine code_sound hcf hm n code b hb _ s' ex gh.taken w _ _ hI hev (fun a' gh' w' hI'=>?_)
 have done:finish H.length { takes,locals,muts,nt:=fn.ntmps,np:=fn.params.size+fn.nfree,results:=rs,body:=b } s'=some (r,c) →
   a'.defers=[]∧∃ v,(results fn a'.tmps).run P w'=.ok v w'∧∃ v' gh',Ending.returned v=.returned v'∧RetOK G base H gh w r c v' gh' w':=by
  intro hf
  obtain⟨_,v,gh2,hv,hR⟩:=ret_sound (P:=P) hW hcl hI' hrs hf
  exact⟨hI'.F.defers,v,hv,v,gh2,rfl,hR⟩
 cases ex with
 | normal=>exact done he
 | exit id=>cases he
 | ret=>exact done he
def OvSound (P:Program) (G:Nat→List AV) (f:FuncId) (g:List AV→AHeap→Option (AV × Option Chg)):Prop :=
 ∀ args H r c,g args H=some (r,c)→(∃ fn,P.funcs[f]?=some fn∧fn.body.isSome=true∧fn.name≠ "runtime.NumGoroutine")∧ChgOK H c ∧
  ∀ (base:Nat) (gh:Gh) (w:World) (vs:Array Value),WRel G base H gh w→clean gh→vs.size=args.length→(∀ (j:Nat) (v:Value) (x:AV),vs[j]?=some v→args[j]?=some x→VR gh H.length w v x) →
   Calls P f vs w fun e w'=>∃ v gh',e=.returned v∧RetOK G base H gh w r c v gh' w'
structure ProgOK (P:Program) (A:AP):Prop where
 mixed:P.follows .mixedOrders=true
 fns:∀ f ifn,A.fns f=some ifn→∃ fn takes locals muts,P.funcs[f]?=some fn∧compF P takes locals muts fn=some ifn
 ov:∀ f g,A.ov f=some g→OvSound P A.glob f g
theorem evF_sound {A:AP} (h:ProgOK P A):∀ n,CallsSound P A.glob (evF A n)
 | 0=>fun f args H r c he=>by cases he
 | n+1=>fun f args H r c he=>by
  simp only[evF] at he
  split at he
  ·rename_i g hg
   obtain⟨h0,he⟩:=cond_some he
   obtain⟨k1,k2,k3⟩:=h.ov f g hg args H r c he
   refine⟨k1,k2,fun base gh w vs hW hcl hvs hrel=>k3 base gh w vs hW hcl hvs (fun j v x hv hx=>?_)⟩
   rcases hrel j v x hv hx with h|⟨e,rfl,_⟩
   ·exact h
   ·have:=List.all_eq_true.1 h0 _ (List.mem_of_getElem? hx)
    simp[noRight] at this
  ·split at he
   ·cases he
   ·rename_i ifn hf
    obtain⟨fn,takes,locals,muts,hfn,hc⟩:=h.fns f ifn hf
    obtain⟨⟨h1,h2⟩,h3,h4⟩:=runF_sound (evF_sound h n) h.mixed hfn hc he
    exact⟨⟨fn,hfn,h1,h2⟩,h3,h4⟩
end
end Go.Abs
end
