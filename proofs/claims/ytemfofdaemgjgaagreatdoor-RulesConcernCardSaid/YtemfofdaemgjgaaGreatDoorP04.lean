/-
  A part of the proof of RulesConcern: AbsOps9, AbsOps10, AbsOps11, AbsOps12.
-/
import Derived.Deep.Upon
import Derived.Lib.FrozenHead
import Derived.Test.YtemfofdaemgjgaaGreatDoorP03
set_option linter.unusedSimpArgs false
set_option linter.unusedVariables false
section
namespace Go.Abs
set_option linter.unusedSimpArgs false
set_option linter.unusedVariables false
section
variable {P:Program} {G:Nat→List AV} {base nt:Nat} {L:List Nat} {gh:Gh} {w w' : World} {a:Act} {s:AS} {H:AHeap}
theorem own_move (hW:WRel G base s.H gh w) (hF:FR L nt gh w a s) {t:Nat} (ht:t<nt) {e:List (List AV)} {own:Bool} (hT:s.T t=.slice e own) (p:Owner) (hp:p≠.outer) :
  ∃ gh',WRel G base s.H gh' w∧FR L nt gh' w a (s.setT t (.slice e false))∧Ext s.H.length gh w gh' w∧Step (fun r=>r=.sl t) s.H.length gh w gh' w∧CR gh' s.H.length w p (tmv a t) (.slice e own):=by
 have hfresh:=fun b hb=>hW.not_outer (gh:=gh) b hb
 have h:CR gh s.H.length w (.sl t) (tmv a t) (.slice e own):=by
  have h:=hF.slot t ht
  rw[hT] at h
  exact h
 rcases h with hv|⟨e',heq,hPR,b,cap,C,ty,lo,hi,sz,hval,hk,he,hb,hC,hr,hl,hh,hS⟩
 ·refine⟨gh,hW,?_,Ext.refl _ _ _ hfresh,Step.refl _ _ _ _ hfresh,.inl hv⟩
  exact hF.setT (touch:=fun _=>False) (H':=s.H) (lo':=s.lo) (Step.refl _ _ _ _ hfresh) (Nat.le_refl _) (fun i _=>⟨id,id,fun _=>id⟩) (.inr rfl) (fun _=>.inl hv.dropped)
 ·injection heq with h1 h2
  subst h1 h2
  have hlt:b<w.heap.size:=(Array.getElem?_eq_some_iff.1 hb).1
  have st:=give_step hW hlt p s.H.length
  rw[hk] at st
  have hn:gh.κ b≠.none:=by rw[hk];simp
  refine⟨gh.give b p,give_W hW hlt p hn (by rw[hk];simp),?_,give_ext hW hlt hp hn (by rw[hk];simp) _,st,.inr ⟨e,rfl,hPR,b,cap,C,ty,lo,hi,sz,hval,by simp[Gh.give],he,hb,hC,hr,hl,hh,hS⟩⟩
  refine hF.setT (H':=s.H) (lo':=s.lo) st (Nat.le_refl _) (fun i hi=>⟨by simp,by simpa using hi,by simp⟩) (.inr rfl) (fun _=>?_)
  show CR (gh.give b p) s.H.length w (.sl t) (tmv a t) (.slice e false)
  exact .inl (.plain _ _ hPR)
theorem Out.of {gh' : Gh} {s1:AS} {d:Option Nat} {gen' : Nat} {v:Value} {x:AV} (hW:WRel G base s1.H gh' w') (hF:FR L nt gh' w' a s1) (hE:Ext s.H.length gh w gh' w') (hg:s1.gen≤gen') (hd:∀ k,d=some k→k<nt)
  (hx:genOf x=none∨((∃ g,s1.gen≤g∧genOf x=some g)∧∀ k,d=some k→k∈L)) (hv:∀ k,d=some k→SR gh' s1.H.length nt w' s1.T gen' (tmv a) k v x) :
  Out G base nt L gh w a s d x { s1 with gen:=gen' } v gh' w' :=
 ⟨hW,hF.putG hg (fun b hb=>hW.not_outer b hb) d hd hx hv,hE⟩
theorem compArg_tmp {x:Operand} {t:Nat} (h:compArg nt x=some (.tmp t)):x=.tmp t∧t<nt:=by
 cases x with
 | tmp k =>
  simp only[compArg] at h
  rcases Bool.eq_false_or_eq_true (Nat.blt k nt) with hb|hb<;>rw[hb] at h<;>simp at h
  subst h
  exact⟨rfl,by simpa [Nat.blt_eq] using hb⟩
 | const v =>
  simp only[compArg,Option.map_eq_some_iff] at h
  obtain⟨z,hz,h⟩:=h
  cases h
 | global g=>simp[compArg] at h
 | func f=>simp[compArg] at h
theorem ev_mov_state (hW:WRel G base s.H gh w) (hF:FR L nt gh w a s) {o:Oper} {x:Operand} {y:IArg} {take obj:Bool} {z:AV} {s' : AS} (ho:o.op=.move x∨o.op=.assign x) (hc:compArg nt x=some y)
  (he:evMov G s take obj y=some (z,some s')) (hd:∀ k,o.dst=some k→k<nt) (hL:obj=true→∀ k,o.dst=some k→k∈L) :
  ∃ v' gh' w',Ran P a o w v' w'∧Out G base nt L gh w a s o.dst z s' v' gh' w':=by
 have hrun:(execOp a.eval o).run P w=.ok (.value (a.eval x)) w:=by rcases ho with ho|ho<;>simp[execOp,ho]
 cases y<;>simp only[evMov] at he<;>try (cases he;done)
 rename_i t
 obtain⟨rfl,ht⟩:=compArg_tmp hc
 change (execOp a.eval o).run P w=.ok (.value (tmv a t)) w at hrun
 split at he
 ·cases he
 ·rename_i g e hT
  cases take
  ·cases he
  simp only[cond_true] at he
  obtain⟨hob,he⟩:=cond_some he
  simp only[Option.some.injEq,Prod.mk.injEq] at he
  obtain⟨rfl,rfl⟩:=he
  have hrow:=sr_lsl hF ht hT
  have hfresh:=fun b hb=>hW.not_outer (gh:=gh) b hb
  have hone:(tmv a t).oneCell'=true:=by obtain⟨ad,cap,hv,_⟩:=hrow;rw[hv];rfl
  have key:∃ gh',WRel G base s.H gh' w∧FR L nt gh' w a (s.setT t .any)∧Ext s.H.length gh w gh' w∧RowAt gh' w (bxo o.dst) (tmv a t) e:=by
   obtain⟨ad,cap,hv,hrow⟩:=hrow
   rcases hrow with hz|⟨b,C,ty,sz,hne0,ha,hk,hS,hb,hC,hl,hr,hcs⟩
   ·refine⟨gh,hW,?_,Ext.refl _ _ _ hfresh,ad,cap,hv,.inl hz⟩
    exact hF.setT (touch:=fun _=>False) (H':=s.H) (lo':=s.lo) (Step.refl _ _ _ _ hfresh) (Nat.le_refl _) (fun i _=>⟨id,id,fun _=>id⟩) (.inr rfl) (fun _=>.inl (.plain _ _ (.any _ hone)))
   ·have hlt:b<w.heap.size:=(Array.getElem?_eq_some_iff.1 hb).1
    have st:=give_step hW hlt (bxo o.dst) s.H.length
    rw[hk] at st
    have hn:gh.κ b≠.none:=by rw[hk];simp
    refine⟨gh.give b (bxo o.dst),give_W hW hlt _ hn (by rw[hk];simp),?_,give_ext hW hlt (bxo_out _) hn (by rw[hk];simp) _,ad,cap,hv,.inr ⟨b,C,ty,sz,hne0,ha,by simp[Gh.give],hS,hb,hC,hl,hr,hcs⟩⟩
    exact hF.setT (H':=s.H) (lo':=s.lo) st (Nat.le_refl _) (fun i hi=>⟨by simpa using hi,by simp,by simp⟩) (.inr rfl) (fun _=>.inl (.plain _ _ (.any _ hone)))
  obtain⟨gh',h1,h2,h3,h4⟩:=key
  refine⟨_,gh',w,.inl hrun,Out.of (s1:=s.setT t .any) (gen':=s.gen+1) h1 h2 h3 (Nat.le_succ _) hd (.inr ⟨⟨s.gen,Nat.le_refl _,rfl⟩,hL hob⟩) (fun k hk=>⟨Nat.lt_succ_self _,?_⟩)⟩
  rw[hk] at h4
  exact h4
 ·rename_i e own hT
  simp only[Option.some.injEq,Prod.mk.injEq] at he
  obtain⟨rfl,he⟩:=he
  cases hto:(take&&own) with
  | false=>rw[hto] at he;cases he
  | true =>
   rw[hto] at he
   simp only[cond_true,Option.some.injEq] at he
   subst he
   obtain⟨gh',h1,h2,h3,_,h4⟩:=own_move hW hF ht hT (slo o.dst) (slo_out _)
   refine⟨_,gh',w,.inl hrun,Out.of (s1:=s.setT t (.slice e false)) (gen':=s.gen) h1 h2 h3 (Nat.le_refl _) hd (.inl rfl) (fun k hk=>?_)⟩
   rw[hk] at h4
   have hown:own=true:=by cases take<;>simp_all
   subst hown
   exact h4
 ·cases he
 ·cases he
theorem modify_get {cs:List AV} {off j:Nat} : (takenAt off cs)[j]?=if j=off then (cs[j]?).map AV.drop else cs[j]?:=by
 unfold takenAt
 rw[List.getElem?_modify]
 by_cases h:off=j
 ·subst h;simp
 ·rw[if_neg (fun e=>h e.symm)]
  cases cs[j]?<;>simp[h]
theorem cell_move {b:Nat} {p:Owner} {q:Nat→Owner} {n:Nat} {cs:List AV} (hW:WRel G base H gh w) (hB:BoxAt gh n w b p q cs) {off:Nat} {v:AV} (hv:cs[off]?=some v) (r:Owner) (hr:r≠.outer) (hq:∀ j,q j≠.none∧q j≠.outer∧q j≠p) (hinj:∀ i j,q i=q j→i=j) (m:Nat) :
  ∃ gh' u,(∀ b o,gh'.S b o→gh.S b o)∧Step (fun o=>o=q off) m gh w gh' w∧Ext m gh w gh' w∧(∀ b o,gh'.S b o→b<w.heap.size)∧(∀ b,gh'.κ b≠.none→base≤b∧b<w.heap.size)∧BoxAt gh' n w b p q (takenAt off cs) ∧
   w.cell? ⟨b,off,none⟩=some u∧u.oneCell'=true∧CR gh' n w r u v:=by
 have hfresh:=fun b hb=>hW.not_outer (gh:=gh) b hb
 obtain⟨hκ,hS,C,ty,hb,hC,hcs⟩:=hB
 have hoff:off<cs.length:=(List.getElem?_eq_some_iff.1 hv).1
 have hoff' : off<C.size:=by omega
 have hu:C[off]?=some C[off]:=Array.getElem?_eq_getElem hoff'
 have hcell:w.cell? ⟨b,off,none⟩=some C[off]:=by rw[cell_of_row w b off C ty _ hb,hu]
 obtain⟨h1,h2⟩:=hcs off _ v hu hv
 rcases h2 with hvr|⟨e,rfl,hPR,b',cap,C',ty',lo,hi,sz,hval,hk,he,hb',hC',hr',hl,hh,hS'⟩
 ·refine⟨gh,C[off],fun _ _ h=>h,Step.refl _ _ _ _ hfresh,Ext.refl _ _ _ hfresh,hW.sLt,hW.kLt,⟨hκ,hS,C,ty,hb,by simp[takenAt];exact hC,fun j u x hju hjx=>?_⟩,hcell,h1,.inl hvr⟩
  rw[modify_get] at hjx
  split at hjx
  ·simp only[Option.map_eq_some_iff] at hjx
   obtain⟨y,hy,rfl⟩:=hjx
   obtain⟨k1,k2⟩:=hcs j u y hju hy
   exact⟨k1,.inl k2.dropped⟩
  ·exact hcs j u x hju hjx
 ·have hlt:b' < w.heap.size:=(Array.getElem?_eq_some_iff.1 hb').1
  have st:=give_step hW hlt r m
  rw[hk] at st
  have hne:b≠b':=by rintro rfl;rw[hκ] at hk;exact (hq off).2.2 hk.symm
  have hn:gh.κ b'≠.none:=by rw[hk];exact (hq off).1
  refine⟨gh.give b' r,C[off],fun _ _ h=>h,st,give_ext hW hlt hr hn (by rw[hk];exact (hq off).2.1) m,hW.sLt,?_,⟨by simp[Gh.give,hne,hκ],hS,C,ty,hb,by simp[takenAt];exact hC,fun j u x hju hjx=>?_⟩,hcell,h1,
   .inr ⟨e,rfl,hPR,b',cap,C',ty',lo,hi,sz,hval,by simp[Gh.give],he,hb',hC',hr',hl,hh,hS'⟩⟩
  ·intro b1 hb1
   have hb2:(if b1=b' then r else gh.κ b1)≠.none:=hb1
   split at hb2
   ·rename_i e;rw[e];exact hW.kLt b' hn
   ·exact hW.kLt b1 hb2
  ·have st':=give_step hW hlt r n
   rw[hk] at st'
   rw[modify_get] at hjx
   split at hjx
   ·rename_i hj
    subst hj
    rw[hv] at hjx
    simp only[Option.map_some,Option.some.injEq] at hjx
    subst hjx
    rw[hu] at hju;injection hju with hju;subst hju
    exact⟨h1,.inl (.plain _ _ hPR)⟩
   ·rename_i hj
    obtain⟨k1,k2⟩:=hcs j u x hju hjx
    exact⟨k1,k2.mono st' (Nat.le_refl _) (fun e=>hj (hinj _ _ e))⟩
theorem WRel.setBox {gh' : Gh} {touch:Owner→Prop} (hW:WRel G base H gh w) (st:Step touch H.length gh w gh' w') {loc:Nat} {ty:TypeId} {cs0:List AV} (hH:H[loc]?=some (.box ty cs0)) (ht:∀ l,l≠loc→¬ touch (.hb l)∧∀ j,¬ touch (.hs l j))
  (hs:∀ b o,gh'.S b o→b<w'.heap.size) (hk:∀ b,gh'.κ b≠.none→base≤b∧b<w'.heap.size) {cs:List AV} (hB:BoxAt gh' H.length w' (gh'.ρ loc) (.hb loc) (fun j=>.hs loc j) cs) (hr:cs.all (heapCell loc)=true) (hnew:∀ b o,gh'.S b o→gh.S b o) (hlen:cs.length=cs0.length) :
  WRel G base (H.set loc (.box ty cs)) gh' w':=by
 have hlt:loc<H.length:=(List.getElem?_eq_some_iff.1 hH).1
 refine⟨Nat.le_trans hW.size st.size,hs,hk,fun g j x hx=>?_,fun l ty' ds hl=>?_,fun l ty' ds hl=>?_,fun g hg=>(hW.tabs g hg).imp fun ty h=>st.len g ty _ h,hW.bytes_step st (fun b o m h=>.inl (hnew b o h)),fun l o hl=>?_,fun l ty' ds hl=>?_⟩
 ·obtain⟨v,h1,h2,h3⟩:=hW.glob g j x hx
  exact⟨v,(st.cell g j h3).trans h1,h2.mono st.S st.cell st.mp,st.S g j h3⟩
 ·rw[List.length_set]
  rw[List.getElem?_set] at hl
  split at hl
  ·rename_i e
   subst e
   simp only[Option.some.injEq,AObj.box.injEq] at hl
   obtain⟨rfl,rfl⟩:=hl
   exact hB
  ·rename_i e
   have h:=(hW.boxes l ty' ds hl).mono st (Nat.le_refl _) (ht l (Ne.symm e)).1 (ht l (Ne.symm e)).2
   rw[st.ρ l (List.getElem?_eq_some_iff.1 hl).1];exact h
 ·rw[List.getElem?_set] at hl
  split at hl
  ·rename_i e
   subst e
   simp only[Option.some.injEq,AObj.box.injEq] at hl
   obtain⟨rfl,rfl⟩:=hl
   exact hr
  ·exact hW.refs l ty' ds hl
 ·rw[List.length_set]
  rw[List.getElem?_set] at hl
  split at hl
  ·rename_i e
   subst e
   injection hl with hl
   subst hl
   trivial
  ·rename_i e
   rw[st.ρ l (List.getElem?_eq_some_iff.1 hl).1]
   exact (hW.more l o hl).mono st (Nat.le_refl _) (ht l (Ne.symm e)).1 (ht l (Ne.symm e)).2
 ·rw[List.getElem?_set] at hl
  split at hl
  ·rename_i e
   subst e
   simp only[Option.some.injEq,AObj.box.injEq] at hl
   obtain⟨rfl,rfl⟩:=hl
   intro hf
   have hm:=hW.types loc _ cs0 hH hf
   rw[st.ρ loc hlt,hlen]
   exact st.len _ _ _ hm
  ·rename_i e
   rw[st.ρ l (List.getElem?_eq_some_iff.1 hl).1]
   exact fun hf=>st.len _ _ _ (hW.types l ty' ds hl hf)
theorem mem_takenAt {cs:List AV} {off:Nat} {y:AV} (h:y∈takenAt off cs):y∈cs∨∃ x,x∈cs∧y=x.drop:=by
 obtain⟨j,hj⟩:=List.getElem?_of_mem h
 rw[modify_get] at hj
 split at hj
 ·simp only[Option.map_eq_some_iff] at hj
  obtain⟨x,hx,rfl⟩:=hj
  exact .inr ⟨x,List.mem_of_getElem? hx,rfl⟩
 ·exact .inl (List.mem_of_getElem? hj)
theorem takenAt_refs {cs:List AV} {off loc:Nat} (h:cs.all (heapCell loc)=true):(takenAt off cs).all (heapCell loc)=true:=by
 refine List.all_eq_true.2 fun y hy=>?_
 rcases mem_takenAt hy with hy|⟨x,hx,rfl⟩
 ·exact List.all_eq_true.1 h y hy
 ·exact heapCell_drop (List.all_eq_true.1 h x hx)
theorem sr_of_slot {n:Nat} {T:AFrame} {gen:Nat} {tm:Nat→Value} {i:Nat} {v:Value} {x:AV} (hx:frameCell x=true) (h:CR gh n w (.sl i) v x):SR gh n nt w T gen tm i v x:=by
 cases x<;>first|exact h|(simp[frameCell] at hx)
theorem CR.frameCell {n:Nat} {p:Owner} {v:Value} {x:AV} (h:CR gh n w p v x):frameCell x=true:=by
 rcases h with h|⟨e,rfl,_⟩
 ·cases h with
  | plain _ _ h=>cases h<;>rfl
  | full=>rfl
  | ref=>rfl
  | sref=>rfl
  | mref=>rfl
  | func=>rfl
  | iface=>rfl
  | agg=>rfl
  | tuple=>rfl
 ·rfl
theorem genOf_frameCell {x:AV} (h:Abs.frameCell x=true):genOf x=none:=by cases x<;>first|rfl|(simp[Abs.frameCell] at h)
theorem run_load1 {t:TypeId} (hg:aggT P t=some false) {b off:Nat} {u:Value} (hc:w.cell? ⟨b,off,none⟩=some u):(Instr.loadAt t (.pointer (some ⟨b,off,none⟩))).run P w=.ok u w:=by
 simp[Instr.loadAt,Instr.sureAddr,loadVar,run_isAgg' hg,hc]
theorem ev_load_take (hW:WRel G base s.H gh w) (hF:FR L nt gh w a s) {o:Oper} {t:TypeId} {x:Operand} {y:IArg} {take agg:Bool} {sz:Nat} {z:AV} {s' : AS} (ho:o.op=.load t x) (hc:compArg nt x=some y) (hg:aggT P t=some agg) (hs:sizeT P t=some sz)
  (he:loadAV s take agg sz (y.addr G s.T)=some (z,some s')) (hd:∀ k,o.dst=some k→k<nt) :
  ∃ v' gh' w',Ran P a o w v' w'∧Out G base nt L gh w a s o.dst z s' v' gh' w':=by
 have hv:=arg_val hW hF hc
 generalize hY:y.addr G s.T=Y at hv he
 cases Y<;>simp only[loadAV] at he<;>try (cases he;done)
 case eptr cs=>simp at he
 case ref loc off =>
  obtain⟨hlt,hax⟩:=VR.inv_ref (hv:VR gh s.H.length w (a.eval x) (.ref loc off))
  split at he
  ·rename_i ty0 cs hH
   simp only[Option.map_eq_some_iff,Prod.mk.injEq] at he
   obtain⟨u,hu,rfl,hn⟩:=he
   cases hq:(take&&!agg) with
   | false=>rw[hq] at hn;cases hn
   | true =>
    rw[hq] at hn
    simp only[cond_true,Option.some.injEq] at hn
    subst hn
    simp only[Bool.and_eq_true,Bool.not_eq_true'] at hq
    obtain⟨rfl,rfl⟩:=hq
    simp only[loadCellsAV,cond_false,cond_true,Option.map_eq_some_iff] at hu
    obtain⟨u',hu,rfl⟩:=hu
    obtain⟨gh',uv,hSS,st,hE,hs',hk',hB,hcell,hone,hCR⟩:=cell_move hW (hW.boxes loc _ cs hH) hu (slo o.dst) (slo_out _) (by simp) (by simp) s.H.length
    have hρ:gh'.ρ loc=gh.ρ loc:=st.ρ loc hlt
    have hW' : WRel G base (s.H.set loc (.box ty0 (takenAt off cs))) gh' w:=hW.setBox st hH (by intro l hl;simp[hl]) hs' hk' (by rw[hρ];exact hB) (takenAt_refs (hW.refs loc _ cs hH)) hSS (by simp[takenAt])
    have hF' : FR L nt gh' w a (s.chg ⟨s.H.set loc (.box ty0 (takenAt off cs)),loc⟩):=hF.grown st (fun i=>⟨by simp,by simp,by simp⟩) (by simp)
    refine⟨uv,gh',w,.inl ?_,Out.of (s1:=s.chg ⟨s.H.set loc (.box ty0 (takenAt off cs)),loc⟩) (gen':=s.gen) hW' hF' hE (Nat.le_refl _) hd (.inl (genOf_frameCell hCR.frameCell)) (fun k hk=>?_)⟩
    ·simp[execOp,ho,hax,run_load1 hg hcell]
    ·rw[hk] at hCR
     have:(s.chg ⟨s.H.set loc (.box ty0 (takenAt off cs)),loc⟩).H.length=s.H.length:=by simp[AS.chg]
     rw[this]
     exact sr_of_slot hCR.frameCell hCR
  ·simp at he
  ·cases he
 case lref b g off =>
  obtain⟨hb,hg0,hr⟩:=(hv:_∧_∧_)
  split at he
  ·rename_i g' cs hT
   obtain⟨h0,he2⟩:=cond_some he
   clear he
   have hgg:g=g':=by simpa [nbeq] using h0
   subst hgg
   rename _=some (z,some s')=>he
   simp only[Option.map_eq_some_iff,Prod.mk.injEq] at he
   obtain⟨u,hu,rfl,hn⟩:=he
   cases hq:(take&&!agg) with
   | false=>rw[hq] at hn;cases hn
   | true =>
    rw[hq] at hn
    simp only[cond_true,Option.some.injEq] at hn
    subst hn
    simp only[Bool.and_eq_true,Bool.not_eq_true'] at hq
    obtain⟨rfl,rfl⟩:=hq
    simp only[loadCellsAV,cond_false,cond_true,Option.map_eq_some_iff] at hu
    obtain⟨u',hu,rfl⟩:=hu
    obtain⟨k,hk,hbox⟩:=sr_lbox hF hb hT
    have hax:=hr (by rw[hT];rfl) k hk
    obtain⟨gh',uv,hSS,st,hE,hs',hk',hB,hcell,hone,hCR⟩:=cell_move hW hbox hu (slo o.dst) (slo_out _) (by simp) (by simp) s.H.length
    have hW' : WRel G base s.H gh' w:=hW.step st (by simp) hs' hk' (fun b o _ h=>.inl (hSS b o h))
    have hF' : FR L nt gh' w a (s.setT b (.lbox g (takenAt off cs))) :=
     hF.setT (H':=s.H) (lo':=s.lo) st (Nat.le_refl _) (fun i hi=>⟨by simp,by simp,by intro j e;injection e with e _;exact hi e⟩) (.inl ⟨hb,by rw[hT];rfl⟩) (fun _=>⟨by
      have h:=hF.slot b hb
      rw[hT] at h
      exact h.1,k,hk,hB⟩)
    refine⟨uv,gh',w,.inl ?_,Out.of (s1:=s.setT b (.lbox g (takenAt off cs))) (gen':=s.gen) hW' hF' hE (Nat.le_refl _) hd (.inl (genOf_frameCell hCR.frameCell)) (fun k hk=>?_)⟩
    ·simp[execOp,ho,hax,run_load1 hg hcell]
    ·rw[hk] at hCR
     exact sr_of_slot hCR.frameCell hCR
  ·cases he
 case eref b g i zz off =>
  split at he
  ·obtain⟨_,he⟩:=cond_some he
   simp only[Option.bind_eq_some_iff] at he
   obtain⟨r,_,he⟩:=he
   obtain⟨_,he⟩:=cond_some he
   simp at he
  ·cases he
end
end Go.Abs
end
section
namespace Go.Abs
set_option linter.unusedSimpArgs false
set_option linter.unusedVariables false
section
variable {P:Program} {G:Nat→List AV} {base nt:Nat} {L:List Nat} {gh:Gh} {w w' : World} {a:Act} {s:AS} {H:AHeap}
theorem arg_spent (hW:WRel G base s.H gh w) (hF:FR L nt gh w a s) {x:Operand} {y:IArg} (hc:compArg nt x=some y) (hf:frameCell (y.eval G s.T)=true) (p:Owner) (hp:p≠.outer) :
  ∃ gh',WRel G base s.H gh' w∧FR L nt gh' w a (s.spent y)∧Ext s.H.length gh w gh' w∧Step (fun r=>∃ t,r=.sl t) s.H.length gh w gh' w∧CR gh' s.H.length w p (a.eval x) (y.eval G s.T):=by
 have hfresh:=fun b hb=>hW.not_outer (gh:=gh) b hb
 have stay:s.spent y=s→VR gh s.H.length w (a.eval x) (y.eval G s.T)→∃ gh',WRel G base s.H gh' w∧FR L nt gh' w a (s.spent y)∧Ext s.H.length gh w gh' w∧Step (fun r=>∃ t,r=.sl t) s.H.length gh w gh' w∧CR gh' s.H.length w p (a.eval x) (y.eval G s.T):=by
  intro h1 h2
  rw[h1]
  exact⟨gh,hW,hF,Ext.refl _ _ _ hfresh,Step.refl _ _ _ _ hfresh,.inl h2⟩
 cases y with
 | tmp t =>
  obtain⟨rfl,ht⟩:=compArg_tmp hc
  have hd:=arg_VR hW hF hc rfl hf
  simp only[IArg.eval] at hf hd stay ⊢
  cases hT:s.T t with
  | slice e own =>
   cases own with
   | false =>
    rw[hT] at hd stay
    exact stay (by simp[AS.spent,hT]) hd
   | true =>
    obtain⟨gh',h1,h2,h3,h4,h5⟩:=own_move hW hF ht hT p hp
    refine⟨gh',h1,?_,h3,h4.mono (fun r h=>⟨t,h⟩),h5⟩
    simpa [AS.spent,hT] using h2
  | _ =>
   rw[hT] at hd stay
   exact stay (by simp[AS.spent,hT]) hd
 | con v =>
  refine stay rfl ?_
  cases x with
  | tmp k =>
   simp only[compArg] at hc
   rcases Bool.eq_false_or_eq_true (Nat.blt k nt) with hb|hb<;>rw[hb] at hc<;>simp at hc
  | const u =>
   simp only[compArg,Option.map_eq_some_iff] at hc
   obtain⟨z,hz,h⟩:=hc
   injection h with h
   subst h
   exact const_VR hz
  | global g=>simp[compArg] at hc
  | func f=>simp[compArg] at hc
 | glob g =>
  refine stay rfl ?_
  have:=arg_VR hW hF hc rfl hf
  exact this
 | fn f =>
  refine stay rfl ?_
  have:=arg_VR hW hF hc rfl hf
  exact this
theorem row_same {b:Nat} : ({ S:=fun b' o=>gh.S b' o∨(b'=b∧(fun _=>False) o),κ:=fun b'=>if b'=b then gh.κ b else gh.κ b',ρ:=gh.ρ } : Gh)=gh:=by
 obtain⟨S,κ,ρ⟩:=gh
 congr 1
 ·funext b' o
  simp
 ·funext b'
  by_cases h:b'=b
  ·subst h;simp
  ·simp[h]
theorem row_step0 (hW:WRel G base H gh w) {b:Nat} {C C' : Array Value} {ty:TypeId} {fr:Nat × Nat} (hb:w.heap[b]?=some (.cells C ty fr)) (hsz:C'.size=C.size) (hcell:∀ o,gh.S b o→C'[o]?=C[o]?) (n:Nat) :
  Step (fun r=>r=gh.κ b) n gh w gh (w.setRow b C'):=by
 have h:=row_step hW hb hsz (fun _=>False) hcell (gh.κ b) n
 rw[row_same] at h
 exact h
theorem row_ext0 (hW:WRel G base H gh w) {b:Nat} {C C' : Array Value} {ty:TypeId} {fr:Nat × Nat} (hb:w.heap[b]?=some (.cells C ty fr)) (hsz:C'.size=C.size) (hcell:∀ o,gh.S b o→C'[o]?=C[o]?) (h0:gh.κ b≠.none) (h1:gh.κ b≠.outer) (n:Nat) :
  Ext n gh w gh (w.setRow b C') :=
 ⟨(row_step0 hW hb hsz hcell n).mono (fun r h=>by rw[h];exact⟨h0,h1⟩),fun _ h=>h⟩
def rowPut (C:Array Value) (off:Nat) (D:Array Value):Array Value:=(C.toList.take off++D.toList++C.toList.drop (off+D.toList.length)).toArray
theorem rowPut_get {C D:Array Value} {off:Nat} (h:off+D.size≤C.size) (j:Nat):(rowPut C off D)[j]?=if off≤j∧j<off+D.size then D[j-off]? else C[j]?:=by
 have hmin:min off C.size=off:=by omega
 unfold rowPut
 simp only[List.getElem?_toArray,List.getElem?_append,List.length_append,List.length_take,List.getElem?_take,List.getElem?_drop,Array.length_toList,Array.getElem?_toList,hmin]
 by_cases h1:j<off
 ·have e1:j<off+D.size:=by omega
  rw[if_pos e1,if_pos h1,if_pos h1,if_neg (by omega)]
 ·by_cases h2:j<off+D.size
  ·rw[if_pos h2,if_neg h1,if_pos ⟨by omega,h2⟩]
  ·rw[if_neg h2,if_neg (by omega)]
   congr 1;omega
theorem rowPut_size {C D:Array Value} {off:Nat} (h:off+D.size≤C.size):(rowPut C off D).size=C.size:=by
 unfold rowPut;simp;omega
theorem run_storeAt {t:TypeId} {sz:Nat} (hs:sizeT P t=some sz) {b off:Nat} {C:Array Value} {ty:TypeId} (hb:w.heap[b]?=some (.cells C ty (0,0))) {v:Value} (hv:v.cells.size=sz) (hfit:off+sz≤C.size) (hone:∀ u∈v.cells.toList,u.oneCell'=true) :
  (Instr.storeAt t (.pointer (some ⟨b,off,none⟩)) v).run P w=.ok () (w.setRow b (rowPut C off v.cells)):=by
 have h:=run_storeCells_at P b off ty v.cells.toList 0 C w hb (by simp;omega) hone
 simp only[Nat.add_zero] at h
 simp[Instr.storeAt,Instr.sureAddr,storeVar,run_sizeOf' hs,hv,h,rowPut]
theorem box_write (hW:WRel G base H gh w) {b:Nat} {p:Owner} {q:Nat→Owner} {n:Nat} {cs vs:List AV} (hB:BoxAt gh n w b p q cs) {off sz:Nat} {t:TypeId} (hs:sizeT P t=some sz) {v:Value} (hvs:vs.length=sz) (hoff:off+sz≤cs.length)
  (hv:v.cells.size=sz) (hrel:∀ (j:Nat) (u:Value) (x:AV),v.cells[j]?=some u→vs[j]?=some x→u.oneCell'=true∧CR gh n w (q (off+j)) u x) (hq:∀ j,q j≠p) (hp:p≠.none∧p≠.outer) (m:Nat) :
  ∃ w',(Instr.storeAt t (.pointer (some ⟨b,off,none⟩)) v).run P w=.ok () w'∧Step (fun r=>r=p) m gh w gh w'∧Ext m gh w gh w'∧w'.heap.size=w.heap.size∧BoxAt gh n w' b p q (putAt cs off vs):=by
 obtain⟨hκ,hS,C,ty,hb,hC,hcs⟩:=hB
 have hno:∀ o,gh.S b o→(rowPut C off v.cells)[o]?=C[o]?:=fun o ho=>(hS o ho).elim
 have hrs:(rowPut C off v.cells).size=C.size:=rowPut_size (by omega)
 have st:=row_step0 hW hb hrs hno m
 have stn:=row_step0 hW hb hrs hno n
 have hE:=row_ext0 hW hb hrs hno (by rw[hκ];exact hp.1) (by rw[hκ];exact hp.2) m
 rw[hκ] at st stn
 have hfit:off+v.cells.size≤C.size:=by omega
 refine⟨_,run_storeAt hs hb hv (by omega) ?_,st,hE,by simp,hκ,hS,_,ty,setRow_heap w b C _ ty _ hb,by rw[rowPut_size hfit,putAt_len (by omega)];exact hC,fun j u x hju hjx=>?_⟩
 ·intro u hu
  obtain⟨j,hj⟩:=List.getElem?_of_mem hu
  have hj' : v.cells[j]?=some u:=by simpa using hj
  have hlt:j<vs.length:=by rw[hvs,← hv];exact (Array.getElem?_eq_some_iff.1 hj').1
  exact (hrel j u _ hj' (List.getElem?_eq_getElem hlt)).1
 ·rw[rowPut_get hfit] at hju
  rw[putAt_get (by omega)] at hjx
  have e1:v.cells.size=vs.length:=by omega
  rw[e1] at hju
  split at hju
  ·rename_i hc
   rw[if_pos hc] at hjx
   obtain⟨k1,k2⟩:=hrel _ u x hju hjx
   rw[show off+(j-off)=j by omega] at k2
   exact⟨k1,k2.mono stn (Nat.le_refl _) (hq j)⟩
  ·rename_i hc
   rw[if_neg hc] at hjx
   obtain⟨k1,k2⟩:=hcs j u x hju hjx
   exact⟨k1,k2.mono stn (Nat.le_refl _) (hq j)⟩
theorem cells_CR {n:Nat} {v:Value} {x:AV} {vs:List AV} {q:Nat→Owner} {off:Nat} (h:CR gh n w (q off) v x) (hc:x.cells=some vs) :
  v.cells.size=vs.length∧∀ (j:Nat) (u:Value) (y:AV),v.cells[j]?=some u→vs[j]?=some y→u.oneCell'=true∧CR gh n w (q (off+j)) u y:=by
 rcases h with h|⟨e,rfl,hPR,hO⟩
 ·have hr:=cells_rel h hc
  exact⟨hr.1,fun j u y hu hy=>⟨(hr.2 j u y hu hy).2,.inl (hr.2 j u y hu hy).1⟩⟩
 ·have e1:vs=[.slice e true]:=by simpa [AV.cells] using hc.symm
  subst e1
  have hone:=hPR.oneCell
  have:v.cells=#[v]:=by obtain⟨b,cap,_,_,_,_,_,rfl,_⟩:=hO;rfl
  rw[this]
  refine⟨rfl,fun j u y hu hy=>?_⟩
  cases j with
  | zero=>simp at hu hy;subst hu hy;exact⟨hone,.inr ⟨e,rfl,hPR,hO⟩⟩
  | succ j=>simp at hu
theorem frameCell_of_cells {x:AV} {vs:List AV} (h:x.cells=some vs):frameCell x=true:=by cases x<;>first|rfl|cases h
theorem spent_H (s:AS) (y:IArg):(s.spent y).H=s.H∧(s.spent y).gen=s.gen∧(s.spent y).lo=s.lo:=by
 cases y with
 | tmp t=>simp only[AS.spent];split<;>exact⟨rfl,rfl,rfl⟩
 | _=>exact⟨rfl,rfl,rfl⟩
theorem spent_T (s:AS) (y:IArg) (b:Nat) (h:∀ e,s.T b≠.slice e true):(s.spent y).T b=s.T b:=by
 cases y<;>simp only[AS.spent]
 rename_i t
 split
 ·rename_i e hT
  by_cases hb:b=t
  ·subst hb;exact absurd hT (h e)
  ·simp[AS.setT,put_T,hb]
 ·rfl
theorem spent_not (s:AS) (t:Nat) (h:∀ e,s.T t≠.slice e true):s.spent (.tmp t)=s:=by
 simp only[AS.spent]
theorem spent_own (s:AS) (t:Nat) {e:List (List AV)} (h:s.T t=.slice e true):s.spent (.tmp t)=s.setT t (.slice e false):=by
 simp only[AS.spent,h]
theorem spent_setT (s:AS) (y:IArg) (b:Nat) (X:AV) (h:∀ e,s.T b≠.slice e true) (hX:∀ e,X≠.slice e true):(s.setT b X).spent y=(s.spent y).setT b X:=by
 cases y<;>try rfl
 rename_i t
 by_cases hb:t=b
 ·subst hb
  rw[spent_not s t h,spent_not _ t (by simpa [AS.setT,put_T] using hX)]
 ·have e1:(s.setT b X).T t=s.T t:=by simp[AS.setT,put_T,hb]
  by_cases ho:∃ e,s.T t=.slice e true
  ·obtain⟨e,ho⟩:=ho
   rw[spent_own s t ho,spent_own (s.setT b X) t (by rw[e1,ho])]
   simp only[AS.setT]
   congr 1
   funext k
   simp only[put_T]
   by_cases h1:k=t
   ·subst h1;simp[hb]
   ·by_cases h2:k=b
    ·subst h2;simp[h1]
    ·simp[h1,h2]
  ·have ho' : ∀ e,s.T t≠.slice e true:=fun e he=>ho ⟨e,he⟩
   rw[spent_not s t ho',spent_not (s.setT b X) t (by rw[e1];exact ho')]
theorem spent_chg (s:AS) (y:IArg) (c:Chg):(s.chg c).spent y=(s.spent y).chg c:=by
 cases y<;>simp only[AS.spent]
 rename_i t
 show (match s.T t with|.slice e true=>(s.chg c).setT t (.slice e false)|_=>s.chg c)=_
 cases hT:s.T t<;>try rfl
 rename_i e own
 cases own<;>rfl
theorem Out.skip {gh' : Gh} {s1:AS} {d:Option Nat} (hW:WRel G base s1.H gh' w') (hF:FR L nt gh' w' a s1) (hE:Ext s.H.length gh w gh' w') (hd:∀ k,d=some k→k<nt):Out G base nt L gh w a s d .undef s1 undef gh' w' :=
 Out.of (gen':=s1.gen) hW hF hE (Nat.le_refl _) hd (.inl rfl) (fun k hk=>.inl VR.undef)
theorem putAt_all {cs vs:List AV} {off:Nat} {f:AV→Bool} (h1:cs.all f=true) (h2:vs.all f=true):(putAt cs off vs).all f=true:=by
 refine List.all_eq_true.2 fun x hx=>?_
 unfold putAt at hx
 rcases List.mem_append.1 hx with hx|hx
 ·rcases List.mem_append.1 hx with hx|hx
  ·exact List.all_eq_true.1 h1 x (List.mem_of_mem_take hx)
  ·exact List.all_eq_true.1 h2 x hx
 ·exact List.all_eq_true.1 h1 x (List.mem_of_mem_drop hx)
theorem ev_store (hW:WRel G base s.H gh w) (hF:FR L nt gh w a s) {o:Oper} {t:TypeId} {xa xv:Operand} {ya yv:IArg} {sz:Nat} {s' : AS} (ho:o.op=.store t xa xv) (hca:compArg nt xa=some ya) (hcv:compArg nt xv=some yv) (hs:sizeT P t=some sz)
  (he:storeAV s sz (ya.addr G s.T) (yv.eval G s.T)=some s') (hd:∀ k,o.dst=some k→k<nt) :
  ∃ v' gh' w',Ran P a o w v' w'∧Out G base nt L gh w a s o.dst .undef (s'.spent yv) v' gh' w':=by
 have ha:=arg_val hW hF hca
 unfold storeAV at he
 split at he
 ·cases he
 rename_i vs hvs
 obtain⟨hlen,he⟩:=cond_some he
 have hlen:vs.length=sz:=by simpa [nbeq] using hlen
 have hfr:=frameCell_of_cells hvs
 generalize hY:ya.addr G s.T=Y at ha he
 cases Y<;>simp only at he<;>try (cases he;done)
 case ref loc off =>
  obtain⟨hlt,hax⟩:=VR.inv_ref (ha:VR gh s.H.length w (a.eval xa) (.ref loc off))
  split at he
  ·rename_i ty0 cs hH
   obtain⟨h0,he⟩:=cond_some he
   injection he with he
   subst he
   simp only[Bool.and_eq_true,Nat.ble_eq] at h0
   obtain⟨gh1,hW1,hF1,hE1,st1,hCR⟩:=arg_spent hW hF hcv hfr (.hs loc off) (by simp)
   have hρ:gh1.ρ loc=gh.ρ loc:=st1.ρ loc hlt
   obtain⟨hsz,hrel⟩:=cells_CR (q:=fun j=>.hs loc j) hCR hvs
   obtain⟨w',hrun,st2,hE2,hsize,hB⟩:=box_write (P:=P) hW1 (hW1.boxes loc _ cs hH) hs hlen h0.1 (by omega) hrel (by simp) (by simp) s.H.length
   have hW2:WRel G base (s.H.set loc (.box ty0 (putAt cs off vs))) gh1 w':=hW1.setBox st2 hH (by intro l hl;simp[hl]) (fun b o ho=>by rw[hsize];exact hW1.sLt b o ho) (fun b hb=>by rw[hsize];exact hW1.kLt b hb) hB (putAt_all (hW1.refs loc _ cs hH) h0.2) (fun _ _ h=>h) (putAt_len (by omega))
   have hS:=spent_H s yv
   have hF2:FR L nt gh1 w' a ((s.spent yv).chg ⟨s.H.set loc (.box ty0 (putAt cs off vs)),loc⟩):=hF1.grown (by rw[hS.1];exact st2) (fun i=>⟨by simp,by simp,by simp⟩) (by rw[hS.1];simp)
   refine⟨undef,gh1,w',.inr ⟨?_,rfl⟩,?_⟩
   ·simp[execOp,ho,hax,← hρ,hrun]
   ·rw[spent_chg]
    exact Out.skip (s1:=(s.spent yv).chg ⟨s.H.set loc (.box ty0 (putAt cs off vs)),loc⟩) hW2 hF2 (hE1.trans hE2 (Nat.le_refl _)) hd
  ·cases he
 case lref b g off =>
  obtain⟨hb,hg0,hr⟩:=(ha:_∧_∧_)
  split at he
  ·rename_i g' cs hT
   obtain⟨h0,he⟩:=cond_some he
   injection he with he
   subst he
   simp only[Bool.and_eq_true,Nat.ble_eq,nbeq,decide_eq_true_eq] at h0
   obtain⟨⟨rfl,h0⟩,_⟩:=h0
   obtain⟨k,hk,_⟩:=sr_lbox hF hb hT
   have hax:=hr (by rw[hT];rfl) k hk
   obtain⟨gh1,hW1,hF1,hE1,st1,hCR⟩:=arg_spent hW hF hcv hfr (.sc b off) (by simp)
   have hS:=spent_H s yv
   have hT1:(s.spent yv).T b=.lbox g cs:=by rw[spent_T _ _ _ (by rw[hT];simp),hT]
   obtain⟨k',hk',hB1⟩:=sr_lbox hF1 hb hT1
   have hkk:k'=k:=by rw[hk] at hk';injection hk' with h;injection h with h;injection h with h;exact h.symm
   subst hkk
   rw[hS.1] at hB1
   obtain⟨hsz,hrel⟩:=cells_CR (q:=fun j=>.sc b j) hCR hvs
   obtain⟨w',hrun,st2,hE2,hsize,hB⟩:=box_write (P:=P) hW1 hB1 hs hlen h0 (by omega) hrel (by simp) (by simp) s.H.length
   have hW2:WRel G base s.H gh1 w':=hW1.step st2 (by simp) (fun b o ho=>by rw[hsize];exact hW1.sLt b o ho) (fun b hb=>by rw[hsize];exact hW1.kLt b hb) (fun _ _ _ h=>.inl h)
   have hF2:FR L nt gh1 w' a ((s.spent yv).setT b (.lbox g (putAt cs off vs))):=by
    refine hF1.setT (H':=(s.spent yv).H) (lo':=(s.spent yv).lo) (by rw[hS.1];exact st2) (Nat.le_refl _) (fun i hi=>⟨by simpa using hi,by simp,by simp⟩) (.inl ⟨hb,by rw[hT1];rfl⟩) (fun _=>⟨?_,k',hk,?_⟩)
    ·have h:=hF1.slot b hb
     rw[hT1] at h
     exact h.1
    ·rw[hS.1];exact hB
   refine⟨undef,gh1,w',.inr ⟨?_,rfl⟩,?_⟩
   ·simp[execOp,ho,hax,hrun]
   ·rw[spent_setT _ _ _ _ (by rw[hT];simp) (by simp)]
    exact Out.skip (s1:=(s.spent yv).setT b (.lbox g (putAt cs off vs))) (by show WRel G base (s.spent yv).H gh1 w';rw[hS.1];exact hW2) hF2 (hE1.trans hE2 (Nat.le_refl _)) hd
  ·cases he
 case eref b g i z off =>
  obtain⟨hb,hg0,hr⟩:=(ha:_∧_∧_)
  split at he
  ·rename_i g' e hT
   obtain⟨h0,he1⟩:=cond_some he
   have hgg:g=g':=by simpa [nbeq] using h0
   clear he
   subst hgg
   simp only[Option.bind_eq_some_iff] at he1
   obtain⟨r,hri,he2⟩:=he1
   obtain⟨h1,he3⟩:=cond_some he2
   injection he3 with he3
   subst he3
   simp only[Bool.and_eq_true,Nat.ble_eq,nbeq,decide_eq_true_eq] at h1
   obtain⟨⟨hrz,hoff⟩,hpl⟩:=h1
   obtain⟨gh1,hW1,hF1,hE1,st1,hCR⟩:=arg_spent hW hF hcv hfr .none (by simp)
   have hS:=spent_H s yv
   have hT1:(s.spent yv).T b=.lsl g e:=by rw[spent_T _ _ _ (by rw[hT];simp),hT]
   obtain⟨ad,cap,hval,hrow⟩:=sr_lsl hF1 hb hT1
   rcases hrow with ⟨rfl,_⟩|⟨k,C,ty,sz',hne0,rfl,hκ,hS1,hkb,hC,hl,hrl,hcs⟩
   ·simp at hri
   have hax:=hr (by rw[hT];rfl) k _ _ hval
   have hz' : sz'=z:=by rw[← hrz,hrl i r hri]
   subst hz'
   have hilt:i<e.length:=(List.getElem?_eq_some_iff.1 hri).1
   obtain⟨hsz,hrel⟩:=cells_CR (q:=fun _=>.none) (off:=0) hCR hvs
   have hrelP:∀ (j:Nat) (x:AV),(vs.map AV.drop)[j]?=some x→∃ u,(a.eval xv).cells[j]?=some u∧PR gh1.S w u x:=by
    intro j x hx
    simp only[List.getElem?_map,Option.map_eq_some_iff] at hx
    obtain⟨y,hy,rfl⟩:=hx
    have hj:j<(a.eval xv).cells.size:=by rw[hsz];exact (List.getElem?_eq_some_iff.1 hy).1
    have hu:=Array.getElem?_eq_getElem hj
    refine⟨_,hu,(hrel j _ y hu hy).2.dropped.plain_PR (List.all_eq_true.1 hpl _ (List.mem_map.2 ⟨y,List.mem_of_getElem? hy,rfl⟩))⟩
   have hfit:i*sz' + off+(a.eval xv).cells.size≤C.size:=by
    have h2:(i+1)*sz'≤e.length*sz':=Nat.mul_le_mul_right _ hilt
    have h3:e.length*sz'≤cap*sz':=Nat.mul_le_mul_right _ hl
    rw[Nat.add_mul] at h2
    omega
   have hno:∀ o,gh1.S k o→(rowPut C (i*sz' + off) (a.eval xv).cells)[o]?=C[o]?:=fun o ho=>(hS1 o ho).elim
   have st2:=row_step0 hW1 hkb (rowPut_size hfit) hno s.H.length
   have hE2:=row_ext0 hW1 hkb (rowPut_size hfit) hno (by rw[hκ];simp) (by rw[hκ];simp) s.H.length
   rw[hκ] at st2
   have hrun:=run_storeAt (P:=P) (w:=w) (off:=i*sz' + off) hs hkb (v:=a.eval xv) (by omega) (by omega) (fun u hu=>by
    obtain⟨j,hj⟩:=List.getElem?_of_mem hu
    have hj' : (a.eval xv).cells[j]?=some u:=by simpa using hj
    have hlt:j<vs.length:=by rw[← hsz];exact (Array.getElem?_eq_some_iff.1 hj').1
    exact (hrel j u _ hj' (List.getElem?_eq_getElem hlt)).1)
   have hW2:WRel G base s.H gh1 (w.setRow k (rowPut C (i*sz' + off) (a.eval xv).cells)):=hW1.step st2 (by simp) (fun b o ho=>by simpa using hW1.sLt b o ho) (fun b hb=>by simpa using hW1.kLt b hb) (fun _ _ _ h=>.inl h)
   have hds:off+(vs.map AV.drop).length≤r.length:=by simp;omega
   have hF2:FR L nt gh1 (w.setRow k (rowPut C (i*sz' + off) (a.eval xv).cells)) a ((s.spent yv).setT b (.lsl g (e.set i (putAt r off (vs.map AV.drop))))):=by
    refine hF1.setT (H':=(s.spent yv).H) (lo':=(s.spent yv).lo) (by rw[hS.1];exact st2) (Nat.le_refl _) (fun i hi=>⟨by simpa using hi,by simp,by simp⟩) (.inl ⟨hb,by rw[hT1];rfl⟩) (fun _=>⟨?_,?_⟩)
    ·have h:=hF1.slot b hb
     rw[hT1] at h
     exact h.1
    ·refine⟨some ⟨k,0,none⟩,cap,by simpa using hval,.inr ⟨k,_,ty,sz',(by intro h0;have:=congrArg List.length h0;simp at this;exact hne0 this),rfl,hκ,hS1,setRow_heap w k C _ ty _ hkb,by rw[rowPut_size hfit,hC],by simpa using hl,?_,?_⟩⟩
     ·intro i' r' hr'
      rw[List.getElem?_set] at hr'
      split at hr'
      ·rename_i hii
       injection hr' with hr'
       subst hr'
       rw[putAt_len hds];exact hrz
      ·exact hrl i' r' hr'
     ·intro i' j r' x hr' hj
      rw[rowPut_get hfit]
      rw[List.getElem?_set] at hr'
      split at hr'
      ·rename_i hii
       subst hii
       injection hr' with hr'
       subst hr'
       rw[putAt_get hds] at hj
       have hl' : (vs.map AV.drop).length=(a.eval xv).cells.size:=by simp[hsz]
       rw[hl'] at hj
       by_cases hc:off≤j∧j<off+(a.eval xv).cells.size
       ·rw[if_pos hc] at hj
        rw[if_pos (by omega)]
        obtain⟨u,hu,hp⟩:=hrelP _ x hj
        refine⟨u,?_,hp.mono st2.S st2.cell st2.mp⟩
        rw[show i*sz' + j-(i*sz' + off)=j-off by omega];exact hu
       ·rw[if_neg hc] at hj
        rw[if_neg (by omega)]
        obtain⟨u,hu,hp⟩:=hcs i j r x hri hj
        exact⟨u,hu,hp.mono st2.S st2.cell st2.mp⟩
      ·rename_i hii
       have hjl:j<sz':=by rw[← hrl i' r' hr'];exact (List.getElem?_eq_some_iff.1 hj).1
       have hne:¬ (i*sz' + off≤i' * sz' + j∧i' * sz' + j<i*sz' + off+(a.eval xv).cells.size):=by
        rintro ⟨c1,c2⟩
        have:i=i':=by
         rcases Nat.lt_trichotomy i i' with h'|h'|h'
         ·have:(i+1)*sz'≤i' * sz':=Nat.mul_le_mul_right _ h'
          rw[Nat.add_mul] at this;omega
         ·exact h'
         ·have:(i' + 1)*sz'≤i*sz':=Nat.mul_le_mul_right _ h'
          rw[Nat.add_mul] at this;omega
        exact hii this
       rw[if_neg hne]
       obtain⟨u,hu,hp⟩:=hcs i' j r' x hr' hj
       exact⟨u,hu,hp.mono st2.S st2.cell st2.mp⟩
   refine⟨undef,gh1,w.setRow k (rowPut C (i*sz' + off) (a.eval xv).cells),.inr ⟨?_,rfl⟩,?_⟩
   ·simp[execOp,ho,hax,hrun]
   ·rw[spent_setT _ _ _ _ (by rw[hT];simp) (by simp)]
    exact Out.skip (s1:=(s.spent yv).setT b (.lsl g (e.set i (putAt r off (vs.map AV.drop))))) (by show WRel G base (s.spent yv).H gh1 _;rw[hS.1];exact hW2) hF2 (hE1.trans hE2 (Nat.le_refl _)) hd
  ·cases he
end
end Go.Abs
end
section
namespace Go.Abs
set_option linter.unusedSimpArgs false
set_option linter.unusedVariables false
section
variable {P:Program} {G:Nat→List AV} {base nt:Nat} {L:List Nat} {gh:Gh} {w w' : World} {a:Act} {s:AS} {H:AHeap}
theorem headOk_row {sz:Nat} {f:List (List AV)} (h:headOk sz f=true) {r:List AV} (hr:f[0]?=some r):r.length=sz:=by
 unfold headOk at h
 cases f with
 | nil=>simp at hr
 | cons q f=>simp at hr;subst hr;simpa [nbeq] using h
theorem width_eq {sz sz' : Nat} {f:List (List AV)} (h:headOk sz f=true) (hrow:∀ (i:Nat) (r:List AV),f[i]?=some r→r.length=sz') (hne:f≠[]):sz'=sz:=by
 cases f with
 | nil=>exact absurd rfl hne
 | cons q f=>rw[← hrow 0 q rfl];exact headOk_row h rfl
theorem src_slice {S:Nat→Nat→Prop} {V:Value} {f:List (List AV)} {sz:Nat} {tx:TypeId} (h:PR S w V (.slice f false)) (hk:(∃ e',P.underlying tx=some (.slice e'))∨P.underlying tx=some .string) (hh:headOk sz f=true) :
  ∃ news:List Value,Src P sz tx V f.length news w∧RowsP S w sz news.toArray f ∧
   ((V=.slice none 0 0∧f=[])∨∃ b o cap,V=.slice (some ⟨b,o,none⟩) f.length cap∧f.length≤cap∧∀ j,j<f.length*sz→S b (o+j)∧w.cell? ⟨b,o+j,none⟩=news[j]?):=by
 cases h with
 | sliceNil=>exact⟨[],⟨hk,fun _=>rfl,run_firstCells_none w sz 0 0 0,run_firstCells_none w.drew sz 0 0 0,by simp,fun _ h=>by cases h⟩,⟨by simp,fun i r h=>by simp at h,fun i j r x h=>by simp at h⟩,.inl ⟨rfl,rfl⟩⟩
 | slice b o n cap sz' _ fn hn hcap hrow hcell hrel =>
  subst hn
  have hsz:f≠[]→sz'=sz:=fun hne=>width_eq hh hrow hne
  let news:List Value:=(List.range (f.length*sz)).map fun k=>(w.cell? ⟨b,o+k,none⟩).getD undef
  have hlen:news.length=f.length*sz:=by simp[news]
  have key:∀ k,k<f.length*sz→∃ u,news[k]?=some u∧w.cell? ⟨b,o+k,none⟩=some u∧u.oneCell'=true∧S b (o+k)∧∀ r x,f[k / sz]?=some r→r[k % sz]?=some x→PR S w u x:=by
   intro k hk
   obtain⟨h1,h2,h3⟩:=split_index hk
   have hne:f≠[]:=by rintro rfl;simp at h1
   have hr:=List.getElem?_eq_getElem h1
   have hlr:f[k / sz].length=sz:=by rw[hrow _ _ hr,hsz hne]
   have hx:=List.getElem?_eq_getElem (show k % sz<f[k / sz].length by omega)
   obtain⟨c1,c2,c3⟩:=hcell _ _ _ _ hr hx
   rw[hsz hne,Nat.add_assoc,h3] at c1 c2
   refine⟨fn (k / sz) (k % sz),?_,c2,c3,c1,fun r x hr' hx'=>hrel _ _ _ _ hr' hx'⟩
   simp only[news,List.getElem?_map,List.getElem?_range hk,Option.map_some,c2,Option.getD_some]
  have hnews:∀ j u,news[j]?=some u→w.cell? ((⟨b,o,none⟩:Addr).add j)=some u:=by
   intro j u hj
   have hlt:j<f.length*sz:=by rw[← hlen];exact (List.getElem?_eq_some_iff.1 hj).1
   obtain⟨u',h1,h2,_⟩:=key j hlt
   rw[h1] at hj;injection hj with hj;subst hj
   rw[addr_add];exact h2
  refine⟨news,⟨hk,fun _=>rfl,run_firstCells_some w sz _ ⟨b,o,none⟩ f.length cap news hlen hnews,run_firstCells_some w.drew sz _ ⟨b,o,none⟩ f.length cap news hlen (by simpa using hnews),hlen,fun u hu=>?_⟩,⟨by simp[hlen],fun i r hr=>?_,fun i j r x hi hj=>?_⟩,.inr ⟨b,o,cap,rfl,hcap,fun j hj=>?_⟩⟩
  ·obtain⟨j,hj⟩:=List.getElem?_of_mem hu
   have hlt:j<f.length*sz:=by rw[← hlen];exact (List.getElem?_eq_some_iff.1 hj).1
   obtain⟨u',h1,_,h3,_⟩:=key j hlt
   rw[h1] at hj;injection hj with hj;subst hj
   exact h3
  ·rw[hrow i r hr,hsz (by rintro rfl;simp at hr)]
  ·have hne:f≠[]:=by rintro rfl;simp at hi
   have hil:=(List.getElem?_eq_some_iff.1 hi).1
   have hjl:j<sz:=by rw[← hsz hne,← hrow i r hi];exact (List.getElem?_eq_some_iff.1 hj).1
   obtain⟨u,h1,_,_,_,h5⟩:=key (i*sz+j) (mul_lt hil hjl)
   refine⟨u,by simpa using h1,h5 r x ?_ ?_⟩
   ·rw[Nat.mul_comm,Nat.mul_add_div (by omega),Nat.div_eq_of_lt hjl];simpa using hi
   ·rw[Nat.mul_comm,Nat.mul_add_mod,Nat.mod_eq_of_lt hjl];exact hj
  ·obtain⟨u,h1,h2,_,h4,_⟩:=key j hj
   exact⟨h4,by rw[h2,h1]⟩
theorem src_str {S:Nat→Nat→Prop} {q:ByteArray} {l:List UInt8} (hq:q.data.toList=l) {tx:TypeId} (hk:(∃ e',P.underlying tx=some (.slice e'))∨P.underlying tx=some .string) :
  ∃ news:List Value,Src P 1 tx (.string q) l.length news w∧RowsP S w 1 news.toArray (l.map fun (b:UInt8)=>[AV.int .u8 b.toNat]):=by
 subst hq
 have hl:q.data.toList.length=q.size:=by simp
 refine⟨byteCells q,?_,by simp[byteCells],fun i r hr=>?_,fun i j r x hi hj=>?_⟩
 ·rw[hl]
  exact⟨hk,fun _=>rfl,firstCells_string q w,firstCells_string q w.drew,by rw[byteCells_length,Nat.mul_one],fun u hu=>by
   obtain⟨_,_,rfl⟩:=List.mem_map.1 hu
   rfl⟩
 ·simp only[List.getElem?_map,Option.map_eq_some_iff] at hr
  obtain⟨y,_,rfl⟩:=hr
  rfl
 ·simp only[List.getElem?_map,Option.map_eq_some_iff] at hi
  obtain⟨y,hy,rfl⟩:=hi
  cases j with
  | succ j=>simp at hj
  | zero =>
   simp only[List.getElem?_cons_zero,Option.some.injEq] at hj
   subst hj
   refine⟨.int .u8 y.toNat,?_,.int _ _⟩
   simp only[byteCells,List.getElem?_toArray,List.getElem?_map,Nat.mul_one,Nat.add_zero,hy,Option.map_some]
theorem RowsP.append {S:Nat→Nat→Prop} {sz:Nat} {A B:List Value} {E F:List (List AV)} (h1:RowsP S w sz A.toArray E) (h2:RowsP S w sz B.toArray F):RowsP S w sz (A++B).toArray (E++F):=by
 have hA:A.length=E.length*sz:=by simpa using h1.1
 have hB:B.length=F.length*sz:=by simpa using h2.1
 refine⟨by simp[hA,hB,Nat.add_mul],fun i r hi=>?_,fun i j r x hi hj=>?_⟩
 ·rw[List.getElem?_append] at hi
  split at hi
  ·exact h1.2.1 i r hi
  ·exact h2.2.1 _ r hi
 ·rw[List.getElem?_append] at hi
  split at hi
  ·obtain⟨v,hv,hp⟩:=h1.2.2 i j r x hi hj
   have:i*sz+j<A.length:=by have:=(Array.getElem?_eq_some_iff.1 hv).1;simpa using this
   refine⟨v,?_,hp⟩
   simp only[List.getElem?_toArray] at hv ⊢
   rw[List.getElem?_append_left this];exact hv
  ·rename_i hge
   obtain⟨v,hv,hp⟩:=h2.2.2 _ j r x hi hj
   refine⟨v,?_,hp⟩
   simp only[List.getElem?_toArray] at hv ⊢
   have e1:i*sz=E.length*sz+(i-E.length)*sz:=by rw[← Nat.add_mul];congr 1;omega
   rw[List.getElem?_append_right (by rw[hA,e1];omega),hA,e1]
   rw[show E.length*sz+(i-E.length)*sz+j-E.length*sz=(i-E.length)*sz+j by omega];exact hv
theorem RowsP.toPR {S S' : Nat→Nat→Prop} {sz:Nat} {A C' : Array Value} {E:List (List AV)} {b:Nat} {ty:TypeId} {fr:Nat × Nat} (h:RowsP S w sz A E) (hS:∀ b o,S b o→S' b o) (hc:∀ b o,S b o→w'.cell? ⟨b,o,none⟩=w.cell? ⟨b,o,none⟩) (hm:∀ b E ck,S b 0→w.heap[b]?=some (.map E ck)→w'.heap[b]?=some (.map E ck))
  (hb:w'.heap[b]?=some (.cells C' ty fr)) (hA:∀ j,j<A.size→C'[j]?=A[j]?) (hq:∀ j,j<E.length*sz→S' b j) (cap:Nat) (hcap:E.length≤cap):PR S' w' (.slice (some ⟨b,0,none⟩) E.length cap) (.slice E false):=by
 have key:∀ (i j:Nat) (r:List AV) (x:AV),E[i]?=some r→r[j]?=some x→∃ v,A[i*sz+j]?=some v∧PR S w v x∧i*sz+j<A.size∧A.getD (i*sz+j) undef=v:=by
  intro i j r x hi hj
  obtain⟨v,hv,hpr⟩:=h.2.2 i j r x hi hj
  have hlt:=(Array.getElem?_eq_some_iff.1 hv).1
  refine⟨v,hv,hpr,hlt,?_⟩
  rw[Array.getElem?_eq_getElem hlt] at hv
  injection hv with hv
  simp[hlt,hv]
 refine .slice b 0 E.length cap sz E (fun i j=>A.getD (i*sz+j) undef) rfl hcap h.2.1 ?_ ?_
 ·intro i j r x hi hj
  obtain⟨v,hv,hpr,hlt,hg⟩:=key i j r x hi hj
  rw[Nat.zero_add,hg]
  refine⟨hq _ (by rw[← h.1];exact hlt),?_,hpr.oneCell⟩
  rw[cell_of_row w' b _ C' ty fr hb,hA _ hlt,hv]
 ·intro i j r x hi hj
  obtain⟨v,hv,hpr,hlt,hg⟩:=key i j r x hi hj
  rw[hg]
  exact hpr.mono hS hc hm
structure ElemT (P:Program) (t e:TypeId) (sz bytes:Nat):Prop where
 ht:P.underlying t=some (.slice e)
 hi:∃ i z,P.info? e=some i∧i.zero=some z∧i.size=sz∧i.bytes=bytes∧z.cells.size=sz
 pos:0<sz
theorem grow {t tx ty e:TypeId} {sz bytes:Nat} (hT:ElemT P t e sz bytes) {ao:Option Addr} {sLen sCap n:Nat} {olds news:List Value} {x:Value} (hold:(Builtin.firstCells sz sLen (.slice ao sLen sCap)).run P w.drew=.ok olds.toArray w.drew)
  (hol:olds.length=sLen*sz) (hs:Src P sz tx x n news w) (hg:sCap<sLen+n) (h63:sLen+n≤70368744177664) (hby:(sLen+n)*bytes≤70368744177664) :
  ∃ cap' C' ,(Builtin.append_ #[t,tx] ty #[.slice ao sLen sCap,x]).run P w=.ok (.slice (some ⟨w.heap.size,0,none⟩) (sLen+n) cap') (w.drew.alloc (.cells C' e))∧sLen+n≤cap'∧C'.size=cap' * sz∧∀ j,j<(olds++news).toArray.size→C'[j]?=(olds++news).toArray[j]?:=by
 obtain⟨i,z,hi,hz,rfl,rfl,hzs⟩:=hT.hi
 have h:=run_append_grow_src (P:=P) w t tx ty e i z hT.ht hi hz ao sLen sCap olds hold x n news hs hg (by omega) (growslice_fits hg (by omega))
 have hcap:=grownCap_ge w (sLen+n) sCap e
 refine⟨_,_,h,hcap,?_,fun j hj=>?_⟩
 ·rw[Array.size_append,size_zeroCells,hzs]
  simp only[List.size_toArray,List.length_append,hol,hs.newsLen]
  rw[← Nat.add_mul,← Nat.add_mul]
  congr 1;omega
 ·rw[Array.getElem?_append_left hj]
theorem room {t tx ty e e2:TypeId} {sz bytes:Nat} (hT:ElemT P t e sz bytes) {b sLen sCap n:Nat} {news:List Value} {x:Value} {C:Array Value} {fr:Nat × Nat} (hs:Src P sz tx x n news w) (hb:w.heap[b]?=some (.cells C e2 fr)) (hfr:fr.2≤sLen*sz)
  (hroom:sLen+n≤sCap) (hfit:sLen*sz+news.length≤C.size) :
  (Builtin.append_ #[t,tx] ty #[.slice (some ⟨b,0,none⟩) sLen sCap,x]).run P w=.ok (.slice (some ⟨b,0,none⟩) (sLen+n) sCap) (w.setRow b (rowPut C (sLen*sz) news.toArray)):=by
 obtain⟨i,z,hi,hz,rfl,rfl,hzs⟩:=hT.hi
 have hst:=run_storeCells_atF P b (sLen*i.size) e2 fr news 0 C w hb (by simpa using hfr) (by simpa using hfit) hs.one
 simp only[Nat.add_zero] at hst
 rcases hs.kind with ⟨e',hk⟩|hk<;>simp[Builtin.append_,run_underlying hT.ht,run_underlying hk,sizeOf,typeInfo,hi,hs.len,hroom,hs.cells,Addr.add_lit,hst,rowPut]
theorem CR.given (hW:WRel G base s.H gh w) (hF:FR L nt gh w a s) {v:Value} {e:List (List AV)} {own:Bool} (h:CR gh s.H.length w .ret v (.slice e own)) (p:Owner) (hp:p≠.outer) :
  ∃ gh',WRel G base s.H gh' w∧FR L nt gh' w a s∧Ext s.H.length gh w gh' w∧CR gh' s.H.length w p v (.slice e own):=by
 have hfresh:=fun b hb=>hW.not_outer (gh:=gh) b hb
 rcases h with hv|⟨e',heq,hPR,b,cap,C,ty,lo,hi,sz,hval,hk,he,hb,hC,hr,hl,hh,hS⟩
 ·exact⟨gh,hW,hF,Ext.refl _ _ _ hfresh,.inl hv⟩
 ·injection heq with h1 h2
  subst h1 h2
  have hlt:b<w.heap.size:=(Array.getElem?_eq_some_iff.1 hb).1
  have st:=give_step hW hlt p s.H.length
  rw[hk] at st
  have hn:gh.κ b≠.none:=by rw[hk];simp
  exact⟨gh.give b p,give_W hW hlt p hn (by rw[hk];simp),hF.grown (H':=s.H) (lo':=s.lo) st (fun i=>⟨by simp,by simp,by simp⟩) (Nat.le_refl _),give_ext hW hlt hp hn (by rw[hk];simp) _,.inr ⟨e,rfl,hPR,b,cap,C,ty,lo,hi,sz,hval,by simp[Gh.give],he,hb,hC,hr,hl,hh,hS⟩⟩
theorem cells_drew {n:Nat} {tx:TypeId} {sz:Nat} {x:Value} {news:List Value} (h:Src P sz tx x n news w):(Builtin.firstCells sz n x).run P w.drew=.ok news.toArray w.drew:=h.cellsD
theorem append_own (hW:WRel G base s.H gh w) (hF:FR L nt gh w a s) {t tx ty e:TypeId} {sz bytes:Nat} (hT:ElemT P t e sz bytes) {V X:Value} {E F:List (List AV)} {news:List Value}
  (h:CR gh s.H.length w .ret V (.slice E true)) (hs:Src P sz tx X F.length news w) (hrows:RowsP gh.S w sz news.toArray F) (hfit:fitsRows sz bytes E F=true) {isB:Bool} (hok:rowsOK isB (E++F)=true) (hisB:isB=true→e=byteTy) (hne:F≠[]) (p:Owner) (hp:p≠.outer) :
  ∃ v' gh' w',(Builtin.append_ #[t,tx] ty #[V,X]).run P w=.ok v' w'∧WRel G base s.H gh' w'∧FR L nt gh' w' a s∧Ext s.H.length gh w gh' w'∧CR gh' s.H.length w' p v' (.slice (E++F) true):=by
 simp only[fitsRows,Bool.and_eq_true,Nat.ble_eq] at hfit
 obtain⟨⟨⟨hb1,hb2⟩,hE⟩,_⟩:=hfit
 have hFl:0<F.length:=List.length_pos_iff.2 hne
 have hPR:PR gh.S w V (.slice E false):=by
  rcases h with h|⟨e',heq,hPR,_⟩
  ·exact (VR.dropped h).inv_slice
  ·injection heq with h1;subst h1;exact hPR
 obtain⟨olds,hsV,hrV,hshape⟩:=src_slice (P:=P) (tx:=t) (sz:=sz) hPR (.inl ⟨_,hT.ht⟩) hE
 have hol:olds.length=E.length*sz:=hsV.newsLen
 have hall:=hrV.append hrows
 have new:∀ ao cap,V=.slice ao E.length cap→cap<E.length+F.length→∃ v' gh' w',(Builtin.append_ #[t,tx] ty #[V,X]).run P w=.ok v' w'∧WRel G base s.H gh' w'∧FR L nt gh' w' a s∧Ext s.H.length gh w gh' w'∧CR gh' s.H.length w' p v' (.slice (E++F) true):=by
  intro ao cap hV hlt
  subst hV
  obtain⟨cap',C',hrun,hcap,hC',hpre⟩:=grow (P:=P) (ty:=ty) hT (cells_drew hsV) hol hs hlt hb2 hb1
  have hp' : Pushed w (w.drew.alloc (.cells C' e)) (.cells C' e):=.drew w _
  have st:=alloc_step hW hp' hp (fun o=>o<(E++F).length*sz) s.H.length
  have hW':=hW.alloc hp' hp (fun o=>o<(E++F).length*sz) (fun k m hk hc=>by
   rw[cell_of_row _ _ k _ _ _ hp'.new,hpre k (by rw[hall.1];exact hk)] at hc
   have:=rows_bytes hall hok hisB hk hc
   subst this
   exact⟨C',(0,0),hp'.new⟩)
  have hpr:=hall.slice (gh:=gh) rfl hp' (p:=p) hW.sLt hpre (q:=fun o=>o<(E++F).length*sz) (fun j hj=>hj) cap' (by rw[List.length_append];exact hcap)
  refine⟨_,_,_,hrun,hW',hF.grown (H':=s.H) (lo':=s.lo) st (fun i=>⟨id,id,fun _=>id⟩) (Nat.le_refl _),alloc_ext hW hp' hp _ _,.inr ⟨E++F,rfl,?_,?_⟩⟩
  ·have e1:E.length+F.length=(E++F).length:=by rw[List.length_append]
   rw[e1];exact hpr
  ·refine⟨w.heap.size,cap',C',e,0,0,sz,by rw[List.length_append],by simp[Gh.alloc],by simp[hne],hp'.new,hC',hall.2.1,by rw[List.length_append];exact hcap,Nat.zero_le _,?_⟩
   rintro o ho (hs|⟨_,hs⟩)
   ·have:=hW.sLt _ _ hs;omega
   ·omega
 rcases h with h|⟨e',heq,_,b,cap,C,ty',lo,hi,sz',hval,hk,he,hb,hC,hr,hl,hh,hS⟩
 ·cases h with
  | plain _ _ h=>cases h
  | full ao k _ h =>
   have hk:k=E.length:=by cases h with
    | sliceNil=>rfl
    | slice _ _ _ _ _ _ _ hn=>exact hn.symm
   subst hk
   exact new ao E.length rfl (by omega)
 ·injection heq with h1
  subst h1
  by_cases hlt:cap<E.length+F.length
  ·exact new _ cap hval hlt
  ·subst hval
   have hsz:sz'=sz:=width_eq hE hr he
   subst hsz
   have hroom:E.length+F.length≤cap:=by omega
   have hfit:E.length*sz' + news.length≤C.size:=by rw[hs.newsLen,hC,← Nat.add_mul];exact Nat.mul_le_mul_right _ hroom
   have hrun:=room (P:=P) (ty:=ty) hT hs hb hh hroom hfit
   have hfit' : E.length*sz' + news.toArray.size≤C.size:=by simpa using hfit
   have hold:∀ o,gh.S b o→(rowPut C (E.length*sz') news.toArray)[o]?=C[o]?:=by
    intro o ho
    have:o<E.length*sz':=by
     rcases Nat.lt_or_ge o (E.length*sz') with h|h
     ·exact h
     ·exact absurd ho (hS o h)
    rw[rowPut_get hfit',if_neg (by omega)]
   have st:=row_step hW hb (rowPut_size hfit') (fun o=>o<(E++F).length*sz') hold p s.H.length
   have hn:gh.κ b≠.none:=by rw[hk];simp
   have hE':=row_ext hW hb (rowPut_size hfit') (fun o=>o<(E++F).length*sz') hold hp hn (by rw[hk];simp) s.H.length
   have hprefix:∀ j,j<(olds++news).toArray.size→(rowPut C (E.length*sz') news.toArray)[j]?=(olds++news).toArray[j]?:=by
    intro j hj
    have hnl0:news.length=F.length*sz':=hs.newsLen
    simp only[List.size_toArray,List.length_append] at hj
    rw[rowPut_get hfit']
    simp only[List.getElem?_toArray,List.size_toArray]
    rw[List.getElem?_append]
    split
    ·rw[if_neg (by omega),hol]
    ·rename_i hno
     have hj' : j<E.length*sz':=by omega
     rw[if_pos (by omega)]
     rcases hshape with ⟨_,hE0⟩|⟨b2,o2,cap2,hV2,_,hcells⟩
     ·exact absurd hE0 he
     ·injection hV2 with h1 h2 h3
      injection h1 with h1
      injection h1 with h1 h4
      subst h1 h4
      have:=(hcells j hj').2
      rw[Nat.zero_add,cell_of_row w b j C ty' _ hb] at this
      exact this
   have hty:∀ k m,k<(E++F).length*sz'→(rowPut C (E.length*sz') news.toArray)[k]?=some (.int .u8 m)→ty'=byteTy:=by
    intro k m hk hc
    rw[hprefix k (by rw[hall.1];exact hk)] at hc
    refine rows_bytes hall hok (fun hB=>?_) hk hc
    subst hB
    cases E with
    | nil=>exact absurd rfl he
    | cons r0 E0 =>
     have hr0:∃ m0,r0=[.int .u8 m0]:=by
      have:byteRows (r0 :: E0++F)=true:=hok
      simp only[byteRows,List.cons_append,List.all_cons,Bool.and_eq_true] at this
      have h1:=this.1
      split at h1
      ·exact⟨_,rfl⟩
      ·cases h1
     obtain⟨m0,rfl⟩:=hr0
     rcases hshape with ⟨_,hE0⟩|⟨b2,o2,cap2,hV2,_,hcells⟩
     ·cases hE0
     ·injection hV2 with h1 h2 h3
      injection h1 with h1
      injection h1 with h1 h4
      subst h1 h4
      have h5:=hr 0 _ rfl
      simp only[List.length_singleton] at h5
      obtain⟨v,hv,hp⟩:=hrV.2.2 0 0 _ _ rfl rfl
      cases hp
      simp only[List.getElem?_toArray,Nat.zero_mul,Nat.zero_add] at hv
      have h6:=hcells 0 (by simp;omega)
      rw[Nat.zero_add,hv] at h6
      obtain⟨C2,fr2,h7⟩:=hW.bytes _ _ _ h6.1 h6.2
      rw[hb] at h7
      injection h7 with h7
      injection h7
   have hW':=row_W hW hb (rowPut_size hfit') (fun o=>o<(E++F).length*sz') hold hty p hn (by rw[hk];simp)
   have st0:=st
   rw[hk] at st
   have hnl:news.length=F.length*sz':=hs.newsLen
   refine⟨_,_,_,hrun,hW',hF.grown (H':=s.H) (lo':=s.lo) st (fun i=>⟨by simp,by simp,by simp⟩) (Nat.le_refl _),hE',.inr ⟨E++F,rfl,?_,?_⟩⟩
   ·rw[← List.length_append]
    refine hall.toPR st.S st.cell st.mp (setRow_heap w b C _ ty' _ hb) (fun j hj=>?_) (fun j hj=>.inr ⟨rfl,hj⟩) cap (by rw[List.length_append];exact hroom)
    simp only[List.size_toArray,List.length_append] at hj
    rw[rowPut_get hfit']
    simp only[List.getElem?_toArray,List.size_toArray]
    rw[List.getElem?_append]
    split
    ·rw[if_neg (by omega),hol]
    ·rename_i hno
     have hj' : j<E.length*sz':=by omega
     rw[if_pos (by omega)]
     rcases hshape with ⟨_,hE0⟩|⟨b2,o2,cap2,hV2,_,hcells⟩
     ·exact absurd hE0 he
     ·injection hV2 with h1 h2 h3
      injection h1 with h1
      injection h1 with h1 h4
      subst h1 h4
      have:=(hcells j hj').2
      rw[Nat.zero_add,cell_of_row w b j C ty' _ hb] at this
      exact this
   ·refine⟨b,cap,_,ty',lo,hi,sz',by rw[List.length_append],by simp,by simp[he],setRow_heap w b C _ ty' _ hb,by rw[rowPut_size hfit',hC],hall.2.1,by rw[List.length_append];exact hroom,?_,?_⟩
    ·rw[List.length_append,Nat.add_mul];exact Nat.le_trans hh (Nat.le_add_right _ _)
    ·rintro o ho (hs'|⟨_,hs'⟩)
     ·exact hS o (by rw[List.length_append,Nat.add_mul] at ho;omega) hs'
     ·omega
end
end Go.Abs
end
section
namespace Go.Abs
set_option linter.unusedSimpArgs false
set_option linter.unusedVariables false
section
variable {P:Program} {G:Nat→List AV} {base nt:Nat} {L:List Nat} {gh:Gh} {w w' : World} {a:Act} {s:AS} {H:AHeap}
theorem append_wr (hW:WRel G base s.H gh w) (hF:FR L nt gh w a s) {t tx ty e:TypeId} {sz bytes:Nat} (hT:ElemT P t e sz bytes) {t0:Nat} {X:Value} {E F:List (List AV)} {news:List Value}
  (h:RowAt gh w (.bx t0) (tmv a t0) E) (hs:Src P sz tx X F.length news w) (hrows:RowsP gh.S w sz news.toArray F) (hfit:fitsRows sz bytes E F=true) (d:Option Nat) :
  ∃ v' gh' w',(Builtin.append_ #[t,tx] ty #[tmv a t0,X]).run P w=.ok v' w'∧WRel G base s.H gh' w'∧FR L nt gh' w' a (s.setT t0 .any)∧Ext s.H.length gh w gh' w'∧RowAt gh' w' (bxo d) v' (E++F):=by
 simp only[fitsRows,Bool.and_eq_true,Nat.ble_eq] at hfit
 obtain⟨⟨⟨hb1,hb2⟩,hE⟩,hFo⟩:=hfit
 have hfresh:=fun b hb=>hW.not_outer (gh:=gh) b hb
 have hdo:=bxo_out d
 obtain⟨i,z,hi,_,rfl,_⟩:=hT.hi
 have hone:(tmv a t0).oneCell'=true:=by obtain⟨ad,cap,hv,_⟩:=h;rw[hv];rfl
 have hany:∀ {gh' : Gh} {w' : World} {n gen:Nat} {T:AFrame},SR gh' n nt w' T gen (tmv a) t0 (tmv a t0) .any:=fun {_ _ _ _ _}=>(.inl (.plain _ _ (.any _ hone)):CR _ _ _ _ _ _)
 have stay:FR L nt gh w a (s.setT t0 .any):=hF.setT (touch:=fun _=>False) (H':=s.H) (lo':=s.lo) (Step.refl _ _ _ _ hfresh) (Nat.le_refl _) (fun i _=>⟨id,id,fun _=>id⟩) (.inr rfl) (fun _=>hany)
 have new:∀ ao cap olds,tmv a t0=.slice ao E.length cap→cap<E.length+F.length→Src P i.size t (.slice ao E.length cap) E.length olds w→RowsP gh.S w i.size olds.toArray E →
   ∃ v' gh' w',(Builtin.append_ #[t,tx] ty #[tmv a t0,X]).run P w=.ok v' w'∧WRel G base s.H gh' w'∧FR L nt gh' w' a (s.setT t0 .any)∧Ext s.H.length gh w gh' w'∧RowAt gh' w' (bxo d) v' (E++F):=by
  intro ao cap olds hV hlt hsV hrV
  obtain⟨cap',C',hrun,hcap,hC',hpre⟩:=grow (P:=P) (ty:=ty) hT hsV.cellsD hsV.newsLen hs hlt hb2 hb1
  have hall:=hrV.append hrows
  have hp' : Pushed w (w.drew.alloc (.cells C' e)) (.cells C' e):=.drew w _
  have st:=alloc_step hW hp' hdo (fun _=>False) s.H.length
  have hW':=hW.alloc hp' hdo (fun _=>False) (fun _ _ h=>h.elim)
  rw[hV]
  have hF' : FR L nt (gh.alloc w.heap.size (bxo d) fun _=>False) (w.drew.alloc (.cells C' e)) a (s.setT t0 .any) :=
   stay.grown (H':=s.H) (lo':=s.lo) st (fun i=>⟨id,id,fun _=>id⟩) (Nat.le_refl _)
  refine⟨_,_,_,hrun,hW',hF',alloc_ext hW hp' hdo _ _,some ⟨w.heap.size,0,none⟩,cap',by rw[List.length_append],.inr ⟨w.heap.size,C',e,i.size,?_,rfl,by simp[Gh.alloc],?_,hp'.new,hC',by rw[List.length_append];exact hcap,hall.2.1,?_⟩⟩
  ·intro h0
   have:=congrArg List.length h0
   simp at this
   simp[this] at hlt
  ·rintro o (ho|⟨_,ho⟩)
   ·have:=hW.sLt _ o ho;omega
   ·exact ho
  ·intro k j r x hk hj
   obtain⟨v,hv,hp⟩:=hall.2.2 k j r x hk hj
   refine⟨v,?_,hp.mono st.S st.cell st.mp⟩
   rw[hpre _ (Array.getElem?_eq_some_iff.1 hv).1,hv]
 obtain⟨ao,cap,hV,⟨rfl,hcap0,hspot⟩|⟨b,C,ty',sz',hne,ha,hk,hS,hb,hC,hl,hr,hcs⟩⟩:=h
 ·subst hcap0
  have hsV:Src P i.size t (.slice ao 0 0) 0 [] w:=by
   refine⟨.inl ⟨_,hT.ht⟩,fun _=>rfl,?_,?_,by simp,fun _ h=>by cases h⟩
   ·cases ao with
    | none=>exact run_firstCells_none w _ 0 0 0
    | some ad=>exact run_firstCells_some w _ 0 ad 0 0 [] (by simp) (fun j v h=>by simp at h)
   ·cases ao with
    | none=>exact run_firstCells_none w.drew _ 0 0 0
    | some ad=>exact run_firstCells_some w.drew _ 0 ad 0 0 [] (by simp) (fun j v h=>by simp at h)
  cases F with
  | nil =>
   have hn:news=[]:=by have:=hs.newsLen;simp at this;exact this
   subst hn
   refine⟨_,gh,w,?_,hW,stay,Ext.refl _ _ _ hfresh,ao,0,rfl,.inl ⟨rfl,rfl,hspot⟩⟩
   rw[hV]
   exact run_append_nothing w t tx ty e i hT.ht hi ao 0 0 (Nat.le_refl _) X hs
  | cons f F=>exact new ao 0 [] hV (by simp) hsV ⟨by simp,fun i r h=>by simp at h,fun i j r x h=>by simp at h⟩
 ·subst ha
  have hsz:sz'=i.size:=width_eq hE hr hne
  subst hsz
  have hEC:E.length*i.size≤C.size:=by rw[hC];exact Nat.mul_le_mul_right _ hl
  have holen:(C.toList.take (E.length*i.size)).length=E.length*i.size:=by simp;omega
  have hrV:RowsP gh.S w i.size (C.toList.take (E.length*i.size)).toArray E:=by
   refine⟨by simp;omega,hr,fun k j r x hk hj=>?_⟩
   obtain⟨u,hu,hp⟩:=hcs k j r x hk hj
   refine⟨u,?_,hp⟩
   have h1:=(List.getElem?_eq_some_iff.1 hk).1
   have h2:j<i.size:=by rw[← hr k r hk];exact (List.getElem?_eq_some_iff.1 hj).1
   simp only[List.getElem?_toArray,List.getElem?_take,if_pos (mul_lt h1 h2)]
   simpa using hu
  have hone' : ∀ u∈C.toList.take (E.length*i.size),u.oneCell'=true:=by
   intro u hu
   obtain⟨k,hk⟩:=List.getElem?_of_mem hu
   have hlt:k<E.length*i.size:=by rw[← holen];exact (List.getElem?_eq_some_iff.1 hk).1
   obtain⟨h1,h2,h3⟩:=split_index hlt
   have hr0:=List.getElem?_eq_getElem h1
   have hx0:=List.getElem?_eq_getElem (show k % i.size<E[k / i.size].length by rw[hr _ _ hr0];exact h2)
   obtain⟨u',hu',hp⟩:=hrV.2.2 _ _ _ _ hr0 hx0
   rw[h3] at hu'
   simp only[List.getElem?_toArray] at hu'
   rw[hk] at hu'
   injection hu' with hu'
   subst hu'
   exact hp.oneCell
  have hcell:∀ j u,(C.toList.take (E.length*i.size))[j]?=some u→w.cell? ((⟨b,0,none⟩:Addr).add j)=some u:=by
   intro j u hj
   rw[addr_add,Nat.zero_add,cell_of_row w b j C ty' _ hb]
   rw[List.getElem?_take] at hj
   split at hj
   ·simpa using hj
   ·cases hj
  have hsV:Src P i.size t (.slice (some ⟨b,0,none⟩) E.length cap) E.length (C.toList.take (E.length*i.size)) w:=.ofSlice w hT.ht ⟨b,0,none⟩ E.length cap _ holen hcell hone'
  by_cases hlt:cap<E.length+F.length
  ·exact new _ cap _ hV hlt hsV hrV
  ·have hroom:E.length+F.length≤cap:=by omega
   have hfit:E.length*i.size+news.length≤C.size:=by rw[hs.newsLen,hC,← Nat.add_mul];exact Nat.mul_le_mul_right _ hroom
   have hrun:=room (P:=P) (ty:=ty) hT hs hb (Nat.zero_le _) hroom hfit
   have hfit' : E.length*i.size+news.toArray.size≤C.size:=by simpa using hfit
   have hno:∀ o,gh.S b o→(rowPut C (E.length*i.size) news.toArray)[o]?=C[o]?:=fun o ho=>(hS o ho).elim
   have st:=row_step hW hb (rowPut_size hfit') (fun _=>False) hno (bxo d) s.H.length
   have hn:gh.κ b≠.none:=by rw[hk];simp
   have hE':=row_ext hW hb (rowPut_size hfit') (fun _=>False) hno hdo hn (by rw[hk];simp) s.H.length
   have hW':=row_W hW hb (rowPut_size hfit') (fun _=>False) hno (fun _ _ h=>h.elim) (bxo d) hn (by rw[hk];simp)
   rw[hk] at st
   have hF':=hF.setT (t:=t0) (X:=.any) (H':=s.H) (lo':=s.lo) st (Nat.le_refl _) (fun i hi=>⟨by simpa using hi,by simp,by simp⟩) (.inr rfl) (fun _=>hany)
   rw[hV]
   have hall:=hrV.append hrows
   refine⟨_,_,_,hrun,hW',hF',hE',some ⟨b,0,none⟩,cap,by rw[List.length_append],.inr ⟨b,_,ty',i.size,by simp[hne],rfl,by simp,?_,setRow_heap w b C _ ty' _ hb,by rw[rowPut_size hfit',hC],by rw[List.length_append];exact hroom,hall.2.1,?_⟩⟩
   ·rintro o (ho|⟨_,ho⟩)
    ·exact hS o ho
    ·exact ho
   ·intro k j r x hk' hj
    obtain⟨v,hv,hp⟩:=hall.2.2 k j r x hk' hj
    refine⟨v,?_,hp.mono st.S st.cell st.mp⟩
    rw[rowPut_get hfit']
    simp only[List.getElem?_toArray,List.size_toArray] at hv ⊢
    rw[List.getElem?_append,holen] at hv
    have hnl:news.length=F.length*i.size:=hs.newsLen
    split at hv
    ·rename_i h1
     rw[if_neg (by omega)]
     rw[List.getElem?_take,if_pos h1] at hv
     simpa using hv
    ·rename_i h1
     have h2:=(List.getElem?_eq_some_iff.1 hv).1
     rw[if_pos (by omega)]
     exact hv
theorem src_arg (hW:WRel G base s.H gh w) (hF:FR L nt gh w a s) {x:Operand} {y:IArg} (hc:compArg nt x=some y) {sz:Nat} {f:List (List AV)} (he:elemsOf sz (y.eval G s.T)=some f) (hh:headOk sz f=true) {tx:TypeId}
  (hk:(∃ e',P.underlying tx=some (.slice e'))∨P.underlying tx=some .string):∃ news,Src P sz tx (a.eval x) f.length news w∧RowsP gh.S w sz news.toArray f:=by
 generalize hY:y.eval G s.T=Y at he
 cases Y<;>simp only[elemsOf] at he<;>try (cases he;done)
 ·rename_i l
  obtain⟨h0,h1⟩:=cond_some he
  have h0:sz=1:=by simpa [nbeq] using h0
  subst h0
  injection h1 with h1
  subst h1
  obtain⟨q,hq,hl⟩:=(arg_VR hW hF hc hY rfl).inv_str
  rw[hq,List.length_map]
  exact src_str hl hk
 ·rename_i el own
  injection he with he
  subst he
  obtain⟨news,h1,h2,_⟩:=src_slice (P:=P) (tx:=tx) (sz:=sz) (arg_VR hW hF hc hY rfl).inv_slice hk hh
  exact⟨news,h1,h2⟩
theorem run_call_append {o:Oper} {c:Call} {x y:Operand} {t u:TypeId} (ho:o.op=.call c) (hcal:c.callee=.builtin .append) (hargs:c.args.toList=[x,y]) (htys:c.argTypes.toList=[t,u]) {v:Value}
  (hrun:(Builtin.append_ #[t,u] o.type #[a.eval x,a.eval y]).run P w=.ok v w'):(execOp a.eval o).run P w=.ok (.value v) w':=by
 have e1:c.args=#[x,y]:=by apply Array.ext';simpa using hargs
 have e2:c.argTypes=#[t,u]:=by apply Array.ext';simpa using htys
 unfold execOp
 simp only[ho,resolve,hcal,e1,e2,invoke,builtin,Sem.run_bind,Sem.run_pure,Result.andThen_ok,List.map_toArray,List.map_cons,List.map_nil,hrun]
theorem slice_shape {S:Nat→Nat→Prop} {V:Value} {e:List (List AV)} (h:PR S w V (.slice e false)):∃ ao cap,V=.slice ao e.length cap∧e.length≤cap:=by
 cases h with
 | sliceNil=>exact⟨none,0,rfl,Nat.le_refl _⟩
 | slice b o n cap sz _ _ hn hcap=>subst hn;exact⟨_,cap,rfl,hcap⟩
theorem ev_append (hW:WRel G base s.H gh w) (hF:FR L nt gh w a s) {o:Oper} {c:Call} {x y:Operand} {t u e:TypeId} {sz bytes:Nat} {yx yy:IArg} {isB wr:Bool} {z:AV} {s' : Option AS}
  (ho:o.op=.call c) (hcal:c.callee=.builtin .append) (hargs:c.args.toList=[x,y]) (htys:c.argTypes.toList=[t,u]) (hT:ElemT P t e sz bytes) (hisB:isB=true→e=byteTy) (hu:(∃ e',P.underlying u=some (.slice e'))∨P.underlying u=some .string)
  (hcx:compArg nt x=some yx) (hcy:compArg nt y=some yy) (he:evAppend G s isB wr sz bytes yx yy=some (z,s')) (hd:∀ k,o.dst=some k→k<nt) (hL:wr=true→∀ k,o.dst=some k→k∈L) :
  ∃ v' gh' w',Ran P a o w v' w'∧Out G base nt L gh w a s o.dst z (s'.getD s) v' gh' w':=by
 have hfresh:=fun b hb=>hW.not_outer (gh:=gh) b hb
 have core:∀ (s1:AS) (gh1:Gh) (el:List (List AV)) (own:Bool),s1.H=s.H→WRel G base s1.H gh1 w→FR L nt gh1 w a s1→Ext s.H.length gh w gh1 w→(∀ b o,gh.S b o→gh1.S b o) →
   CR gh1 s1.H.length w .ret (a.eval x) (.slice el own)→appendAV isB sz bytes (.slice el own) (yy.eval G s.T)=some z →
   ∃ v' gh' w',Ran P a o w v' w'∧Out G base nt L gh w a s o.dst z s1 v' gh' w':=by
  intro s1 gh1 el own hH hW1 hF1 hE1 hmono hCR hap
  simp only[appendAV,Option.bind_eq_some_iff] at hap
  obtain⟨f,hf,hap⟩:=hap
  cases f with
  | nil =>
   simp only[Option.some.injEq] at hap
   subst hap
   obtain⟨news,hs,hr⟩:=src_arg (P:=P) hW hF hcy hf rfl hu
   have hn:news=[]:=by have:=hs.newsLen;simp at this;exact this
   subst hn
   obtain⟨gh2,hW2,hF2,hE2,hCR2⟩:=hCR.given hW1 hF1 (slo o.dst) (slo_out _)
   obtain⟨ao,cap,hV,hle⟩:=slice_shape (w:=w) (hCR.dropped).inv_slice
   obtain⟨i,z,hi,_,rfl,_⟩:=hT.hi
   refine⟨a.eval x,gh2,w,.inl (run_call_append ho hcal hargs htys ?_),Out.of (s1:=s1) (gen':=s1.gen) hW2 hF2 (hE1.trans hE2 (by rw[hH];exact Nat.le_refl _)) (Nat.le_refl _) hd (.inl rfl) (fun k hk=>?_)⟩
   ·rw[hV]
    exact run_append_nothing w t u o.type e i hT.ht hi ao _ cap hle _ hs
   ·rw[hk] at hCR2
    exact hCR2
  | cons f0 fr =>
   obtain⟨h0,hap⟩:=cond_some hap
   injection hap with hap
   subst hap
   simp only[Bool.and_eq_true] at h0
   obtain⟨⟨rfl,hfit⟩,hok⟩:=h0
   have hh:headOk sz (f0 :: fr)=true:=by simp only[fitsRows,Bool.and_eq_true] at hfit;exact hfit.2
   obtain⟨news,hs,hr⟩:=src_arg (P:=P) hW hF hcy hf hh hu
   have hr1:RowsP gh1.S w sz news.toArray (f0 :: fr):=⟨hr.1,hr.2.1,fun i j r x hi hj=>by
    obtain⟨v,hv,hp⟩:=hr.2.2 i j r x hi hj
    exact⟨v,hv,hp.mono hmono (fun _ _ _=>rfl) (fun _ _ _ _ h=>h)⟩⟩
   obtain⟨v',gh2,w2,hrun,hW2,hF2,hE2,hCR2⟩:=append_own (P:=P) (ty:=o.type) hW1 hF1 hT hCR hs hr1 hfit hok hisB (by simp) (slo o.dst) (slo_out _)
   refine⟨v',gh2,w2,.inl (run_call_append ho hcal hargs htys hrun),Out.of (s1:=s1) (gen':=s1.gen) hW2 hF2 (hE1.trans hE2 (by rw[hH];exact Nat.le_refl _)) (Nat.le_refl _) hd (.inl rfl) (fun k hk=>?_)⟩
   rw[hk] at hCR2
   exact hCR2
 have wcore:∀ (t0:Nat) (el f:List (List AV)),x=.tmp t0→t0<nt→RowAt gh w (.bx t0) (tmv a t0) el→elemsOf sz (yy.eval G s.T)=some f→fitsRows sz bytes el f=true→wr=true →
   ∃ v' gh' w',Ran P a o w v' w'∧Out G base nt L gh w a s o.dst (.lsl s.gen (el++f)) { s.setT t0 .any with gen:=s.gen+1 } v' gh' w':=by
  intro t0 el f hx ht hrow hf hfit hwr
  have hh:headOk sz f=true:=by simp only[fitsRows,Bool.and_eq_true] at hfit;exact hfit.2
  obtain⟨news,hs,hr⟩:=src_arg (P:=P) hW hF hcy hf hh hu
  obtain⟨v',gh2,w2,hrun,hW2,hF2,hE2,hrow2⟩:=append_wr (P:=P) (ty:=o.type) hW hF hT hrow hs hr hfit o.dst
  have hxe:a.eval x=tmv a t0:=by rw[hx];rfl
  refine⟨v',gh2,w2,.inl (run_call_append ho hcal hargs htys (by rw[hxe];exact hrun)),Out.of (s1:=s.setT t0 .any) (gen':=s.gen+1) hW2 hF2 hE2 (Nat.le_succ _) hd (.inr ⟨⟨s.gen,Nat.le_refl _,rfl⟩,hL hwr⟩) (fun k hk=>⟨Nat.lt_succ_self _,?_⟩)⟩
  rw[hk] at hrow2
  exact hrow2
 cases yx with
 | tmp t0 =>
  obtain⟨rfl,ht⟩:=compArg_tmp hcx
  simp only[evAppend] at he
  split at he
  ·rename_i g el hT0
   simp only[Option.bind_eq_some_iff] at he
   obtain⟨f,hf,he⟩:=he
   obtain⟨h0,he⟩:=cond_some he
   simp only[Option.some.injEq,Prod.mk.injEq] at he
   obtain⟨rfl,rfl⟩:=he
   simp only[Bool.and_eq_true] at h0
   exact wcore t0 el f rfl ht (sr_lsl hF ht hT0) hf h0.2 h0.1
  ·rename_i el own hT0
   cases hwr:wr with
   | true =>
    rw[hwr] at he
    simp only[cond_true,Option.bind_eq_some_iff] at he
    obtain⟨f,hf,he⟩:=he
    obtain⟨h0,he⟩:=cond_some he
    simp only[Option.some.injEq,Prod.mk.injEq] at he
    obtain⟨rfl,rfl⟩:=he
    simp only[Bool.and_eq_true,List.isEmpty_iff] at h0
    obtain⟨⟨rfl,rfl⟩,hfit⟩:=h0
    have hCR:=arg_own hF ht hT0
    have hrow:RowAt gh w (.bx t0) (tmv a t0) []:=by
     rcases hCR with h|⟨e',heq,_,b,cap,C,ty,lo,hi,sz',hval,hk,hne,_⟩
     ·change VR gh s.H.length w (tmv a t0) _ at h
      generalize tmv a t0=V at h
      cases h with
      | plain _ _ h=>cases h
      | full ao k _ h hz =>
       cases h with
       | sliceNil=>exact⟨none,0,rfl,.inl ⟨rfl,rfl,fun ad h=>by cases h⟩⟩
       | slice b o _ _ sz' _ _ hn =>
        simp at hn
        subst hn
        exact⟨_,0,rfl,.inl ⟨rfl,rfl,fun ad h=>⟨by injection h with h;subst h;rfl,hz ad h rfl⟩⟩⟩
     ·injection heq with h1;subst h1;exact absurd rfl hne
    exact wcore t0 [] f rfl ht hrow hf hfit hwr
   | false =>
    rw[hwr] at he
    simp only[cond_false,Option.map_eq_some_iff,Prod.mk.injEq] at he
    obtain⟨z',hap,rfl,rfl⟩:=he
    obtain⟨gh1,hW1,hF1,hE1,st1,hCR⟩:=own_move hW hF ht hT0 .ret (by simp)
    exact core (s.setT t0 (.slice el false)) gh1 el own rfl hW1 hF1 hE1 st1.S hCR hap
  ·rename_i hT0
   cases hwr:wr with
   | true =>
    rw[hwr] at he
    simp only[cond_true,Option.bind_eq_some_iff] at he
    obtain⟨f,hf,he⟩:=he
    obtain⟨h0,he⟩:=cond_some he
    simp only[Option.some.injEq,Prod.mk.injEq] at he
    obtain⟨rfl,rfl⟩:=he
    have hv:=(arg_VR hW hF hcx (show (IArg.tmp t0).eval G s.T=.nilsl from hT0) rfl).inv_nilsl
    exact wcore t0 [] f rfl ht ⟨none,0,hv,.inl ⟨rfl,rfl,fun ad h=>by cases h⟩⟩ hf h0 hwr
   | false =>
    rw[hwr] at he
    simp only[cond_false,Option.map_eq_some_iff,Prod.mk.injEq] at he
    obtain⟨z',hap,rfl,rfl⟩:=he
    have hv:=(arg_VR hW hF hcx (show (IArg.tmp t0).eval G s.T=.nilsl from hT0) rfl).inv_nilsl
    exact core s gh [] true rfl hW hF (Ext.refl _ _ _ hfresh) (fun _ _ h=>h) (.inl (by rw[hv];exact .full none 0 [] .sliceNil (fun ad h=>by cases h))) hap
  ·cases he
 | con v =>
  simp only[evAppend] at he
  cases hwr:wr with
  | true=>rw[hwr] at he;cases he
  | false =>
   rw[hwr] at he
   simp only[cond_false,Option.map_eq_some_iff,Prod.mk.injEq] at he
   obtain⟨z',hap,rfl,rfl⟩:=he
   simp only[IArg.eval] at hap
   cases v<;>simp only[appendAV] at hap<;>try (cases hap;done)
   rename_i el own
   have hv:VR gh s.H.length w (a.eval x) (.slice el own):=by
    cases x with
    | tmp k =>
     simp only[compArg] at hcx
     rcases Bool.eq_false_or_eq_true (Nat.blt k nt) with hb|hb<;>rw[hb] at hcx<;>simp at hcx
    | const u =>
     simp only[compArg,Option.map_eq_some_iff] at hcx
     obtain⟨zz,hz,h⟩:=hcx
     injection h with h
     subst h
     exact const_VR hz
    | global g=>simp[compArg] at hcx
    | func f=>simp[compArg] at hcx
   exact core s gh el own rfl hW hF (Ext.refl _ _ _ hfresh) (fun _ _ h=>h) (.inl hv) hap
 | glob g =>
  simp only[evAppend] at he
  cases hwr:wr with
  | true=>rw[hwr] at he;cases he
  | false =>
   rw[hwr] at he
   simp[IArg.eval,appendAV] at he
 | fn f =>
  simp only[evAppend] at he
  cases hwr:wr with
  | true=>rw[hwr] at he;cases he
  | false =>
   rw[hwr] at he
   simp[IArg.eval,appendAV] at he
end
end Go.Abs
end
