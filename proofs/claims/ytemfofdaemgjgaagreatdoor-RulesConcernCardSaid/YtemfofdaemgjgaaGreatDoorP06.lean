/-
  A part of the proof of RulesConcern: AbsMap5, AbsMap6, AbsArr.
-/
import Derived.Maps.RangeRun
import Derived.Laws.MakeOwn
import Derived.Test.YtemfofdaemgjgaaGreatDoorP05
set_option linter.unusedSimpArgs false
set_option linter.unusedVariables false
section
namespace Go.Abs
set_option linter.unusedSimpArgs false
set_option linter.unusedVariables false
section
variable {P:Program} {G:Nat→List AV} {base nt:Nat} {L:List Nat} {gh:Gh} {w w' : World} {a:Act} {s:AS} {H:AHeap}
theorem entry_move {l b kz i:Nat} {ka:Bool} {es:List (List AV)} {n:Nat} (hW:WRel G base H gh w) (hM:MapAt gh n w b (.hb l) (fun i=>.hs l i) kz ka false es) {r:List AV} {v:AV} (hi:es[i]?=some r) (hv:r[kz]?=some v) (p:Owner) (hp:p≠.outer) (m:Nat) :
  ∃ gh' u E ck,(∀ b o,gh'.S b o→gh.S b o)∧Step (fun o=>o=.hs l i) m gh w gh' w∧Ext m gh w gh' w∧(∀ b o,gh'.S b o→b<w.heap.size)∧(∀ b,gh'.κ b≠.none→base≤b∧b<w.heap.size) ∧
   MapAt gh' n w b (.hb l) (fun i=>.hs l i) kz ka false (es.set i (takenAt kz r))∧w.heap[b]?=some (.map E ck)∧(E[i]?).map (·.val)=some u∧u.oneCell'=true∧CR gh' n w p u v:=by
 have hfresh:=fun b hb=>hW.not_outer (gh:=gh) b hb
 obtain⟨hκ,hS,E,ck,f,hb,hE,h1,h2⟩:=hM
 have hilt:i<es.length:=(List.getElem?_eq_some_iff.1 hi).1
 have hiE:i<E.size:=by rw[hE.size];exact hilt
 have hEi:E[i]?=some E[i]:=Array.getElem?_eq_getElem hiE
 obtain⟨r1,r2,r3,r4,r5⟩:=hE.row i _ r hEi hi
 have hrl:=r3 rfl
 have hval:E[i].val=f i kz:=by rw[r5];simp[mkV]
 obtain⟨c1,_,c2⟩:=h2 i kz r v hi hv (Nat.le_refl _)
 have hrow:∀ {k:Nat} {q:List AV},(es.set i (takenAt kz r))[k]?=some q→(k=i∧q=takenAt kz r)∨(k≠i∧es[k]?=some q):=by
  intro k q hq
  rw[List.getElem?_set] at hq
  split at hq
  ·rename_i e
   subst e
   injection hq with hq;exact .inl ⟨rfl,hq.symm⟩
  ·rename_i e;exact .inr ⟨Ne.symm e,hq⟩
 have hlen:(takenAt kz r).length=r.length:=by simp[takenAt]
 have hE' : EntOK E ck kz ka false (es.set i (takenAt kz r)) f:=by
  refine⟨by simp[hE.size],hE.clk,hE.at',hE.born,hE.apart,fun k e q he hq=>?_⟩
  rcases hrow hq with ⟨rfl,rfl⟩|⟨_,hq⟩
  ·have:=hE.row k e r he hi
   rw[hlen];exact this
  ·exact hE.row k e q he hq
 have cell:∀ {k j:Nat} {q:List AV} {x:AV},(es.set i (takenAt kz r))[k]?=some q→q[j]?=some x→∃ q0 x0,es[k]?=some q0∧q0[j]?=some x0∧((k=i∧j=kz∧x=x0.drop)∨(¬ (k=i∧j=kz)∧x=x0)):=by
  intro k j q x hq hx
  rcases hrow hq with ⟨rfl,rfl⟩|⟨hne,hq⟩
  ·rw[modify_get] at hx
   split at hx
   ·rename_i e
    simp only[Option.map_eq_some_iff] at hx
    obtain⟨x0,hx0,rfl⟩:=hx
    exact⟨r,x0,hi,hx0,.inl ⟨rfl,e,rfl⟩⟩
   ·rename_i e;exact⟨r,x,hi,hx,.inr ⟨fun h=>e h.2,rfl⟩⟩
  ·exact⟨q,x,hq,hx,.inr ⟨fun h=>hne h.1,rfl⟩⟩
 have keys:∀ {gh' : Gh},(∀ b o,gh.S b o→gh'.S b o)→∀ (k j:Nat) (q:List AV) (x:AV),(es.set i (takenAt kz r))[k]?=some q→q[j]?=some x→j<kz→PR gh'.S w (f k j) x:=by
  intro gh' hSS k j q x hq hx hj
  obtain⟨q0,x0,k1,k2,⟨_,e,_⟩|⟨_,rfl⟩⟩:=cell hq hx
  ·omega
  ·exact (h1 k j q0 x k1 k2 hj).mono hSS (fun _ _ _=>rfl) (fun _ _ _ _ h=>h)
 rcases c2 with hvr|⟨e,rfl,hPR,b',cap,C',ty',lo,hi',sz,hvl,hk,he,hb',hC',hr',hl,hh,hS'⟩
 ·refine⟨gh,E[i].val,E,ck,fun _ _ h=>h,Step.refl _ _ _ _ hfresh,Ext.refl _ _ _ hfresh,hW.sLt,hW.kLt,⟨hκ,hS,E,ck,f,hb,hE',keys (fun _ _ h=>h),fun k j q x hq hx hj=>?_⟩,hb,by rw[hEi];rfl,by rw[hval];exact c1,by rw[hval];exact .inl hvr⟩
  obtain⟨q0,x0,k1,k2,⟨rfl,rfl,rfl⟩|⟨_,rfl⟩⟩:=cell hq hx
  ·obtain⟨m1,_,m3⟩:=h2 k j q0 x0 k1 k2 hj
   exact⟨m1,(fun h=>by cases h),.inl m3.dropped⟩
  ·exact h2 k j q0 x k1 k2 hj
 ·have hlt:b' < w.heap.size:=(Array.getElem?_eq_some_iff.1 hb').1
  have st:=give_step hW hlt p m
  rw[hk] at st
  have stn:=give_step hW hlt p n
  rw[hk] at stn
  have hne:b≠b':=by rintro rfl;rw[hκ] at hk;cases hk
  have hn:gh.κ b'≠.none:=by rw[hk];simp
  refine⟨gh.give b' p,E[i].val,E,ck,fun _ _ h=>h,st,give_ext hW hlt hp hn (by rw[hk];simp) m,hW.sLt,?_,⟨by simp[Gh.give,hne,hκ],hS,E,ck,f,hb,hE',keys (fun _ _ h=>h),fun k j q x hq hx hj=>?_⟩,hb,by rw[hEi];rfl,by rw[hval];exact c1,
   by rw[hval];exact .inr ⟨e,rfl,hPR,b',cap,C',ty',lo,hi',sz,hvl,by simp[Gh.give],he,hb',hC',hr',hl,hh,hS'⟩⟩
  ·intro b1 hb1
   have hb2:(if b1=b' then p else gh.κ b1)≠.none:=hb1
   split at hb2
   ·rename_i e;rw[e];exact hW.kLt b' hn
   ·exact hW.kLt b1 hb2
  ·obtain⟨q0,x0,k1,k2,⟨rfl,rfl,rfl⟩|⟨hnot,rfl⟩⟩:=cell hq hx
   ·obtain⟨m1,_,m3⟩:=h2 k j q0 x0 k1 k2 hj
    exact⟨m1,(fun h=>by cases h),.inl ((m3.dropped).mono stn (Nat.le_refl _))⟩
   ·obtain⟨m1,m2,m3⟩:=h2 k j q0 x k1 k2 hj
    refine⟨m1,(fun h=>by cases h),m3.mono stn (Nat.le_refl _) (fun e=>?_)⟩
    injection e with _ e
    subst e
    have hq0:q0=r:=by rw[hi] at k1;injection k1 with k1;exact k1.symm
    subst hq0
    have:=(List.getElem?_eq_some_iff.1 k2).1
    exact hnot ⟨rfl,by omega⟩
theorem run_call_len {o:Oper} {c:Call} {x:Operand} {t:TypeId} (ho:o.op=.call c) (hcal:c.callee=.builtin .len) (hargs:c.args.toList=[x]) (htys:c.argTypes.toList=[t]) {v:Value}
  (hrun:(Builtin.len_ #[t] o.type #[a.eval x]).run P w=.ok v w'):(execOp a.eval o).run P w=.ok (.value v) w':=by
 have e1:c.args=#[x]:=by apply Array.ext';simpa using hargs
 have e2:c.argTypes=#[t]:=by apply Array.ext';simpa using htys
 unfold execOp
 simp only[ho,resolve,hcal,e1,e2,invoke,builtin,Sem.run_bind,Sem.run_pure,Result.andThen_ok,List.map_toArray,List.map_cons,List.map_nil,hrun]
theorem run_len_map {t kt et:TypeId} {o:Oper} {c:Call} {x:Operand} (ho:o.op=.call c) (hcal:c.callee=.builtin .len) (hargs:c.args.toList=[x]) (htys:c.argTypes.toList=[t]) (ht:P.underlying t=some (.map kt et)) {v:Value} {n:Nat}
  (h:(v=.map none∧n=0)∨∃ b E ck,v=.map (some b)∧w.heap[b]?=some (.map E ck)∧E.size=n) (hax:a.eval x=v):(execOp a.eval o).run P w=.ok (.value (.int .i64 n)) w:=by
 refine run_call_len ho hcal hargs htys ?_
 rw[hax]
 rcases h with ⟨rfl,rfl⟩|⟨b,E,ck,rfl,hb,rfl⟩
 ·simp[Builtin.len_,run_underlying ht,goInt]
 ·simp[Builtin.len_,run_underlying ht,goInt,getObj,Sem.run,hb]
theorem map_arg (hW:WRel G base s.H gh w) (hF:FR L nt gh w a s) {x:Operand} {y:IArg} (hc:compArg nt x=some y):(y.addr G s.T=.nilmap→a.eval x=.map none) ∧
  (∀ kz ka va es,y.addr G s.T=.fmap kz ka va es→PR gh.S w (a.eval x) (.fmap kz ka va es))∧∀ l,y.addr G s.T=.mref l→l<s.H.length∧a.eval x=.map (some (gh.ρ l)):=by
 have hm:=arg_val hW hF hc
 refine⟨fun h=>?_,fun kz ka va es h=>?_,fun l h=>?_⟩
 ·rw[h] at hm
  generalize a.eval x=V at hm
  cases (hm:VR gh s.H.length w V .nilmap) with
  | plain _ _ h=>cases h;rfl
 ·rw[h] at hm
  generalize a.eval x=V at hm
  cases (hm:VR gh s.H.length w V (.fmap _ _ _ _)) with
  | plain _ _ h=>exact h
 ·rw[h] at hm
  exact VR.inv_mref hm
theorem ev_mlen (hW:WRel G base s.H gh w) (hF:FR L nt gh w a s) {o:Oper} {c:Call} {x:Operand} {t kt et:TypeId} {y:IArg} {z:AV} {s' : Option AS} {cf:CallF}
  (ho:o.op=.call c) (hcal:c.callee=.builtin .len) (hargs:c.args.toList=[x]) (htys:c.argTypes.toList=[t]) (hc:compArg nt x=some y) (ht:P.underlying t=some (.map kt et))
  (he:evOp G cf s (.mlen y)=some (z,s')):s'=none∧∃ v,(execOp a.eval o).run P w=.ok (.value v) w∧Val gh s.H.length nt w s.T s.gen (tmv a) v z:=by
 obtain⟨m1,m2,m3⟩:=map_arg hW hF hc
 simp only[evOp] at he
 have fin:∀ {v:Value} {n:Nat},((v=.map none∧n=0)∨∃ b E ck,v=.map (some b)∧w.heap[b]?=some (.map E ck)∧E.size=n)→a.eval x=v→∃ u,(execOp a.eval o).run P w=.ok (.value u) w∧Val gh s.H.length nt w s.T s.gen (tmv a) u (.int .i64 n) :=
  fun h hax=>⟨_,run_len_map ho hcal hargs htys ht h hax,.of_VR (.plain _ _ (.int _ _))⟩
 split at he
 ·rename_i hY
  simp only[Option.some.injEq,Prod.mk.injEq] at he
  obtain⟨rfl,rfl⟩:=he
  exact⟨rfl,fin (n:=0) (.inl ⟨rfl,rfl⟩) (m1 hY)⟩
 ·rename_i hY
  simp only[Option.some.injEq,Prod.mk.injEq] at he
  obtain⟨rfl,rfl⟩:=he
  obtain⟨b,E,ck,hv,hb,hR⟩:=rows_of_PR (b:=0) (n:=0) (m2 _ _ _ _ hY)
  exact⟨rfl,fin (.inr ⟨b,E,ck,rfl,hb,hR.size⟩) hv⟩
 ·rename_i l hY
  obtain⟨hlt,hax⟩:=m3 l hY
  split at he
  ·rename_i hH
   simp only[Option.some.injEq,Prod.mk.injEq] at he
   obtain⟨rfl,rfl⟩:=he
   obtain⟨E,ck,hb,hR⟩:=rows_of_At (hW.more _ _ hH).1
   exact⟨rfl,fin (.inr ⟨_,E,ck,rfl,hb,hR.size⟩) hax⟩
  ·rename_i hH
   simp only[Option.some.injEq,Prod.mk.injEq] at he
   obtain⟨rfl,rfl⟩:=he
   obtain⟨b,E,ck,hv,hb,hR⟩:=rows_of_PR (b:=0) (n:=0) (hW.more _ _ hH:PR gh.S w _ _)
   exact⟨rfl,fin (.inr ⟨b,E,ck,rfl,hb,hR.size⟩) (hax.trans hv)⟩
  ·cases he
 ·cases he
theorem ev_lookT (hW:WRel G base s.H gh w) (hF:FR L nt gh w a s) {o:Oper} {t kt et:TypeId} {ks:List CK} {ka:Bool} {vz:Nat} {zv:Value} {zero:List AV} (hT:MapT P t kt et ks ka false vz zv zero) {x i:Operand} {y yi:IArg} {z:AV} {s' : Option AS}
  (ho:o.op=.lookup t x i false) (hc:compArg nt x=some y) (hi:compArg nt i=some yi) (he:evLookT s ks.length ka ks zero (y.addr G s.T) (yi.eval G s.T)=some (z,s')) (hd:∀ k,o.dst=some k→k<nt) :
  ∃ v' gh' w',Ran P a o w v' w'∧Out G base nt L gh w a s o.dst z (s'.getD s) v' gh' w':=by
 obtain⟨_,_,m3⟩:=map_arg hW hF hc
 unfold evLookT at he
 split at he
 ·rename_i l hY
  obtain⟨hlt,hax⟩:=m3 l hY
  split at he
  ·rename_i kz' ka' es hH
   simp only[Option.bind_eq_some_iff] at he
   obtain⟨kc,hkc,he1⟩:=he
   obtain⟨h0,he2⟩:=cond_some he1
   clear he1
   simp only[Bool.and_eq_true,nbeq,decide_eq_true_eq,beq_iff_eq] at h0
   obtain⟨⟨⟨hl,rfl⟩,rfl⟩,hka⟩:=h0
   simp only[Option.bind_eq_some_iff] at he2
   obtain⟨oi,hf,he3⟩:=he2
   have hfr:frameCell (yi.eval G s.T)=true:=by rw[← frameCell_drop];exact frameCell_of_cells hkc
   have hk:=arg_VR hW hF hi rfl hfr
   have hMA:=(hW.more l _ hH).1
   have hall:=(hW.more l _ hH).2
   obtain⟨E,ck,hb,hR⟩:=rows_of_At hMA
   have hch:=run_check hT.key hk hkc hl hka E.isEmpty
   have hfi:=run_find hT.key hk hkc hl hka (l:=E.toList) (by simpa using hR.size) (fun i e r h1 h2=>hR.key i e r (by simpa using h1) h2) hf
   cases oi with
   | none =>
    simp only[Option.some.injEq,Prod.mk.injEq] at he3
    obtain⟨rfl,rfl⟩:=he3
    obtain⟨i0,hi0,hz0⟩:=hT.hz
    have hzr:(zeroValue et).run P w=.ok zv w:=by simp[zeroValue,typeInfo,hi0,hz0]
    have hag:=hT.agg
    have h1:zero.length=1:=by rw[hT.len];exact hT.vz1 rfl
    obtain⟨x0,hx0⟩:=List.length_eq_one_iff.1 h1
    obtain⟨_,hv⟩:=constCells_VR (gh:=gh) (n:=s.H.length) (w:=w) hT.cells
    have hzc:zv.cells=#[zv]:=by cases zv<;>first|rfl|(simp[aggV] at hag)
    have hvr:VR gh s.H.length w zv (zero.headD .undef):=by
     rw[hx0] at hv ⊢
     exact (hv 0 zv x0 (by rw[hzc];rfl) rfl).1
    refine⟨zv,gh,w,.inl ?_,Out.pure hW hF hd (.of_VR hvr)⟩
    simp[execOp,ho,hax,Instr.lookup,run_underlying hT.ht,getObj,Sem.run,hb]
    simp[hch,hfi,hzr]
   | some j =>
    simp only[Option.map_eq_some_iff,Prod.mk.injEq] at he3
    obtain⟨v,hv,rfl,rfl⟩:=he3
    have hjlt:=find_lt hf
    have hej:es[j]?=some es[j]:=List.getElem?_eq_getElem hjlt
    have hgd:es.getD j []=es[j]:=by simp[List.getD,hej]
    rw[hgd] at hv ⊢
    obtain⟨gh',u,E',ck',hSS,st,hE,hs',hk',hM',hb',hu,hone,hCR⟩:=entry_move hW hMA hej hv (slo o.dst) (slo_out _) s.H.length
    have hEE:E'=E:=by
     rw[hb] at hb';injection hb' with hb';injection hb' with e1 _;exact e1.symm
    subst hEE
    have hρ:gh'.ρ l=gh.ρ l:=st.ρ l hlt
    have hall' : ((es.set j (takenAt ks.length es[j])).all fun r=>r.all (heapCell l))=true:=by
     refine List.all_eq_true.2 fun r hr=>?_
     rcases List.mem_or_eq_of_mem_set hr with hr|rfl
     ·exact List.all_eq_true.1 hall r hr
     ·exact takenAt_refs (List.all_eq_true.1 hall _ (List.getElem_mem hjlt))
    have hW' : WRel G base (s.H.set l (.map ks.length ka false (es.set j (takenAt ks.length es[j])))) gh' w :=
     hW.setMore st hlt (by intro k hk;exact⟨by simp,fun j' e=>by injection e with e _;exact hk e⟩) hs' hk' (fun _ _ h=>by cases h) (by rw[hρ];exact⟨hM',hall'⟩) (fun b o _ h=>.inl (hSS b o h))
    have hF' : FR L nt gh' w a (s.chg ⟨s.H.set l (.map ks.length ka false (es.set j (takenAt ks.length es[j]))),l⟩):=hF.grown st (fun i=>⟨by simp,by simp,by simp⟩) (by simp)
    have hjE:E'[j]?=some (E'[j]'(by rw[hR.size];exact hjlt)):=Array.getElem?_eq_getElem _
    have hed:(E'.toList.getD j default).val=u:=by
     have h1:E'.toList[j]?=some (E'[j]'(by rw[hR.size];exact hjlt)):=by rw[Array.getElem?_toList];exact hjE
     rw[hjE] at hu
     injection hu with hu
     simp only[List.getD,h1,Option.getD_some]
     exact hu
    refine⟨u,gh',w,.inl ?_,Out.of (s1:=s.chg ⟨s.H.set l (.map ks.length ka false (es.set j (takenAt ks.length es[j]))),l⟩) (gen':=s.gen) hW' hF' hE (Nat.le_refl _) hd (.inl (genOf_frameCell hCR.frameCell)) (fun k hk=>?_)⟩
    ·simp only[Option.map_some,hed] at hfi
     simp[execOp,ho,hax,Instr.lookup,run_underlying hT.ht,getObj,Sem.run,hb]
     simp[hch,hfi]
    ·rw[hk] at hCR
     have:(s.chg ⟨s.H.set l (.map ks.length ka false (es.set j (takenAt ks.length es[j]))),l⟩).H.length=s.H.length:=by simp[AS.chg]
     rw[this]
     exact sr_of_slot hCR.frameCell hCR
  ·cases he
 ·cases he
end
end Go.Abs
end
section
namespace Go.Abs
open Go.ChangeMaps (setBlock)
set_option linter.unusedSimpArgs false
set_option linter.unusedVariables false
section
variable {P:Program} {G:Nat→List AV} {base nt:Nat} {L:List Nat} {gh:Gh} {w w' : World} {a:Act} {s:AS} {H:AHeap}
theorem ev_rng (hW:WRel G base s.H gh w) (hF:FR L nt gh w a s) {o:Oper} {t kt et:TypeId} {x:Operand} {y:IArg} {kz:Nat} {ka va:Bool} {z:AV} {s' : Option AS} {cf:CallF} (ho:o.op=.range t x) (hc:compArg nt x=some y) (ht:P.underlying t=some (.map kt et))
  (he:evOp G cf s (.rng kz ka va y)=some (z,s')) (hd:∀ k,o.dst=some k→k<nt∧k∈L) :
  ∃ v' gh' w',Ran P a o w v' w'∧Out G base nt L gh w a s o.dst z (s'.getD s) v' gh' w':=by
 obtain⟨m1,m2,_⟩:=map_arg hW hF hc
 have key:∀ (m:Option Nat) (since:Nat) (es:List (List AV)),(execOp a.eval o).run P w=.ok (.value (.pointer (some ⟨w.heap.size,0,none⟩))) (w.alloc (.mapIter m since #[] since)) →
   ((m=none∧es=[])∨∃ m0 E ck f,m=some m0∧gh.S m0 0∧w.heap[m0]?=some (.map E ck)∧EntOK E ck kz ka va es f∧since=ck∧(∀ (i j:Nat) (r:List AV) (x:AV),es[i]?=some r→r[j]?=some x→PR gh.S w (f i j) x)) →
   ∃ v' gh' w',Ran P a o w v' w'∧Out G base nt L gh w a s o.dst (.iter s.gen kz ka va [] es) { s with gen:=s.gen+1 } v' gh' w':=by
  intro m since es hrun hm
  have hp:=Pushed.alloc w (.mapIter m since #[] since)
  have hne:=bxo_out o.dst
  have st:=alloc_step hW hp hne (fun _=>False) s.H.length
  have hF' : FR L nt (gh.alloc w.heap.size (bxo o.dst) fun _=>False) (w.alloc (.mapIter m since #[] since)) a s:=hF.grown (H':=s.H) (lo':=s.lo) st (fun i=>⟨id,id,fun _=>id⟩) (Nat.le_refl _)
  have hW':=hW.alloc hp hne (fun _=>False) (fun _ _ h=>h.elim)
  refine⟨.pointer (some ⟨w.heap.size,0,none⟩),_,_,.inl hrun,hW',hF'.putG (gen':=s.gen+1) (Nat.le_succ _) (fun b hb=>hW'.not_outer b hb) o.dst (fun k hk=>(hd k hk).1) (.inr ⟨⟨s.gen,Nat.le_refl _,rfl⟩,fun k hk=>(hd k hk).2⟩) ?_,alloc_ext hW hp hne _ _⟩
  intro k hk
  refine⟨Nat.lt_succ_self _,w.heap.size,rfl,?_⟩
  rw[hk] at st ⊢
  refine⟨by simp[Gh.alloc,bxo],?_,m,since,#[],since,hp.new,?_⟩
  ·rintro o (ho|⟨_,ho⟩)
   ·have:=hW.sLt _ o ho;omega
   ·exact ho
  ·rcases hm with ⟨rfl,rfl⟩|⟨m0,E,ck,f,rfl,h1,h2,h3,rfl,h4⟩
   ·exact .inl ⟨rfl,rfl,rfl,rfl⟩
   ·refine .inr ⟨m0,E,es,since,f,rfl,st.S _ _ h1,st.mp _ _ _ h1 h2,h3,rfl,rfl,fun i j r x hi hj=>(h4 i j r x hi hj).mono st.S st.cell st.mp,.inl ⟨rfl,rfl⟩,?_⟩
    have:((E.toList.zip es).filter fun p=>!(#[]:Array Nat).contains p.1.born)=E.toList.zip es:=List.filter_eq_self.2 fun p _=>by simp
    rw[this]
    have hz:(E.toList.zip es).map (·.2)=es:=List.map_snd_zip (by have:=h3.size;simp;omega)
    rw[hz]
 simp only[evOp] at he
 split at he
 ·rename_i hY
  simp only[Option.some.injEq,Prod.mk.injEq] at he
  obtain⟨rfl,rfl⟩:=he
  refine key none 0 [] ?_ (.inl ⟨rfl,rfl⟩)
  simp[execOp,ho,m1 hY,Instr.range,run_underlying ht,newObj,Sem.run]
 ·rename_i hY
  obtain⟨h0,he2⟩:=cond_some he
  clear he
  simp only[Bool.and_eq_true,nbeq,decide_eq_true_eq,beq_iff_eq] at h0
  obtain⟨⟨rfl,rfl⟩,rfl⟩:=h0
  simp only[Option.some.injEq,Prod.mk.injEq] at he2
  obtain⟨rfl,rfl⟩:=he2
  have hp:=m2 _ _ _ _ hY
  generalize hA:a.eval x=V at hp
  cases hp with
  | fmap b _ _ _ _ E ck f hS hb hE hrel =>
   refine key (some b) ck _ ?_ (.inr ⟨b,E,ck,f,rfl,hS,hb,hE,rfl,hrel⟩)
   simp[execOp,ho,hA,Instr.range,run_underlying ht,newObj,getObj,Sem.run,hb]
 ·cases he
theorem find_one:∀ (l:List MapEntry) (e:MapEntry),e∈l→(∀ x∈l,x.born=e.born→x=e)→l.find? (fun x=>x.born==e.born)=some e
 | [],e,h,_=>by cases h
 | x :: l,e,h,hu=>by
  rw[List.find?_cons]
  by_cases hx:x.born=e.born
  ·have:=hu x (by simp) hx
   subst this
   simp
  ·have hb:(x.born==e.born)=false:=by simpa using hx
   rw[hb]
   rcases List.mem_cons.1 h with h|h
   ·subst h;exact absurd rfl hx
   ·exact find_one l e h (fun y hy=>hu y (by simp[hy]))
theorem entV_VR {n:Nat} {va:Bool} {m:Nat} {g:Nat→Value} {cs:List AV} (hm:cs.length=m) (h1:va=false→m=1) (h:∀ (j:Nat) (x:AV),cs[j]?=some x→PR gh.S w (g j) x):VR gh n w (mkV va m g) (entV va cs) :=
 mkV_VR hm h1 (fun j x hj=>⟨VR.dropped (.plain _ _ (h j x hj)),(h j x hj).oneCell⟩)
theorem entry_VR {n ck kz i:Nat} {ka va:Bool} {E:Array MapEntry} {es:List (List AV)} {f:Nat→Nat→Value} (hE:EntOK E ck kz ka va es f) (hrel:∀ (i j:Nat) (r:List AV) (x:AV),es[i]?=some r→r[j]?=some x→PR gh.S w (f i j) x)
  {e:MapEntry} {r:List AV} (he:E[i]?=some e) (hr:es[i]?=some r):VR gh n w e.key (entV ka (r.take kz))∧VR gh n w e.val (entV va (r.drop kz)):=by
 obtain⟨k1,k2,k3,k4,k5⟩:=hE.row i e r he hr
 rw[k4,k5]
 refine⟨entV_VR (by simp;omega) k2 (fun j x hj=>?_),entV_VR (by simp) (fun h=>by rw[k3 h];omega) (fun j x hj=>?_)⟩
 ·rw[List.getElem?_take] at hj
  split at hj
  ·exact hrel i j r x hr hj
  ·cases hj
 ·rw[List.getElem?_drop] at hj
  exact hrel i (kz+j) r x hr hj
theorem sr_iter (hF:FR L nt gh w a s) {t g kz:Nat} {ka va:Bool} {cur:List AV} {todo:List (List AV)} (ht:t<nt) (hT:s.T t=.iter g kz ka va cur todo):g<s.gen∧∃ b,tmv a t=.pointer (some ⟨b,0,none⟩)∧IterAt gh w b (.bx t) kz ka va cur todo:=by
 have h:=hF.slot t ht
 rw[hT] at h
 exact h
theorem ev_ent (hW:WRel G base s.H gh w) (hF:FR L nt gh w a s) {o:Oper} {it:Operand} {y:IArg} {z:AV} {s' : Option AS} {cf:CallF} (ho:o.op=.entry it) (hc:compArg nt it=some y) (he:evOp G cf s (.ent y)=some (z,s')) :
  s'=none∧∃ v,(execOp a.eval o).run P w=.ok (.value v) w∧Val gh s.H.length nt w s.T s.gen (tmv a) v z:=by
 cases y with
 | tmp t =>
  obtain⟨rfl,ht⟩:=compArg_tmp hc
  simp only[evOp] at he
  split at he
  ·rename_i g kz ka va cur todo hT
   obtain⟨h0,he⟩:=cond_some he
   simp only[Bool.and_eq_true,Nat.ble_eq,Bool.not_eq_true',List.isEmpty_eq_false_iff] at h0
   simp only[Option.some.injEq,Prod.mk.injEq] at he
   obtain⟨rfl,rfl⟩:=he
   obtain⟨_,b,hb,_,_,m,since,seen,last,hit,hm⟩:=sr_iter hF ht hT
   refine⟨rfl,?_⟩
   rcases hm with ⟨_,_,_,hcur⟩|⟨m0,E,es,ck,f,rfl,hS,hE0,hE,rfl,rfl,hrel,hcur,_⟩
   ·exact absurd hcur h0.2
   ·rcases hcur with ⟨_,hcur⟩|⟨st,i,e,hback,hEi,hbe,hesi⟩
    ·exact absurd hcur h0.2
    ·obtain⟨v1,v2⟩:=entry_VR (n:=s.H.length) hE hrel hEi hesi
     have hmem:e∈E.toList:=by
      have:E.toList[i]?=some e:=by rw[Array.getElem?_toList];exact hEi
      exact List.mem_of_getElem? this
     have hfind:E.find? (fun x=>x.born==e.born)=some e:=by
      rw[← Array.find?_toList]
      refine find_one _ e hmem (fun x hx hxb=>?_)
      obtain⟨j,hj⟩:=List.getElem?_of_mem hx
      rw[Array.getElem?_toList] at hj
      have:=hE.apart j i x e hj hEi hxb
      subst this
      rw[hEi] at hj;injection hj with hj;exact hj.symm
     have hax:a.eval (.tmp t)=.pointer (some ⟨b,0,none⟩):=hb
     refine⟨.tuple #[e.key,e.val],?_,.of_VR (.tuple _ _ rfl (fun j u x hu hx=>?_))⟩
     ·subst hbe
      simp[execOp,ho,hax,Instr.entry,getObj,Sem.run,hit]
      simp[hback,hE0,Sem.run,hfind]
     ·match j with
      | 0=>injection hu with hu;injection hx with hx;subst hu hx;exact v1
      | 1=>injection hu with hu;injection hx with hx;subst hu hx;exact v2
      | j+2=>simp at hx
  ·cases he
 | _=>simp only[evOp] at he;cases he
end
end Go.Abs
end
section
namespace Go.Abs
set_option linter.unusedSimpArgs false
set_option linter.unusedVariables false
section
variable {P:Program} {G:Nat→List AV} {base nt:Nat} {L:List Nat} {gh gh1:Gh} {w w' : World} {a:Act} {s:AS} {H:AHeap}
theorem flat_at {α:Type} {sz:Nat} : ∀ (e:List (List α)) (idx:Nat) (x:α),(∀ r∈e,r.length=sz)→e.flatten[idx]?=some x→∃ i j r,e[i]?=some r∧r[j]?=some x∧idx=i*sz+j
 | [],_,_,_,h=>by simp at h
 | r :: e,idx,x,hr,h=>by
  rw[List.flatten_cons] at h
  by_cases hl:idx<r.length
  ·rw[List.getElem?_append_left hl] at h;exact⟨0,idx,r,rfl,h,by simp⟩
  ·rw[List.getElem?_append_right (by omega)] at h
   obtain⟨i,j,r',h1,h2,h3⟩:=flat_at e _ x (fun r h=>hr r (by simp[h])) h
   have:=hr r (by simp)
   exact⟨i+1,j,r',by simpa using h1,h2,by rw[Nat.add_mul];omega⟩
theorem flat_len {α:Type} {sz:Nat} : ∀ (e:List (List α)),(∀ r∈e,r.length=sz)→e.flatten.length=e.length*sz
 | [],_=>by simp
 | r :: e,hr=>by
  have:=hr r (by simp)
  have ih:=flat_len e (fun r h=>hr r (by simp[h]))
  simp only[List.flatten_cons,List.length_append,List.length_cons,Nat.add_mul];omega
theorem heapCell_le {l m:Nat} {x:AV} (h:heapCell l x=true) (hl:l≤m):heapCell m x=true:=by
 cases x<;>first|exact h|(simp only[heapCell,Nat.ble_eq] at h ⊢;omega)
theorem WRel.arr (hW:WRel G base H gh w) {gh' : Gh} {touch:Owner→Prop} (st:Step touch H.length gh w gh' w') {H' : AHeap} (hlen:H'.length=H.length)
  (hold:∀ (loc:Nat) (o:AObj),H'[loc]?=some o→(H[loc]?=some o∧¬ touch (.hb loc)∧∀ j,¬ touch (.hs loc j))∨o=.dead)
  (hs:∀ b o,gh'.S b o→gh.S b o) (hk:∀ b,gh'.κ b≠.none→base≤b∧b<w'.heap.size) {cs:List AV}
  (hB:BoxAt gh' (H.length+1) w' (gh'.ρ H.length) (.hb H.length) (fun j=>.hs H.length j) cs) (hr:cs.all (heapCell H.length)=true):WRel G base (H'++[.box freeTy cs]) gh' w':=by
 have last:∀ {loc:Nat} {o:AObj},(H'++[AObj.box freeTy cs])[loc]?=some o→(loc<H.length∧H'[loc]?=some o)∨(loc=H.length∧o=.box freeTy cs):=by
  intro loc o hl
  by_cases hlt:loc<H'.length
  ·rw[List.getElem?_append_left hlt] at hl;exact .inl ⟨by omega,hl⟩
  ·rw[List.getElem?_append_right (by omega)] at hl
   have hz:loc=H'.length:=by
    have:=(List.getElem?_eq_some_iff.1 hl).1
    simp at this;omega
   subst hz
   simp at hl
   exact .inr ⟨hlen,hl.symm⟩
 have hln:(H'++[AObj.box freeTy cs]).length=H.length+1:=by simp[hlen]
 refine⟨Nat.le_trans hW.size st.size,fun b o ho=>Nat.lt_of_lt_of_le (hW.sLt b o (hs b o ho)) st.size,hk,fun g j x hx=>?_,fun loc ty ds hl=>?_,fun loc ty ds hl=>?_,fun g hg=>(hW.tabs g hg).imp fun ty h=>st.len g ty _ h,hW.bytes_step st (fun b o m h=>.inl (hs b o h)),fun loc o hl=>?_,fun loc ty ds hl hf=>?_⟩
 ·obtain⟨v,h1,h2,h3⟩:=hW.glob g j x hx
  exact⟨v,(st.cell g j h3).trans h1,h2.mono st.S st.cell st.mp,st.S g j h3⟩
 ·rw[hln]
  rcases last hl with ⟨hlt,hl⟩|⟨rfl,ho⟩
  ·rcases hold loc _ hl with ⟨h0,h1,h2⟩|h0
   ·rw[st.ρ loc hlt];exact (hW.boxes loc ty ds h0).mono st (Nat.le_succ _) h1 h2
   ·cases h0
  ·injection ho with e1 e2
   subst e1 e2
   exact hB
 ·rcases last hl with ⟨hlt,hl⟩|⟨rfl,ho⟩
  ·rcases hold loc _ hl with ⟨h0,_⟩|h0
   ·exact hW.refs loc ty ds h0
   ·cases h0
  ·injection ho with e1 e2
   subst e1 e2
   exact hr
 ·rw[hln]
  rcases last hl with ⟨hlt,hl⟩|⟨rfl,rfl⟩
  ·rcases hold loc _ hl with ⟨h0,h1,h2⟩|rfl
   ·rw[st.ρ loc hlt];exact (hW.more loc o h0).mono st (Nat.le_succ _) h1 h2
   ·trivial
  ·trivial
 ·rcases last hl with ⟨hlt,hl⟩|⟨rfl,ho⟩
  ·rcases hold loc _ hl with ⟨h0,_⟩|h0
   ·rw[st.ρ loc hlt];exact st.len _ _ _ (hW.types loc ty ds h0 hf)
   ·cases h0
  ·injection ho with e1 e2
   exact absurd e1 hf
def Gh.rename (gh:Gh) (l n b:Nat):Gh where
 S:=gh.S
 κ:=fun x=>match gh.κ x with
  | .hb i=>if i=l then .hb n else .hb i
  | .hs i j=>if i=l then .hs n j else .hs i j
  | k=>k
 ρ:=fun i=>if i=n then b else gh.ρ i
theorem rename_κ {l n b x:Nat} (h:gh.κ x≠.hb l∧∀ j,gh.κ x≠.hs l j):(gh.rename l n b).κ x=gh.κ x:=by
 simp only[Gh.rename]
 generalize gh.κ x=k at h
 cases k with
 | hb i=>simp only;rw[if_neg (fun e=>h.1 (by rw[e]))]
 | hs i j=>simp only;rw[if_neg (fun e=>h.2 j (by rw[e]))]
 | _=>rfl
theorem rename_none {l n b x:Nat} : (gh.rename l n b).κ x=.none↔gh.κ x=.none:=by
 simp only[Gh.rename]
 generalize gh.κ x=k
 cases k with
 | hb i=>simp only;split<;>simp
 | hs i j=>simp only;split<;>simp
 | _=>simp
theorem rename_outer {l n b x:Nat} : (gh.rename l n b).κ x=.outer↔gh.κ x=.outer:=by
 simp only[Gh.rename]
 generalize gh.κ x=k
 cases k with
 | hb i=>simp only;split<;>simp
 | hs i j=>simp only;split<;>simp
 | _=>simp
def touchObj (l:Nat) (r:Owner):Prop:=r=.hb l∨∃ j,r=.hs l j
theorem Step.renamed {touch:Owner→Prop} {m l n b:Nat} (st:Step touch m gh w gh1 w') (hn:m≤n) (ht:∀ r,touch r→touchObj l r):Step (touchObj l) m gh w (gh1.rename l n b) w':=by
 refine⟨st.S,st.cell,st.size,st.os,st.tape,st.output,fun x hx hno=>?_,fun x hx=>?_,fun loc hl=>?_,st.len,st.mp⟩
 ·obtain⟨k1,k2,k3⟩:=st.blk x hx (fun h=>hno (ht _ h))
  refine⟨k1,?_,k3⟩
  rw[rename_κ (by rw[k2];exact⟨fun h=>hno (.inl h),fun j h=>hno (.inr ⟨j,h⟩)⟩),k2]
 ·intro h
  exact st.fresh x hx (rename_outer.1 h)
 ·show (if loc=n then _ else _)=_
  rw[if_neg (by omega)]
  exact st.ρ loc hl
theorem CR.rename {m m' l n b j:Nat} {v:Value} {x:AV} (h:CR gh m w (.hs l j) v x) (hf:∀ b,w.heap.size≤b→gh.κ b≠.outer) (hm:m≤n) (hm' : m≤m'):CR (gh.rename l n b) m' w (.hs n j) v x:=by
 have st:Step (touchObj l) m gh w (gh.rename l n b) w:=Step.renamed (touch:=fun _=>False) (Step.refl _ _ _ _ hf) hm (fun _ h=>h.elim)
 rcases h with h|⟨e,rfl,h1,b',cap,C,ty,lo,hi,sz,hv,hk,he,hb,hC,hr,hl,hh,hS⟩
 ·exact .inl (h.mono st hm')
 ·exact .inr ⟨e,rfl,h1,b',cap,C,ty,lo,hi,sz,hv,by simp[Gh.rename,hk],he,hb,hC,hr,hl,hh,hS⟩
theorem touchObj_frame (l:Nat) (i:Nat):¬ touchObj l (.bx i)∧¬ touchObj l (.sl i)∧∀ j,¬ touchObj l (.sc i j):=by
 refine⟨?_,?_,fun j=>?_⟩<;>(rintro (h|⟨_,h⟩)<;>cases h)
theorem touchObj_any (l:Nat) (r:Owner) (h:touchObj l r):touchAny r:=by
 rcases h with rfl|⟨j,rfl⟩<;>exact⟨by simp,by simp⟩
theorem Out.arr (hF:FR L nt gh w a s) {d:Option Nat} (hd:∀ k,d=some k→k<nt) {gh' : Gh} {l:Nat} (st:Step (touchObj l) s.H.length gh w gh' w') (ho:∀ b,gh'.κ b=.outer→gh.κ b=.outer) {H' : AHeap} {lo k cap z:Nat} (hlen:H'.length=s.H.length) {cs:List AV}
  (hW:WRel G base (H'++[.box freeTy cs]) gh' w') (hk:k≤cap) (hz:∃ ty,BlkLen w' (gh'.ρ s.H.length) ty (0+cap*z)) :
  Out G base nt L gh w a s d (.sref s.H.length 0 k z) (s.chg ⟨H'++[.box freeTy cs],lo⟩) (.slice (some ⟨gh'.ρ s.H.length,0,none⟩) k cap) gh' w':=by
 have hv:VR gh' (H'++[AObj.box freeTy cs]).length w' (.slice (some ⟨gh'.ρ s.H.length,0,none⟩) k cap) (.sref s.H.length 0 k z):=.sref _ 0 k cap z (by simp[hlen]) hk (fun _=>hz)
 exact⟨hW,hF.put st (touchObj_frame l) (by simp[hlen]) d hd (.of_VR hv),⟨st.mono (touchObj_any l),ho⟩⟩
theorem flat_rows {sz:Nat} {A:Array Value} {E:List (List AV)} {S:Nat→Nat→Prop} (h:RowsP S w sz A E) {j:Nat} {x:AV} (hx:E.flatten[j]?=some x):∃ v,A[j]?=some v∧PR S w v x:=by
 obtain⟨i,k,r,h1,h2,rfl⟩:=flat_at E j x (fun r hm=>by obtain⟨i,hi⟩:=List.getElem?_of_mem hm;exact h.2.1 i r hi) hx
 exact h.2.2 i k r x h1 h2
theorem nil_shape {n:Nat} {p:Owner} {V:Value} (h:CR gh n w p V (.slice [] true)):∃ ao,V=.slice ao 0 0:=by
 rcases h with h|⟨e',heq,_,b,cap,C,ty,lo,hi,sz',hval,hk,hne,_⟩
 ·cases h with
  | plain _ _ h=>cases h
  | full ao k _ h hz =>
   cases h with
   | sliceNil=>exact⟨none,rfl⟩
   | slice b o _ _ sz' _ _ hn=>simp at hn;subst hn;exact⟨_,rfl⟩
 ·injection heq with h1;subst h1;exact absurd rfl hne
theorem src_nil {t e:TypeId} {sz:Nat} (ht:P.underlying t=some (.slice e)) (ao:Option Addr):Src P sz t (.slice ao 0 0) 0 [] w:=by
 refine⟨.inl ⟨_,ht⟩,fun _=>rfl,?_,?_,by simp,fun _ h=>by cases h⟩
 ·cases ao with
  | none=>exact run_firstCells_none w _ 0 0 0
  | some ad=>exact run_firstCells_some w _ 0 ad 0 0 [] (by simp) (fun j v h=>by simp at h)
 ·cases ao with
  | none=>exact run_firstCells_none w.drew _ 0 0 0
  | some ad=>exact run_firstCells_some w.drew _ 0 ad 0 0 [] (by simp) (fun j v h=>by simp at h)
theorem plainRows_all {f:List (List AV)} (h:plainRows f=true) {x:AV} (hx:x∈f.flatten):x.plain=true:=by
 obtain⟨r,hr,hx⟩:=List.mem_flatten.1 hx
 exact List.all_eq_true.1 (List.all_eq_true.1 h r hr) x hx
theorem heap_of_plain {x:AV} (h:x.plain=true) (n:Nat):heapCell n x=true:=by
 cases x<;>first|exact h|(simp[AV.plain] at h;done)|(simp only[heapCell,AV.drop];exact h)|(simp[heapCell,AV.drop,AV.plain] at h ⊢)
theorem ev_appendO (hW:WRel G base s.H gh w) (hF:FR L nt gh w a s) {o:Oper} {c:Call} {x y:Operand} {t u e:TypeId} {sz bytes:Nat} {yx yy:IArg} {z:AV} {s' : Option AS}
  (ho:o.op=.call c) (hcal:c.callee=.builtin .append) (hargs:c.args.toList=[x,y]) (htys:c.argTypes.toList=[t,u]) (hT:ElemT P t e sz bytes) (hu:(∃ e',P.underlying u=some (.slice e'))∨P.underlying u=some .string)
  (hcx:compArg nt x=some yx) (hcy:compArg nt y=some yy) (he:evAppendO s sz bytes (yx.addr G s.T) (yy.eval G s.T)=some (z,s')) (hd:∀ k,o.dst=some k→k<nt) :
  ∃ v' gh' w',Ran P a o w v' w'∧Out G base nt L gh w a s o.dst z (s'.getD s) v' gh' w':=by
 have hfresh:=fun b hb=>hW.not_outer (gh:=gh) b hb
 simp only[evAppendO,Option.bind_eq_some_iff] at he
 obtain⟨f,hf,he⟩:=he
 obtain⟨i,zv,hi,_,rfl,_⟩:=hT.hi
 have fresh:∀ ao,a.eval x=.slice ao 0 0→cond (!f.isEmpty&&fitsRows i.size bytes [] f&&plainRows f) (some (AV.sref s.H.length 0 f.length i.size,some (s.chg ⟨s.H++[.box freeTy f.flatten],s.H.length⟩))) none=some (z,s') →
   ∃ v' gh' w',Ran P a o w v' w'∧Out G base nt L gh w a s o.dst z (s'.getD s) v' gh' w':=by
  intro ao hV he
  obtain⟨h0,he⟩:=cond_some he
  simp only[Option.some.injEq,Prod.mk.injEq] at he
  obtain⟨rfl,rfl⟩:=he
  simp only[Bool.and_eq_true,fitsRows,Nat.ble_eq,List.length_nil,Nat.zero_add,Bool.not_eq_true',List.isEmpty_eq_false_iff] at h0
  obtain⟨⟨hne,⟨⟨hb1,hb2⟩,_⟩,hh⟩,hpl⟩:=h0
  obtain⟨news,hs,hrows⟩:=src_arg (P:=P) hW hF hcy hf hh hu
  have hflen:0<f.length:=List.length_pos_iff.2 hne
  obtain⟨cap',C',hrun,hcap,hC',hpre⟩:=grow (P:=P) (ty:=o.type) (ao:=ao) (sLen:=0) (sCap:=0) hT (src_nil (w:=w) hT.ht ao).cellsD (by simp) hs (by omega) (by omega) (by simpa using hb1)
  have hp' : Pushed w (w.drew.alloc (.cells C' e)) (.cells C' e):=.drew w _
  have st0:=pushBox_step hW hp'
  have st:Step (touchObj s.H.length) s.H.length gh w (gh.pushBox w.heap.size s.H.length) (w.drew.alloc (.cells C' e)):=st0.mono (fun _ h=>h.elim)
  have hρ:(gh.pushBox w.heap.size s.H.length).ρ s.H.length=w.heap.size:=by simp[Gh.pushBox]
  have hflat:f.flatten.length≤C'.size:=by
   have h1:f.flatten.length=f.length*i.size:=flat_len f (fun r hm=>by obtain⟨k,hk⟩:=List.getElem?_of_mem hm;exact hrows.2.1 k r hk)
   rw[h1,hC']
   exact Nat.mul_le_mul_right _ (by omega)
  have hB:BoxAt (gh.pushBox w.heap.size s.H.length) (s.H.length+1) (w.drew.alloc (.cells C' e)) ((gh.pushBox w.heap.size s.H.length).ρ s.H.length) (.hb s.H.length) (fun j=>.hs s.H.length j) f.flatten:=by
   rw[hρ]
   refine⟨by simp[Gh.pushBox,Gh.alloc],?_,C',e,hp'.new,hflat,fun j v x hv hx=>?_⟩
   ·rintro o (ho|⟨_,ho⟩)
    ·have:=hW.sLt _ o ho;omega
    ·exact ho
   ·obtain⟨v',hv',hp⟩:=flat_rows hrows hx
    have hlt:=(Array.getElem?_eq_some_iff.1 hv').1
    rw[hpre j (by simpa using hlt)] at hv
    simp only[List.nil_append] at hv
    rw[hv'] at hv
    injection hv with hv
    subst hv
    exact⟨hp.oneCell,.inl (.plain _ _ (hp.mono st.S st.cell st.mp))⟩
  have hr:f.flatten.all (heapCell s.H.length)=true:=List.all_eq_true.2 fun x hx=>heap_of_plain (plainRows_all hpl hx) _
  have hW':=hW.arr st0 (H':=s.H) rfl (fun loc o h=>.inl ⟨h,id,fun _=>id⟩) (fun b o h=>h.elim id (fun h=>h.2.elim)) (fun b hb=>by
   rw[hp'.size]
   have hb' : (if b=w.heap.size then Owner.hb s.H.length else gh.κ b)≠.none:=hb
   split at hb'
   ·have:=hW.size;omega
   ·have:=hW.kLt b hb';omega) hB hr
  refine⟨_,gh.pushBox w.heap.size s.H.length,w.drew.alloc (.cells C' e),.inl (run_call_append ho hcal hargs htys (by rw[hV];exact hrun)),?_⟩
  have:=Out.arr (lo:=s.H.length) (k:=0+f.length) (cap:=cap') (z:=i.size) hF hd st (fun b hb=>(pushBox_ext hW hp').out b hb) rfl hW' hcap ⟨e,by rw[hρ];exact⟨C',(0,0),hp'.new,by rw[hC',Nat.zero_add]⟩⟩
  rw[hρ,Nat.zero_add] at this
  rw[Nat.zero_add]
  exact this
 split at he
 ·rename_i hx
  have hCR:∃ p,CR gh s.H.length w p (a.eval x) (.slice [] true):=by
   cases yx with
   | tmp t0 =>
    obtain⟨rfl,ht⟩:=compArg_tmp hcx
    have hT0:s.T t0=.slice [] true:=by
     simp only[IArg.addr] at hx
     split at hx<;>first|cases hx|exact hx
    exact⟨_,arg_own hF ht hT0⟩
   | con v =>
    simp only[IArg.addr] at hx
    subst hx
    cases x with
    | tmp k =>
     simp only[compArg] at hcx
     rcases Bool.eq_false_or_eq_true (Nat.blt k nt) with hb|hb<;>rw[hb] at hcx<;>simp at hcx
    | const u =>
     simp only[compArg,Option.map_eq_some_iff] at hcx
     obtain⟨zz,hz,h⟩:=hcx
     injection h with h
     subst h
     exact⟨.none,.inl (const_VR hz)⟩
    | global g=>simp[compArg] at hcx
    | func f=>simp[compArg] at hcx
   | glob g=>simp[IArg.addr] at hx
   | fn f=>simp[IArg.addr] at hx
  obtain⟨_,hCR⟩:=hCR
  obtain⟨ao,hV⟩:=nil_shape hCR
  exact fresh ao hV he
 ·rename_i hx
  exact fresh none (arg_VR' hW hF hcx hx rfl).inv_nilsl he
 ·rename_i l of n zz hx
  split at he
  ·rename_i ty cs hH
   obtain⟨h0,he⟩:=cond_some he
   simp only[Option.some.injEq,Prod.mk.injEq] at he
   obtain⟨rfl,rfl⟩:=he
   simp only[Bool.and_eq_true,nbeq,decide_eq_true_eq,Nat.ble_eq] at h0
   obtain⟨⟨⟨⟨⟨⟨rfl,rfl⟩,hcs⟩,hb1⟩,hb2⟩,hh⟩,hpl⟩:=h0
   obtain⟨news,hs,hrows⟩:=src_arg (P:=P) hW hF hcy hf hh hu
   obtain⟨hlt,cap,hncap,hzB,hV⟩:=VR.inv_sref (arg_VR' hW hF hcx hx rfl)
   obtain⟨tyb,Cb,frb,hbb,hCb⟩:=hzB (by have:=hT.pos;omega)
   obtain⟨hκ,hS,C,ty1,hb,hle,hcell⟩:=hW.boxes l ty cs hH
   rw[hb] at hbb
   injection hbb with hbb
   injection hbb with e1 e2 e3
   subst e1 e2 e3
   rw[Nat.zero_add] at hCb
   have holen:(C.toList.take (n*i.size)).length=n*i.size:=by simp;omega
   have hold:∀ {j:Nat} {x:AV},cs[j]?=some x→∃ v,C[j]?=some v∧v.oneCell'=true∧CR gh s.H.length w (.hs l j) v x:=by
    intro j x hj
    have h1:=(List.getElem?_eq_some_iff.1 hj).1
    have hv:C[j]?=some C[j]:=Array.getElem?_eq_getElem (by omega)
    obtain⟨k1,k2⟩:=hcell j _ x hv hj
    exact⟨_,hv,k1,k2⟩
   have hone:∀ v∈C.toList.take (n*i.size),v.oneCell'=true:=by
    intro v hv
    obtain⟨j,hj⟩:=List.getElem?_of_mem hv
    have h1:j<n*i.size:=by rw[← holen];exact (List.getElem?_eq_some_iff.1 hj).1
    rw[List.getElem?_take,if_pos h1] at hj
    obtain⟨v',k1,k2,_⟩:=hold (List.getElem?_eq_getElem (show j<cs.length by omega))
    rw[Array.getElem?_toList,k1] at hj
    injection hj with hj
    subst hj
    exact k2
   have hsV:Src P i.size t (.slice (some ⟨gh.ρ l,0,none⟩) n cap) n (C.toList.take (n*i.size)) w:=.ofSlice w hT.ht ⟨gh.ρ l,0,none⟩ n cap _ holen (fun j u hj=>by
    rw[addr_add,Nat.zero_add,cell_of_row w _ j C ty1 _ hb]
    rw[List.getElem?_take] at hj
    split at hj
    ·simpa using hj
    ·cases hj) hone
   have hnl:news.length=f.length*i.size:=hs.newsLen
   have hfl:f.flatten.length=f.length*i.size:=flat_len f (fun r hm=>by obtain⟨k,hk⟩:=List.getElem?_of_mem hm;exact hrows.2.1 k r hk)
   have hrefs:(cs++f.flatten).all (heapCell s.H.length)=true:=by
    rw[List.all_append,Bool.and_eq_true]
    refine⟨List.all_eq_true.2 fun x hx=>?_,List.all_eq_true.2 fun x hx=>heap_of_plain (plainRows_all hpl hx) _⟩
    exact heapCell_le (List.all_eq_true.1 (hW.refs l ty cs hH) x hx) (by omega)
   have hdead:∀ {touch:Owner→Prop},(∀ r,touch r→touchObj l r)→∀ (loc:Nat) (o:AObj),(s.H.set l .dead)[loc]?=some o→(s.H[loc]?=some o∧¬ touch (.hb loc)∧∀ j,¬ touch (.hs loc j))∨o=.dead:=by
    intro touch ht loc o h
    rw[List.getElem?_set] at h
    split at h
    ·injection h with h;exact .inr h.symm
    ·rename_i hne
     refine .inl ⟨h,fun k=>?_,fun j k=>?_⟩
     ·rcases ht _ k with k|⟨_,k⟩
      ·injection k with k;exact hne k.symm
      ·cases k
     ·rcases ht _ k with k|⟨_,k⟩
      ·cases k
      ·injection k with k;exact hne k.symm
   by_cases hgr:cap<n+f.length
   ·
    obtain⟨cap',C',hrun,hcap,hC',hpre⟩:=grow (P:=P) (ty:=o.type) hT hsV.cellsD holen hs hgr hb2 hb1
    have hp' : Pushed w (w.drew.alloc (.cells C' e)) (.cells C' e):=.drew w _
    have st0:=alloc_step hW hp' (p:=.hb l) (by simp) (fun _=>False) s.H.length
    have st:=st0.renamed (n:=s.H.length) (b:=w.heap.size) (l:=l) (Nat.le_refl _) (fun _ h=>h.elim)
    have hρ:((gh.alloc w.heap.size (.hb l) fun _=>False).rename l s.H.length w.heap.size).ρ s.H.length=w.heap.size:=by simp[Gh.rename]
    have hfr' : ∀ b,(w.drew.alloc (.cells C' e)).heap.size≤b→(gh.alloc w.heap.size (.hb l) fun _=>False).κ b≠.outer:=fun b hb=>by
     have hb0:=hp'.size ▸ hb
     show (if b=w.heap.size then Owner.hb l else gh.κ b)≠_
     rw[if_neg (by omega)]
     exact hW.not_outer b (by omega)
    have hB:BoxAt ((gh.alloc w.heap.size (.hb l) fun _=>False).rename l s.H.length w.heap.size) (s.H.length+1) (w.drew.alloc (.cells C' e)) (((gh.alloc w.heap.size (.hb l) fun _=>False).rename l s.H.length w.heap.size).ρ s.H.length) (.hb s.H.length) (fun j=>.hs s.H.length j) (cs++f.flatten):=by
     rw[hρ]
     refine⟨by simp[Gh.rename,Gh.alloc],?_,C',e,hp'.new,?_,fun j v x hv hx=>?_⟩
     ·rintro o (ho|⟨_,ho⟩)
      ·have:=hW.sLt _ o ho;omega
      ·exact ho
     ·rw[List.length_append,hcs,hfl,hC',← Nat.add_mul]
      exact Nat.mul_le_mul_right _ hcap
     ·have hj:j<(C.toList.take (n*i.size)++news).toArray.size:=by
       have:=(List.getElem?_eq_some_iff.1 hx).1
       rw[List.length_append,hcs,hfl] at this
       simp only[List.size_toArray,List.length_append,holen,hnl];exact this
      rw[hpre j hj] at hv
      simp only[List.getElem?_toArray,List.getElem?_append,holen] at hv
      rw[List.getElem?_append,hcs] at hx
      split at hv
      ·rename_i h1
       rw[if_pos h1] at hx
       obtain⟨v',k1,k2,k3⟩:=hold hx
       rw[List.getElem?_take,if_pos h1,Array.getElem?_toList,k1] at hv
       injection hv with hv
       subst hv
       exact⟨k2,(k3.mono st0 (Nat.le_refl _) id).rename hfr' (Nat.le_refl _) (Nat.le_succ _)⟩
      ·rename_i h1
       rw[if_neg h1] at hx
       obtain⟨v',k1,k2⟩:=flat_rows hrows hx
       simp only[List.getElem?_toArray] at k1
       rw[k1] at hv
       injection hv with hv
       subst hv
       exact⟨k2.oneCell,.inl (.plain _ _ (k2.mono st.S st.cell st.mp))⟩
    have hW':=hW.arr st (H':=s.H.set l .dead) (by simp) (hdead (fun _ h=>h)) (fun b o h=>h.elim id (fun h=>h.2.elim)) (fun b hb=>by
     rw[hp'.size]
     have hb1:(gh.alloc w.heap.size (.hb l) fun _=>False).κ b≠.none:=fun h=>hb (rename_none.2 h)
     have hb' : (if b=w.heap.size then Owner.hb l else gh.κ b)≠.none:=hb1
     split at hb'
     ·have:=hW.size;omega
     ·have:=hW.kLt b hb';omega) hB hrefs
    refine⟨_,(gh.alloc w.heap.size (.hb l) fun _=>False).rename l s.H.length w.heap.size,w.drew.alloc (.cells C' e),.inl (run_call_append ho hcal hargs htys (by rw[hV];exact hrun)),?_⟩
    have:=Out.arr (lo:=l) (k:=n+f.length) (cap:=cap') (z:=i.size) hF hd st (fun b hb=>by
     have hb1:=rename_outer.1 hb
     have hb' : (if b=w.heap.size then Owner.hb l else gh.κ b)=.outer:=hb1
     split at hb'
     ·cases hb'
     ·exact hb') (by simp) hW' hcap ⟨e,by rw[hρ];exact⟨C',(0,0),hp'.new,by rw[hC',Nat.zero_add]⟩⟩
    rw[hρ] at this
    exact this
   ·
    have hroom:n+f.length≤cap:=by omega
    have hfit:n*i.size+news.length≤C.size:=by rw[hnl,hCb,← Nat.add_mul];exact Nat.mul_le_mul_right _ hroom
    have hrun:=room (P:=P) (ty:=o.type) hT hs hb (Nat.zero_le _) hroom hfit
    have hfit' : n*i.size+news.toArray.size≤C.size:=by simpa using hfit
    have hno:∀ o,gh.S (gh.ρ l) o→(rowPut C (n*i.size) news.toArray)[o]?=C[o]?:=fun o ho=>(hS o ho).elim
    have st0:=row_step0 hW hb (rowPut_size hfit') hno s.H.length
    rw[hκ] at st0
    have st:=st0.renamed (n:=s.H.length) (b:=gh.ρ l) (l:=l) (Nat.le_refl _) (fun r h=>.inl h)
    have hρ:(gh.rename l s.H.length (gh.ρ l)).ρ s.H.length=gh.ρ l:=by simp[Gh.rename]
    have hsz:(w.setRow (gh.ρ l) (rowPut C (n*i.size) news.toArray)).heap.size=w.heap.size:=by simp
    have hblt:gh.ρ l<w.heap.size:=(Array.getElem?_eq_some_iff.1 hb).1
    have hfr' : ∀ b,(w.setRow (gh.ρ l) (rowPut C (n*i.size) news.toArray)).heap.size≤b→gh.κ b≠.outer:=fun b hb=>hW.not_outer b (by rw[hsz] at hb;exact hb)
    have hB:BoxAt (gh.rename l s.H.length (gh.ρ l)) (s.H.length+1) (w.setRow (gh.ρ l) (rowPut C (n*i.size) news.toArray)) ((gh.rename l s.H.length (gh.ρ l)).ρ s.H.length) (.hb s.H.length) (fun j=>.hs s.H.length j) (cs++f.flatten):=by
     rw[hρ]
     refine⟨by simp[Gh.rename,hκ],hS,_,ty1,setRow_heap w _ C _ ty1 _ hb,?_,fun j v x hv hx=>?_⟩
     ·rw[List.length_append,hcs,hfl,rowPut_size hfit',hCb,← Nat.add_mul]
      exact Nat.mul_le_mul_right _ hroom
     ·rw[rowPut_get hfit'] at hv
      have hjl:=(List.getElem?_eq_some_iff.1 hx).1
      rw[List.length_append,hcs,hfl] at hjl
      rw[List.getElem?_append,hcs] at hx
      simp only[List.size_toArray] at hv
      split at hx
      ·rename_i h1
       rw[if_neg (by omega)] at hv
       obtain⟨v',k1,k2,k3⟩:=hold hx
       rw[k1] at hv
       injection hv with hv
       subst hv
       exact⟨k2,(k3.mono st0 (Nat.le_refl _) (by simp)).rename hfr' (Nat.le_refl _) (Nat.le_succ _)⟩
      ·rename_i h1
       rw[if_pos (by omega)] at hv
       obtain⟨v',k1,k2⟩:=flat_rows hrows hx
       rw[k1] at hv
       injection hv with hv
       subst hv
       exact⟨k2.oneCell,.inl (.plain _ _ (k2.mono st.S st.cell st.mp))⟩
    have hW':=hW.arr st (H':=s.H.set l .dead) (by simp) (hdead (fun _ h=>h)) (fun b o h=>h) (fun b hb=>by
     rw[hsz]
     exact hW.kLt b (fun h=>hb (rename_none.2 h))) hB hrefs
    refine⟨_,gh.rename l s.H.length (gh.ρ l),w.setRow (gh.ρ l) (rowPut C (n*i.size) news.toArray),.inl (run_call_append ho hcal hargs htys (by rw[hV];exact hrun)),?_⟩
    have:=Out.arr (lo:=l) (k:=n+f.length) (cap:=cap) (z:=i.size) hF hd st (fun b hb=>rename_outer.1 hb) (by simp) hW' hroom ⟨ty1,by rw[hρ];exact⟨_,(0,0),setRow_heap w _ C _ ty1 _ hb,by rw[rowPut_size hfit',hCb,Nat.zero_add]⟩⟩
    rw[hρ] at this
    exact this
  ·cases he
 ·cases he
theorem ev_mksliceO (hW:WRel G base s.H gh w) (hF:FR L nt gh w a s) {o:Oper} {t e:TypeId} {len sz:Nat} {parts:Array (Nat × Operand)} {z:List AV} {E:List (List AV)} {ps:List (Nat × IArg)}
  (ho:o.op=.buildSlice t len parts) (hu:P.underlying t=some (.slice e)) (hs:sizeT P e=some sz) (hz:zeroT P e=some z) (hp:compElems nt parts.toList=some ps)
  (hsmall:len*sz≤16777216) (hzl:z.length=sz) (hpos:0<sz) (hpl:plainRows E=true)
  (he:sliceParts sz (List.replicate len (z.map AV.drop)) (ps.map fun p=>(p.1,(p.2.eval G s.T).drop))=some E) (hd:∀ k,o.dst=some k→k<nt) :
  ∃ v' gh' w',Ran P a o w v' w'∧Out G base nt L gh w a s o.dst (.sref s.H.length 0 E.length sz) (s.chg ⟨s.H++[.box freeTy E.flatten],s.H.length⟩) v' gh' w':=by
 obtain⟨C',hrun,hrows,hlenE⟩:=mkslice_run (P:=P) hW hF hu hs hz hp hsmall hzl hpos he
 have hp':=Pushed.alloc w (.cells C' e)
 have st0:=pushBox_step hW hp'
 have st:Step (touchObj s.H.length) s.H.length gh w (gh.pushBox w.heap.size s.H.length) (w.alloc (.cells C' e)):=st0.mono (fun _ h=>h.elim)
 have hρ:(gh.pushBox w.heap.size s.H.length).ρ s.H.length=w.heap.size:=by simp[Gh.pushBox]
 have hfl:E.flatten.length=E.length*sz:=flat_len E (fun r hm=>by obtain⟨k,hk⟩:=List.getElem?_of_mem hm;exact hrows.2.1 k r hk)
 have hB:BoxAt (gh.pushBox w.heap.size s.H.length) (s.H.length+1) (w.alloc (.cells C' e)) ((gh.pushBox w.heap.size s.H.length).ρ s.H.length) (.hb s.H.length) (fun j=>.hs s.H.length j) E.flatten:=by
  rw[hρ]
  refine⟨by simp[Gh.pushBox,Gh.alloc],?_,C',e,hp'.new,by rw[hfl,hrows.1];exact Nat.le_refl _,fun j v x hv hx=>?_⟩
  ·rintro o (ho|⟨_,ho⟩)
   ·have:=hW.sLt _ o ho;omega
   ·exact ho
  ·obtain⟨v',hv',hp⟩:=flat_rows hrows hx
   rw[hv'] at hv
   injection hv with hv
   subst hv
   exact⟨hp.oneCell,.inl (.plain _ _ (hp.mono st.S st.cell st.mp))⟩
 have hr:E.flatten.all (heapCell s.H.length)=true:=List.all_eq_true.2 fun x hx=>heap_of_plain (plainRows_all hpl hx) _
 have hW':=hW.arr st0 (H':=s.H) rfl (fun loc o h=>.inl ⟨h,id,fun _=>id⟩) (fun b o h=>h.elim id (fun h=>h.2.elim)) (fun b hb=>by
  rw[hp'.size]
  have hb' : (if b=w.heap.size then Owner.hb s.H.length else gh.κ b)≠.none:=hb
  split at hb'
  ·have:=hW.size;omega
  ·have:=hW.kLt b hb';omega) hB hr
 refine⟨.slice (some ⟨w.heap.size,0,none⟩) len len,gh.pushBox w.heap.size s.H.length,w.alloc (.cells C' e),.inl ?_,?_⟩
 ·have:(parts.map fun x=>(x.1,a.eval x.2))=parts.map fun p=>(p.1,a.eval p.2):=rfl
  simp[execOp,ho,hrun]
 ·have:=Out.arr (lo:=s.H.length) (k:=E.length) (cap:=len) (z:=sz) hF hd st (fun b hb=>(pushBox_ext hW hp').out b hb) rfl hW' (Nat.le_of_eq hlenE) ⟨e,by rw[hρ];exact⟨_,(0,0),hp'.new,by rw[hrows.1,hlenE,Nat.zero_add]⟩⟩
  rw[hρ,← hlenE] at this
  rw[← hlenE]
  exact this
theorem ev_mkarr (hW:WRel G base s.H gh w) (hF:FR L nt gh w a s) {o:Oper} {t e:TypeId} {i:TypeInfo} {zv:Value} {zero:List AV} {x y:Operand} {yx:IArg} {z:AV} {s' : Option AS}
  (ho:o.op=.makeSlice t x y) (hxy:sameTmp x y=true) (ht:P.underlying t=some (.slice e)) (hi:P.info? e=some i) (hz:i.zero=some zv) (hzc:constCells zv.cells.toList=some zero) (hzs:zv.cells.size=i.size) (hpos:0<i.size)
  (hcx:compArg nt x=some yx) (he:evMkarr s i.size i.bytes (zero.map AV.drop) (yx.eval G s.T)=some (z,s')) (hd:∀ k,o.dst=some k→k<nt) :
  ∃ v' gh' w',Ran P a o w v' w'∧Out G base nt L gh w a s o.dst z (s'.getD s) v' gh' w':=by
 simp only[evMkarr,Option.bind_eq_some_iff] at he
 obtain⟨k,hk,he⟩:=he
 obtain⟨h0,he⟩:=cond_some he
 simp only[Option.some.injEq,Prod.mk.injEq] at he
 obtain⟨rfl,rfl⟩:=he
 simp only[Bool.and_eq_true,Nat.ble_eq] at h0
 obtain⟨hb1,hb2⟩:=h0
 obtain⟨kd,hik⟩:=asNat_inv hW hF hcx hk
 have hyx:a.eval y=a.eval x:=by
  cases x<;>cases y<;>simp only[sameTmp] at hxy<;>try (cases hxy;done)
  rw[Nat.eq_of_beq_eq_true hxy]
 have hrun:=run_make (P:=P) w t e i zv ht hi hz kd kd (k:Int) (k:Int) (by omega) (by omega) (by
  have:(i.bytes:Int)*k=((k*i.bytes:Nat):Int):=by rw[Nat.mul_comm];simp
  rw[this];omega) (by omega)
 have hp' : Pushed w (w.alloc (.cells (madeCells zv.cells (k*i.size)) e)) (.cells (madeCells zv.cells (k*i.size)) e):=.alloc w _
 have st0:=pushBox_step hW hp'
 have st:Step (touchObj s.H.length) s.H.length gh w (gh.pushBox w.heap.size s.H.length) (w.alloc (.cells (madeCells zv.cells (k*i.size)) e)):=st0.mono (fun _ h=>h.elim)
 have hρ:(gh.pushBox w.heap.size s.H.length).ρ s.H.length=w.heap.size:=by simp[Gh.pushBox]
 obtain⟨hzl,hzv⟩:=constCells_VR (gh:=gh) (n:=s.H.length) (w:=w) hzc
 have hzl' : zero.length=i.size:=by rw[← hzs];simpa using hzl.symm
 have hrowl:∀ r∈List.replicate k (zero.map AV.drop),r.length=i.size:=fun r hr=>by rw[List.eq_of_mem_replicate hr];simpa using hzl'
 have hfl:(List.replicate k (zero.map AV.drop)).flatten.length=k*i.size:=by rw[flat_len _ hrowl];simp
 have hpl:∀ x,x∈(List.replicate k (zero.map AV.drop)).flatten→x.plain=true:=by
  intro x hx
  obtain⟨r,hr,hx⟩:=List.mem_flatten.1 hx
  rw[List.eq_of_mem_replicate hr] at hx
  obtain⟨y,hy,rfl⟩:=List.mem_map.1 hx
  exact constCells_all hzc y hy
 have hB:BoxAt (gh.pushBox w.heap.size s.H.length) (s.H.length+1) (w.alloc (.cells (madeCells zv.cells (k*i.size)) e)) ((gh.pushBox w.heap.size s.H.length).ρ s.H.length) (.hb s.H.length) (fun j=>.hs s.H.length j) (List.replicate k (zero.map AV.drop)).flatten:=by
  rw[hρ]
  refine⟨by simp[Gh.pushBox,Gh.alloc],?_,_,e,hp'.new,by rw[hfl,size_madeCells];exact Nat.le_refl _,fun j v x hv hx=>?_⟩
  ·rintro o (ho|⟨_,ho⟩)
   ·have:=hW.sLt _ o ho;omega
   ·exact ho
  ·obtain⟨m,q,r,h1,h2,rfl⟩:=flat_at _ j x hrowl hx
   have hr:r=zero.map AV.drop:=List.eq_of_mem_replicate (List.mem_of_getElem? h1)
   subst hr
   have hq:q<i.size:=by rw[← hzl'];simpa using (List.getElem?_eq_some_iff.1 h2).1
   simp only[List.getElem?_map,Option.map_eq_some_iff] at h2
   obtain⟨y,hy,rfl⟩:=h2
   have hjl:=(Array.getElem?_eq_some_iff.1 hv).1
   rw[size_madeCells] at hjl
   simp only[madeCells,Array.getElem?_map,Array.getElem?_range,if_pos hjl,Option.map_some,Option.some.injEq] at hv
   have hmod:(m*i.size+q) % zv.cells.size=q:=by rw[hzs,Nat.mul_comm,Nat.mul_add_mod,Nat.mod_eq_of_lt hq]
   rw[hmod] at hv
   have hqz:q<zv.cells.size:=by omega
   have hc:zv.cells[q]?=some zv.cells[q]:=Array.getElem?_eq_getElem hqz
   have hv2:v=zv.cells[q]:=by rw[← hv];exact getElem!_pos zv.cells q hqz
   subst hv2
   obtain⟨k1,k2⟩:=hzv q _ y (by rw[Array.getElem?_toList];exact hc) hy
   exact⟨k2,.inl ((k1.dropped).mono st (Nat.le_succ _))⟩
 have hr:(List.replicate k (zero.map AV.drop)).flatten.all (heapCell s.H.length)=true:=List.all_eq_true.2 fun x hx=>heap_of_plain (hpl x hx) _
 have hW':=hW.arr st0 (H':=s.H) rfl (fun loc o h=>.inl ⟨h,id,fun _=>id⟩) (fun b o h=>h.elim id (fun h=>h.2.elim)) (fun b hb=>by
  rw[hp'.size]
  have hb' : (if b=w.heap.size then Owner.hb s.H.length else gh.κ b)≠.none:=hb
  split at hb'
  ·have:=hW.size;omega
  ·have:=hW.kLt b hb';omega) hB hr
 refine⟨.slice (some ⟨w.heap.size,0,none⟩) k k,gh.pushBox w.heap.size s.H.length,w.alloc (.cells (madeCells zv.cells (k*i.size)) e),.inl ?_,?_⟩
 ·have e1:(k:Int).toNat=k:=by simp
  rw[e1] at hrun
  simp only[execOp,ho,hyx,hik]
  simp[hrun]
 ·have:=Out.arr (lo:=s.H.length) (k:=k) (cap:=k) (z:=i.size) hF hd st (fun b hb=>(pushBox_ext hW hp').out b hb) rfl hW' (Nat.le_refl _) ⟨e,by rw[hρ];exact⟨_,(0,0),hp'.new,by rw[size_madeCells,Nat.zero_add]⟩⟩
  rw[hρ] at this
  exact this
end
end Go.Abs
end
