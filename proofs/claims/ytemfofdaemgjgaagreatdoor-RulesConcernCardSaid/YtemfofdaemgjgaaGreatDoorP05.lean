/-
  A part of the proof of RulesConcern: AbsCall, AbsMap1, AbsMap2, AbsMap3, AbsMap4.
-/
import Derived.Test.YtemfofdaemgjgaaGreatDoorP04
set_option linter.unusedSimpArgs false
set_option linter.unusedVariables false
section
namespace Go.Abs
set_option linter.unusedSimpArgs false
set_option linter.unusedVariables false
def clean (gh:Gh):Prop:=∀ b,gh.κ b=.none∨gh.κ b=.outer∨(∃ l,gh.κ b=.hb l)∨(∃ l j,gh.κ b=.hs l j)∨∃ j,gh.κ b=.par j
def touchHeap (p:Owner):Prop:=(∃ l,p=.hb l)∨(∃ l j,p=.hs l j)∨∃ j,p=.par j
def newH (H:AHeap):Option Chg→AHeap
 | none=>H
 | some c=>c.heap
structure RetOK (G:Nat→List AV) (base:Nat) (H:AHeap) (gh:Gh) (w:World) (r:AV) (c:Option Chg) (v:Value) (gh' : Gh) (w' : World):Prop where
 len:H.length≤(newH H c).length
 W:WRel G base (newH H c) gh' w'
 st:Step touchHeap H.length gh w gh' w'
 out:∀ b,gh'.κ b=.outer→gh.κ b=.outer
 val:CR gh' (newH H c).length w' .ret v r
def ChgOK (H:AHeap) (c:Option Chg):Prop:=H.length≤(newH H c).length∧∀ c',c=some c'→c'.lo≤H.length∧∀ l,l<c'.lo→c'.heap[l]?=H[l]?
def CallsSound (P:Program) (G:Nat→List AV) (cf:CallF):Prop :=
 ∀ f args H r c,cf f args H=some (r,c)→(∃ fn,P.funcs[f]?=some fn∧fn.body.isSome=true∧fn.name≠ "runtime.NumGoroutine")∧ChgOK H c ∧
  ∀ (base:Nat) (gh:Gh) (w:World) (vs:Array Value),WRel G base H gh w→clean gh→vs.size=args.length→(∀ (j:Nat) (v:Value) (x:AV),vs[j]?=some v→args[j]?=some x→CR gh H.length w (.par j) v x) →
   Calls P f vs w fun e w'=>∃ v gh',e=.returned v∧RetOK G base H gh w r c v gh' w'
section
variable {P:Program} {G:Nat→List AV} {base nt:Nat} {L:List Nat} {gh:Gh} {w w' : World} {a:Act} {s:AS} {H:AHeap}
def slotOwner:Owner→Bool
 | .bx _|.sl _|.sc ..|.ret=>true
 | _=>false
def Gh.hide (gh:Gh):Gh:={ gh with κ:=fun b=>bif slotOwner (gh.κ b) then .outer else gh.κ b }
theorem hide_clean (gh:Gh):clean gh.hide:=by
 intro b
 simp only[Gh.hide]
 cases h:gh.κ b<;>simp[slotOwner]
theorem hide_step (hW:WRel G base H gh w) (n:Nat):Step (fun p=>slotOwner p=true) n gh w gh.hide w:=by
 refine⟨fun _ _ h=>h,fun _ _ _=>rfl,Nat.le_refl _,rfl,rfl,rfl,fun b hb hn=>⟨.inl rfl,?_,fun _ h=>h⟩,fun b hb=>?_,fun _ _=>rfl,fun _ _ _ h=>h,fun _ _ _ _ h=>h⟩
 ·simp only[Gh.hide]
  cases h:slotOwner (gh.κ b)
  ·rfl
  ·exact absurd h hn
 ·simp only[Gh.hide,hW.fresh b hb]
  simp[slotOwner]
theorem hide_W (hW:WRel G base H gh w):WRel G base H gh.hide w:=by
 refine hW.step (hide_step hW H.length) (fun l=>⟨by simp[slotOwner],by simp[slotOwner]⟩) hW.sLt (fun b hb=>hW.kLt b fun h=>hb ?_) (fun _ _ _ h=>.inl h)
 simp[Gh.hide,h,slotOwner]
def Gh.back (gh gh' : Gh):Gh:={ gh' with κ:=fun b=>bif slotOwner (gh.κ b) then gh.κ b else gh'.κ b }
theorem back_all (hW:WRel G base H gh w) {r:AV} {c:Option Chg} {v:Value} {gh' : Gh} (h:RetOK G base H gh.hide w r c v gh' w') :
  WRel G base (newH H c) (gh.back gh') w'∧Step touchHeap H.length gh w (gh.back gh') w'∧Ext H.length gh w (gh.back gh') w'∧CR (gh.back gh') (newH H c).length w' .ret v r:=by
 have hout:∀ b,slotOwner (gh.κ b)=true→gh'.κ b=.outer:=by
  intro b hb
  have hlt:b<w.heap.size:=(hW.kLt b (by intro h0;rw[h0] at hb;cases hb)).2
  have:=(h.st.blk b hlt (by simp[Gh.hide,hb,touchHeap])).2.1
  rw[this]
  simp[Gh.hide,hb]
 have st1' : Step (fun p=>p=.outer) (newH H c).length gh' w' (gh.back gh') w':=by
  refine⟨fun _ _ h=>h,fun _ _ _=>rfl,Nat.le_refl _,rfl,rfl,rfl,fun b hb hn=>⟨.inl rfl,?_,fun _ h=>h⟩,fun b hb=>?_,fun _ _=>rfl,fun _ _ _ h=>h,fun _ _ _ _ h=>h⟩
  ·simp only[Gh.back]
   cases hs:slotOwner (gh.κ b)
   ·rfl
   ·exact absurd (hout b hs) hn
  ·simp only[Gh.back]
   have hb' : w.heap.size≤b:=Nat.le_trans h.st.size hb
   rw[hW.fresh b hb']
   simp only[slotOwner,cond_false]
   exact h.st.fresh b hb'
 have hlen:=h.len
 have hst:Step touchHeap H.length gh w (gh.back gh') w':=by
  refine⟨h.st.S,h.st.cell,h.st.size,h.st.os,h.st.tape,h.st.output,fun b hb hn=>?_,fun b hb=>?_,h.st.ρ,h.st.len,h.st.mp⟩
  ·cases hs:slotOwner (gh.κ b) with
   | true =>
    have:=h.st.blk b hb (by simp[Gh.hide,hs,touchHeap])
    exact⟨this.1,by simp[Gh.back,hs],this.2.2⟩
   | false =>
    have e1:gh.hide.κ b=gh.κ b:=by simp[Gh.hide,hs]
    have:=h.st.blk b hb (by rw[e1];exact hn)
    exact⟨this.1,by simp only[Gh.back,hs,cond_false];rw[this.2.1,e1],this.2.2⟩
  ·simp only[Gh.back]
   rw[hW.fresh b hb]
   simp only[slotOwner,cond_false]
   exact h.st.fresh b hb
 refine⟨h.W.step st1' (fun l=>⟨by simp,by simp⟩) h.W.sLt (fun b hb=>?_) (fun _ _ _ h=>.inl h),hst,⟨hst.mono (fun p hp=>?_),fun b hb=>?_⟩,h.val.mono st1' (Nat.le_refl _) (by simp)⟩
 ·simp only[Gh.back] at hb
  cases hs:slotOwner (gh.κ b) with
  | true =>
   have:=hW.kLt b (by intro h0;rw[h0] at hs;cases hs)
   have:=h.st.size
   omega
  | false =>
   rw[hs] at hb
   exact h.W.kLt b hb
 ·rcases hp with ⟨l,rfl⟩|⟨l,j,rfl⟩|⟨j,rfl⟩<;>simp[touchAny]
 ·simp only[Gh.back] at hb
  cases hs:slotOwner (gh.κ b) with
  | true =>
   rw[hs] at hb
   simp only[cond_true] at hb
   rw[hb] at hs
   cases hs
  | false =>
   rw[hs] at hb
   have:=h.out b hb
   simpa [Gh.hide,hs] using this
theorem CR.givenX (hW:WRel G base s.H gh w) (hF:FR L nt gh w a s) {v:Value} {x:AV} (h:CR gh s.H.length w .ret v x) (p:Owner) (hp:p≠.outer) :
  ∃ gh',WRel G base s.H gh' w∧FR L nt gh' w a s∧Ext s.H.length gh w gh' w∧CR gh' s.H.length w p v x:=by
 rcases h with h|⟨e,rfl,h⟩
 ·exact⟨gh,hW,hF,Ext.refl _ _ _ (fun b hb=>hW.not_outer b hb),.inl h⟩
 ·exact CR.given hW hF (.inr ⟨e,rfl,h⟩) p hp
theorem dropAll_VR {n:Nat} {v:Value} {x:AV} (h:VR gh n w v x.drop):VR gh n w v x.dropAll:=by
 cases x<;>first|exact h|skip
 rename_i cs
 exact VR.droppedAll (h:VR gh n w v (.agg cs))
theorem call_core {cf:CallF} (hcf:CallsSound P G cf) (hW:WRel G base s.H gh w) (hF:FR L nt gh w a s) {o:Oper} {f:FuncId} {vs:Array Value} {args:List AV} {r:AV} {ch:Option Chg}
  (he:cf f args s.H=some (r,ch)) (hvs:vs.size=args.length) (hrel:∀ (j:Nat) (v:Value) (x:AV),vs[j]?=some v→args[j]?=some x→CR gh s.H.length w (.par j) v x)
  (hrun:(∃ fn,P.funcs[f]?=some fn∧fn.body.isSome=true∧fn.name≠ "runtime.NumGoroutine")→(execOp a.eval o).run P w=.ok (.enter f vs) w) (hd:∀ k,o.dst=some k→k<nt) (K:Act→World→Prop) (Q:Exit→Act→World→Prop)
  (hK:∀ v' gh' w',Out G base nt L gh w a s o.dst r ((ch.map s.chg).getD s) v' gh' w'→K (a.put o.dst v') w'):o.wp P a w K Q:=by
 obtain⟨hfn,_,hcall⟩:=hcf f _ _ _ _ he
 have hst:=hide_step hW s.H.length
 have hC:=hcall base gh.hide w vs (hide_W hW) (hide_clean gh) hvs (fun j v x hv hx=>(hrel j v x hv hx).mono hst (Nat.le_refl _) (by simp[slotOwner]))
 unfold Oper.wp
 rw[hrun hfn,Oper.upon_enter]
 refine hC.mono ?_
 rintro e w2 ⟨v,gh',rfl,hR⟩
 obtain⟨hW2,hst2,hE2,hv2⟩:=back_all hW hR
 have hlenH:=hR.len
 have key:∀ s1:AS,s1.H=newH s.H ch→FR L nt (gh.back gh') w2 a s1→∃ gh3,Out G base nt L gh w a s o.dst r s1 v gh3 w2:=by
  intro s1 hs1 hF1
  obtain⟨gh3,hW3,hF3,hE3,hv3⟩:=CR.givenX (by rw[hs1];exact hW2) hF1 (by rw[hs1];exact hv2) (slo o.dst) (slo_out _)
  refine⟨gh3,Out.of (s1:=s1) (gen':=s1.gen) hW3 hF3 (hE2.trans hE3 (by rw[hs1];exact hlenH)) (Nat.le_refl _) hd (.inl (genOf_frameCell hv3.frameCell)) (fun k hk=>?_)⟩
  rw[hk] at hv3
  exact sr_of_slot hv3.frameCell hv3
 cases ch with
 | none =>
  obtain⟨gh3,hO⟩:=key s rfl (hF.grown (H':=s.H) (lo':=s.lo) hst2 (fun i=>⟨by simp[touchHeap],by simp[touchHeap],by simp[touchHeap]⟩) (Nat.le_refl _))
  exact hK v gh3 w2 hO
 | some c' =>
  obtain⟨gh3,hO⟩:=key (s.chg c') rfl (hF.grown hst2 (fun i=>⟨by simp[touchHeap],by simp[touchHeap],by simp[touchHeap]⟩) hlenH)
  exact hK v gh3 w2 hO
theorem ev_call {cf:CallF} (hcf:CallsSound P G cf) (hW:WRel G base s.H gh w) (hF:FR L nt gh w a s) {o:Oper} {c:Call} {fx:Operand} {yf:IArg} {ys:List IArg} {f:FuncId} {fs cs:List AV} {r:AV} {ch:Option Chg}
  (ho:o.op=.call c) (hcal:c.callee=.value fx) (hcx:compArg nt fx=some yf) (hcy:compArgs nt c.args.toList=some ys) (hfun:yf.eval G s.T=.func (.func f) fs cs) (hfr:(ys.map fun y=>y.addr G s.T).all frameCell=true)
  (he:cf f (fs++ys.map (fun y=>(y.addr G s.T).dropAll)++cs) s.H=some (r,ch)) (hd:∀ k,o.dst=some k→k<nt) (K:Act→World→Prop) (Q:Exit→Act→World→Prop)
  (hK:∀ v' gh' w',Out G base nt L gh w a s o.dst r ((ch.map s.chg).getD s) v' gh' w'→K (a.put o.dst v') w'):o.wp P a w K Q:=by
 have hfv:=arg_VR hW hF hcx hfun rfl
 obtain⟨us,ts,hfe,hfl,hcl,h1,h2⟩:=hfv.inv_func
 have hargs:=args_VR hW hF hcy hfr
 have hlen:=(compArgs_inv hcy).1
 let vs:Array Value:=us++c.args.map a.eval++ts
 have hvs:vs.size=(fs++ys.map (fun y=>(y.addr G s.T).dropAll)++cs).length:=by
  simp[vs,hfl,hcl] at hlen ⊢
  omega
 have hrel:∀ (j:Nat) (v:Value) (x:AV),vs[j]?=some v→(fs++ys.map (fun y=>(y.addr G s.T).dropAll)++cs)[j]?=some x→VR gh s.H.length w v x:=by
  intro j v x hv hx
  have hal:(c.args.map a.eval).size=ys.length:=by simpa using hlen
  simp only[vs,Array.getElem?_append,Array.size_append] at hv
  simp only[List.getElem?_append,List.length_append,List.length_map] at hx
  rw[hfl,hal] at hv
  split at hv
  ·rename_i c1
   rw[if_pos c1] at hx
   split at hv
   ·rename_i c2
    rw[if_pos c2] at hx
    exact h1 j v x hv hx
   ·rename_i c2
    rw[if_neg c2] at hx
    simp only[List.getElem?_map,Option.map_eq_some_iff] at hx
    obtain⟨y,hy,rfl⟩:=hx
    refine dropAll_VR (hargs (j-fs.length) v _ ?_ ?_)
    ·rw[← Array.toList_map,Array.getElem?_toList];exact hv
    ·simp only[List.getElem?_map,hy,Option.map_some]
  ·rename_i c1
   rw[if_neg c1] at hx
   exact h2 _ v x hv hx
 refine call_core hcf hW hF he hvs (fun j v x hv hx=>.inl (hrel j v x hv hx)) ?_ hd K Q hK
 rintro ⟨fn,hfn,hbody,hname⟩
 unfold execOp
 cases hb:fn.body with
 | none=>rw[hb] at hbody;cases hbody
 | some code =>
  simp[ho,resolve,hcal,hfe,Deferred.ofValue,invoke,callFunc,hfn,hname,hb,vs]
theorem ev_callT {cf:CallF} (hcf:CallsSound P G cf) (hW:WRel G base s.H gh w) (hF:FR L nt gh w a s) {o:Oper} {c:Call} {f:FuncId} {pre post:List IArg} {x:IArg} {r:AV} {ch:Option Chg} {xv:AV} {s1:AS}
  (ho:o.op=.call c) (hcal:c.callee=.value (.func f)) (hcy:compArgs nt c.args.toList=some (pre++x :: post)) (hfr1:(pre.map fun y=>y.addr G s.T).all frameCell=true) (hfr2:(post.map fun y=>y.addr G s.T).all frameCell=true)
  (hx:giveX s x=some (xv,s1)) (he:cf f (pre.map (fun y=>(y.addr G s.T).dropAll)++xv :: post.map (fun y=>(y.addr G s.T).dropAll)) s.H=some (r,ch)) (hd:∀ k,o.dst=some k→k<nt) (K:Act→World→Prop) (Q:Exit→Act→World→Prop)
  (hK:∀ v' gh' w',Out G base nt L gh w a s o.dst r ((ch.map s1.chg).getD s1) v' gh' w'→K (a.put o.dst v') w'):o.wp P a w K Q:=by
 obtain⟨hlen,hcomp⟩:=compArgs_inv hcy
 have hfresh:∀ b,w.heap.size≤b→gh.κ b≠.outer:=fun b hb=>hW.not_outer b hb
 have give:∃ gh1,s1.H=s.H∧WRel G base s1.H gh1 w∧FR L nt gh1 w a s1∧Ext s.H.length gh w gh1 w∧(∃ tc,Step tc s.H.length gh w gh1 w)∧∀ y,compArg nt y=some x→CR gh1 s.H.length w (.par pre.length) (a.eval y) xv:=by
  unfold giveX at hx
  split at hx
  ·rename_i t
   split at hx
   ·rename_i el own hT
    simp only[Option.some.injEq,Prod.mk.injEq] at hx
    obtain⟨rfl,rfl⟩:=hx
    have hmid:=hcomp pre.length
    have ht:t<nt:=by
     have hl:pre.length<c.args.toList.length:=by rw[hlen];simp
     have:=hcomp pre.length _ _ (List.getElem?_eq_getElem hl) (by simp:(pre++IArg.tmp t :: post)[pre.length]?=some (IArg.tmp t))
     exact (compArg_tmp this).2
    obtain⟨gh1,hW1,hF1,hE1,st1,hCR⟩:=own_move hW hF ht hT (.par pre.length) (by simp)
    refine⟨gh1,rfl,hW1,hF1,hE1,⟨_,st1⟩,fun y hy=>?_⟩
    obtain⟨rfl,_⟩:=compArg_tmp hy
    exact hCR
   ·cases hx
  ·split at hx
   ·simp only[Option.some.injEq,Prod.mk.injEq] at hx
    obtain⟨rfl,rfl⟩:=hx
    refine⟨gh,rfl,hW,hF,Ext.refl _ _ _ hfresh,⟨fun _=>False,Step.refl _ _ _ _ hfresh⟩,fun y hy=>?_⟩
    cases y with
    | tmp k =>
     simp only[compArg] at hy
     rcases Bool.eq_false_or_eq_true (Nat.blt k nt) with hb|hb<;>rw[hb] at hy<;>simp at hy
    | const u =>
     simp only[compArg,Option.map_eq_some_iff] at hy
     obtain⟨zz,hz,h⟩:=hy
     injection h with h
     subst h
     exact .inl (const_VR hz)
    | global g=>simp[compArg] at hy
    | func f=>simp[compArg] at hy
   ·cases hx
  ·cases hx
 obtain⟨gh1,hsH,hW1,hF1,hE1,⟨tc,st1⟩,hxv⟩:=give
 have hvals:∀ (j:Nat) (y:Operand) (z:IArg),c.args.toList[j]?=some y→(pre++x :: post)[j]?=some z→compArg nt y=some z:=fun j y z h1 h2=>hcomp j y z h1 h2
 let vs:Array Value:=c.args.map a.eval
 have hvs:vs.size=(pre.map (fun y=>(y.addr G s.T).dropAll)++xv :: post.map (fun y=>(y.addr G s.T).dropAll)).length:=by
  have:c.args.size=(pre++x :: post).length:=by simpa using hlen
  simp[vs,this]
 have old:∀ (j:Nat) (y:Operand) (z:IArg),c.args.toList[j]?=some y→(pre++x :: post)[j]?=some z→frameCell (z.addr G s.T)=true→VR gh1 s.H.length w (a.eval y) (z.addr G s.T).dropAll:=by
  intro j y z h1 h2 h3
  have:=arg_VR' hW hF (hcomp j y z h1 h2) rfl h3
  exact (dropAll_VR this).mono st1 (Nat.le_refl _)
 have hrel:∀ (j:Nat) (v:Value) (y:AV),vs[j]?=some v→(pre.map (fun y=>(y.addr G s.T).dropAll)++xv :: post.map (fun y=>(y.addr G s.T).dropAll))[j]?=some y→CR gh1 s1.H.length w (.par j) v y:=by
  intro j v y hv hy
  rw[hsH]
  simp only[vs,Array.getElem?_map,Option.map_eq_some_iff] at hv
  obtain⟨op,hop,rfl⟩:=hv
  have hop' : c.args.toList[j]?=some op:=by rw[Array.getElem?_toList];exact hop
  rcases Nat.lt_trichotomy j pre.length with h|h|h
  ·rw[List.getElem?_append_left (by simpa using h)] at hy
   simp only[List.getElem?_map,Option.map_eq_some_iff] at hy
   obtain⟨z,hz,rfl⟩:=hy
   exact .inl (old j op z hop' (by rw[List.getElem?_append_left h];exact hz) (List.all_eq_true.1 hfr1 _ (List.mem_map.2 ⟨z,List.mem_of_getElem? hz,rfl⟩)))
  ·subst h
   rw[List.getElem?_append_right (by simp)] at hy
   simp only[List.length_map,Nat.sub_self,List.getElem?_cons_zero,Option.some.injEq] at hy
   subst hy
   exact hxv op (hcomp pre.length op x hop' (by simp))
  ·obtain⟨m,rfl⟩:∃ m,j=pre.length+1+m:=⟨j-(pre.length+1),by omega⟩
   rw[List.getElem?_append_right (by simp;omega)] at hy
   simp only[List.length_map,show pre.length+1+m-pre.length=m+1 by omega,List.getElem?_cons_succ,List.getElem?_map,Option.map_eq_some_iff] at hy
   obtain⟨z,hz,rfl⟩:=hy
   exact .inl (old _ op z hop' (by rw[List.getElem?_append_right (by omega),show pre.length+1+m-pre.length=m+1 by omega];simpa using hz) (List.all_eq_true.1 hfr2 _ (List.mem_map.2 ⟨z,List.mem_of_getElem? hz,rfl⟩)))
 refine call_core hcf hW1 hF1 (by rw[hsH];exact he) hvs hrel ?_ hd K Q (fun v' gh' w' hO=>hK v' gh' w' ⟨hO.W,hO.F,by have:=hO.E;rw[hsH] at this;exact hE1.trans this (Nat.le_refl _)⟩)
 rintro ⟨fn,hfn,hbody,hname⟩
 unfold execOp
 cases hb:fn.body with
 | none=>rw[hb] at hbody;cases hbody
 | some code =>
  simp[ho,resolve,hcal,Act.eval,Deferred.ofValue,invoke,callFunc,hfn,hname,hb,vs]
end
end Go.Abs
end
section
namespace Go.Abs
set_option linter.unusedSimpArgs false
set_option linter.unusedVariables false
section
variable {P:Program} {G:Nat→List AV} {base nt:Nat} {L:List Nat} {gh:Gh} {w w' : World} {a:Act} {s:AS} {H:AHeap}
def CheckRun (P:Program) (w:World) (d:Nat):Prop :=
 ∀ (t:TypeId) (ks:List CK),flatK P d t=some ks→∀ (D o:Nat) (cs:Array Value) (em:Bool),d≤D→o+ks.length≤cs.size→∃ v,(part t cs o).run P w=.ok v w∧(Instr.checkKey em D t v).run P w=.ok () w
theorem check_scalar {t:TypeId} {D:Nat} {v:Value} {em:Bool} (h:P.underlying t=some .bool∨(∃ k,P.underlying t=some (.int k))∨P.underlying t=some .string):(Instr.checkKey em (D+1) t v).run P w=.ok () w:=by
 rcases h with h|⟨k,h⟩|h<;>simp[Instr.checkKey,run_underlying h]
theorem check_fields {d:Nat} (hd:CheckRun P w d) {D:Nat} (hD:d≤D) {cs:Array Value} {em:Bool} : ∀ (fs:List Go.Field) (q:Nat) (ks:List CK),fieldsK (flatK P d) fs q=some ks→q+ks.length≤cs.size →
  Sem.run P (forIn fs PUnit.unit fun (f:Go.Field) (_:PUnit) =>
   if f.name≠ "_" then do
    let v ← part f.type cs f.offset
    Instr.checkKey em D f.type v
    pure (ForInStep.yield PUnit.unit)
   else pure (ForInStep.yield PUnit.unit)) w=.ok PUnit.unit w:=by
 intro fs
 induction fs with
 | nil=>intro q ks h1 h2;rfl
 | cons f fs ih =>
  intro q ks h1 h2
  unfold fieldsK at h1
  obtain⟨h3,h1⟩:=cond_some h1
  simp only[Option.bind_eq_some_iff,Option.map_eq_some_iff] at h1
  obtain⟨kf,hkf,kr,hkr,rfl⟩:=h1
  simp only[Bool.and_eq_true,nbeq,decide_eq_true_eq,bne_iff_ne] at h3
  obtain⟨hof,hnm⟩:=h3
  rw[List.length_append] at h2
  obtain⟨v,p1,p2⟩:=hd f.type kf hkf D q cs em hD (by omega)
  have hr:=ih (q+kf.length) kr hkr (by omega)
  rw[List.forIn_cons,if_pos hnm,hof]
  simp only[Sem.run_bind,p1,p2,Result.andThen_ok,Sem.run_pure]
  exact hr
theorem check_run:∀ d,CheckRun P w d
 | 0=>fun t ks h=>by cases h
 | d+1=>by
  intro t ks h D o cs em hD hcs
  have h0:=h
  unfold flatK at h
  cases hu:P.underlying t with
  | none=>rw[hu] at h;cases h
  | some dd =>
   rw[hu] at h
   obtain⟨D,rfl⟩:∃ m,D=m+1:=⟨D-1,by omega⟩
   have sc:ks.length=1→aggT P t=some false→(dd=.bool∨(∃ k,dd=.int k)∨dd=.string)→∃ v,(part t cs o).run P w=.ok v w∧(Instr.checkKey em (D+1) t v).run P w=.ok () w:=by
    intro h1 h2 h3
    have hg:=h2
    have hv:cs[o]?=some cs[o]:=Array.getElem?_eq_getElem (by omega)
    refine⟨cs[o],by simp[part,run_isAgg' hg,hv],check_scalar ?_⟩
    rcases h3 with h3|⟨k,h3⟩|h3<;>subst h3
    ·exact .inl hu
    ·exact .inr (.inl ⟨k,hu⟩)
    ·exact .inr (.inr hu)
   cases dd<;>try (cases h;done)
   case bool=>injection h with h;subst h;exact sc rfl (aggT_scalar hu rfl) (.inl rfl)
   case int kk=>injection h with h;subst h;exact sc rfl (aggT_scalar hu rfl) (.inr (.inl ⟨kk,rfl⟩))
   case string=>injection h with h;subst h;exact sc rfl (aggT_scalar hu rfl) (.inr (.inr rfl))
   case struct fs =>
    obtain⟨_,hks,sz,hsz,hlen⟩:=struct_inv h0 hu
    have hg:aggT P t=some true:=by unfold aggT;rw[hu];rfl
    refine⟨.agg (cs.extract o (o+sz)),by simp[part,run_isAgg' hg,run_sizeOf' hsz],?_⟩
    have:=check_fields (check_run d) (show d≤D by omega) (cs:=cs.extract o (o+sz)) (em:=em) fs.toList 0 ks hks (by simp;omega)
    unfold Instr.checkKey
    simp only[Sem.run_bind,run_underlying hu,Result.andThen_ok]
    rw[← Array.forIn_toList,this]
    rfl
theorem val_cells {n:Nat} {v:Value} {k:AV} {kc:List AV} (h:VR gh n w v k) (hc:k.cells=some kc):(∃ C,v=.agg C∧k=.agg kc∧Row gh n w C kc)∨(kc=[k]∧v.oneCell'=true):=by
 have hr:=cells_rel h hc
 cases k
 case agg xs =>
  obtain⟨C,rfl,hs,hone,h⟩:=h.inv_agg
  injection hc with hc
  subst hc
  exact .inl ⟨C,rfl,rfl,hs,h⟩
 case any=>cases hc
 case tuple=>cases hc
 case lbox=>cases hc
 case lref=>cases hc
 case lsl=>cases hc
 case lsr=>cases hc
 case eref=>cases hc
 case iter=>cases hc
 all_goals
  injection hc with hc
  subst hc
  exact .inr ⟨rfl,h.oneCell (by intro cs h;cases h) (by intro cs h;cases h)⟩
theorem agg_value {n:Nat} {v:Value} {k:AV} (h:VR gh n w v k) (ha:true=k.isAgg):∃ C,v=.agg C:=by
 cases k<;>first|(cases ha;done)|skip
 obtain⟨C,rfl,_⟩:=h.inv_agg
 exact⟨C,rfl⟩
structure KeyT (P:Program) (kt:TypeId) (ks:List CK) (ka:Bool):Prop where
 flat:flatK P 8 kt=some ks
 agg:aggT P kt=some ka
theorem KeyT.cases {kt:TypeId} {ks:List CK} {ka:Bool} (h:KeyT P kt ks ka):(ka=false∧((P.underlying kt=some .bool∧ks=[.b])∨(∃ k,P.underlying kt=some (.int k)∧ks=[.i])∨(P.underlying kt=some .string∧ks=[.s]))) ∨
  (ka=true∧∃ fs,P.underlying kt=some (.struct fs)):=by
 have hf:=h.flat
 have ha:=h.agg
 unfold flatK at hf
 unfold aggT at ha
 cases hu:P.underlying kt with
 | none=>rw[hu] at hf;cases hf
 | some dd =>
  rw[hu] at hf ha
  cases dd<;>try (cases hf;done)
  case bool=>injection hf with hf;subst hf;simp at ha;exact .inl ⟨ha,.inl ⟨rfl,rfl⟩⟩
  case int k=>injection hf with hf;subst hf;simp at ha;exact .inl ⟨ha,.inr (.inl ⟨k,rfl,rfl⟩)⟩
  case string=>injection hf with hf;subst hf;simp at ha;exact .inl ⟨ha,.inr (.inr ⟨rfl,rfl⟩)⟩
  case struct fs=>simp at ha;exact .inr ⟨ha,fs,rfl⟩
theorem run_check {kt:TypeId} {ks:List CK} {ka:Bool} (hK:KeyT P kt ks ka) {n:Nat} {kv:Value} {k:AV} {kc:List AV} (hk:VR gh n w kv k) (hkc:k.cells=some kc) (hl:kc.length=ks.length) (hka:ka=k.isAgg) (em:Bool) :
  (Instr.checkKey em 10000 kt kv).run P w=.ok () w:=by
 rcases hK.cases with ⟨rfl,h⟩|⟨rfl,fs,hu⟩
 ·refine check_scalar ?_
  rcases h with ⟨h,_⟩|⟨k,h,_⟩|⟨h,_⟩
  ·exact .inl h
  ·exact .inr (.inl ⟨k,h⟩)
  ·exact .inr (.inr h)
 ·obtain⟨C,rfl⟩:=agg_value hk hka
  obtain⟨hso,hks,sz,hsz,hlen⟩:=struct_inv hK.flat hu
  have hC:C.size=kc.length:=by
   rcases val_cells hk hkc with ⟨C',e,_,hr⟩|⟨_,h1⟩
   ·injection e with e;subst e;exact hr.1
   ·simp[Value.oneCell'] at h1
  have:=check_fields (check_run (w:=w) (P:=P) 7) (show 7≤9999 by omega) (cs:=C) (em:=em) fs.toList 0 ks hks (by omega)
  unfold Instr.checkKey
  simp only[Sem.run_bind,run_underlying hu,Result.andThen_ok]
  rw[← Array.forIn_toList,this]
  rfl
def KeyAt (S:Nat→Nat→Prop) (w:World) (kz:Nat) (ka:Bool) (v:Value) (r:List AV):Prop:=∃ f:Nat→Value,v=mkV ka kz f∧∀ (j:Nat) (x:AV),r[j]?=some x→j<kz→PR S w (f j) x
theorem eqFlat_len:∀ {k:List CK} {X Y:List AV} {b:Bool},eqFlat k X Y=some b→k.length≤X.length∧k.length≤Y.length
 | [],X,Y,b,h=>⟨Nat.zero_le _,Nat.zero_le _⟩
 | c :: k,X,Y,b,h=>by
  cases c<;>cases X<;>try (cases h;done)
  all_goals (rename_i x X';cases x<;>try (cases h;done))
  all_goals (cases Y<;>try (cases h;done))
  all_goals (rename_i y Y';cases y<;>try (cases h;done))
  ·simp only[eqFlat,Option.map_eq_some_iff] at h
   obtain⟨b',hb,_⟩:=h
   have:=eqFlat_len hb
   simp;omega
  ·simp only[eqFlat] at h
   obtain⟨_,h⟩:=cond_some h
   simp only[Option.map_eq_some_iff] at h
   obtain⟨b',hb,_⟩:=h
   have:=eqFlat_len hb
   simp;omega
  ·simp only[eqFlat,Option.map_eq_some_iff] at h
   obtain⟨b',hb,_⟩:=h
   have:=eqFlat_len hb
   simp;omega
theorem key_equal {kt:TypeId} {ks:List CK} {ka:Bool} (hK:KeyT P kt ks ka) {n:Nat} {kv:Value} {k:AV} {kc:List AV} (hk:VR gh n w kv k) (hkc:k.cells=some kc) (hl:kc.length=ks.length) (hka:ka=k.isAgg)
  {v:Value} {r:List AV} (hv:KeyAt gh.S w ks.length ka v r) {b:Bool} (he:eqFlat ks kc r=some b) :
  (ka=true→(Op.equal kt kv v).run P w=.ok b w)∧(ka=false→∀ d,P.underlying kt=some d→Instr.sameNow d kv v=some b):=by
 obtain⟨f,rfl,hf⟩:=hv
 have hrl:=(eqFlat_len he).2
 rcases hK.cases with ⟨rfl,h⟩|⟨rfl,fs,hu⟩
 ·refine⟨(fun h=>by cases h),fun _ d hd=>?_⟩
  have hkc1:kc=[k]:=by
   cases k<;>first|(cases hka;done)|(injection hkc with hkc;exact hkc.symm)|(cases hkc;done)
  subst hkc1
  have hv0:∀ x,r[0]?=some x→PR gh.S w (f 0) x:=fun x hx=>hf 0 x hx (by rcases h with ⟨_,h⟩|⟨_,_,h⟩|⟨_,h⟩<;>rw[h]<;>exact Nat.one_pos)
  show Instr.sameNow d kv (f 0)=some b
  cases r with
  | nil=>rcases h with ⟨_,h⟩|⟨_,_,h⟩|⟨_,h⟩<;>subst h<;>simp at hrl
  | cons x r =>
   have hx:=hv0 x rfl
   rcases h with ⟨h,rfl⟩|⟨q,h,rfl⟩|⟨h,rfl⟩
   ·rw[h] at hd;injection hd with hd;subst hd
    cases k<;>try (cases he;done)
    cases x<;>try (cases he;done)
    obtain rfl:=hk.inv_bool
    generalize f 0=u at hx
    cases hx
    simp[eqFlat] at he
    simp[Instr.sameNow,he]
   ·rw[h] at hd;injection hd with hd;subst hd
    cases k<;>try (cases he;done)
    cases x<;>try (cases he;done)
    obtain rfl:=hk.inv_int
    generalize f 0=u at hx
    cases hx
    simp only[eqFlat] at he
    obtain⟨h0,he⟩:=cond_some he
    simp at he h0
    simp[Instr.sameNow,he,h0]
   ·rw[h] at hd;injection hd with hd;subst hd
    cases k<;>try (cases he;done)
    cases x<;>try (cases he;done)
    obtain⟨p,rfl,rfl⟩:=hk.inv_str
    generalize f 0=u at hx
    cases hx with
    | str q _ hq =>
     subst hq
     simp[eqFlat] at he
     simp only[Instr.sameNow,Option.some.injEq]
     rw[← he]
     first|rfl|(show (p.data==q.data)=_;simp)
 ·obtain⟨C,rfl⟩:=agg_value hk hka
  refine⟨fun _=>?_,fun h=>by cases h⟩
  have hC:Row gh n w C kc:=by
   rcases val_cells hk hkc with ⟨C',e,_,hr⟩|⟨_,h1⟩
   ·injection e with e;subst e;exact hr
   ·simp[Value.oneCell'] at h1
  have hD:Row gh n w (((List.range ks.length).map f).toArray) (r.take ks.length):=by
   refine⟨by simp;omega,fun j u x hu hx=>?_⟩
   simp only[List.getElem?_toArray,List.getElem?_map,Option.map_eq_some_iff] at hu
   obtain⟨i,hi,rfl⟩:=hu
   obtain⟨hlt,hij⟩:=List.getElem?_eq_some_iff.1 hi
   simp at hlt hij
   subst hij
   rw[List.getElem?_take,if_pos hlt] at hx
   exact .plain _ _ (hf _ x hx hlt)
  have he' : eqFlat ks kc (r.take ks.length)=some b:=by
   rw[← he,← eqFlat_take ks kc r ks.length (Nat.le_refl _),← eqFlat_take ks kc (r.take ks.length) ks.length (Nat.le_refl _),List.take_take,Nat.min_self]
  exact struct_run (flatK_run 7) hK.flat hu (D:=9999) (by omega) (n:=n) hC hD he'
theorem findNow_flat {d:TypeDesc} {kv:Value} {ks:List CK} {kc:List AV} : ∀ (l:List MapEntry) (es:List (List AV)) (i0:Nat) (o:Option Nat),l.length=es.length →
  (∀ (i:Nat) (e:MapEntry) (r:List AV) (b:Bool),l[i]?=some e→es[i]?=some r→eqFlat ks kc r=some b→Instr.sameNow d kv e.key=some b)→findE ks kc es=some o →
  Instr.findNow d kv l i0=some (o.map fun i=>(i0+i,(l.getD i default).val))
 | [],[],i0,o,_,_,h=>by simp only[findE,Option.some.injEq] at h;subst h;rfl
 | [],_ :: _,_,_,hl,_,_=>by simp at hl
 | _ :: _,[],_,_,hl,_,_=>by simp at hl
 | e :: l,r :: es,i0,o,hl,hq,h=>by
  simp only[findE,Option.bind_eq_some_iff] at h
  obtain⟨b,hb,h⟩:=h
  have h0:=hq 0 e r b rfl rfl hb
  cases b with
  | true =>
   simp only[cond_true,Option.some.injEq] at h
   subst h
   simp[Instr.findNow,h0]
  | false =>
   simp only[cond_false,Option.map_eq_some_iff] at h
   obtain⟨o',ho',rfl⟩:=h
   have ih:=findNow_flat l es (i0+1) o' (by simpa using hl) (fun i e r b h1 h2 h3=>hq (i+1) e r b (by simpa using h1) (by simpa using h2) h3) ho'
   simp only[Instr.findNow,h0,ih,Option.map_map]
   cases o' with
   | none=>rfl
   | some i=>simp[Nat.add_assoc,Nat.add_comm 1 i]
theorem findAsking_flat {kt:TypeId} {kv:Value} {ks:List CK} {kc:List AV} : ∀ (l:List MapEntry) (es:List (List AV)) (i0:Nat) (o:Option Nat),l.length=es.length →
  (∀ (i:Nat) (e:MapEntry) (r:List AV) (b:Bool),l[i]?=some e→es[i]?=some r→eqFlat ks kc r=some b→(Op.equal kt kv e.key).run P w=.ok b w)→findE ks kc es=some o →
  (Instr.findAsking kt kv l i0).run P w=.ok (o.map fun i=>(i0+i,(l.getD i default).val)) w
 | [],[],i0,o,_,_,h=>by simp only[findE,Option.some.injEq] at h;subst h;rfl
 | [],_ :: _,_,_,hl,_,_=>by simp at hl
 | _ :: _,[],_,_,hl,_,_=>by simp at hl
 | e :: l,r :: es,i0,o,hl,hq,h=>by
  simp only[findE,Option.bind_eq_some_iff] at h
  obtain⟨b,hb,h⟩:=h
  have h0:=hq 0 e r b rfl rfl hb
  cases b with
  | true =>
   simp only[cond_true,Option.some.injEq] at h
   subst h
   simp[Instr.findAsking,h0]
  | false =>
   simp only[cond_false,Option.map_eq_some_iff] at h
   obtain⟨o',ho',rfl⟩:=h
   have ih:=findAsking_flat l es (i0+1) o' (by simpa using hl) (fun i e r b h1 h2 h3=>hq (i+1) e r b (by simpa using h1) (by simpa using h2) h3) ho'
   simp only[Instr.findAsking,Sem.run_bind,h0,Result.andThen_ok,Bool.false_eq_true,if_false,ih]
   cases o' with
   | none=>rfl
   | some i=>simp[Nat.add_assoc,Nat.add_comm 1 i]
theorem run_find {kt:TypeId} {ks:List CK} {ka:Bool} (hK:KeyT P kt ks ka) {n:Nat} {kv:Value} {k:AV} {kc:List AV} (hk:VR gh n w kv k) (hkc:k.cells=some kc) (hl:kc.length=ks.length) (hka:ka=k.isAgg)
  {l:List MapEntry} {es:List (List AV)} (hlen:l.length=es.length) (hrow:∀ (i:Nat) (e:MapEntry) (r:List AV),l[i]?=some e→es[i]?=some r→KeyAt gh.S w ks.length ka e.key r) {o:Option Nat} (hf:findE ks kc es=some o) :
  (Instr.findKey kt kv l).run P w=.ok (o.map fun i=>(i,(l.getD i default).val)) w:=by
 have hq:=fun (i:Nat) (e:MapEntry) (r:List AV) (b:Bool) (h1:l[i]?=some e) (h2:es[i]?=some r) (h3:eqFlat ks kc r=some b)=>key_equal hK hk hkc hl hka (hrow i e r h1 h2) h3
 rcases hK.cases with ⟨rfl,h⟩|⟨rfl,fs,hu⟩
 ·obtain⟨d,hd⟩:∃ d,P.underlying kt=some d:=by rcases h with ⟨h,_⟩|⟨_,h,_⟩|⟨h,_⟩<;>exact⟨_,h⟩
  have hn:=findNow_flat l es 0 o hlen (fun i e r b h1 h2 h3=>(hq i e r b h1 h2 h3).2 rfl d hd) hf
  simp only[Nat.zero_add] at hn
  simp[Instr.findKey,run_underlying hd,hn]
 ·cases l with
  | nil =>
   cases es with
   | cons _ _=>simp at hlen
   | nil =>
    simp only[findE,Option.some.injEq] at hf
    subst hf
    simp[Instr.findKey,run_underlying hu,Instr.findNow]
  | cons e l =>
   have hn:=findAsking_flat (P:=P) (w:=w) (e :: l) es 0 o hlen (fun i e r b h1 h2 h3=>(hq i e r b h1 h2 h3).1 rfl) hf
   simp only[Nat.zero_add] at hn
   simp[Instr.findKey,run_underlying hu,Instr.findNow,Instr.sameNow,hn]
end
end Go.Abs
end
section
namespace Go.Abs
set_option linter.unusedSimpArgs false
set_option linter.unusedVariables false
section
variable {P:Program} {G:Nat→List AV} {base nt:Nat} {L:List Nat} {gh:Gh} {w w' : World} {a:Act} {s:AS} {H:AHeap}
theorem WRel.setMore {gh' : Gh} {touch:Owner→Prop} (hW:WRel G base H gh w) (st:Step touch H.length gh w gh' w') {loc:Nat} (hlt:loc<H.length) (ht:∀ l,l≠loc→¬ touch (.hb l)∧∀ j,¬ touch (.hs l j))
  (hs:∀ b o,gh'.S b o→b<w'.heap.size) (hk:∀ b,gh'.κ b≠.none→base≤b∧b<w'.heap.size) {o:AObj} (hnb:∀ ty cs,o≠.box ty cs) (hM:MoreAt gh' H.length w' (gh'.ρ loc) loc o)
  (hnew:∀ b o m,gh'.S b o→gh.S b o∨(w'.cell? ⟨b,o,none⟩=some (.int .u8 m)→∃ C fr,w'.heap[b]?=some (.cells C byteTy fr))):WRel G base (H.set loc o) gh' w':=by
 have box:∀ {l:Nat} {ty:TypeId} {ds:List AV},(H.set loc o)[l]?=some (.box ty ds)→l≠loc∧H[l]?=some (.box ty ds):=by
  intro l ty ds hl
  rw[List.getElem?_set] at hl
  split at hl
  ·injection hl with hl;exact absurd hl (hnb ty ds)
  ·rename_i e;exact⟨Ne.symm e,hl⟩
 refine⟨Nat.le_trans hW.size st.size,hs,hk,fun g j x hx=>?_,fun l ty' ds hl=>?_,fun l ty' ds hl=>?_,fun g hg=>(hW.tabs g hg).imp fun ty h=>st.len g ty _ h,hW.bytes_step st hnew,fun l o' hl=>?_,fun l ty' ds hl hf=>?_⟩
 ·obtain⟨v,h1,h2,h3⟩:=hW.glob g j x hx
  exact⟨v,(st.cell g j h3).trans h1,h2.mono st.S st.cell st.mp,st.S g j h3⟩
 ·obtain⟨hne,hl⟩:=box hl
  rw[List.length_set,st.ρ l (List.getElem?_eq_some_iff.1 hl).1]
  exact (hW.boxes l ty' ds hl).mono st (Nat.le_refl _) (ht l hne).1 (ht l hne).2
 ·exact hW.refs l ty' ds (box hl).2
 ·rw[List.length_set]
  rw[List.getElem?_set] at hl
  split at hl
  ·rename_i e
   subst e
   injection hl with hl
   subst hl
   exact hM
  ·rename_i e
   rw[st.ρ l (List.getElem?_eq_some_iff.1 hl).1]
   exact (hW.more l o' hl).mono st (Nat.le_refl _) (ht l (Ne.symm e)).1 (ht l (Ne.symm e)).2
 ·obtain⟨hne,hl⟩:=box hl
  rw[st.ρ l (List.getElem?_eq_some_iff.1 hl).1]
  exact st.len _ _ _ (hW.types l ty' ds hl hf)
theorem WRel.pushMore (hW:WRel G base H gh w) {ob:Obj} (hp:Pushed w w' ob) {o:AObj} (hnb:∀ ty cs,o≠.box ty cs) (hM:MoreAt (gh.pushBox w.heap.size H.length) (H.length+1) w' w.heap.size H.length o) :
  WRel G base (H++[o]) (gh.pushBox w.heap.size H.length) w':=by
 have st:=pushBox_step hW hp
 have old:∀ {l:Nat} {o' : AObj},(H++[o])[l]?=some o'→(l<H.length∧H[l]?=some o')∨(l=H.length∧o'=o):=by
  intro l o' hl
  by_cases hlt:l<H.length
  ·rw[List.getElem?_append_left hlt] at hl;exact .inl ⟨hlt,hl⟩
  ·rw[List.getElem?_append_right (by omega)] at hl
   have hz:l=H.length:=by
    have:=(List.getElem?_eq_some_iff.1 hl).1
    simp at this;omega
   subst hz
   simp at hl
   exact .inr ⟨rfl,hl.symm⟩
 refine⟨Nat.le_trans hW.size st.size,?_,?_,fun g j x hx=>?_,fun l ty' ds hl=>?_,fun l ty' ds hl=>?_,fun g hg=>(hW.tabs g hg).imp fun ty h=>st.len g ty _ h,hW.bytes_step st (fun b o m h=>h.elim .inl (fun h=>h.2.elim)),fun l o' hl=>?_,fun l ty' ds hl hf=>?_⟩
 ·intro b o ho
  rw[hp.size]
  rcases ho with ho|⟨_,ho⟩
  ·have:=hW.sLt b o ho;omega
  ·exact ho.elim
 ·intro b hb
  rw[hp.size]
  have hb' : (if b=w.heap.size then Owner.hb H.length else gh.κ b)≠.none:=hb
  split at hb'
  ·rename_i e
   have:=hW.size
   omega
  ·have:=hW.kLt b hb';omega
 ·obtain⟨v,h1,h2,h3⟩:=hW.glob g j x hx
  exact⟨v,(st.cell g j h3).trans h1,h2.mono st.S st.cell st.mp,st.S g j h3⟩
 ·rcases old hl with ⟨hlt,hl⟩|⟨_,h⟩
  ·rw[List.length_append,List.length_singleton,st.ρ l hlt]
   exact (hW.boxes l ty' ds hl).mono st (Nat.le_succ _) id (fun _=>id)
  ·exact absurd h.symm (hnb ty' ds)
 ·rcases old hl with ⟨hlt,hl⟩|⟨_,h⟩
  ·exact hW.refs l ty' ds hl
  ·exact absurd h.symm (hnb ty' ds)
 ·rw[List.length_append,List.length_singleton]
  rcases old hl with ⟨hlt,hl⟩|⟨rfl,rfl⟩
  ·rw[st.ρ l hlt]
   exact (hW.more l o' hl).mono st (Nat.le_succ _) id (fun _=>id)
  ·have hρ:(gh.pushBox w.heap.size H.length).ρ H.length=w.heap.size:=by simp[Gh.pushBox]
   rw[hρ];exact hM
 ·rcases old hl with ⟨hlt,hl⟩|⟨_,h⟩
  ·rw[st.ρ l hlt]
   exact st.len _ _ _ (hW.types l ty' ds hl hf)
  ·exact absurd h.symm (hnb ty' ds)
def mapW (w:World) (b:Nat) (E:Array MapEntry) (ck:Nat):World:={ w with heap:=w.heap.setIfInBounds b (Obj.map E ck) }
theorem setMap_same {b:Nat} {E E' : Array MapEntry} {ck ck' : Nat} (hb:w.heap[b]?=some (.map E ck)):(mapW w b E' ck').heap[b]?=some (.map E' ck'):=by
 have hlt:b<w.heap.size:=(Array.getElem?_eq_some_iff.1 hb).1
 simp[mapW,hlt]
theorem setMap_other {b b' : Nat} {E' : Array MapEntry} {ck' : Nat} (h:b'≠b):(mapW w b E' ck').heap[b']?=w.heap[b']?:=by
 simp[mapW,Ne.symm h]
theorem run_setMap {b:Nat} {E E' : Array MapEntry} {ck ck' : Nat} (hb:w.heap[b]?=some (.map E ck)):(setObj b (.map E' ck')).run P w=.ok () (mapW w b E' ck'):=by
 simp[setObj,Sem.run,hb,mapW]
theorem map_step (hW:WRel G base H gh w) {b:Nat} {E E' : Array MapEntry} {ck ck' : Nat} (hb:w.heap[b]?=some (.map E ck)) (hS:∀ o,¬ gh.S b o) (n:Nat):Step (fun r=>r=gh.κ b) n gh w gh (mapW w b E' ck'):=by
 have hne:∀ b' o,gh.S b' o→b'≠b:=fun b' o h=>by rintro rfl;exact hS o h
 refine⟨fun _ _ h=>h,fun b' o h=>cell_of_heap (setMap_other (hne b' o h)),by simp[mapW],rfl,rfl,rfl,fun b' hb' hn=>?_,fun b' hb'=>?_,fun _ _=>rfl,fun b' ty m hm=>?_,fun b' E1 c1 hs hm=>?_⟩
 ·have hne' : b'≠b:=by rintro rfl;exact hn rfl
  exact⟨.inl (setMap_other hne'),rfl,fun _ h=>h⟩
 ·have:w.heap.size≤b':=by simpa [mapW] using hb'
  exact hW.not_outer b' this
 ·obtain⟨C,fr,h1,h2⟩:=hm
  have hne' : b'≠b:=by rintro rfl;rw[hb] at h1;cases h1
  exact⟨C,fr,by rw[setMap_other hne'];exact h1,h2⟩
 ·rw[setMap_other (hne b' 0 hs)];exact hm
structure MapT (P:Program) (t kt et:TypeId) (ks:List CK) (ka va:Bool) (vz:Nat) (z:Value) (zero:List AV):Prop where
 ht:P.underlying t=some (.map kt et)
 key:KeyT P kt ks ka
 vz1:va=false→vz=1
 hz:∃ i,P.info? et=some i∧i.zero=some z
 cells:constCells z.cells.toList=some zero
 agg:aggV z=va
 len:zero.length=vz
theorem KeyT.kz {kt:TypeId} {ks:List CK} {ka:Bool} (h:KeyT P kt ks ka) (hf:ka=false):ks.length=1:=by
 rcases h.cases with ⟨_,⟨_,h⟩|⟨_,_,h⟩|⟨_,h⟩⟩|⟨rfl,_⟩
 ·rw[h];rfl
 ·rw[h];rfl
 ·rw[h];rfl
 ·cases hf
theorem mapK_inv {t:TypeId} {m:List CK × Bool × Bool × List AV} (h:mapK P t=some m):∃ kt et z,MapT P t kt et m.1 m.2.1 m.2.2.1 m.2.2.2.length z m.2.2.2:=by
 unfold mapK at h
 split at h
 ·rename_i kt et hu
  simp only[Option.bind_eq_some_iff] at h
  obtain⟨ks,hks,ka,hka,i,hi,z,hz,zero,hzc,h⟩:=h
  obtain⟨h0,h⟩:=cond_some h
  injection h with h
  subst h
  refine⟨kt,et,z,hu,⟨hks,hka⟩,fun hv=>?_,⟨i,hi,hz⟩,hzc,rfl,rfl⟩
  simp only at hv ⊢
  rw[hv] at h0
  simpa [nbeq] using h0
 ·cases h
theorem ev_mkmap (hW:WRel G base s.H gh w) (hF:FR L nt gh w a s) {o:Oper} {t:TypeId} (ho:o.op=.makeMap t none) (hd:∀ k,o.dst=some k→k<nt) (kz:Nat) (ka va:Bool) :
  ∃ v' gh' w',Ran P a o w v' w'∧Out G base nt L gh w a s o.dst (.mref s.H.length) (s.chg ⟨s.H++[.map kz ka va []],s.H.length⟩) v' gh' w':=by
 have hp:=Pushed.alloc w (.map #[] 0)
 have hρ:(gh.pushBox w.heap.size s.H.length).ρ s.H.length=w.heap.size:=by simp[Gh.pushBox]
 have hv:VR (gh.pushBox w.heap.size s.H.length) (s.H++[AObj.map kz ka va []]).length (w.alloc (.map #[] 0)) (.map (some w.heap.size)) (.mref s.H.length):=by
  have:=VR.mref (gh:=gh.pushBox w.heap.size s.H.length) (w:=w.alloc (.map #[] 0)) (n:=(s.H++[AObj.map kz ka va []]).length) s.H.length (by simp)
  rw[hρ] at this;exact this
 have hM:MoreAt (gh.pushBox w.heap.size s.H.length) (s.H.length+1) (w.alloc (.map #[] 0)) w.heap.size s.H.length (.map kz ka va []):=by
  refine⟨⟨by simp[Gh.pushBox,Gh.alloc],?_,#[],0,fun _ _=>undef,hp.new,⟨rfl,rfl,fun i e h=>by simp at h,fun i e h=>by simp at h,fun i j e e' h=>by simp at h,fun i e r h=>by simp at h⟩,fun i j r x h=>by simp at h,fun i j r x h=>by simp at h⟩,rfl⟩
  rintro o (ho|⟨_,ho⟩)
  ·have:=hW.sLt _ o ho;omega
  ·exact ho
 refine⟨_,_,_,.inl ?_,hW.pushMore hp (fun _ _ h=>by cases h) hM,hF.put (pushBox_step hW hp) (fun i=>⟨id,id,fun _=>id⟩) (by simp) o.dst hd (.of_VR hv),pushBox_ext hW hp⟩
 simp[execOp,ho,Instr.makeMap,newObj,Sem.run]
theorem mkV_VR {n:Nat} {va:Bool} {m:Nat} {g:Nat→Value} {cs:List AV} (hm:cs.length=m) (h1:va=false→m=1) (h:∀ (j:Nat) (x:AV),cs[j]?=some x→VR gh n w (g j) x.drop∧(g j).oneCell'=true) :
  VR gh n w (mkV va m g) (cond va (.agg (cs.map AV.drop)) ((cs.headD .undef).drop)):=by
 cases va with
 | true =>
  refine .agg _ _ (by simp[hm]) (fun j v hv=>?_) (fun j v x hv hx=>?_)
  ·simp only[List.getElem?_toArray,List.getElem?_map,Option.map_eq_some_iff] at hv
   obtain⟨i,hi,rfl⟩:=hv
   obtain⟨hlt,hij⟩:=List.getElem?_eq_some_iff.1 hi
   simp at hlt hij
   subst hij
   exact (h _ _ (List.getElem?_eq_getElem (by omega))).2
  ·simp only[List.getElem?_toArray,List.getElem?_map,Option.map_eq_some_iff] at hv hx
   obtain⟨i,hi,rfl⟩:=hv
   obtain⟨hlt,hij⟩:=List.getElem?_eq_some_iff.1 hi
   simp at hlt hij
   subst hij
   obtain⟨y,hy,rfl⟩:=hx
   exact (h _ y hy).1
 | false =>
  have:=h1 rfl
  cases cs with
  | nil=>simp at hm;omega
  | cons x cs=>exact (h 0 x rfl).1
theorem zero_VR {n:Nat} {t kt et:TypeId} {ks:List CK} {ka va:Bool} {vz:Nat} {z:Value} {zero:List AV} (hT:MapT P t kt et ks ka va vz z zero):VR gh n w z (cond va (.agg (zero.map AV.drop)) ((zero.headD .undef).drop)):=by
 obtain⟨hl,hv⟩:=constCells_VR (gh:=gh) (n:=n) (w:=w) hT.cells
 have hag:=hT.agg
 cases z
 case agg C =>
  simp[aggV] at hag
  subst hag
  refine .agg C _ (by simpa [Value.cells] using hl) (fun j v hv'=>?_) (fun j v x hv' hx=>?_)
  ·have hlt:=(Array.getElem?_eq_some_iff.1 hv').1
   have hz:zero[j]?=some zero[j]:=List.getElem?_eq_getElem (by
    have:C.toList.length=zero.length:=by simpa [Value.cells] using hl
    simp at this;omega)
   exact (hv j v _ (by simpa [Value.cells] using hv') hz).2
  ·simp only[List.getElem?_map,Option.map_eq_some_iff] at hx
   obtain⟨y,hy,rfl⟩:=hx
   exact (hv j v y (by simpa [Value.cells] using hv') hy).1.dropped
 all_goals
  simp[aggV] at hag
  subst hag
  have h1:zero.length=1:=by rw[hT.len];exact hT.vz1 rfl
  obtain⟨x,rfl⟩:=List.length_eq_one_iff.1 h1
  exact (hv 0 _ x rfl rfl).1.dropped
theorem lookV_VR {n:Nat} {ok va:Bool} {cs:List AV} {v:Value} (h:VR gh n w v (cond va (.agg (cs.map AV.drop)) ((cs.headD .undef).drop))) (found:Bool) :
  VR gh n w (if ok then .tuple #[v,.bool found] else v) (lookV ok va cs found):=by
 unfold lookV
 simp only
 cases ok with
 | false=>exact h
 | true =>
  refine .tuple _ _ rfl (fun j u x hu hx=>?_)
  match j with
  | 0=>injection hu with hu;injection hx with hx;subst hu hx;exact h
  | 1=>injection hu with hu;injection hx with hx;subst hu hx;exact .plain _ _ (.bool _)
  | j+2=>simp at hx
structure Rows (gh:Gh) (n:Nat) (w:World) (E:Array MapEntry) (kz:Nat) (ka va:Bool) (es:List (List AV)):Prop where
 size:E.size=es.length
 key:∀ (i:Nat) (e:MapEntry) (r:List AV),E[i]?=some e→es[i]?=some r→KeyAt gh.S w kz ka e.key r
 val:∀ (i:Nat) (e:MapEntry) (r:List AV),E[i]?=some e→es[i]?=some r→kz≤r.length∧(va=false→r.length=kz+1)∧∃ g,e.val=mkV va (r.length-kz) g∧∀ (j:Nat) (x:AV),(r.drop kz)[j]?=some x→VR gh n w (g j) x.drop∧(g j).oneCell'=true
theorem rows_of_PR {n b kz:Nat} {ka va:Bool} {es:List (List AV)} {v:Value} (h:PR gh.S w v (.fmap kz ka va es)):∃ b E ck,v=.map (some b)∧w.heap[b]?=some (.map E ck)∧Rows gh n w E kz ka va es:=by
 cases h with
 | fmap b _ _ _ _ E ck f hS hb hE hrel =>
  refine⟨b,E,ck,rfl,hb,hE.size,fun i e r h1 h2=>⟨f i,(hE.row i e r h1 h2).2.2.2.1,fun j x hj _=>hrel i j r x h2 hj⟩,fun i e r h1 h2=>?_⟩
  obtain⟨k1,_,k2,_,k3⟩:=hE.row i e r h1 h2
  refine⟨k1,k2,fun j=>f i (kz+j),k3,fun j x hj=>?_⟩
  rw[List.getElem?_drop] at hj
  have:=hrel i (kz+j) r x h2 hj
  exact⟨VR.dropped (.plain _ _ this),this.oneCell⟩
theorem rows_of_At {n b kz:Nat} {p:Owner} {q:Nat→Owner} {ka va:Bool} {es:List (List AV)} (h:MapAt gh n w b p q kz ka va es):∃ E ck,w.heap[b]?=some (.map E ck)∧Rows gh n w E kz ka va es:=by
 obtain⟨_,_,E,ck,f,hb,hE,h1,h2⟩:=h
 refine⟨E,ck,hb,hE.size,fun i e r k1 k2=>⟨f i,(hE.row i e r k1 k2).2.2.2.1,fun j x hj hl=>h1 i j r x k2 hj hl⟩,fun i e r k1 k2=>?_⟩
 obtain⟨l1,_,l2,_,l3⟩:=hE.row i e r k1 k2
 refine⟨l1,l2,fun j=>f i (kz+j),l3,fun j x hj=>?_⟩
 rw[List.getElem?_drop] at hj
 obtain⟨m1,_,m2⟩:=h2 i (kz+j) r x k2 hj (by omega)
 exact⟨m2.dropped,m1⟩
theorem find_lt:∀ {ks:List CK} {kc:List AV} {es:List (List AV)} {i:Nat},findE ks kc es=some (some i)→i<es.length
 | ks,kc,[],i,h=>by simp[findE] at h
 | ks,kc,r :: es,i,h=>by
  simp only[findE,Option.bind_eq_some_iff] at h
  obtain⟨b,_,h⟩:=h
  cases b with
  | true=>simp at h;subst h;simp
  | false =>
   simp only[cond_false,Option.map_eq_some_iff] at h
   obtain⟨o,ho,h⟩:=h
   cases o with
   | none=>simp at h
   | some j=>simp at h;subst h;have:=find_lt ho;simp;omega
theorem run_look {n:Nat} {t kt et:TypeId} {ks:List CK} {ka va:Bool} {vz:Nat} {z:Value} {zero:List AV} (hT:MapT P t kt et ks ka va vz z zero) {kv:Value} {k:AV} {kc:List AV} (hk:VR gh n w kv k) (hkc:k.cells=some kc) (hl:kc.length=ks.length) (hka:ka=k.isAgg)
  {b:Nat} {E:Array MapEntry} {ck:Nat} {es:List (List AV)} (hb:w.heap[b]?=some (.map E ck)) (hR:Rows gh n w E ks.length ka va es) {o:Option Nat} (hf:findE ks kc es=some o) (ok:Bool) :
  ∃ v,(Instr.lookup t (.map (some b)) kv ok).run P w=.ok v w∧VR gh n w v (lookO ok va zero ks.length es o):=by
 have hch:=run_check hT.key hk hkc hl hka E.isEmpty
 have hfi:=run_find hT.key hk hkc hl hka (l:=E.toList) (by simpa using hR.size) (fun i e r h1 h2=>hR.key i e r (by simpa using h1) h2) hf
 obtain⟨i0,hi0,hz0⟩:=hT.hz
 have hzr:(zeroValue et).run P w=.ok z w:=by simp[zeroValue,typeInfo,hi0,hz0]
 cases o with
 | none =>
  refine⟨if ok then .tuple #[z,.bool false] else z,?_,lookV_VR (zero_VR hT) false⟩
  simp[Instr.lookup,run_underlying hT.ht,getObj,Sem.run,hb]
  simp[hch,hfi,hzr]
 | some i =>
  have hi:=find_lt hf
  have hiE:i<E.size:=by rw[hR.size];exact hi
  have hE:E[i]?=some E[i]:=Array.getElem?_eq_getElem hiE
  have he:es[i]?=some es[i]:=List.getElem?_eq_getElem hi
  obtain⟨k1,k2,g,k3,k4⟩:=hR.val i _ _ hE he
  have hgd:es.getD i []=es[i]:=by simp[List.getD,he]
  have hed:E.toList.getD i default=E[i]:=by
   have:E.toList[i]?=some E[i]:=by rw[Array.getElem?_toList];exact hE
   simp[List.getD,this]
  have hv:=mkV_VR (gh:=gh) (n:=n) (w:=w) (va:=va) (m:=es[i].length-ks.length) (g:=g) (cs:=es[i].drop ks.length) (by simp) (fun hva=>by have:=k2 hva;omega) k4
  rw[← k3] at hv
  refine⟨if ok then .tuple #[E[i].val,.bool true] else E[i].val,?_,by simp only[lookO];rw[hgd];exact lookV_VR hv true⟩
  simp only[Option.map_some,hed] at hfi
  simp[Instr.lookup,run_underlying hT.ht,getObj,Sem.run,hb]
  simp[hch,hfi]
theorem run_look_nil {n:Nat} {t kt et:TypeId} {ks:List CK} {ka va:Bool} {vz:Nat} {z:Value} {zero:List AV} (hT:MapT P t kt et ks ka va vz z zero) {kv:Value} {k:AV} {kc:List AV} (hk:VR gh n w kv k) (hkc:k.cells=some kc) (hl:kc.length=ks.length) (hka:ka=k.isAgg) (ok:Bool) :
  ∃ v,(Instr.lookup t (.map none) kv ok).run P w=.ok v w∧VR gh n w v (lookV ok va zero false):=by
 have hch:=run_check hT.key hk hkc hl hka true
 have hfi:=run_find hT.key hk hkc hl hka (l:=[]) (es:=[]) rfl (fun i e r h1 h2=>by simp at h1) (o:=none) rfl
 obtain⟨i0,hi0,hz0⟩:=hT.hz
 have hzr:(zeroValue et).run P w=.ok z w:=by simp[zeroValue,typeInfo,hi0,hz0]
 refine⟨if ok then .tuple #[z,.bool false] else z,?_,lookV_VR (zero_VR hT) false⟩
 simp[Instr.lookup,run_underlying hT.ht]
 simp[hch,hfi,hzr]
end
end Go.Abs
end
section
namespace Go.Abs
set_option linter.unusedSimpArgs false
set_option linter.unusedVariables false
section
variable {P:Program} {G:Nat→List AV} {base nt:Nat} {L:List Nat} {gh:Gh} {w w' : World} {a:Act} {s:AS} {H:AHeap}
theorem ev_look (hW:WRel G base s.H gh w) (hF:FR L nt gh w a s) {o:Oper} {t kt et:TypeId} {ks:List CK} {ka va:Bool} {vz:Nat} {zv:Value} {zero:List AV} (hT:MapT P t kt et ks ka va vz zv zero) {x i:Operand} {y yi:IArg} {ok:Bool} {z:AV} {s' : Option AS}
  (ho:o.op=.lookup t x i ok) (hc:compArg nt x=some y) (hi:compArg nt i=some yi) (he:evLook s ok ks.length ka va ks zero (y.addr G s.T) (yi.eval G s.T)=some (z,s')) :
  s'=none∧∃ v,(execOp a.eval o).run P w=.ok (.value v) w∧Val gh s.H.length nt w s.T s.gen (tmv a) v z:=by
 simp only[evLook,Option.bind_eq_some_iff] at he
 obtain⟨kc,hkc,he⟩:=he
 obtain⟨h0,he⟩:=cond_some he
 simp only[Bool.and_eq_true,nbeq,decide_eq_true_eq,beq_iff_eq] at h0
 obtain⟨hl,hka⟩:=h0
 have hfr:frameCell (yi.eval G s.T)=true:=by rw[← frameCell_drop];exact frameCell_of_cells hkc
 have hk:=arg_VR hW hF hi rfl hfr
 have fin:∀ {M:Value} {zz:AV},a.eval x=M→(∃ v,(Instr.lookup t M (a.eval i) ok).run P w=.ok v w∧VR gh s.H.length w v zz)→∃ v,(execOp a.eval o).run P w=.ok (.value v) w∧Val gh s.H.length nt w s.T s.gen (tmv a) v zz:=by
  rintro M zz rfl ⟨v,h1,h2⟩
  exact⟨v,by simp[execOp,ho,h1],.of_VR h2⟩
 have hm:=arg_val hW hF hc
 split at he
 ·rename_i hM
  simp only[Option.some.injEq,Prod.mk.injEq] at he
  obtain⟨rfl,rfl⟩:=he
  rw[hM] at hm
  refine⟨rfl,fin (M:=.map none) ?_ (run_look_nil hT hk hkc hl hka ok)⟩
  generalize a.eval x=V at hm
  cases (hm:VR gh s.H.length w V .nilmap) with
  | plain _ _ h=>cases h;rfl
 ·simp only[Option.bind_eq_some_iff,Option.map_eq_some_iff,Prod.mk.injEq] at he
  obtain⟨es,hrows,r,hf,rfl,rfl⟩:=he
  refine⟨rfl,?_⟩
  have key:∃ b E ck,a.eval x=.map (some b)∧w.heap[b]?=some (.map E ck)∧Rows gh s.H.length w E ks.length ka va es:=by
   generalize hY:y.addr G s.T=Y at hm hrows
   have hp:∀ kz' ka' va' es',Y=.fmap kz' ka' va' es'→PR gh.S w (a.eval x) (.fmap kz' ka' va' es'):=by
    rintro _ _ _ _ rfl
    generalize a.eval x=V at hm
    cases (hm:VR gh s.H.length w V (.fmap _ _ _ _)) with
    | plain _ _ h=>exact h
   unfold mapRows at hrows
   split at hrows
   ·obtain⟨h1,hrows⟩:=cond_some hrows
    injection hrows with hrows
    subst hrows
    simp only[Bool.and_eq_true,nbeq,decide_eq_true_eq,beq_iff_eq] at h1
    obtain⟨⟨rfl,rfl⟩,rfl⟩:=h1
    exact rows_of_PR (b:=0) (hp _ _ _ _ rfl)
   ·obtain⟨hlt,hax⟩:=VR.inv_mref (hm:VR gh s.H.length w (a.eval x) (.mref _))
    split at hrows
    ·rename_i hH
     obtain⟨h1,hrows⟩:=cond_some hrows
     injection hrows with hrows
     subst hrows
     simp only[Bool.and_eq_true,nbeq,decide_eq_true_eq,beq_iff_eq] at h1
     obtain⟨⟨rfl,rfl⟩,rfl⟩:=h1
     obtain⟨E,ck,hb,hR⟩:=rows_of_At (hW.more _ _ hH).1
     exact⟨_,E,ck,hax,hb,hR⟩
    ·rename_i hH
     obtain⟨h1,hrows⟩:=cond_some hrows
     injection hrows with hrows
     subst hrows
     simp only[Bool.and_eq_true,nbeq,decide_eq_true_eq,beq_iff_eq] at h1
     obtain⟨⟨rfl,rfl⟩,rfl⟩:=h1
     obtain⟨b,E,ck,hv,hb,hR⟩:=rows_of_PR (b:=0) (n:=s.H.length) (hW.more _ _ hH:PR gh.S w _ _)
     exact⟨b,E,ck,hax.trans hv,hb,hR⟩
    ·cases hrows
   ·cases hrows
  obtain⟨b,E,ck,hax,hb,hR⟩:=key
  exact fin hax (run_look hT hk hkc hl hka hb hR hf ok)
theorem find_eq:∀ {ks:List CK} {kc:List AV} {es:List (List AV)} {i:Nat} {r:List AV},findE ks kc es=some (some i)→es[i]?=some r→eqFlat ks kc r=some true
 | ks,kc,[],i,r,h,_=>by simp[findE] at h
 | ks,kc,q :: es,i,r,h,hr=>by
  simp only[findE,Option.bind_eq_some_iff] at h
  obtain⟨b,hb,h⟩:=h
  cases b with
  | true=>simp at h;subst h;simp at hr;subst hr;exact hb
  | false =>
   simp only[cond_false,Option.map_eq_some_iff] at h
   obtain⟨o,ho,h⟩:=h
   cases o with
   | none=>simp at h
   | some j=>simp at h;subst h;exact find_eq ho (by simpa using hr)
theorem bits_cell {n m:Nat} {c:CK} {u v:Value} {x y:AV} (hu:VR gh n w u x) (hv:PR gh.S w v y) (h:eqFlat [c] [x] [y]=some true):Instr.sameBits m v u=true:=by
 cases c<;>cases x<;>try (cases h;done)
 all_goals (cases y<;>try (cases h;done))
 ·obtain rfl:=hu.inv_bool
  cases hv
  simp[eqFlat] at h
  cases m<;>simp[Instr.sameBits,h]
 ·obtain rfl:=hu.inv_int
  cases hv
  simp only[eqFlat] at h
  obtain⟨h0,h⟩:=cond_some h
  simp at h h0
  cases m<;>simp[Instr.sameBits,h,h0]
 ·obtain⟨p,rfl,rfl⟩:=hu.inv_str
  cases hv with
  | str q _ hq =>
   simp[eqFlat] at h
   have:q=p:=by
    cases p;cases q
    congr 1
    exact Array.ext' (by rw[hq];simp at h ⊢;rw[h])
   subst this
   have hb:(q==q)=true:=show (q.data==q.data)=true by simp
   cases m<;>simp[Instr.sameBits,hb]
theorem flat_true:∀ {ks:List CK} {X Y:List AV},eqFlat ks X Y=some true→∀ (j:Nat) (c:CK),ks[j]?=some c→∃ x y,X[j]?=some x∧Y[j]?=some y∧eqFlat [c] [x] [y]=some true
 | [],X,Y,h,j,c,hj=>by simp at hj
 | c0 :: ks,X,Y,h,j,c,hj=>by
  have one:∀ (x y:AV) (X' Y' : List AV) (e:Bool),X=x :: X'→Y=y :: Y'→eqFlat [c0] [x] [y]=some e→(eqFlat ks X' Y').map (e&&·)=some true→∃ x y,X[j]?=some x∧Y[j]?=some y∧eqFlat [c] [x] [y]=some true:=by
   rintro x y X' Y' e rfl rfl h1 h2
   simp only[Option.map_eq_some_iff,Bool.and_eq_true] at h2
   obtain⟨b,hb,rfl,rfl⟩:=h2
   cases j with
   | zero=>simp at hj;subst hj;exact⟨x,y,rfl,rfl,h1⟩
   | succ j =>
    obtain⟨x',y',k1,k2,k3⟩:=flat_true hb j c (by simpa using hj)
    exact⟨x',y',by simpa using k1,by simpa using k2,k3⟩
  cases c0<;>cases X<;>try (cases h;done)
  all_goals (rename_i x X';cases x<;>try (cases h;done))
  all_goals (cases Y<;>try (cases h;done))
  all_goals (rename_i y Y';cases y<;>try (cases h;done))
  ·exact one _ _ _ _ _ rfl rfl (by simp[eqFlat]) h
  ·simp only[eqFlat] at h
   obtain⟨h0,h⟩:=cond_some h
   exact one _ _ _ _ _ rfl rfl (by simp only[eqFlat,h0,cond_true];simp) h
  ·exact one _ _ _ _ _ rfl rfl (by simp[eqFlat]) h
theorem bits_key {kt:TypeId} {ks:List CK} {ka:Bool} (hK:KeyT P kt ks ka) {n:Nat} {kv:Value} {k:AV} {kc:List AV} (hk:VR gh n w kv k) (hkc:k.cells=some kc) (hl:kc.length=ks.length) (hka:ka=k.isAgg)
  {v:Value} {r:List AV} (hv:KeyAt gh.S w ks.length ka v r) (he:eqFlat ks kc r=some true):Instr.sameBits 10000 v kv=true:=by
 obtain⟨f,rfl,hf⟩:=hv
 have hft:=flat_true he
 cases ka with
 | false =>
  have h1:=hK.kz rfl
  obtain⟨c,rfl⟩:=List.length_eq_one_iff.1 h1
  have hkc1:kc=[k]:=by
   cases k<;>first|(cases hka;done)|(injection hkc with hkc;exact hkc.symm)|(cases hkc;done)
  subst hkc1
  obtain⟨x,y,k1,k2,k3⟩:=hft 0 c rfl
  simp at k1
  subst k1
  exact bits_cell hk (hf 0 y k2 (by simp)) k3
 | true =>
  obtain⟨C,rfl⟩:=agg_value hk hka
  have hC:Row gh n w C kc:=by
   rcases val_cells hk hkc with ⟨C',e,_,hr⟩|⟨_,h1⟩
   ·injection e with e;subst e;exact hr
   ·simp[Value.oneCell'] at h1
  show Instr.sameBits (9999+1) (.agg ((List.range ks.length).map f).toArray) (.agg C)=true
  simp only[Instr.sameBits,Bool.and_eq_true,beq_iff_eq,List.all_eq_true]
  refine⟨by simp[hC.1,hl],fun p hp=>?_⟩
  obtain⟨j,hj⟩:=List.getElem?_of_mem hp
  rw[List.getElem?_zip_eq_some] at hj
  obtain⟨h1,h2⟩:=hj
  simp only[List.getElem?_map,Option.map_eq_some_iff] at h1
  obtain⟨i,hi,hfi⟩:=h1
  obtain⟨hlt,hij⟩:=List.getElem?_eq_some_iff.1 hi
  simp at hlt hij
  subst hij
  have hc:ks[j]?=some ks[j]:=List.getElem?_eq_getElem hlt
  obtain⟨x,y,k1,k2,k3⟩:=hft j _ hc
  have hu:=hC.2 j p.2 x (by simpa using h2) k1
  obtain⟨p1,p2⟩:=p
  simp only at hfi hu ⊢
  rw[← hfi]
  exact bits_cell hu (hf j y k2 hlt) k3
theorem value_mkV {n:Nat} {v:Value} {x:AV} {cs:List AV} (h:VR gh n w v x) (hc:x.cells=some cs):v=mkV x.isAgg cs.length (fun j=>v.cells.getD j undef)∧∀ (j:Nat) (y:AV),cs[j]?=some y→VR gh n w (v.cells.getD j undef) y∧(v.cells.getD j undef).oneCell'=true:=by
 have hr:=cells_rel h hc
 refine⟨?_,fun j y hj=>?_⟩
 ·rcases val_cells h hc with ⟨C,rfl,rfl,hrow⟩|⟨rfl,hone⟩
  ·simp only[mkV,AV.isAgg,cond_true,Value.cells]
   congr 1
   refine Array.ext (by simp[hrow.1]) (fun i h1 h2=>by simp[h1])
  ·have hag:x.isAgg=false:=by
    cases x<;>first|rfl|skip
    obtain⟨C,rfl,_⟩:=h.inv_agg
    simp[Value.oneCell'] at hone
   have hv:v.cells=#[v]:=by cases v<;>first|rfl|(simp[Value.oneCell'] at hone)
   simp[mkV,hag,hv]
 ·have hlt:j<v.cells.size:=by rw[hr.1];exact (List.getElem?_eq_some_iff.1 hj).1
  have hv:v.cells[j]?=some v.cells[j]:=Array.getElem?_eq_getElem hlt
  obtain⟨h1,h2⟩:=hr.2 j _ y hv hj
  simp only[Array.getD_eq_getD_getElem?,hv,Option.getD_some]
  exact⟨h1,h2⟩
end
end Go.Abs
end
section
namespace Go.Abs
set_option linter.unusedSimpArgs false
set_option linter.unusedVariables false
section
variable {P:Program} {G:Nat→List AV} {base nt:Nat} {L:List Nat} {gh:Gh} {w w' : World} {a:Act} {s:AS} {H:AHeap}
theorem mkV_congr {agg:Bool} {n:Nat} {f g:Nat→Value} (h:∀ j,j<n→f j=g j) (hn:agg=false→0<n):mkV agg n f=mkV agg n g:=by
 cases agg with
 | true =>
  simp only[mkV,cond_true]
  congr 2
  exact List.map_congr_left fun j hj=>h j (by simpa using hj)
 | false=>exact h 0 (hn rfl)
def setE (E:Array MapEntry) (ck:Nat) (o:Option Nat) (kv vv:Value):Array MapEntry × Nat :=
 match o with
 | none=>(E.push { key:=kv,val:=vv,born:=ck },ck+1)
 | some i=>(E.modify i fun e=>{ e with key:=kv,val:=vv },ck)
theorem run_mset {n:Nat} {t kt et:TypeId} {ks:List CK} {ka va:Bool} {vz:Nat} {zv:Value} {zero:List AV} (hT:MapT P t kt et ks ka va vz zv zero) {kv vv:Value} {k:AV} {kc:List AV} (hk:VR gh n w kv k) (hkc:k.cells=some kc) (hl:kc.length=ks.length) (hka:ka=k.isAgg)
  {b:Nat} {E:Array MapEntry} {ck:Nat} {es:List (List AV)} (hb:w.heap[b]?=some (.map E ck)) (hR:Rows gh n w E ks.length ka va es) {o:Option Nat} (hf:findE ks kc es=some o) :
  (Instr.mapUpdate t (.map (some b)) kv vv).run P w=.ok () (mapW w b (setE E ck o kv vv).1 (setE E ck o kv vv).2):=by
 have hch:=run_check hT.key hk hkc hl hka false
 have hfi:=run_find hT.key hk hkc hl hka (l:=E.toList) (by simpa using hR.size) (fun i e r h1 h2=>hR.key i e r (by simpa using h1) h2) hf
 cases o with
 | none =>
  have hs:=run_setMap (P:=P) (w:=w) (E':=E.push { key:=kv,val:=vv,born:=ck }) (ck':=ck+1) hb
  simp[Instr.mapUpdate,run_underlying hT.ht,getObj,Sem.run,hb]
  simp[hch,hfi,setE]
  exact hs
 | some i =>
  have hi:=find_lt hf
  have hiE:i<E.size:=by rw[hR.size];exact hi
  have hE:E[i]?=some E[i]:=Array.getElem?_eq_getElem hiE
  have he:es[i]?=some es[i]:=List.getElem?_eq_getElem hi
  have hbits:=bits_key hT.key hk hkc hl hka (hR.key i _ _ hE he) (find_eq hf he)
  have hs:=run_setMap (P:=P) (w:=w) (E':=E.modify i fun e=>{ e with key:=kv,val:=vv }) (ck':=ck) hb
  simp[Instr.mapUpdate,run_underlying hT.ht,getObj,Sem.run,hb]
  simp only[Option.map_some] at hfi
  simp[hch,hfi,setE,hiE,Instr.keyThatStays,hbits]
  exact hs
theorem set_At {n l b kz:Nat} {ka va:Bool} {es:List (List AV)} {E:Array MapEntry} {ck:Nat} {f:Nat→Nat→Value} (hW:WRel G base H gh w) (hκ:gh.κ b=.hb l) (hS:∀ o,¬ gh.S b o) (hb:w.heap[b]?=some (.map E ck)) (hE:EntOK E ck kz ka va es f)
  (h1:∀ (i j:Nat) (r:List AV) (x:AV),es[i]?=some r→r[j]?=some x→j<kz→PR gh.S w (f i j) x)
  (h2:∀ (i j:Nat) (r:List AV) (x:AV),es[i]?=some r→r[j]?=some x→kz≤j→(f i j).oneCell'=true∧(va=true→VR gh n w (f i j) x)∧CR gh n w (.hs l i) (f i j) x)
  {kc vc:List AV} {fk fv:Nat→Value} (hkz:kc.length=kz) (hk1:ka=false→kz=1) (hv1:va=false→vc.length=1) (hkk:∀ (j:Nat) (x:AV),kc[j]?=some x→PR gh.S w (fk j) x)
  {o:Option Nat} (ho:∀ i,o=some i→i<es.length) (hvv:∀ (j:Nat) (x:AV),vc[j]?=some x→(fv j).oneCell'=true∧(va=true→VR gh n w (fv j) x)∧CR gh n w (.hs l (o.getD es.length)) (fv j) x) :
  MapAt gh n (mapW w b (setE E ck o (mkV ka kz fk) (mkV va vc.length fv)).1 (setE E ck o (mkV ka kz fk) (mkV va vc.length fv)).2) b (.hb l) (fun i=>.hs l i) kz ka va (setR es o (kc++vc)):=by
 have st:=map_step (E':=(setE E ck o (mkV ka kz fk) (mkV va vc.length fv)).1) (ck':=(setE E ck o (mkV ka kz fk) (mkV va vc.length fv)).2) hW hb hS n
 rw[hκ] at st
 let idx:=o.getD es.length
 let f' : Nat→Nat→Value:=fun i j=>if i=idx then (if j<kz then fk j else fv (j-kz)) else f i j
 have hrow:∀ i r,(setR es o (kc++vc))[i]?=some r→(i=idx∧r=kc++vc)∨(i≠idx∧es[i]?=some r):=by
  intro i r hr
  cases o with
  | none =>
   simp only[setR] at hr
   by_cases hlt:i<es.length
   ·rw[List.getElem?_append_left hlt] at hr
    exact .inr ⟨by show i≠es.length;omega,hr⟩
   ·rw[List.getElem?_append_right (by omega)] at hr
    have hz:i=es.length:=by
     have:=(List.getElem?_eq_some_iff.1 hr).1
     simp at this;omega
    subst hz
    simp at hr
    exact .inl ⟨rfl,hr.symm⟩
  | some i0 =>
   simp only[setR] at hr
   rw[List.getElem?_set] at hr
   split at hr
   ·rename_i e
    subst e
    split at hr
    ·injection hr with hr
     exact .inl ⟨rfl,hr.symm⟩
    ·cases hr
   ·rename_i e
    exact .inr ⟨Ne.symm e,hr⟩
 have hnewrow:kz≤(kc++vc).length∧(ka=false→kz=1)∧(va=false→(kc++vc).length=kz+1)∧mkV ka kz fk=mkV ka kz (f' idx)∧mkV va vc.length fv=mkV va ((kc++vc).length-kz) (fun j=>f' idx (kz+j)):=by
  rw[List.length_append,hkz]
  refine⟨by omega,hk1,fun h=>by rw[hv1 h],mkV_congr (fun j hj=>?_) (fun h=>by rw[hk1 h];omega),?_⟩
  ·simp only[f',if_pos rfl,if_pos hj]
  ·rw[Nat.add_sub_cancel_left]
   refine mkV_congr (fun j hj=>?_) (fun h=>by rw[hv1 h];omega)
   have e:¬ kz+j<kz:=by omega
   simp only[f',if_pos rfl,if_neg e,Nat.add_sub_cancel_left]
 refine⟨hκ,hS,_,_,f',setMap_same hb,?_,fun i j r x hi hj hl=>?_,fun i j r x hi hj hl=>?_⟩
 ·cases o with
  | none =>
   refine⟨by simp[setE,setR,hE.size],by simp[setE,hE.clk],fun i e he=>?_,fun i e he=>?_,fun i j e e' he he' hbb=>?_,fun i e r he hr=>?_⟩
   ·simp only[setE] at he
    rw[Array.getElem?_push] at he
    split at he
    ·rename_i hi0;injection he with he;subst he;rw[hi0];exact hE.clk
    ·exact hE.at' i e he
   ·simp only[setE] at he ⊢
    rw[Array.getElem?_push] at he
    split at he
    ·injection he with he;subst he;simp
    ·have:=hE.born i e he;omega
   ·simp only[setE] at he he'
    rw[Array.getElem?_push] at he he'
    split at he<;>split at he'
    ·omega
    ·injection he with he;subst he
     have:=hE.born j e' he'
     simp only at hbb;omega
    ·injection he' with he';subst he'
     have:=hE.born i e he
     simp only at hbb;omega
    ·exact hE.apart i j e e' he he' hbb
   ·simp only[setE] at he
    rw[Array.getElem?_push] at he
    rcases hrow i r hr with ⟨hi,rfl⟩|⟨hi,hr⟩
    ·have hi' : i=es.length:=hi
     rw[if_pos (by rw[hE.size];exact hi')] at he
     injection he with he
     subst he
     subst hi
     exact hnewrow
    ·have hi' : i≠es.length:=hi
     rw[if_neg (by rw[hE.size];exact hi')] at he
     obtain⟨k1,k2,k3,k4,k5⟩:=hE.row i e r he hr
     refine⟨k1,k2,k3,?_,?_⟩
     ·rw[k4];refine mkV_congr (fun j _=>?_) (fun h=>by rw[k2 h];omega)
      simp only[f',if_neg hi]
     ·rw[k5];refine mkV_congr (fun j _=>?_) (fun h=>by rw[k3 h];omega)
      simp only[f',if_neg hi]
  | some i0 =>
   have hget:∀ {i:Nat} {e:MapEntry},(E.modify i0 fun e=>{ e with key:=mkV ka kz fk,val:=mkV va vc.length fv })[i]?=some e→∃ e0,E[i]?=some e0∧e=if i=i0 then { e0 with key:=mkV ka kz fk,val:=mkV va vc.length fv } else e0:=by
    intro i e he
    rw[Array.getElem?_modify] at he
    split at he
    ·rename_i hii
     simp only[Option.map_eq_some_iff] at he
     obtain⟨e0,h0,rfl⟩:=he
     exact⟨e0,h0,by rw[if_pos hii.symm]⟩
    ·rename_i hii
     exact⟨e,he,by rw[if_neg (Ne.symm hii)]⟩
   have hborn:∀ {i:Nat} {e e0:MapEntry},(e=if i=i0 then { e0 with key:=mkV ka kz fk,val:=mkV va vc.length fv } else e0)→e.born=e0.born:=by
    intro i e e0 h
    rw[h];split<;>rfl
   refine⟨by simp[setE,setR,hE.size],by simp[setE,hE.clk],fun i e he=>?_,fun i e he=>?_,fun i j e e' he he' hbb=>?_,fun i e r he hr=>?_⟩
   ·obtain⟨e0,h0,h⟩:=hget he
    rw[hborn h]
    exact hE.at' i e0 h0
   ·obtain⟨e0,h0,h⟩:=hget he
    rw[hborn h]
    exact hE.born i e0 h0
   ·obtain⟨e0,h0,h⟩:=hget he
    obtain⟨e0',h0',h'⟩:=hget he'
    rw[hborn h,hborn h'] at hbb
    exact hE.apart i j e0 e0' h0 h0' hbb
   ·obtain⟨e0,h0,h⟩:=hget he
    rcases hrow i r hr with ⟨hi,rfl⟩|⟨hi,hr⟩
    ·have hi' : i=i0:=hi
     rw[if_pos hi'] at h
     subst h
     subst hi
     exact hnewrow
    ·have hi' : i≠i0:=hi
     rw[if_neg hi'] at h
     subst h
     obtain⟨k1,k2,k3,k4,k5⟩:=hE.row i e r h0 hr
     refine⟨k1,k2,k3,?_,?_⟩
     ·rw[k4];refine mkV_congr (fun j _=>?_) (fun h=>by rw[k2 h];omega)
      simp only[f',if_neg hi]
     ·rw[k5];refine mkV_congr (fun j _=>?_) (fun h=>by rw[k3 h];omega)
      simp only[f',if_neg hi]
 ·rcases hrow i r hi with ⟨rfl,rfl⟩|⟨hne,hr⟩
  ·rw[List.getElem?_append_left (by omega)] at hj
   simp only[f',if_pos rfl,if_pos hl]
   exact (hkk j x hj).mono st.S st.cell st.mp
  ·simp only[f',if_neg hne]
   exact (h1 i j r x hr hj hl).mono st.S st.cell st.mp
 ·rcases hrow i r hi with ⟨rfl,rfl⟩|⟨hne,hr⟩
  ·rw[List.getElem?_append_right (by omega),hkz] at hj
   have e:¬ j<kz:=by omega
   simp only[f',if_pos rfl,if_neg e]
   obtain⟨k1,k2,k3⟩:=hvv (j-kz) x hj
   exact⟨k1,fun h=>(k2 h).mono st (Nat.le_refl _),k3.mono st (Nat.le_refl _) (by simp)⟩
  ·simp only[f',if_neg hne]
   obtain⟨k1,k2,k3⟩:=h2 i j r x hr hj hl
   exact⟨k1,fun h=>(k2 h).mono st (Nat.le_refl _),k3.mono st (Nat.le_refl _) (by simp)⟩
theorem heapCell_plain {l:Nat} {x:AV} (h:x.plain=true):heapCell l x=true:=by
 cases x<;>first|exact h|(simp[AV.plain] at h)|skip
 rename_i e own
 cases own
 ·rfl
 ·simp[AV.plain] at h
theorem ev_mset (hW:WRel G base s.H gh w) (hF:FR L nt gh w a s) {o:Oper} {t kt et:TypeId} {ks:List CK} {ka va:Bool} {vz:Nat} {zv:Value} {zero:List AV} (hT:MapT P t kt et ks ka va vz zv zero) {xm xk xv:Operand} {ym yk yv:IArg} {s' : AS}
  (ho:o.op=.mapUpdate t xm xk xv∨o.op=.insert t xm xk xv) (hcm:compArg nt xm=some ym) (hck:compArg nt xk=some yk) (hcv:compArg nt xv=some yv)
  (he:evMset s ks.length ka va vz ks (ym.addr G s.T) (yk.eval G s.T) (yv.eval G s.T)=some s') (hd:∀ k,o.dst=some k→k<nt) :
  ∃ v' gh' w',Ran P a o w v' w'∧Out G base nt L gh w a s o.dst .undef (s'.spent yv) v' gh' w':=by
 have hm:=arg_val hW hF hcm
 unfold evMset at he
 generalize hY:ym.addr G s.T=Y at hm he
 cases Y<;>simp only at he<;>try (cases he;done)
 rename_i l
 obtain⟨hlt,hax⟩:=VR.inv_mref (hm:VR gh s.H.length w (a.eval xm) (.mref l))
 split at he
 ·rename_i kz' ka' va' es hH
  simp only[Option.bind_eq_some_iff] at he
  obtain⟨kc,hkc,vc,hvc,he1⟩:=he
  obtain⟨h0,he2⟩:=cond_some he1
  clear he1
  simp only[Bool.and_eq_true,nbeq,decide_eq_true_eq,beq_iff_eq] at h0
  obtain⟨⟨⟨⟨⟨⟨⟨⟨hl,hvl⟩,rfl⟩,rfl⟩,rfl⟩,hka⟩,hva⟩,hvall⟩,hkall⟩:=h0
  simp only[Option.map_eq_some_iff] at he2
  obtain⟨oi,hf,rfl⟩:=he2
  have hfrk:frameCell (yk.eval G s.T)=true:=by rw[← frameCell_drop];exact frameCell_of_cells hkc
  have hfrv:frameCell (yv.eval G s.T)=true:=frameCell_of_cells hvc
  have hk0:=arg_VR hW hF hck rfl hfrk
  obtain⟨gh1,hW1,hF1,hE1,st1,hCR⟩:=arg_spent hW hF hcv hfrv (.hs l (oi.getD es.length)) (by simp)
  have hρ:gh1.ρ l=gh.ρ l:=st1.ρ l hlt
  have hk:=hk0.mono st1 (Nat.le_refl _)
  obtain⟨⟨hκ,hS,E,ck,f,hb,hE,h1,h2⟩,hall⟩:=hW1.more l _ hH
  obtain⟨E2,ck2,hb2,hR⟩:=rows_of_At (hW1.more l _ hH).1
  have hEE:E2=E∧ck2=ck:=by
   rw[hb] at hb2
   injection hb2 with hb2
   injection hb2 with e1 e2
   exact⟨e1.symm,e2.symm⟩
  obtain⟨rfl,rfl⟩:=hEE
  obtain⟨hkv,hkcells⟩:=value_mkV hk hkc
  have hval:∃ fv:Nat→Value,a.eval xv=mkV va vc.length fv∧∀ (j:Nat) (x:AV),(cond va (vc.map AV.drop) vc)[j]?=some x→(fv j).oneCell'=true∧(va=true→VR gh1 s.H.length w (fv j) x)∧CR gh1 s.H.length w (.hs l (oi.getD es.length)) (fv j) x:=by
   cases hva' : va with
   | true =>
    have hag:(yv.eval G s.T).isAgg=true:=by rw[← hva,hva']
    have hvr:VR gh1 s.H.length w (a.eval xv) (yv.eval G s.T):=by
     rcases hCR with h|⟨e,h,_⟩
     ·exact h
     ·rw[h] at hag;cases hag
    obtain⟨hv1,hv2⟩:=value_mkV hvr hvc
    rw[hag] at hv1
    refine⟨_,hv1,fun j x hj=>?_⟩
    simp only[cond_true,List.getElem?_map,Option.map_eq_some_iff] at hj
    obtain⟨y,hy,rfl⟩:=hj
    obtain⟨m1,m2⟩:=hv2 j y hy
    exact⟨m2,fun _=>m1.dropped,.inl m1.dropped⟩
   | false =>
    have hag:(yv.eval G s.T).isAgg=false:=by rw[← hva,hva']
    have hvc1:vc=[yv.eval G s.T]:=by
     generalize yv.eval G s.T=V at hvc hag
     cases V<;>first|(cases hag;done)|(injection hvc with hvc;exact hvc.symm)|(cases hvc;done)
    refine⟨fun _=>a.eval xv,by simp[mkV],fun j x hj=>?_⟩
    rw[hvc1] at hj
    cases j with
    | succ j=>simp at hj
    | zero =>
     simp at hj
     subst hj
     refine⟨?_,(fun h=>by cases h),hCR⟩
     rcases hCR with h|⟨e,_,hp,_⟩
     ·exact h.oneCell (fun cs e=>by rw[e] at hag;cases hag) (fun cs e=>by rw[e] at hvc;cases hvc)
     ·exact hp.oneCell
  obtain⟨fv,hvv,hvcells⟩:=hval
  have hlen' : (cond va (vc.map AV.drop) vc).length=vc.length:=by cases va<;>simp
  have hvz1:va=false→(cond va (vc.map AV.drop) vc).length=1:=fun h=>by rw[hlen',hvl];exact hT.vz1 h
  have hrun:=run_mset (vv:=a.eval xv) hT hk hkc hl hka hb hR hf
  have hkv' : a.eval xk=mkV ka ks.length (fun j=>(a.eval xk).cells.getD j undef):=by rw[hka,← hl];exact hkv
  have hMA:=set_At (n:=s.H.length) (l:=l) (fk:=fun j=>(a.eval xk).cells.getD j undef) (fv:=fv) (vc:=cond va (vc.map AV.drop) vc) (o:=oi) hW1 hκ hS hb hE h1 h2 hl (fun h=>hT.key.kz h) hvz1
   (fun j x hj=>(hkcells j x hj).1.plain_PR (List.all_eq_true.1 hkall x (List.mem_of_getElem? hj))) (fun i hi=>by subst hi;exact find_lt hf) hvcells
  rw[hlen',← hkv',← hvv] at hMA
  have st2:=map_step (E':=(setE E2 ck2 oi (a.eval xk) (a.eval xv)).1) (ck':=(setE E2 ck2 oi (a.eval xk) (a.eval xv)).2) hW1 hb hS s.H.length
  rw[hκ] at st2
  have hall' : ((setR es oi (kc++cond va (vc.map AV.drop) vc)).all fun r=>r.all (heapCell l))=true:=by
   have hnew:(kc++cond va (vc.map AV.drop) vc).all (heapCell l)=true:=by
    rw[List.all_append,Bool.and_eq_true]
    refine⟨List.all_eq_true.2 fun x hx=>heapCell_plain (List.all_eq_true.1 hkall x hx),?_⟩
    cases va with
    | false=>exact hvall
    | true =>
     refine List.all_eq_true.2 fun x hx=>?_
     obtain⟨y,hy,rfl⟩:=List.mem_map.1 hx
     exact heapCell_drop (List.all_eq_true.1 hvall y hy)
   refine List.all_eq_true.2 fun r hr=>?_
   cases oi with
   | none =>
    simp only[setR,List.mem_append,List.mem_singleton] at hr
    rcases hr with hr|rfl
    ·exact List.all_eq_true.1 hall r hr
    ·exact hnew
   | some i =>
    simp only[setR] at hr
    rcases List.mem_or_eq_of_mem_set hr with hr|rfl
    ·exact List.all_eq_true.1 hall r hr
    ·exact hnew
  have hsz:(mapW w (gh1.ρ l) (setE E2 ck2 oi (a.eval xk) (a.eval xv)).1 (setE E2 ck2 oi (a.eval xk) (a.eval xv)).2).heap.size=w.heap.size:=by simp[mapW]
  have hW2:=hW1.setMore (o:=.map ks.length ka va (setR es oi (kc++cond va (vc.map AV.drop) vc))) st2 hlt (by intro k hk;simp[hk]) (fun b o ho=>by rw[hsz];exact hW1.sLt b o ho) (fun b hb=>by rw[hsz];exact hW1.kLt b hb) (fun _ _ h=>by cases h) ⟨hMA,hall'⟩ (fun _ _ _ h=>.inl h)
  have hS:=spent_H s yv
  have hE2:Ext s.H.length gh1 w gh1 (mapW w (gh1.ρ l) (setE E2 ck2 oi (a.eval xk) (a.eval xv)).1 (setE E2 ck2 oi (a.eval xk) (a.eval xv)).2):=⟨st2.mono (fun r h=>by rw[h];simp[touchAny]),fun b hb=>hb⟩
  have hF2:FR L nt gh1 _ a ((s.spent yv).chg ⟨s.H.set l (.map ks.length ka va (setR es oi (kc++cond va (vc.map AV.drop) vc))),l⟩):=hF1.grown (by rw[hS.1];exact st2) (fun i=>⟨by simp,by simp,by simp⟩) (by rw[hS.1];simp)
  refine⟨undef,gh1,mapW w (gh1.ρ l) (setE E2 ck2 oi (a.eval xk) (a.eval xv)).1 (setE E2 ck2 oi (a.eval xk) (a.eval xv)).2,.inr ⟨?_,rfl⟩,?_⟩
  rotate_left
  ·rw[spent_chg]
   exact Out.skip (s1:=(s.spent yv).chg ⟨s.H.set l (.map ks.length ka va (setR es oi (kc++cond va (vc.map AV.drop) vc))),l⟩) hW2 hF2 (hE1.trans hE2 (Nat.le_refl _)) hd
  ·rcases ho with ho|ho<;>simp[execOp,ho,hax,← hρ,hrun]
 ·cases he
end
end Go.Abs
end
