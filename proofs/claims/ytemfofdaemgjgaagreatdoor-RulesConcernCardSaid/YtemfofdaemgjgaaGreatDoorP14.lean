/-
  A part of the proof of RulesConcern: AbsWp.
-/
import Derived.Test.YtemfofdaemgjgaaGreatDoorP13
set_option linter.unusedSimpArgs false
set_option linter.unusedVariables false
section
namespace Go.Abs
set_option linter.unusedSimpArgs false
set_option linter.unusedVariables false
def ICode.sub:List Bool→ICode→ICode
 | [],c=>c
 | false :: p,.seq a _=>a.sub p
 | true :: p,.seq _ b=>b.sub p
 | false :: p,.cond _ a _=>a.sub p
 | true :: p,.cond _ _ b=>b.sub p
 | _ :: p,.block _ a=>a.sub p
 | _ :: p,.loop a=>a.sub p
 | _,c=>c
def W (A:AP) (c:ICode) (s:AS) (Q:IExit→AS→Prop):Prop:=∃ n e s',evC A.glob (callD A) n c s=some (e,s')∧Q e s'
def WO (A:AP) (d:Bool) (os:List IOper) (s:AS) (Q:AS→Prop):Prop:=∃ s',evOps A.glob (callD A) d os s=some s'∧Q s'
def bindW {α:Type} (x:Option α) (K:α→Prop):Prop:=∃ s,x=some s∧K s
def condW (v:AV) (p q:AS→Prop) (s:AS):Prop:=∃ b,v=.bool b∧(b=true→p s)∧(b=false→q s)
def andThen (P:AS→Prop) (Q:IExit→AS→Prop):IExit→AS→Prop
 | .normal,s=>P s
 | e,s=>Q e s
def leave (id:Nat) (Q:IExit→AS→Prop):IExit→AS→Prop
 | .exit i,s=>Q (cond (Nat.beq i id) .normal (.exit i)) s
 | e,s=>Q e s
section
variable {A:AP}
theorem bindW_some {α:Type} {s:α} {K:α→Prop} : bindW (some s) K=K s:=by
 refine propext ⟨?_,fun h=>⟨s,rfl,h⟩⟩
 rintro ⟨s',h,hk⟩
 injection h with h
 rw[h];exact hk
theorem condW_true {p q:AS→Prop} {s:AS} : condW (.bool true) p q s=p s:=by
 refine propext ⟨?_,fun h=>⟨true,rfl,fun _=>h,fun hb=>Bool.noConfusion hb⟩⟩
 rintro ⟨b,h,h1,h2⟩
 injection h with h
 exact h1 h.symm
theorem condW_false {p q:AS→Prop} {s:AS} : condW (.bool false) p q s=q s:=by
 refine propext ⟨?_,fun hq=>⟨false,rfl,(fun hb=>Bool.noConfusion hb),fun _=>hq⟩⟩
 rintro ⟨b,h,h1,h2⟩
 injection h with h
 exact h2 h.symm
theorem condW_split {b:Bool} {p q:AS→Prop} {s:AS} (h1:b=true→p s) (h2:b=false→q s):condW (.bool b) p q s:=⟨b,rfl,h1,h2⟩
theorem condW_dec {P:Prop} {_:Decidable P} {p q:AS→Prop} {s:AS} (h1:P→p s) (h2:¬ P→q s):condW (.bool (decide P)) p q s :=
 ⟨_,rfl,fun h=>h1 (of_decide_eq_true h),fun h=>h2 (of_decide_eq_false h)⟩
theorem up {n m:Nat} (h:n≤m) {c:ICode} {s:AS} {r:IExit × AS} (he:evC A.glob (callD A) n c s=some r):evC A.glob (callD A) m c s=some r:=evC_mono (fun _ _ _ _ h=>h) h he
theorem W_skip {s:AS} {Q:IExit→AS→Prop} : W A .skip s Q=Q .normal s:=by
 refine propext ⟨?_,fun h=>⟨0,_,_,rfl,h⟩⟩
 rintro ⟨n,e,s',h,hq⟩
 simp only[evC,Option.some.injEq,Prod.mk.injEq] at h
 rw[h.1,h.2];exact hq
theorem W_ret {s:AS} {Q:IExit→AS→Prop} : W A .ret s Q=Q .ret s:=by
 refine propext ⟨?_,fun h=>⟨0,_,_,rfl,h⟩⟩
 rintro ⟨n,e,s',h,hq⟩
 simp only[evC,Option.some.injEq,Prod.mk.injEq] at h
 rw[h.1,h.2];exact hq
theorem W_exit {i:Nat} {s:AS} {Q:IExit→AS→Prop} : W A (.exit i) s Q=Q (.exit i) s:=by
 refine propext ⟨?_,fun h=>⟨0,_,_,rfl,h⟩⟩
 rintro ⟨n,e,s',h,hq⟩
 simp only[evC,Option.some.injEq,Prod.mk.injEq] at h
 rw[h.1,h.2];exact hq
theorem W_seq {a b:ICode} {s:AS} {Q:IExit→AS→Prop} : W A (.seq a b) s Q=W A a s (andThen (fun s'=>W A b s' Q) Q):=by
 refine propext ⟨?_,?_⟩
 ·rintro ⟨n,e,s',h,hq⟩
  simp only[evC,Option.bind_eq_some_iff] at h
  obtain⟨⟨e1,s1⟩,h1,h2⟩:=h
  refine⟨n,e1,s1,h1,?_⟩
  cases e1 with
  | normal=>exact⟨n,e,s',h2,hq⟩
  | _ =>
   simp only[Option.some.injEq,Prod.mk.injEq] at h2
   obtain⟨rfl,rfl⟩:=h2
   exact hq
 ·rintro ⟨n,e,s',h,hq⟩
  cases e with
  | normal =>
   obtain⟨m,e2,s2,h2,hq⟩:=hq
   refine⟨max n m,e2,s2,?_,hq⟩
   simp only[evC,up (Nat.le_max_left n m) h,Option.bind_some,up (Nat.le_max_right n m) h2]
  | exit i =>
   refine⟨n,_,s',?_,hq⟩
   simp only[evC,h,Option.bind_some]
  | ret =>
   refine⟨n,_,s',?_,hq⟩
   simp only[evC,h,Option.bind_some]
theorem W_block {i:Nat} {a:ICode} {s:AS} {Q:IExit→AS→Prop} : W A (.block i a) s Q=W A a s (leave i Q):=by
 refine propext ⟨?_,?_⟩
 ·rintro ⟨n,e,s',h,hq⟩
  simp only[evC,Option.map_eq_some_iff] at h
  obtain⟨⟨e1,s1⟩,h1,h2⟩:=h
  refine⟨n,e1,s1,h1,?_⟩
  cases e1<;>simp only[Prod.mk.injEq] at h2<;>obtain⟨rfl,rfl⟩:=h2<;>exact hq
 ·rintro ⟨n,e,s',h,hq⟩
  cases e<;>exact⟨n,_,s',by simp only[evC,h,Option.map_some],hq⟩
theorem W_cond {c:IArg} {a b:ICode} {s:AS} {Q:IExit→AS→Prop} : W A (.cond c a b) s Q=condW (c.eval A.glob s.T) (fun s=>W A a s Q) (fun s=>W A b s Q) s:=by
 refine propext ⟨?_,?_⟩
 ·rintro ⟨n,e,s',h,hq⟩
  simp only[evC] at h
  split at h
  ·rename_i t ht
   refine⟨t,ht,fun hb=>?_,fun hb=>?_⟩
   ·subst hb;exact⟨n,e,s',h,hq⟩
   ·subst hb;exact⟨n,e,s',h,hq⟩
  ·cases h
 ·rintro ⟨t,ht,h1,h2⟩
  cases t with
  | true =>
   obtain⟨n,e,s',h,hq⟩:=h1 rfl
   exact⟨n,e,s',by simp only[evC,ht];exact h,hq⟩
  | false =>
   obtain⟨n,e,s',h,hq⟩:=h2 rfl
   exact⟨n,e,s',by simp only[evC,ht];exact h,hq⟩
theorem W_region {d:Bool} {os:List IOper} {s:AS} {Q:IExit→AS→Prop} : W A (.region d os) s Q=WO A d os s (Q .normal):=by
 refine propext ⟨?_,?_⟩
 ·rintro ⟨n,e,s',h,hq⟩
  simp only[evC,Option.map_eq_some_iff,Prod.mk.injEq] at h
  obtain⟨s1,h1,rfl,rfl⟩:=h
  exact⟨s1,h1,hq⟩
 ·rintro ⟨s1,h1,hq⟩
  exact⟨0,.normal,s1,by simp only[evC,h1,Option.map_some],hq⟩
theorem WO_nil {d:Bool} {s:AS} {Q:AS→Prop} : WO A d [] s Q=Q s:=by
 refine propext ⟨?_,fun h=>⟨s,rfl,h⟩⟩
 rintro ⟨s',h,hq⟩
 simp only[evOps,Option.some.injEq] at h
 rw[h];exact hq
theorem WO_cons {d:Bool} {o:IOper} {os:List IOper} {s:AS} {Q:AS→Prop} : WO A d (o :: os) s Q=bindW (evOper A.glob (callD A) d s o) fun s'=>WO A d os s' Q:=by
 refine propext ⟨?_,?_⟩
 ·rintro ⟨s',h,hq⟩
  simp only[evOps,Option.bind_eq_some_iff] at h
  obtain⟨s1,h1,h2⟩:=h
  exact⟨s1,h1,s',h2,hq⟩
 ·rintro ⟨s1,h1,s',h2,hq⟩
  exact⟨s',by simp only[evOps,h1,Option.bind_some,h2],hq⟩
theorem W_cut {a b:ICode} {s:AS} {Q:IExit→AS→Prop} (R:AS→Prop) (h1:W A a s (andThen R Q)) (h2:∀ s',R s'→W A b s' Q):W A (.seq a b) s Q:=by
 rw[W_seq]
 obtain⟨n,e,s',h,hq⟩:=h1
 exact⟨n,e,s',h,by cases e with|normal=>exact h2 s' hq|_=>exact hq⟩
theorem W_mono {c:ICode} {s:AS} {Q Q' : IExit→AS→Prop} (h:W A c s Q) (hq:∀ e s',Q e s'→Q' e s'):W A c s Q':=by
 obtain⟨n,e,s',h1,h2⟩:=h
 exact⟨n,e,s',h1,hq e s' h2⟩
theorem W_loop {a:ICode} {Q:IExit→AS→Prop} (I:Nat→AS→Prop) (hI:∀ k s,I k s→W A a s (andThen (fun s'=>∃ k',k' < k∧I k' s') Q)):∀ k s,I k s→W A (.loop a) s Q:=by
 intro k
 induction k using Nat.strongRecOn with
 | _ k ih =>
  intro s hs
  obtain⟨n,e,s1,h1,hq⟩:=hI k s hs
  cases e with
  | normal =>
   obtain⟨k',hk,hs1⟩:=hq
   obtain⟨m,e2,s2,h2,hq⟩:=ih k' hk s1 hs1
   refine⟨max n m+1,e2,s2,?_,hq⟩
   simp only[evC,iter] at h2 ⊢
   have h1':=up (A:=A) (show n≤max n m+1 by omega) h1
   rw[h1',Option.bind_some]
   have h2' : iter (evC A.glob (callD A) (max n m+1) a) (max n m) s1=some (e2,s2) :=
    iter_mono (fun s r h=>up (show m≤max n m+1 by omega) h) (Nat.le_max_right n m) h2
   exact h2'
  | exit i =>
   refine⟨n+1,_,s1,?_,hq⟩
   simp only[evC,iter]
   rw[up (A:=A) (show n≤n+1 by omega) h1,Option.bind_some]
  | ret =>
   refine⟨n+1,_,s1,?_,hq⟩
   simp only[evC,iter]
   rw[up (A:=A) (show n≤n+1 by omega) h1,Option.bind_some]
theorem W_unroll {a:ICode} {s:AS} {Q:IExit→AS→Prop} (h:W A a s (andThen (fun s'=>W A (.loop a) s' Q) Q)):W A (.loop a) s Q:=by
 obtain⟨n,e,s1,h1,hq⟩:=h
 cases e with
 | normal =>
  obtain⟨m,e2,s2,h2,hq⟩:=hq
  refine⟨max n m+1,e2,s2,?_,hq⟩
  simp only[evC,iter] at h2 ⊢
  rw[up (A:=A) (show n≤max n m+1 by omega) h1,Option.bind_some]
  exact iter_mono (fun s r h=>up (show m≤max n m+1 by omega) h) (Nat.le_max_right n m) h2
 | exit i =>
  refine⟨n+1,_,s1,?_,hq⟩
  simp only[evC,iter]
  rw[up (A:=A) (show n≤n+1 by omega) h1,Option.bind_some]
 | ret =>
  refine⟨n+1,_,s1,?_,hq⟩
  simp only[evC,iter]
  rw[up (A:=A) (show n≤n+1 by omega) h1,Option.bind_some]
theorem W_count {a:ICode} {Q:IExit→AS→Prop} (n:Nat) (I:Nat→AS→Prop) (hI:∀ k s,k≤n→I k s→W A a s (andThen (fun s'=>k<n∧I (k+1) s') Q)) (k:Nat) (s:AS) (hk:k≤n) (hs:I k s):W A (.loop a) s Q:=by
 refine W_loop (fun j s=>∃ k,k≤n∧j=n-k∧I k s) (fun j s h=>?_) (n-k) s ⟨k,hk,rfl,hs⟩
 obtain⟨k,hk,rfl,hs⟩:=h
 refine W_mono (hI k s hk hs) fun e s' hq=>?_
 cases e with
 | normal =>
  obtain⟨h1,h2⟩:=hq
  exact⟨n-(k+1),by omega,k+1,by omega,rfl,h2⟩
 | _=>exact hq
def Ex (i:Nat) (P V:AS→Prop):IExit→AS→Prop
 | .exit j,s=>j=i∧P s
 | .ret,s=>V s
 | .normal,_=>False
theorem W_loopx {a:ICode} {s:AS} {Q:IExit→AS→Prop} (id:Nat) (P V:AS→Prop) (h:W A (.loop a) s (Ex id P V)) (hp:∀ s',P s'→Q (.exit id) s') (hv:∀ s',V s'→Q .ret s'):W A (.loop a) s Q:=by
 refine W_mono h fun e s' hq=>?_
 cases e with
 | normal=>exact hq.elim
 | exit j=>obtain⟨rfl,hq⟩:=hq;exact hp s' hq
 | ret=>exact hv s' hq
theorem W_countx {a:ICode} {Q:IExit→AS→Prop} (n id:Nat) (I:Nat→AS→Prop) (P V:AS→Prop) (hI:∀ k s,k≤n→I k s→W A a s (andThen (fun s'=>k<n∧I (k+1) s') (Ex id P V)))
  (hp:∀ s',P s'→Q (.exit id) s') (hv:∀ s',V s'→Q .ret s') (k:Nat) (s:AS) (hk:k≤n) (hs:I k s):W A (.loop a) s Q :=
 W_loopx id P V (W_count n I hI k s hk hs) hp hv
theorem W_loopm {a:ICode} {Q:IExit→AS→Prop} (id:Nat) (I:Nat→AS→Prop) (P V:AS→Prop) (hI:∀ k s,I k s→W A a s (andThen (fun s'=>∃ k',k' < k∧I k' s') (Ex id P V)))
  (hp:∀ s',P s'→Q (.exit id) s') (hv:∀ s',V s'→Q .ret s') (k:Nat) (s:AS) (hs:I k s):W A (.loop a) s Q :=
 W_loopx id P V (W_loop I hI k s hs) hp hv
def Hd (P:AFrame→Prop) (H:AHeap) (lo gen:Nat) (s:AS):Prop:=P s.T∧s.H=H∧s.lo=lo∧s.gen=gen
theorem Hd.out {P:AFrame→Prop} {H:AHeap} {lo gen:Nat} {s:AS} (h:Hd P H lo gen s):∃ T,s=⟨T,H,lo,gen⟩∧P T:=by
 obtain⟨T,H',l',g'⟩:=s
 obtain⟨h1,h2,h3,h4⟩:=h
 simp only at h1 h2 h3 h4
 subst h2 h3 h4
 exact⟨T,rfl,h1⟩
def HdG (P:AFrame→Prop) (H:AHeap) (lo:Nat) (s:AS):Prop:=P s.T∧s.H=H∧s.lo=lo
theorem HdG.out {P:AFrame→Prop} {H:AHeap} {lo:Nat} {s:AS} (h:HdG P H lo s):∃ T g,s=⟨T,H,lo,g⟩∧P T:=by
 obtain⟨T,H',l',g'⟩:=s
 obtain⟨h1,h2,h3⟩:=h
 simp only at h1 h2 h3
 subst h2 h3
 exact⟨T,g',rfl,h1⟩
def fin (base:Nat) (rs:List IRes) (s:AS):Option (AV × Option Chg) :=
 (resVal s rs).bind fun r=>cond (r.leaves base) (some (r,cond (Nat.beq s.lo base) none (some ⟨s.H.take base,s.lo⟩))) none
def done (base:Nat) (rs:List IRes) (r:AV × Option Chg):IExit→AS→Prop
 | .exit _,_=>False
 | _,s=>fin base rs s=some r
def doneP (base:Nat) (rs:List IRes) (P:AV × Option Chg→Prop):IExit→AS→Prop
 | .exit _,_=>False
 | _,s=>bindW (fin base rs s) P
theorem fin_finish {base:Nat} {fn:IFunc} {s:AS} {r:AV × Option Chg} (h:fin base fn.results s=some r):finish base fn s=some r:=by
 have h:finish0 base fn.results s=some r:=h
 unfold finish;rw[h]
theorem resRow_of {s:AS} {r:IRes} {b:Nat} (h:resRow s r=some b):resOf s r=none:=by
 cases r with
 | tmp t =>
  simp only[resRow] at h
  simp only[resOf]
  split at h
  ·rename_i hT;rw[hT];rfl
  ·rename_i hT;rw[hT];rfl
  ·cases h
 | cell=>cases h
theorem resPub_all {s:AS} {m:Nat} : ∀ {rs:List IRes} {xs:List AV} {e:List (List AV)},resPub s m rs=some (xs,some e)→resAll s rs=none
 | [],_,_,h=>by simp[resPub] at h
 | r :: rs,xs,e,h=>by
  simp only[resPub,Option.bind_eq_some_iff] at h
  obtain⟨⟨ys,q⟩,h1,h⟩:=h
  simp only[resAll]
  split at h
  ·rename_i b hr;rw[resRow_of hr];rfl
  ·simp only[Option.bind_eq_some_iff] at h
   obtain⟨z,hz,h⟩:=h
   cases hbb:z.dropAll.partOut m with
   | false=>rw[hbb] at h;cases h
   | true =>
   rw[hbb] at h
   simp only[cond_true] at h
   simp only[Option.some.injEq,Prod.mk.injEq] at h
   obtain⟨_,rfl⟩:=h
   rw[resPub_all h1,hz];rfl
theorem pub_finish {base:Nat} {fn:IFunc} {s:AS} {r:AV × Option Chg} (h:finPub base fn.results s=some r):finish base fn s=some r:=by
 have h0:=h
 unfold finPub at h
 cases hb:Nat.beq fn.results.length 1 with
 | true=>rw[hb] at h;cases h
 | false =>
  rw[hb] at h
  simp only[cond_false,Option.bind_eq_some_iff,Option.map_eq_some_iff] at h
  obtain⟨⟨xs,eo⟩,hq,e,he,_⟩:=h
  simp only at he
  subst he
  have hn:finish0 base fn.results s=none:=by
   unfold finish0 resVal
   split
   ·rename_i r1 hrs;rw[hrs] at hb;cases hb
   ·rw[resPub_all hq];rfl
  unfold finish;rw[hn];simp only[h0]
def donePub (base:Nat) (fn:IFunc) (P:AV × Option Chg→Prop):IExit→AS→Prop
 | .exit _,_=>False
 | _,s=>∃ r,finish base fn s=some r∧P r
theorem callD_Pub {f:FuncId} {fn:IFunc} (ho:A.ov f=none) (hf:A.fns f=some fn) {args:List AV} {H:AHeap} {P:AV × Option Chg→Prop} (hn:Nat.beq args.length fn.np=true)
  (h:W A fn.body { T:=initT args,H,lo:=H.length,gen:=0 } (donePub H.length fn P)):∃ r,callD A f args H=some r∧P r:=by
 obtain⟨n,e,s',h1,h2⟩:=h
 have key:∀ r,finish H.length fn s'=some r→callD A f args H=some r:=by
  intro r hr
  refine callD_run ho hf (n:=n) ?_
  unfold runF
  rw[hn,cond_true,h1,Option.bind_some]
  cases e with
  | exit i=>exact h2.elim
  | _=>exact hr
 cases e with
 | exit i=>exact h2.elim
 | _=>obtain⟨r,hr,hP⟩:=h2;exact⟨r,key r hr,hP⟩
theorem callD_WP {f:FuncId} {fn:IFunc} (ho:A.ov f=none) (hf:A.fns f=some fn) {args:List AV} {H:AHeap} {P:AV × Option Chg→Prop} (hn:Nat.beq args.length fn.np=true)
  (h:W A fn.body { T:=initT args,H,lo:=H.length,gen:=0 } (doneP H.length fn.results P)):∃ r,callD A f args H=some r∧P r:=by
 obtain⟨n,e,s',h1,h2⟩:=h
 have key:∀ r,fin H.length fn.results s'=some r→callD A f args H=some r:=by
  intro r hr
  refine callD_run ho hf (n:=n) ?_
  unfold runF
  rw[hn,cond_true,h1,Option.bind_some]
  cases e with
  | exit i=>exact h2.elim
  | _=>exact fin_finish hr
 cases e with
 | exit i=>exact h2.elim
 | _=>obtain⟨r,hr,hP⟩:=h2;exact⟨r,key r hr,hP⟩
theorem callD_W {f:FuncId} {fn:IFunc} (ho:A.ov f=none) (hf:A.fns f=some fn) {args:List AV} {H:AHeap} {r:AV × Option Chg} (hn:Nat.beq args.length fn.np=true)
  (h:W A fn.body { T:=initT args,H,lo:=H.length,gen:=0 } (done H.length fn.results r)):callD A f args H=some r:=by
 obtain⟨n,e,s',h1,h2⟩:=h
 refine callD_run ho hf (n:=n) ?_
 unfold runF
 rw[hn,cond_true,h1,Option.bind_some]
 cases e with
 | exit i=>exact h2.elim
 | _=>exact fin_finish h2
end
section
variable {A:AP} {T:AFrame} {H:AHeap} {lo gen:Nat} {Q:IExit→AS→Prop} {K:AS→Prop} {d:Bool}
theorem x_seq {a b:ICode} : W A (.seq a b) ⟨T,H,lo,gen⟩ Q=W A a ⟨T,H,lo,gen⟩ (andThen (fun s'=>W A b s' Q) Q):=W_seq
theorem x_block {i:Nat} {a:ICode} : W A (.block i a) ⟨T,H,lo,gen⟩ Q=W A a ⟨T,H,lo,gen⟩ (leave i Q):=W_block
theorem x_cond {c:IArg} {a b:ICode} : W A (.cond c a b) ⟨T,H,lo,gen⟩ Q=condW (c.eval A.glob T) (fun s=>W A a s Q) (fun s=>W A b s Q) ⟨T,H,lo,gen⟩:=W_cond
theorem x_region {os:List IOper} : W A (.region d os) ⟨T,H,lo,gen⟩ Q=WO A d os ⟨T,H,lo,gen⟩ (Q .normal):=W_region
theorem x_skip:W A .skip ⟨T,H,lo,gen⟩ Q=Q .normal ⟨T,H,lo,gen⟩:=W_skip
theorem x_ret:W A .ret ⟨T,H,lo,gen⟩ Q=Q .ret ⟨T,H,lo,gen⟩:=W_ret
theorem x_exit {i:Nat} : W A (.exit i) ⟨T,H,lo,gen⟩ Q=Q (.exit i) ⟨T,H,lo,gen⟩:=W_exit
theorem x_nil:WO A d [] ⟨T,H,lo,gen⟩ K=K ⟨T,H,lo,gen⟩:=WO_nil
theorem x_setT {t:Nat} {v:AV} : AS.setT ⟨T,H,lo,gen⟩ t v=⟨T.put t v,H,lo,gen⟩:=rfl
theorem x_chg {h:AHeap} {l:Nat} : AS.chg ⟨T,H,lo,gen⟩ ⟨h,l⟩=⟨T,h,cond (Nat.blt l lo) l lo,gen⟩:=rfl
theorem x_normal {P:AS→Prop} : andThen P Q .normal ⟨T,H,lo,gen⟩=P ⟨T,H,lo,gen⟩:=rfl
theorem x_aret {P:AS→Prop} : andThen P Q .ret ⟨T,H,lo,gen⟩=Q .ret ⟨T,H,lo,gen⟩:=rfl
theorem x_aexit {P:AS→Prop} {i:Nat} : andThen P Q (.exit i) ⟨T,H,lo,gen⟩=Q (.exit i) ⟨T,H,lo,gen⟩:=rfl
theorem x_locg {P:AFrame→Prop} {H' : AHeap} {lo' : Nat} : HdG P H' lo' ⟨T,H,lo,gen⟩=(P T∧H=H'∧lo=lo'):=rfl
theorem x_exexit {i:Nat} {P V:AS→Prop} : Ex i P V (.exit i) ⟨T,H,lo,gen⟩=P ⟨T,H,lo,gen⟩:=propext ⟨fun h=>h.2,fun h=>⟨rfl,h⟩⟩
theorem x_exret {i:Nat} {P V:AS→Prop} : Ex i P V .ret ⟨T,H,lo,gen⟩=V ⟨T,H,lo,gen⟩:=rfl
theorem x_loc {P:AFrame→Prop} {H' : AHeap} {lo' gen' : Nat} : Hd P H' lo' gen' ⟨T,H,lo,gen⟩=(P T∧H=H'∧lo=lo'∧gen=gen'):=rfl
theorem x_dret {base:Nat} {rs:List IRes} {r:AV × Option Chg} : done base rs r .ret ⟨T,H,lo,gen⟩=(fin base rs ⟨T,H,lo,gen⟩=some r):=rfl
theorem x_dnormal {base:Nat} {rs:List IRes} {r:AV × Option Chg} : done base rs r .normal ⟨T,H,lo,gen⟩=(fin base rs ⟨T,H,lo,gen⟩=some r):=rfl
theorem x_dpret {base:Nat} {rs:List IRes} {P:AV × Option Chg→Prop} : doneP base rs P .ret ⟨T,H,lo,gen⟩=bindW (fin base rs ⟨T,H,lo,gen⟩) P:=rfl
theorem x_dpnormal {base:Nat} {rs:List IRes} {P:AV × Option Chg→Prop} : doneP base rs P .normal ⟨T,H,lo,gen⟩=bindW (fin base rs ⟨T,H,lo,gen⟩) P:=rfl
theorem x_lnormal {i:Nat} : leave i Q .normal ⟨T,H,lo,gen⟩=Q .normal ⟨T,H,lo,gen⟩:=rfl
theorem x_lret {i:Nat} : leave i Q .ret ⟨T,H,lo,gen⟩=Q .ret ⟨T,H,lo,gen⟩:=rfl
theorem x_lexit {i:Nat} : leave i Q (.exit i) ⟨T,H,lo,gen⟩=Q .normal ⟨T,H,lo,gen⟩:=by simp[leave]
theorem x_lexit' {i j:Nat} : leave i Q (.exit j) ⟨T,H,lo,gen⟩=if j=i then Q .normal ⟨T,H,lo,gen⟩ else Q (.exit j) ⟨T,H,lo,gen⟩:=by
 by_cases hne:j=i
 ·subst hne;rw[if_pos rfl];exact x_lexit
 rw[if_neg hne]
 have hb:Nat.beq j i=false:=by
  cases hb:Nat.beq j i with
  | false=>rfl
  | true=>exact absurd (Nat.eq_of_beq_eq_true hb) hne
 simp[leave,hb]
end
theorem beq_self {n:Nat} : Nat.beq n n=true:=Nat.beq_refl n
theorem put_eq {T:AFrame} {d:Nat} {v:AV} : (T.put d v) d=v:=by simp[AFrame.put]
theorem put_ne {T:AFrame} {d i:Nat} {v:AV} (h:(i==d)=false):(T.put d v) i=T i:=by
 have hne:i≠d:=by simpa using h
 have hb:Nat.beq i d=false:=by
  cases hb:Nat.beq i d with
  | false=>rfl
  | true=>exact absurd (Nat.eq_of_beq_eq_true hb) hne
 simp only[AFrame.put,hb];rfl
theorem put_get {T:AFrame} {d i:Nat} {v:AV} : (T.put d v) i=if i=d then v else T i:=by
 by_cases h:i=d
 ·rw[if_pos h,h,put_eq]
 ·rw[if_neg h,put_ne (by simpa using h)]
theorem initT_zero {a:AV} {l:List AV} : initT (a :: l) 0=a:=rfl
theorem initT_succ {a:AV} {l:List AV} {n:Nat} : initT (a :: l) (n+1)=initT l n:=by simp[initT]
end Go.Abs
end
