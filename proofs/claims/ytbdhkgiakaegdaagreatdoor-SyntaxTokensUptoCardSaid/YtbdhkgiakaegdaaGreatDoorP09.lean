/-
  A part of the proof of SyntaxTokens: AbsWp, AbsNon, AbsAll, AbsMemo, LvT0.
-/
import Derived.KernelRfl
import Derived.Test.YtbdhkgiakaegdaaGreatDoorP08
set_option linter.unusedSimpArgs false
set_option linter.unusedVariables false
set_option linter.defProp false
set_option maxRecDepth 100000
namespace Go.Abs
section
def bq.sub:List Bool->bq->bq
 | [],c=>c
 | false :: p,.seq a _=>a.sub p
 | true :: p,.seq _ b=>b.sub p
 | false :: p,.cond _ a _=>a.sub p
 | true :: p,.cond _ _ b=>b.sub p
 | _ :: p,.block _ a=>a.sub p
 | _ :: p,.loop a=>a.sub p
 | _,c=>c
def W(A:AP)(c:bq)(s:AS)(Q:cq->AS->Prop):Prop:=∃ n e s',jq A.aZ (aE A) n c s=some (e,s')/\Q e s'
def WO(A:AP)(d:Bool)(os:List aO)(s:AS)(Q:AS->Prop):Prop:=∃ s',fX A.aZ (aE A) d os s=some s'/\Q s'
def bS{α:Type}(x:Option α)(K:α->Prop):Prop:=∃ s,x=some s/\K s
def Bg(v:AV)(p q:AS->Prop)(s:AS):Prop:=∃ b,v=.bool b/\(b=true->p s)/\(b=false->q s)
def andThen(P:AS->Prop)(Q:cq->AS->Prop):cq->AS->Prop
 | .normal,s=>P s
 | e,s=>Q e s
def leave(id:Nat)(Q:cq->AS->Prop):cq->AS->Prop
 | .exit i,s=>Q (cond (Nat.beq i id) .normal (.exit i)) s
 | e,s=>Q e s
section
variable {A:AP}
theorem aJ{α:Type}{s:α}{K:α->Prop} : bS (some s) K=K s:=by
 refine propext ⟨?_,fun h=>⟨s,rfl,h⟩⟩
 rintro ⟨s',h,hk⟩
 injection h with h
 rw[h];exact hk
theorem IU{p q:AS->Prop}{s:AS} : Bg (.bool true) p q s=p s:=by
 refine propext ⟨?_,fun h=>⟨true,rfl,fun _=>h,fun hb=>Bool.noConfusion hb⟩⟩
 rintro ⟨b,h,h1,h2⟩
 injection h with h
 exact h1 h.symm
theorem FD{p q:AS->Prop}{s:AS} : Bg (.bool false) p q s=q s:=by
 refine propext ⟨?_,fun hq=>⟨false,rfl,(fun hb=>Bool.noConfusion hb),fun _=>hq⟩⟩
 rintro ⟨b,h,h1,h2⟩
 injection h with h
 exact h2 h.symm
theorem kO{b:Bool}{p q:AS->Prop}{s:AS}(h1:b=true->p s)(h2:b=false->q s):Bg (.bool b) p q s:=⟨b,rfl,h1,h2⟩
theorem kN{P:Prop}{_:Decidable P}{p q:AS->Prop}{s:AS}(h1:P->p s)(h2:¬ P->q s):Bg (.bool (decide P)) p q s :=
 ⟨_,rfl,fun h=>h1 (of_decide_eq_true h),fun h=>h2 (of_decide_eq_false h)⟩
theorem up{n m:Nat}(h:n<=m){c:bq}{s:AS}{r:cq × AS}(he:jq A.aZ (aE A) n c s=some r):jq A.aZ (aE A) m c s=some r:=jI (fun _ _ _ _ h=>h) h he
theorem Ol{s:AS}{Q:cq->AS->Prop} : W A .skip s Q=Q .normal s:=by
 refine propext ⟨?_,fun h=>⟨0,_,_,rfl,h⟩⟩
 rintro ⟨n,e,s',h,hq⟩
 simp only[jq,anV,anY] at h
 rw[h.1,h.2];exact hq
theorem Yq{s:AS}{Q:cq->AS->Prop} : W A .ret s Q=Q .ret s:=by
 refine propext ⟨?_,fun h=>⟨0,_,_,rfl,h⟩⟩
 rintro ⟨n,e,s',h,hq⟩
 simp only[jq,anV,anY] at h
 rw[h.1,h.2];exact hq
theorem Oj{i:Nat}{s:AS}{Q:cq->AS->Prop} : W A (.exit i) s Q=Q (.exit i) s:=by
 refine propext ⟨?_,fun h=>⟨0,_,_,rfl,h⟩⟩
 rintro ⟨n,e,s',h,hq⟩
 simp only[jq,anV,anY] at h
 rw[h.1,h.2];exact hq
theorem Fe{a b:bq}{s:AS}{Q:cq->AS->Prop} : W A (.seq a b) s Q=W A a s (andThen (fun s'=>W A b s' Q) Q):=by
 refine propext ⟨?_,?_⟩
 ·rintro ⟨n,e,s',h,hq⟩
  simp only[jq,anU] at h
  obtain⟨⟨e1,s1⟩,h1,h2⟩:=h
  refine⟨n,e1,s1,h1,?_⟩
  cases e1 with
  | normal=>exact⟨n,e,s',h2,hq⟩
  | _ =>
   simp only[anV,anY] at h2
   obtain⟨rfl,rfl⟩:=h2
   exact hq
 ·rintro ⟨n,e,s',h,hq⟩
  cases e with
  | normal =>
   obtain⟨m,e2,s2,h2,hq⟩:=hq
   refine⟨max n m,e2,s2,?_,hq⟩
   simp only[jq,up (ap0 n m) h,an8,up (apJ n m) h2]
  | exit i =>
   refine⟨n,_,s',?_,hq⟩
   simp only[jq,h,an8]
  | ret =>
   refine⟨n,_,s',?_,hq⟩
   simp only[jq,h,an8]
theorem Cd{i:Nat}{a:bq}{s:AS}{Q:cq->AS->Prop} : W A (.block i a) s Q=W A a s (leave i Q):=by
 refine propext ⟨?_,?_⟩
 ·rintro ⟨n,e,s',h,hq⟩
  simp only[jq,anT] at h
  obtain⟨⟨e1,s1⟩,h1,h2⟩:=h
  refine⟨n,e1,s1,h1,?_⟩
  cases e1<;>simp only[anY] at h2<;>obtain⟨rfl,rfl⟩:=h2<;>exact hq
 ·rintro ⟨n,e,s',h,hq⟩
  cases e<;>exact⟨n,_,s',by simp only[jq,h,aoi],hq⟩
theorem Oh{c:aC}{a b:bq}{s:AS}{Q:cq->AS->Prop} : W A (.cond c a b) s Q=Bg (c.eval A.aZ s.T) (fun s=>W A a s Q) (fun s=>W A b s Q) s:=by
 refine propext ⟨?_,?_⟩
 ·rintro ⟨n,e,s',h,hq⟩
  simp only[jq] at h
  split at h
  ·rename_i t ht
   refine⟨t,ht,fun hb=>?_,fun hb=>?_⟩
   ·subst hb;exact⟨n,e,s',h,hq⟩
   ·subst hb;exact⟨n,e,s',h,hq⟩
  ·cases h
 ·rintro ⟨t,ht,h1,h2⟩
  cases t with
  | true =>
   obtain⟨n,e,s',h,hq⟩:=h1 rfl
   exact⟨n,e,s',by simp only[jq,ht];exact h,hq⟩
  | false =>
   obtain⟨n,e,s',h,hq⟩:=h2 rfl
   exact⟨n,e,s',by simp only[jq,ht];exact h,hq⟩
theorem x8{d:Bool}{os:List aO}{s:AS}{Q:cq->AS->Prop} : W A (.region d os) s Q=WO A d os s (Q .normal):=by
 refine propext ⟨?_,?_⟩
 ·rintro ⟨n,e,s',h,hq⟩
  simp only[jq,anT,anY] at h
  obtain⟨s1,h1,rfl,rfl⟩:=h
  exact⟨s1,h1,hq⟩
 ·rintro ⟨s1,h1,hq⟩
  exact⟨0,.normal,s1,by simp only[jq,h1,aoi],hq⟩
theorem Zw{d:Bool}{s:AS}{Q:AS->Prop} : WO A d [] s Q=Q s:=by
 refine propext ⟨?_,fun h=>⟨s,rfl,h⟩⟩
 rintro ⟨s',h,hq⟩
 simp only[fX,anV] at h
 rw[h];exact hq
theorem gM{d:Bool}{o:aO}{os:List aO}{s:AS}{Q:AS->Prop} : WO A d (o :: os) s Q=bS (bj A.aZ (aE A) d s o) fun s'=>WO A d os s' Q:=by
 refine propext ⟨?_,?_⟩
 ·rintro ⟨s',h,hq⟩
  simp only[fX,anU] at h
  obtain⟨s1,h1,h2⟩:=h
  exact⟨s1,h1,s',h2,hq⟩
 ·rintro ⟨s1,h1,s',h2,hq⟩
  exact⟨s',by simp only[fX,h1,an8,h2],hq⟩
theorem Oi{a b:bq}{s:AS}{Q:cq->AS->Prop}(R:AS->Prop)(h1:W A a s (andThen R Q))(h2:∀ s',R s'->W A b s' Q):W A (.seq a b) s Q:=by
 rw[Fe]
 obtain⟨n,e,s',h,hq⟩:=h1
 exact⟨n,e,s',h,by cases e with|normal=>exact h2 s' hq|_=>exact hq⟩
theorem vw{c:bq}{s:AS}{Q Q' : cq->AS->Prop}(h:W A c s Q)(hq:∀ e s',Q e s'->Q' e s'):W A c s Q':=by
 obtain⟨n,e,s',h1,h2⟩:=h
 exact⟨n,e,s',h1,hq e s' h2⟩
theorem Ok{a:bq}{Q:cq->AS->Prop}(I:Nat->AS->Prop)(hI:∀ k s,I k s->W A a s (andThen (fun s'=>∃ k',k' < k/\I k' s') Q)):∀ k s,I k s->W A (.loop a) s Q:=by
 intro k
 induction k using Nat.strongRecOn with
 | _ k ih =>
  intro s hs
  obtain⟨n,e,s1,h1,hq⟩:=hI k s hs
  cases e with
  | normal =>
   obtain⟨k',hk,AQ⟩:=hq
   obtain⟨m,e2,s2,h2,hq⟩:=ih k' hk s1 AQ
   refine⟨max n m+1,e2,s2,?_,hq⟩
   simp only[jq,iter] at h2 ⊢
   have Pu:=up (A:=A) (show n<=max n m+1 by omega) h1
   rw[Pu,an8]
   have h2' : iter (jq A.aZ (aE A) (max n m+1) a) (max n m) s1=some (e2,s2) :=
    o5 (fun s r h=>up (show m<=max n m+1 by omega) h) (apJ n m) h2
   exact h2'
  | exit i =>
   refine⟨n+1,_,s1,?_,hq⟩
   simp only[jq,iter]
   rw[up (A:=A) (show n<=n+1 by omega) h1,an8]
  | ret =>
   refine⟨n+1,_,s1,?_,hq⟩
   simp only[jq,iter]
   rw[up (A:=A) (show n<=n+1 by omega) h1,an8]
theorem tZ{a:bq}{s:AS}{Q:cq->AS->Prop}(h:W A a s (andThen (fun s'=>W A (.loop a) s' Q) Q)):W A (.loop a) s Q:=by
 obtain⟨n,e,s1,h1,hq⟩:=h
 cases e with
 | normal =>
  obtain⟨m,e2,s2,h2,hq⟩:=hq
  refine⟨max n m+1,e2,s2,?_,hq⟩
  simp only[jq,iter] at h2 ⊢
  rw[up (A:=A) (show n<=max n m+1 by omega) h1,an8]
  exact o5 (fun s r h=>up (show m<=max n m+1 by omega) h) (apJ n m) h2
 | exit i =>
  refine⟨n+1,_,s1,?_,hq⟩
  simp only[jq,iter]
  rw[up (A:=A) (show n<=n+1 by omega) h1,an8]
 | ret =>
  refine⟨n+1,_,s1,?_,hq⟩
  simp only[jq,iter]
  rw[up (A:=A) (show n<=n+1 by omega) h1,an8]
theorem xG{a:bq}{Q:cq->AS->Prop}(n:Nat)(I:Nat->AS->Prop)(hI:∀ k s,k<=n->I k s->W A a s (andThen (fun s'=>k<n/\I (k+1) s') Q))(k:Nat)(s:AS)(hk:k<=n)(hs:I k s):W A (.loop a) s Q:=by
 refine Ok (fun j s=>∃ k,k<=n/\j=n-k/\I k s) (fun j s h=>?_) (n-k) s ⟨k,hk,rfl,hs⟩
 obtain⟨k,hk,rfl,hs⟩:=h
 refine vw (hI k s hk hs) fun e s' hq=>?_
 cases e with
 | normal =>
  obtain⟨h1,h2⟩:=hq
  exact⟨n-(k+1),by omega,k+1,by omega,rfl,h2⟩
 | _=>exact hq
def Ex(i:Nat)(P V:AS->Prop):cq->AS->Prop
 | .exit j,s=>j=i/\P s
 | .ret,s=>V s
 | .normal,_=>False
theorem KQ{a:bq}{s:AS}{Q:cq->AS->Prop}(id:Nat)(P V:AS->Prop)(h:W A (.loop a) s (Ex id P V))(hp:∀ s',P s'->Q (.exit id) s')(hv:∀ s',V s'->Q .ret s'):W A (.loop a) s Q:=by
 refine vw h fun e s' hq=>?_
 cases e with
 | normal=>exact hq.elim
 | exit j=>obtain⟨rfl,hq⟩:=hq;exact hp s' hq
 | ret=>exact hv s' hq
theorem cK{a:bq}{Q:cq->AS->Prop}(n id:Nat)(I:Nat->AS->Prop)(P V:AS->Prop)(hI:∀ k s,k<=n->I k s->W A a s (andThen (fun s'=>k<n/\I (k+1) s') (Ex id P V)))
  (hp:∀ s',P s'->Q (.exit id) s') (hv:∀ s',V s'->Q .ret s') (k:Nat) (s:AS) (hk:k<=n) (hs:I k s):W A (.loop a) s Q :=
 KQ id P V (xG n I hI k s hk hs) hp hv
theorem Tp{a:bq}{Q:cq->AS->Prop}(id:Nat)(I:Nat->AS->Prop)(P V:AS->Prop)(hI:∀ k s,I k s->W A a s (andThen (fun s'=>∃ k',k' < k/\I k' s') (Ex id P V)))
  (hp:∀ s',P s'->Q (.exit id) s') (hv:∀ s',V s'->Q .ret s') (k:Nat) (s:AS) (hs:I k s):W A (.loop a) s Q :=
 KQ id P V (Ok I hI k s hs) hp hv
def Hd(P:aU->Prop)(H:ai)(lo gen:Nat)(s:AS):Prop:=P s.T/\s.H=H/\s.lo=lo/\s.gen=gen
theorem Hd.out{P:aU->Prop}{H:ai}{lo gen:Nat}{s:AS}(h:Hd P H lo gen s):∃ T,s=⟨T,H,lo,gen⟩/\P T:=by
 obtain⟨T,H',l',g'⟩:=s
 obtain⟨h1,h2,h3,h4⟩:=h
 simp only at h1 h2 h3 h4
 subst h2 h3 h4
 exact⟨T,rfl,h1⟩
def Zv(P:aU->Prop)(H:ai)(lo:Nat)(s:AS):Prop:=P s.T/\s.H=H/\s.lo=lo
theorem Zv.out{P:aU->Prop}{H:ai}{lo:Nat}{s:AS}(h:Zv P H lo s):∃ T g,s=⟨T,H,lo,g⟩/\P T:=by
 obtain⟨T,H',l',g'⟩:=s
 obtain⟨h1,h2,h3⟩:=h
 simp only at h1 h2 h3
 subst h2 h3
 exact⟨T,g',rfl,h1⟩
def fin(base:Nat)(rs:List hJ)(s:AS):Option (AV × Option gS) :=
 cond (rp base s) ((mw s rs).bind fun r=>cond (r.leaves base) (some (r,cond (Nat.beq s.lo base) none (some ⟨s.H.take base,s.lo⟩))) none) none
def done(base:Nat)(rs:List hJ)(r:AV × Option gS):cq->AS->Prop
 | .exit _,_=>False
 | _,s=>fin base rs s=some r
def yA(base:Nat)(rs:List hJ)(P:AV × Option gS->Prop):cq->AS->Prop
 | .exit _,_=>False
 | _,s=>bS (fin base rs s) P
theorem NB{s:AS}{r:hJ}{b:Nat}(h:pY s r=some b):jy s r=none:=by
 cases r with
 | tmp t =>
  simp only[pY] at h
  simp only[jy]
  split at h
  ·rename_i hT;rw[hT];rfl
  ·rename_i hT;rw[hT];rfl
  ·cases h
 | cell=>cases h
theorem Gp{s:AS}{m:Nat}{rs:List hJ}{q:AV × Option gS}(he:tj m rs s=some q):∃ i l off n z,rs=[i]/\jy s i=some (.sref l off n z)/\m<=l:=by
 unfold tj at he
 split at he
 ·rename_i i
  simp only[anU] at he
  obtain⟨v,hv,he⟩:=he
  split at he
  ·rename_i l off n z
   split at he
   ·rename_i ty cs hH
    cases hb:(Nat.ble m l&&cs.all AV.plain) with
    | false=>rw[hb] at he;cases he
    | true =>
     simp only[an7,aoU] at hb
     exact⟨i,l,off,n,z,rfl,hv,hb.1⟩
   ·cases he
  ·cases he
 ·cases he
theorem OA{base:Nat}{fn:aP}{s:AS}{r:AV × Option gS}(h:j3 base fn.results s=some r):rK base fn s=none:=by
 cases hf:rK base fn s with
 | none=>rfl
 | some q =>
  exfalso
  unfold rK at hf
  cases hb:fn.muts.elem 888888 with
  | false=>rw[hb] at hf;cases hf
  | true =>
   rw[hb,cond_true] at hf
   obtain⟨i,l,off,n,z,BD,qX,YU⟩:=Gp hf
   unfold j3 mw at h
   rw[BD] at h
   simp only at h
   cases hr:pY s i with
   | some b=>rw[NB hr] at qX;cases qX
   | none =>
    rw[hr] at h
    simp only[qX,an8] at h
    have:(AV.sref l off n z).leaves base=false:=by
     simp only[AV.leaves,AV.bN,AV.bd]
     cases hb:Nat.blt l base with
     | false=>rfl
     | true=>rw[aoE] at hb;omega
    rw[this] at h
    cases h
theorem tu{base:Nat}{fn:aP}{s:AS}{r:AV × Option gS}(h:fin base fn.results s=some r):finish base fn s=some (sH fn r):=by
 unfold fin at h
 cases ho:rp base s with
 | false=>rw[ho] at h;cases h
 | true =>
  rw[ho,cond_true] at h
  have h:j3 base fn.results s=some r:=h
  unfold finish pL xJ
  rw[ho,cond_true,OA h,h];rfl
def KW(base:Nat)(fn:aP)(P:AV × Option gS->Prop):cq->AS->Prop
 | .exit _,_=>False
 | _,s=>∃ r,finish base fn s=some r/\P r
theorem Ba{f:FuncId}{fn:aP}(ho:A.ov f=none)(hf:A.fns f=some fn){args:List AV}{H:ai}{P:AV × Option gS->Prop}(hn:Nat.beq args.length fn.np=true)
  (h:W A fn.body { T:=gY args,H,lo:=H.length,gen:=0 } (KW H.length fn P)):∃ r,aE A f args H=some r/\P r:=by
 obtain⟨n,e,s',h1,h2⟩:=h
 have key:∀ r,finish H.length fn s'=some r->aE A f args H=some r:=by
  intro r hr
  refine vC ho hf (n:=n) ?_
  unfold wj
  rw[hn,cond_true,h1,an8]
  cases e with
  | exit i=>exact h2.elim
  | _=>exact hr
 cases e with
 | exit i=>exact h2.elim
 | _=>obtain⟨r,hr,hP⟩:=h2;exact⟨r,key r hr,hP⟩
theorem zF{fn:aP}(hm:fn.muts.elem 777777=false)(r:AV × Option gS):sH fn r=r:=by unfold sH;rw[hm];rfl
theorem Hm{fn:aP}(hm:fn.muts.elem 777777=true)(r:AV × Option gS):sH fn r=(mE r.1,r.2):=by unfold sH;rw[hm];rfl
theorem Bb{f:FuncId}{fn:aP}(ho:A.ov f=none)(hf:A.fns f=some fn){args:List AV}{H:ai}{P:AV × Option gS->Prop}(hn:Nat.beq args.length fn.np=true)
  (h:W A fn.body { T:=gY args,H,lo:=H.length,gen:=0 } (yA H.length fn.results P)):∃ r,aE A f args H=some (sH fn r)/\P r:=by
 obtain⟨n,e,s',h1,h2⟩:=h
 have key:∀ r,fin H.length fn.results s'=some r->aE A f args H=some (sH fn r):=by
  intro r hr
  refine vC ho hf (n:=n) ?_
  unfold wj
  rw[hn,cond_true,h1,an8]
  cases e with
  | exit i=>exact h2.elim
  | _=>exact tu hr
 cases e with
 | exit i=>exact h2.elim
 | _=>obtain⟨r,hr,hP⟩:=h2;exact⟨r,key r hr,hP⟩
theorem yj{f:FuncId}{fn:aP}(ho:A.ov f=none)(hf:A.fns f=some fn){args:List AV}{H:ai}{P:AV × Option gS->Prop}(hn:Nat.beq args.length fn.np=true)
  (h:W A fn.body { T:=gY args,H,lo:=H.length,gen:=0 } (yA H.length fn.results P)) (hm:fn.muts.elem 777777=false:=by rfl):∃ r,aE A f args H=some r/\P r:=by
 obtain⟨r,h1,h2⟩:=Bb ho hf hn h
 rw[zF hm] at h1
 exact⟨r,h1,h2⟩
theorem mR{f:FuncId}{fn:aP}(ho:A.ov f=none)(hf:A.fns f=some fn){args:List AV}{H:ai}{P:AV × Option gS->Prop}(hn:Nat.beq args.length fn.np=true)
  (hm:fn.muts.elem 777777=true) (h:W A fn.body { T:=gY args,H,lo:=H.length,gen:=0 } (yA H.length fn.results fun r=>P (mE r.1,r.2))):∃ r,aE A f args H=some r/\P r:=by
 obtain⟨r,h1,h2⟩:=Bb ho hf hn h
 rw[Hm hm] at h1
 exact⟨_,h1,h2⟩
theorem OH{f:FuncId}{fn:aP}(ho:A.ov f=none)(hf:A.fns f=some fn){args:List AV}{H:ai}{r:AV × Option gS}(hn:Nat.beq args.length fn.np=true)
  (h:W A fn.body { T:=gY args,H,lo:=H.length,gen:=0 } (done H.length fn.results r)):aE A f args H=some (sH fn r):=by
 obtain⟨n,e,s',h1,h2⟩:=h
 refine vC ho hf (n:=n) ?_
 unfold wj
 rw[hn,cond_true,h1,an8]
 cases e with
 | exit i=>exact h2.elim
 | _=>exact tu h2
theorem aD{f:FuncId}{fn:aP}(ho:A.ov f=none)(hf:A.fns f=some fn){args:List AV}{H:ai}{r:AV × Option gS}(hn:Nat.beq args.length fn.np=true)
  (h:W A fn.body { T:=gY args,H,lo:=H.length,gen:=0 } (done H.length fn.results r)) (hm:fn.muts.elem 777777=false:=by rfl):aE A f args H=some r:=by
 have:=OH ho hf hn h
 rwa [zF hm] at this
end
section
variable {A:AP}{T:aU}{H:ai}{lo gen:Nat}{Q:cq->AS->Prop}{K:AS->Prop}{d:Bool}
theorem Zs{a b:bq} : W A (.seq a b) ⟨T,H,lo,gen⟩ Q=W A a ⟨T,H,lo,gen⟩ (andThen (fun s'=>W A b s' Q) Q):=Fe
theorem Yj{i:Nat}{a:bq} : W A (.block i a) ⟨T,H,lo,gen⟩ Q=W A a ⟨T,H,lo,gen⟩ (leave i Q):=Cd
theorem adi{c:aC}{a b:bq} : W A (.cond c a b) ⟨T,H,lo,gen⟩ Q=Bg (c.eval A.aZ T) (fun s=>W A a s Q) (fun s=>W A b s Q) ⟨T,H,lo,gen⟩:=Oh
theorem H5{os:List aO} : W A (.region d os) ⟨T,H,lo,gen⟩ Q=WO A d os ⟨T,H,lo,gen⟩ (Q .normal):=x8
theorem ado:W A .skip ⟨T,H,lo,gen⟩ Q=Q .normal ⟨T,H,lo,gen⟩:=Ol
theorem agL:W A .ret ⟨T,H,lo,gen⟩ Q=Q .ret ⟨T,H,lo,gen⟩:=Yq
theorem adk{i:Nat} : W A (.exit i) ⟨T,H,lo,gen⟩ Q=Q (.exit i) ⟨T,H,lo,gen⟩:=Oj
theorem Zr:WO A d [] ⟨T,H,lo,gen⟩ K=K ⟨T,H,lo,gen⟩:=Zw
theorem adn{t:Nat}{v:AV} : AS.cy ⟨T,H,lo,gen⟩ t v=⟨T.put t v,H,lo,gen⟩:=rfl
theorem agJ{h:ai}{l:Nat} : AS.gL ⟨T,H,lo,gen⟩ ⟨h,l⟩=⟨T,h,cond (Nat.blt l lo) l lo,gen⟩:=rfl
theorem H4{P:AS->Prop} : andThen P Q .normal ⟨T,H,lo,gen⟩=P ⟨T,H,lo,gen⟩:=rfl
theorem adh{P:AS->Prop} : andThen P Q .ret ⟨T,H,lo,gen⟩=Q .ret ⟨T,H,lo,gen⟩:=rfl
theorem Yi{P:AS->Prop}{i:Nat} : andThen P Q (.exit i) ⟨T,H,lo,gen⟩=Q (.exit i) ⟨T,H,lo,gen⟩:=rfl
theorem adl{P:aU->Prop}{H' : ai}{lo' : Nat} : Zv P H' lo' ⟨T,H,lo,gen⟩=(P T/\H=H'/\lo=lo'):=rfl
theorem Ta{i:Nat}{P V:AS->Prop} : Ex i P V (.exit i) ⟨T,H,lo,gen⟩=P ⟨T,H,lo,gen⟩:=propext ⟨fun h=>h.2,fun h=>⟨rfl,h⟩⟩
theorem Yl{i:Nat}{P V:AS->Prop} : Ex i P V .ret ⟨T,H,lo,gen⟩=V ⟨T,H,lo,gen⟩:=rfl
theorem agK{P:aU->Prop}{H' : ai}{lo' gen' : Nat} : Hd P H' lo' gen' ⟨T,H,lo,gen⟩=(P T/\H=H'/\lo=lo'/\gen=gen'):=rfl
theorem adj{base:Nat}{rs:List hJ}{r:AV × Option gS} : done base rs r .ret ⟨T,H,lo,gen⟩=(fin base rs ⟨T,H,lo,gen⟩=some r):=rfl
theorem NW{base:Nat}{rs:List hJ}{r:AV × Option gS} : done base rs r .normal ⟨T,H,lo,gen⟩=(fin base rs ⟨T,H,lo,gen⟩=some r):=rfl
theorem Yk{base:Nat}{rs:List hJ}{P:AV × Option gS->Prop} : yA base rs P .ret ⟨T,H,lo,gen⟩=bS (fin base rs ⟨T,H,lo,gen⟩) P:=rfl
theorem KM{base:Nat}{rs:List hJ}{P:AV × Option gS->Prop} : yA base rs P .normal ⟨T,H,lo,gen⟩=bS (fin base rs ⟨T,H,lo,gen⟩) P:=rfl
theorem NX{i:Nat} : leave i Q .normal ⟨T,H,lo,gen⟩=Q .normal ⟨T,H,lo,gen⟩:=rfl
theorem adm{i:Nat} : leave i Q .ret ⟨T,H,lo,gen⟩=Q .ret ⟨T,H,lo,gen⟩:=rfl
theorem Ym{i:Nat} : leave i Q (.exit i) ⟨T,H,lo,gen⟩=Q .normal ⟨T,H,lo,gen⟩:=by simp[leave]
theorem Tb{i j:Nat} : leave i Q (.exit j) ⟨T,H,lo,gen⟩=if j=i then Q .normal ⟨T,H,lo,gen⟩ else Q (.exit j) ⟨T,H,lo,gen⟩:=by
 by_cases ff:j=i
 ·subst ff;rw[if_pos rfl];exact Ym
 rw[if_neg ff]
 have hb:Nat.beq j i=false:=by
  cases hb:Nat.beq j i with
  | false=>rfl
  | true=>exact absurd (aph hb) ff
 simp[leave,hb]
end
theorem OE{n:Nat} : Nat.beq n n=true:=aqh n
theorem put_eq{T:aU}{d:Nat}{v:AV} : (T.put d v) d=v:=by simp[aU.put]
theorem ab4{T:aU}{d i:Nat}{v:AV}(h:(i==d)=false):(T.put d v) i=T i:=by
 have ff:i≠d:=by simpa using h
 have hb:Nat.beq i d=false:=by
  cases hb:Nat.beq i d with
  | false=>rfl
  | true=>exact absurd (aph hb) ff
 simp only[aU.put,hb];rfl
theorem WC{T:aU}{d i:Nat}{v:AV} : (T.put d v) i=if i=d then v else T i:=by
 by_cases h:i=d
 ·rw[if_pos h,h,put_eq]
 ·rw[if_neg h,ab4 (by simpa using h)]
theorem JP{a:AV}{l:List AV} : gY (a :: l) 0=a:=rfl
theorem JO{a:AV}{l:List AV}{n:Nat} : gY (a :: l) (n+1)=gY l n:=by simp[gY]
end
section
def k9(o:aO):Option Nat :=
 match o.op,o.guard with
 | .next (.tmp t),none=>some t
 | _,_=>none
section
variable (G:Nat->List AV)(cf:dK)
def mG:List aO->AS->(AS->Prop)->Prop
 | [],s,Q=>Q s
 | o :: r,s,Q=>match k9 o with
  | some t=>∃ g kz ka va cur todo,s.T t=.iter g kz ka va cur todo/\(todo=[]->mG r (s.bW o.dst (.tuple [.bool false])) Q) /\
    ∀ q rest,todo.Perm (q :: rest)->mG r ((s.cy t (.iter g kz ka va q rest)).bW o.dst (.tuple [.bool true,oB ka (q.take kz),oB va (q.drop kz)])) Q
  | none=>∃ s',bj G cf false s o=some s'/\mG r s' Q
inductive BT where
 | leaf (v:AV)
 | node (l r:BT)
def BT.of(f:aU):Nat->Nat->BT
 | 0,o=>.leaf (f o)
 | k+1,o=>.node (BT.of f k o) (BT.of f k (o+2 ^ k))
def BT.get:BT->Nat->Nat->AV
 | .leaf v,_,_=>v
 | .node _ _,0,_=>.undef
 | .node l r,k+1,i=>cond (Nat.blt i (2 ^ k)) (BT.get l k i) (BT.get r k (i-2 ^ k))
def FH(nt:Nat):Nat:=Nat.log2 nt+1
def HW(nt:Nat)(t:BT):aU:=fun i=>cond (Nat.blt i nt) (BT.get t (FH nt) i) .undef
def yl(nt:Nat)(s:AS):AS:={ s with T:=HW nt (BT.of s.T (FH nt) 0) }
def tO(pre:List (List Nat))(L:Array Bool):List Nat:=(List.range pre.length).filter fun i=>!L.getD i true&&(pre.getD i []).all fun j=>L.getD j false
def L5(nt:Nat)(ops:List aO)(pre:List (List Nat)):Nat->Array Bool->AS->(AS->Prop)->Prop
 | 0,L,s,Q=>tO pre L=[]/\Q s
 | n+1,L,s,Q=>(tO pre L=[]->Q s)/\∀ i∈tO pre L,∃ o s',ops[i]?=some o/\bj G cf false s o=some s'/\L5 nt ops pre n (L.setIfInBounds i true) (yl nt s') Q
def zm(F:AS->(cq->AS->Prop)->Prop):Nat->AS->(cq->AS->Prop)->Prop
 | 0,_,_=>False
 | n+1,s,Q=>F s (andThen (fun s'=>zm F n s' Q) Q)
def WN:bq->AS->(cq->AS->Prop)->Prop
 | .skip,s,Q=>Q .normal s
 | .region false ops,s,Q=>mG G cf ops s (Q .normal)
 | .region true ops,s,Q=>∃ s',fX G cf true ops s=some s'/\Q .normal s'
 | .seq a b,s,Q=>WN a s (andThen (fun s'=>WN b s' Q) Q)
 | .cond c a b,s,Q=>∃ t,c.eval G s.T=.bool t/\(t=true->WN a s Q)/\(t=false->WN b s Q)
 | .block id a,s,Q=>WN a s (leave id Q)
 | .loop a,s,Q=>∃ n,zm (WN a) n s Q
 | .exit id,s,Q=>Q (.exit id) s
 | .ret,s,Q=>Q .ret s
 | .nf nt ops pre,s,Q=>L5 G cf nt ops pre ops.length (Array.replicate ops.length false) (yl nt s) (Q .normal)
end
section
variable {P:Program}{G:Nat->List AV}{base nt:Nat}{gh:Gh}{w w' : World}{a:Act}{s:AS}{H:ai}{L:List Nat}
theorem Kh{o:aO}{t:Nat}(h:k9 o=some t):o.op=.next (.tmp t)/\o.guard=none:=by
 unfold k9 at h
 split at h
 ·rename_i h1 h2
  injection h with h
  subst h
  exact⟨h1,h2⟩
 ·cases h
def NN(x:Option gA):Prop:=∀ it,x≠some (.next it)
theorem NN.none:NN none:=fun _ h=>by cases h
theorem NN.bind{α:Type}{x:Option α}{f:α->Option gA}(h:∀ a,NN (f a)):NN (x.bind f):=by
 cases x with
 | none=>exact NN.none
 | some a=>exact h a
theorem NN.map{α:Type}{x:Option α}{f:α->gA}(h:∀ a,NN (some (f a))):NN (x.map f):=by
 cases x with
 | none=>exact NN.none
 | some a=>exact h a
theorem NN.cond{b:Bool}{x y:Option gA}(h1:NN x)(h2:NN y):NN (bif b then x else y):=by cases b<;>assumption
theorem NN.Yw{b:Bool}{x y:gA}(h1:NN (some x))(h2:NN (some y)):NN (some (bif b then x else y)):=by cases b<;>assumption
theorem NN.oY{cz:List Nat}{d:Option Nat}{g:aC}{ys:List aC} : NN (some (uj cz d g ys)):=by
 rw[uk];exact fun _ h=>by cases h
theorem Av{cz locals muts:List Nat}{d:Option Nat}{c:Call} : NN (ui P cz locals muts nt d c):=by
 unfold ui
 repeat' first
  | exact NN.oY
  | exact NN.none
  | exact fun _ h=>by cases h
  | refine NN.bind fun _=>?_
  | refine NN.map fun _=>?_
  | refine NN.cond ?_ ?_
  | refine NN.Yw ?_ ?_
  | split
theorem FC{cz locals muts:List Nat}{d:Option Nat}{o:Op}{x:aC}(h:dB P cz locals muts nt d o=some (.next x)):∃ y,o=.next y false/\au nt y=some x:=by
 have key:(∀ y b,o≠.next y b)->NN (dB P cz locals muts nt d o):=by
  intro hn
  cases o
  case makeMap t r =>
   cases r with
   | none=>simp only[dB];exact NN.map fun _ _ h=>by cases h
   | some r=>simp only[dB];exact NN.none
  all_goals simp only[dB]
  all_goals first
   | exact absurd rfl (hn _ _)
   | exact Av
   | (repeat' first
     | exact NN.none
     | exact fun _ h=>by cases h
     | refine NN.bind fun _=>?_
     | refine NN.map fun _=>?_
     | refine NN.cond ?_ ?_
     | refine NN.Yw ?_ ?_
     | split)
 by_cases hn:∀ y b,o≠.next y b
 ·exact absurd h (key hn x)
 ·have:∃ y b,o=.next y b:=by
   refine Classical.byContradiction fun hc=>hn fun y b e=>hc ⟨y,b,e⟩
  obtain⟨y,b,rfl⟩:=this
  cases b with
  | true=>simp[dB] at h
  | false =>
   simp only[dB,anT,gA.next.injEq] at h
   obtain⟨z,hz,rfl⟩:=h
   exact⟨y,rfl,hz⟩
theorem mO{cf:dK}(jK:fD P G cf){H0:ai}{iP:Gh}{w0:World}{cz locals muts:List Nat}{ops:Array Oper}(y7:∀ x,x∈locals->x∈L)(xM:∀ x,x∈muts->x∈L)(Q:Exit->Act->World->Prop)(R:AS->Prop)
  (hR:∀ s' a' aX w',R s'->Inv G base nt L H0 iP w0 s' aX w' a'->Q .normal a' w') :
  ∀ (l:List Oper) (is:List aO) (s:AS) (gh:Gh) (w:World) (a:Act),Inv G base nt L H0 iP w0 s gh w a->gN P cz locals muts nt ops l=some is->mG G cf is s R->wpList P ops Q l a w
 | [],is,s,gh,w,a,hI,hc,he=>by
  simp only[gN,anV] at hc
  subst hc
  exact hR s a gh w he hI
 | o :: l,is,s,gh,w,a,hI,hc,he=>by
  simp only[gN,anU,anT] at hc
  obtain⟨io,uO,is',Ie,rfl⟩:=hc
  unfold mG at he
  unfold wpList
  have hinv:=j0 uO
  cases hn:k9 io with
  | none =>
   rw[hn] at he
   obtain⟨s1,h1,h2⟩:=he
   rw[nq,anT] at h1
   obtain⟨⟨z,s2⟩,hz,rfl⟩:=h1
   refine pd jK hI uO y7 xM hz _ Q (fun a' aX w' kT=>?_)
   rw[hinv.2.2.1] at h2
   exact mO jK y7 xM Q R hR l is' _ aX w' a' kT Ie h2
  | some t =>
   rw[hn] at he
   obtain⟨g,kz,ka,va,cur,todo,hT,h0,h1⟩:=he
   obtain⟨dN,Aj⟩:=Kh hn
   rw[dN] at hinv
   obtain⟨y,hoy,za⟩:=FC hinv.1
   have hog:o.guard=none:=by
    have hg:=hinv.2.1
    rw[Aj] at hg
    cases YO:o.guard with
    | none=>rfl
    | some jw =>
     obtain⟨j,want⟩:=jw
     rw[YO] at hg
     simp only[oU,anU] at hg
     obtain⟨_,_,hg⟩:=hg
     obtain⟨_,hg⟩:=ag hg
     cases hg
   have hw:Region.wanted o (yielded ops a.tmps)=true:=by simp[Region.wanted,hog]
   rw[if_pos hw]
   have htL:t∈L:=hI.F.obj t (by rw[hT];rfl)
   refine .inl (TS hI.W hI.F hoy za hT htL hinv.2.2.2 _ Q (fun JI v' aX w' hO=>?_) (fun q rest hp v' aX w' hO=>?_))
   ·have:=h0 JI
    rw[hinv.2.2.1] at this
    exact mO jK y7 xM Q R hR l is' _ aX w' _ (hI.out hO hI.lo) Ie this
   ·have:=h1 q rest hp
    rw[hinv.2.2.1] at this
    exact mO jK y7 xM Q R hR l is' _ aX w' _ (hI.out hO (hI.lo.gp rfl rfl)) Ie this
theorem xg{cf:dK} : ∀ (l:List aO) (s:AS) (Q:AS->Prop),(∀ o,o∈l->k9 o=none)->mG G cf l s Q->∃ s',fX G cf false l s=some s'/\Q s'
 | [],s,Q,_,h=>⟨s,rfl,h⟩
 | o :: l,s,Q,hn,h=>by
  have ho:=hn o aox
  unfold mG at h
  rw[ho] at h
  obtain⟨s1,h1,h⟩:=h
  obtain⟨s2,h2,h3⟩:=xg l s1 Q (fun o ho=>hn o (apb _ ho)) h
  exact⟨s2,by simp only[fX,h1,an8,h2],h3⟩
theorem qZ{mode pc:Bool}{is:List aO}{L:List Nat} : ∀ {l:List aO} {es:List rB},oA mode pc is L l=some es->∀ o,o∈inter mode pc is L l->k9 o=none
 | [],_,_,o,ho=>by cases ho
 | p :: l,es,h,o,ho=>by
  simp only[oA,anU,anT] at h
  obtain⟨e,he,vm,h',rfl⟩:=h
  have hp:k9 (jP pc p)=none:=by
   obtain⟨d,g,op⟩:=p
   cases op<;>try rfl
   ·simp only[jP];cases pc<;>rfl
   ·simp[FV,Bi] at he
  simp only[inter] at ho
  split at ho
  ·rcases aoH.1 ho with rfl|ho
   ·rfl
   ·rcases aoH.1 ho with rfl|ho
    ·exact hp
    ·exact qZ h' o ho
  ·rcases aoH.1 ho with rfl|ho
   ·exact hp
   ·exact qZ h' o ho
theorem BT.Jx(f:aU):∀ (k o i:Nat),i<2 ^ k->BT.get (BT.of f k o) k i=f (o+i)
 | 0,o,i,h=>by
  have:i=0:=by simp at h;exact h
  subst this;rfl
 | k+1,o,i,h=>by
  have h2:2 ^ (k+1)=2 ^ k+2 ^ k:=by rw[Nat.pow_succ];omega
  simp only[BT.of,BT.get]
  cases hb:Nat.blt i (2 ^ k) with
  | true =>
   rw[aoE] at hb
   rw[cond_true];exact BT.Jx f k o i hb
  | false =>
   have hn:¬ i<2 ^ k:=fun h=>by rw[<- aoE] at h;rw[h] at hb;cases hb
   rw[anZ,BT.Jx f k (o+2 ^ k) (i-2 ^ k) (by omega)]
   congr 1;omega
theorem DV{nt:Nat}{T:aU}{i:Nat}(h:i<nt):HW nt (BT.of T (FH nt) 0) i=T i:=by
 have h1:Nat.blt i nt=true:=by rw[aoE];exact h
 unfold HW
 rw[h1,cond_true,BT.Jx _ _ _ _ (Nat.lt_trans h (by unfold FH;exact Nat.lt_log2_self)),Nat.zero_add]
theorem XS{nt:Nat}{T:aU}{i:Nat}(h:nt<=i):HW nt (BT.of T (FH nt) 0) i=.undef:=by
 have h1:Nat.blt i nt=false:=by
  cases hb:Nat.blt i nt with
  | false=>rfl
  | true=>rw[aoE] at hb;omega
 unfold HW
 rw[h1];rfl
theorem SR.ZQ{n:Nat}{T T' : aU}{gen:Nat}{tm:Nat->Value}{i:Nat}{v:Value}{x:AV}(hT:∀ j,j<nt->T' j=T j)(h:SR gh n nt w T gen tm i v x):SR gh n nt w T' gen tm i v x:=by
 cases x
 case lref b g off=>obtain⟨h1,h2,h3⟩:=h;exact⟨h1,h2,fun e=>h3 (by rw[<- hT b h1];exact e)⟩
 case lsr b g=>obtain⟨h1,h2,h3⟩:=h;exact⟨h1,h2,fun e=>h3 (by rw[<- hT b h1];exact e)⟩
 case eref b g r z off=>obtain⟨h1,h2,h3⟩:=h;exact⟨h1,h2,fun e=>h3 (by rw[<- hT b h1];exact e)⟩
 all_goals exact h
theorem Inv.canon{H0:ai}{iP:Gh}{w0:World}(h:Inv G base nt L H0 iP w0 s gh w a):Inv G base nt L H0 iP w0 (yl nt s) gh w a:=by
 refine⟨h.W,⟨⟨h.F.defers,h.F.size,fun i hi=>?_⟩,fun i hi=>?_⟩,h.E,h.lo.gp rfl rfl⟩
 ·have h1:=h.F.slot i hi
  show SR gh s.H.length nt w (HW nt (BT.of s.T (FH nt) 0)) s.gen _ i _ (HW nt (BT.of s.T (FH nt) 0) i)
  rw[DV hi]
  exact h1.ZQ fun j hj=>DV hj
 ·by_cases bA:i<nt
  ·have:(yl nt s).T i=s.T i:=DV bA
   rw[this] at hi
   exact h.F.obj i hi
  ·have:(yl nt s).T i=.undef:=XS (by omega)
   rw[this] at hi
   cases hi
theorem zP{ops:Array Oper}{L:Array Bool} : tO (ops.toList.map nh) L=Region.ready .any ops L:=by
 unfold tO Region.ready
 rw[show (ops.toList.map nh).length=ops.size by simp]
 refine List.filter_congr fun i hi=>?_
 have bA:i<ops.size:=by simpa using hi
 have e1:(ops.toList.map nh).getD i []=nh ops[i]:=by simp[aoO,bA]
 rw[e1,aok bA]
 simp only[aoi,ao3,nh]
 congr 1
 rw[<- Array.all_toList,List.all_map,List.all_filter]
 rfl
theorem yd{cf:dK}(jK:fD P G cf){H0:ai}{iP:Gh}{w0:World}{cz locals muts:List Nat}{ops:Array Oper}(y7:∀ x,x∈locals->x∈L)(xM:∀ x,x∈muts->x∈L)(Q:Exit->Act->World->Prop)(R:AS->Prop)
  (hR:∀ s' a' aX w',R s'->Inv G base nt L H0 iP w0 s' aX w' a'->Q .normal a' w') {is:List aO} (hc:gN P cz locals muts nt ops ops.toList=some is) :
  ∀ (n:Nat) (B:Array Bool) (s:AS) (gh:Gh) (w:World) (a:Act),Inv G base nt L H0 iP w0 s gh w a->L5 G cf nt is (ops.toList.map nh) n B s R->wpAny P .any ops Q n B a w
 | 0,B,s,gh,w,a,hI,h=>⟨by rw[<- zP];exact h.1,hR s a gh w h.2 hI⟩
 | n+1,B,s,gh,w,a,hI,h=>by
  refine⟨fun e=>hR s a gh w (h.1 (by rw[zP];exact e)) hI,fun i hi=>?_⟩
  obtain⟨io,s1,uO,h1,h2⟩:=h.2 i (by rw[zP];exact hi)
  obtain⟨hlen,GH⟩:=jn hc
  unfold wpOp
  split
  ·rename_i hn
   exfalso
   have h3:=(an2.1 uO).1
   have h4:ops.toList[i]?=none:=by simpa using hn
   have h5:=List.getElem?_eq_none_iff.1 h4
   omega
  ·rename_i o ho
   obtain⟨io',ah3,bY⟩:=GH i o (by simpa using ho)
   obtain rfl:io'=io:=apc (ah3.symm.trans uO)
   have hinv:=j0 bY
   rw[nq,anT] at h1
   obtain⟨⟨z,s2⟩,hz,rfl⟩:=h1
   refine pd jK hI bY y7 xM hz _ Q (fun a' aX w' kT=>?_)
   rw[hinv.2.2.1] at h2
   exact yd jK y7 xM Q R hR hc n _ _ aX w' a' kT.canon h2
theorem lr{cf:dK}(jK:fD P G cf)(hm:P.follows .mixedOrders=true){H0:ai}{iP:Gh}{w0:World}{cz locals muts:List Nat} :
  ∀ (c:Code) (ic:bq),gD P cz locals muts nt c=some ic->∀ (s:AS) (gh:Gh) (w:World) (a:Act) (Q:Exit->Act->World->Prop) (R:cq->AS->Prop),Inv G base nt (locals++muts) H0 iP w0 s gh w a->WN G cf ic s R ->
   (∀ e s' a' aX w',R e s'->Inv G base nt (locals++muts) H0 iP w0 s' aX w' a'->Q e.K9 a' w')->c.wp P Q a w
 | .skip,ic,hc,s,gh,w,a,Q,R,hI,he,hQ=>by
  simp only[gD,anV] at hc
  subst hc
  exact wp_skip (hQ .normal s a gh w he hI)
 | .region id ops draw,ic,hc,s,gh,w,a,Q,R,hI,he,hQ=>by
  have YL:=hc
  simp only[gD,anU] at hc
  obtain⟨is,Ie,hc⟩:=hc
  cases hd3:cond draw (yB locals ops.toList is) none with
  | some c3 =>
   rw[hd3] at hc
   injection hc with hc
   subst hc
   obtain⟨rfl,mode,pc,es,h1,h2,rfl⟩:=yC hd3
   obtain⟨s2,h3,h4⟩:=xg _ _ _ (qZ h1) he
   exact iL jK hm 0 (.region id ops true) _ YL s s2 .normal gh w a Q hI (by simp only[jq,h3,aoi]) (fun a' aX w' kT=>hQ .normal s2 a' aX w' h4 kT)
  | none =>
  rw[hd3] at hc
  simp only at hc
  cases hb:(!draw || (!(locals.elem 999998)&&vb (locals++muts) (ops.toList.zip is))) with
  | false =>
   rw[hb,anZ] at hc
   obtain⟨hdr,hc⟩:=ag hc
   injection hc with hc
   subst hc
   subst hdr
   have hl:ops.size=is.length:=by simpa using (jn Ie).1
   simp only[WN,<- hl] at he
   exact wp_region_any hm (yd jK (fun x hx=>an9.2 (.inl hx)) (fun x hx=>an9.2 (.inr hx)) Q (R .normal) (fun s' a' aX w' hr kT=>hQ .normal s' a' aX w' hr kT) Ie _ _ _ gh _ a hI.drew.canon he)
  | true =>
  have h0:=hb
  rw[hb,cond_true] at hc
  injection hc with hc
  subst hc
  cases draw with
  | false=>exact wp_region_list (mO jK (fun x hx=>an9.2 (.inl hx)) (fun x hx=>an9.2 (.inr hx)) Q (R .normal) (fun s' a' aX w' hr kT=>hQ .normal s' a' aX w' hr kT) ops.toList is s gh w a hI Ie he)
  | true =>
   obtain⟨s',h1,h2⟩:=he
   exact iL jK hm 0 (.region id ops true) _ YL s s' .normal gh w a Q hI (by simp only[jq,h1,aoi]) (fun a' aX w' kT=>hQ .normal s' a' aX w' h2 kT)
 | .seq x y,ic,hc,s,gh,w,a,Q,R,hI,he,hQ=>by
  simp only[gD,anU,anT] at hc
  obtain⟨ix,hx,iy,hy,rfl⟩:=hc
  refine wp_seq (lr jK hm x ix hx s gh w a _ _ hI he (fun e s' a' aX w' hr kT=>?_))
  cases e with
  | normal=>exact lr jK hm y iy hy s' aX w' a' Q R kT hr hQ
  | exit id=>exact hQ (.exit id) s' a' aX w' hr kT
  | ret=>exact hQ .ret s' a' aX w' hr kT
 | .cond c x y,ic,hc,s,gh,w,a,Q,R,hI,he,hQ=>by
  simp only[gD,anU,anT] at hc
  obtain⟨iq,hq,ix,hx,iy,hy,rfl⟩:=hc
  obtain⟨t,ht,h1,h2⟩:=he
  have hv:=(cY hI.W hI.F hq ht rfl).jM
  cases t with
  | true=>exact wp_cond_true hv (lr jK hm x ix hx s gh w a Q R hI (h1 rfl) hQ)
  | false=>exact wp_cond_false hv (lr jK hm y iy hy s gh w a Q R hI (h2 rfl) hQ)
 | .block id c,ic,hc,s,gh,w,a,Q,R,hI,he,hQ=>by
  simp only[gD,anT] at hc
  obtain⟨ix,hx,rfl⟩:=hc
  refine wp_block (lr jK hm c ix hx s gh w a _ _ hI he (fun e s' a' aX w' hr kT=>?_))
  cases e with
  | normal=>exact hQ .normal s' a' aX w' hr kT
  | exit i =>
   show if i=id then Q .normal a' w' else Q (.exit i) a' w'
   simp only[leave,gI] at hr
   by_cases hi:i=id
   ·rw[if_pos hi];exact hQ .normal s' a' aX w' (by simpa [hi] using hr) kT
   ·rw[if_neg hi];exact hQ (.exit i) s' a' aX w' (by simpa [hi] using hr) kT
  | ret=>exact hQ .ret s' a' aX w' hr kT
 | .loop c,ic,hc,s,gh,w,a,Q,R,hI,he,hQ=>by
  simp only[gD,anT] at hc
  obtain⟨ix,hx,rfl⟩:=hc
  obtain⟨n,he⟩:=he
  have rounds:∀ (m:Nat) (s:AS) (gh:Gh) (w:World) (a:Act),Inv G base nt (locals++muts) H0 iP w0 s gh w a->zm (WN G cf ix) m s R->Code.rounds P c Q m a w:=by
   intro m
   induction m with
   | zero=>intro s gh w a _ h;exact h.elim
   | succ m ih =>
    intro s gh w a hI h
    rw[rounds_succ]
    refine lr jK hm c ix hx s gh w a _ _ hI h (fun e s' a' aX w' hr kT=>?_)
    cases e with
    | normal=>exact ih s' aX w' a' kT hr
    | exit id=>exact hQ (.exit id) s' a' aX w' hr kT
    | ret=>exact hQ .ret s' a' aX w' hr kT
  exact wp_loop_rounds n (rounds n s gh w a hI he)
 | .exit id,ic,hc,s,gh,w,a,Q,R,hI,he,hQ=>by
  simp only[gD,anV] at hc
  subst hc
  exact wp_exit (hQ (.exit id) s a gh w he hI)
 | .ret,ic,hc,s,gh,w,a,Q,R,hI,he,hQ=>by
  simp only[gD,anV] at hc
  subst hc
  exact wp_ret (hQ .ret s a gh w he hI)
 | .label l,ic,hc,s,gh,w,a,Q,R,hI,he,hQ=>by
  simp only[gD,anV] at hc
  subst hc
  exact wp_label (hQ .normal s a gh w he hI)
 | .scope c,ic,hc,s,gh,w,a,Q,R,hI,he,hQ=>by
  simp only[gD] at hc
  refine wp_scope_straight (lr jK hm c ic hc s gh w a _ R hI he (fun e s' a' aX w' hr kT=>?_))
  have:=hQ e s' a' aX w' hr kT
  cases e<;>exact this
 | .rangeFunc _ _ _ _,_,hc,_,_,_,_,_,_,_,_,_=>by simp[gD] at hc
 | .goto _,_,hc,_,_,_,_,_,_,_,_,_=>by simp[gD] at hc
 | .refuse _,_,hc,_,_,_,_,_,_,_,_,_=>by simp[gD] at hc
theorem ZO{A:AP}(hA:mj P A):fD P A.aZ (aE A):=by
 intro f args H r c h
 obtain⟨n,hn⟩:=ke.1 h
 exact rI hA n f args H r c hn
theorem agH{A:AP}(hA:mj P A){f:FuncId}{fn:Func}(Ai:P.funcs[f]?=some fn){cz locals muts:List Nat}{lI:aP}(hc:mA P cz locals muts fn=some lI){g:List AV->ai->Option (AV × Option gS)}
  (PC:∀ args H r c,g args H=some (r,c)->kI H c)
  (hg:∀ args H x,g args H=some x->args.length=lI.np/\WN A.aZ (aE A) lI.body { T:=gY args,H,lo:=H.length,gen:=0 } (fun e s=>match e with|.exit _=>False|_=>finish H.length lI s=some x)):jb P A.aZ f g:=by
 intro args H r c he
 obtain⟨GF,hwn⟩:=hg args H (r,c) he
 simp only[mA,anU] at hc
 obtain⟨code,qS,b,hb,rs,BD,hc⟩:=hc
 obtain⟨h0,hc⟩:=ag hc
 injection hc with hc
 subst hc
 simp only[an7,aoU,bne_iff_ne,ne_eq] at h0
 refine⟨⟨fn,Ai,by rw[qS];rfl,h0.2⟩,PC args H r c he,fun base gh w vs hW j5 tX de=>?_⟩
 refine calls_of_wp Ai qS ?_
 have alm:args.length=fn.params.size+fn.nfree:=GF
 have hI:=zf (locals:=locals) (muts:=muts) (fn:=fn) hW tX (by omega) (fun j v x hv hx=>.inl (de j v x hv hx))
 refine lr (ZO hA) hA.mixed code b hb _ gh.taken w _ _ _ hI hwn (fun e s' a' aX w' hr kT=>?_)
 cases e with
 | exit i=>exact hr.elim
 | normal =>
  obtain⟨_,v,Jy,hv,hR⟩:=po (P:=P) hW j5 kT BD hr
  exact⟨kT.F.defers,v,hv,v,Jy,rfl,hR⟩
 | ret =>
  obtain⟨_,v,Jy,hv,hR⟩:=po (P:=P) hW j5 kT BD hr
  exact⟨kT.F.defers,v,hv,v,Jy,rfl,hR⟩
end
end
section
def zg{α:Type}(x:α):List α->List (List α)
 | []=>[[x]]
 | y :: l=>(x :: y :: l) :: (zg x l).map (y :: ·)
def perms{α:Type} : List α->List (List α)
 | []=>[[]]
 | x :: l=>(perms l).flatMap (zg x)
theorem zC{α:Type}(x:α):∀ (a b:List α),a++x :: b∈zg x (a++b)
 | [],b=>by cases b<;>simp[zg]
 | y :: a,b=>by
  simp only[apm,zg,aoH,aoD]
  exact .inr ⟨_,zC x a b,rfl⟩
theorem BO{α:Type} : ∀ {l m:List α},l.Perm m->m∈perms l
 | [],m,h=>by
  have:m=[]:=List.Perm.eq_nil h.symm
  rw[this];simp[perms]
 | x :: l,m,h=>by
  have hx:x∈m:=h.mem_iff.1 aox
  obtain⟨a,b,rfl⟩:=List.append_of_mem hx
  have h2:l.Perm (a++b):=(h.trans List.perm_middle).cons_inv
  simp only[perms,apn]
  exact⟨_,BO h2,zC x a b⟩
def collect{α β:Type}(f:α->Option (List β)):List α->Option (List β)
 | []=>some []
 | x :: l=>(f x).bind fun a=>(collect f l).map (a++·)
theorem kL{α β:Type}{f:α->Option (List β)} : ∀ {xs:List α} {l:List β},collect f xs=some l->∀ x∈xs,∃ a,f x=some a/\∀ y∈a,y∈l
 | [],_,_,x,hx=>by cases hx
 | z :: xs,l,h,x,hx=>by
  simp only[collect,anU,anT] at h
  obtain⟨a,ha,b,hb,rfl⟩:=h
  rcases aoH.1 hx with rfl|hx
  ·exact⟨a,ha,fun y hy=>apC _ hy⟩
  ·obtain⟨c,hc,hm⟩:=kL hb x hx
   exact⟨c,hc,fun y hy=>ap4 _ (hm y hy)⟩
theorem jY{α β:Type}{f:α->Option (List β)} : ∀ {xs:List α} {l:List β},collect f xs=some l->∀ y∈l,∃ x∈xs,∃ a,f x=some a/\y∈a
 | [],_,h,y,hy=>by simp only[collect,anV] at h;rw[<- h] at hy;cases hy
 | z :: xs,l,h,y,hy=>by
  simp only[collect,anU,anT] at h
  obtain⟨a,ha,b,hb,rfl⟩:=h
  rcases an9.1 hy with hy|hy
  ·exact⟨z,aox,a,ha,hy⟩
  ·obtain⟨x,hx,c,hc,hm⟩:=jY hb y hy
   exact⟨x,apb _ hx,c,hc,hm⟩
mutual
def s9:AV->AV->Bool
 | .bool a,y=>match y with|.bool b=>a==b|_=>false
 | .int k a,y=>match y with|.int k' b=>k==k'&&a==b|_=>false
 | .str a,y=>match y with|.str b=>a==b|_=>false
 | .any,y=>match y with|.any=>true|_=>false
 | .dQ,y=>match y with|.dQ=>true|_=>false
 | .dF,y=>match y with|.dF=>true|_=>false
 | .cW,y=>match y with|.cW=>true|_=>false
 | .cx,y=>match y with|.cx=>true|_=>false
 | .af,y=>match y with|.af=>true|_=>false
 | .slice e o,y=>match y with|.slice f q=>xt e f&&o==q|_=>false
 | .ref l o,y=>match y with|.ref l' o'=>l==l'&&o==o'|_=>false
 | .sref l o n z,y=>match y with|.sref l' o' n' z'=>l==l'&&o==o'&&n==n'&&z==z'|_=>false
 | .mref l,y=>match y with|.mref l'=>l==l'|_=>false
 | .agg a,y=>match y with|.agg b=>D2 a b|_=>false
 | .tuple a,y=>match y with|.tuple b=>D2 a b|_=>false
 | .iface t a,y=>match y with|.iface t' b=>t==t'&&s9 a b|_=>false
 | .eptr a,y=>match y with|.eptr b=>D2 a b|_=>false
 | .lbox g a,y=>match y with|.lbox g' b=>g==g'&&D2 a b|_=>false
 | .lref s g o,y=>match y with|.lref s' g' o'=>s==s'&&g==g'&&o==o'|_=>false
 | .lsl g e,y=>match y with|.lsl g' f=>g==g'&&xt e f|_=>false
 | .lsr s g,y=>match y with|.lsr s' g'=>s==s'&&g==g'|_=>false
 | .eref s g i z o,y=>match y with|.eref s' g' i' z' o'=>s==s'&&g==g'&&i==i'&&z==z'&&o==o'|_=>false
 | .fJ kz ka va e,y=>match y with|.fJ mi mh mF f=>kz==mi&&ka==mh&&va==mF&&xt e f|_=>false
 | .ny kz ka va e,y=>match y with|.ny mi mh mF f=>kz==mi&&ka==mh&&va==mF&&xt e f|_=>false
 | .iter g kz ka va c e,y=>match y with|.iter g' mi mh mF c' f=>g==g'&&kz==mi&&ka==mh&&va==mF&&D2 c c'&&xt e f|_=>false
 | .func f a c,y=>match f,y with|.func n,.func (.func m) b d=>n==m&&D2 a b&&D2 c d|_,_=>false
def D2:List AV->List AV->Bool
 | [],y=>match y with|[]=>true|_=>false
 | a :: l,y=>match y with|b :: m=>s9 a b&&D2 l m|_=>false
def xt:List (List AV)->List (List AV)->Bool
 | [],y=>match y with|[]=>true|_=>false
 | a :: l,y=>match y with|b :: m=>D2 a b&&xt l m|_=>false
end
mutual
theorem CU:∀ (a b:AV),s9 a b=true->a=b
 | .bool a,b,h=>by cases b<;>simp_all [s9]
 | .int k a,b,h=>by cases b<;>simp_all [s9]
 | .str a,b,h=>by cases b<;>simp_all [s9]
 | .any,b,h=>by cases b<;>simp_all [s9]
 | .dQ,b,h=>by cases b<;>simp_all [s9]
 | .dF,b,h=>by cases b<;>simp_all [s9]
 | .cW,b,h=>by cases b<;>simp_all [s9]
 | .cx,b,h=>by cases b<;>simp_all [s9]
 | .af,b,h=>by cases b<;>simp_all [s9]
 | .slice e o,b,h=>by
  cases b<;>simp[s9] at h
  rename_i f q
  rw[od e f h.1,h.2]
 | .ref l o,b,h=>by cases b<;>simp_all [s9]
 | .sref l o n z,b,h=>by cases b<;>simp_all [s9]
 | .mref l,b,h=>by cases b<;>simp_all [s9]
 | .agg a,b,h=>by
  cases b<;>simp[s9] at h
  rename_i f
  rw[lF a f h]
 | .tuple a,b,h=>by
  cases b<;>simp[s9] at h
  rename_i f
  rw[lF a f h]
 | .iface t a,b,h=>by
  cases b<;>simp[s9] at h
  rename_i t' f
  rw[CU a f h.2,h.1]
 | .eptr a,b,h=>by
  cases b<;>simp[s9] at h
  rename_i f
  rw[lF a f h]
 | .lbox g a,b,h=>by
  cases b<;>simp[s9] at h
  rename_i g' f
  rw[h.1,lF a f h.2]
 | .lref s g o,b,h=>by cases b<;>simp_all [s9]
 | .lsl g e,b,h=>by
  cases b<;>simp[s9] at h
  rename_i g' f
  rw[h.1,od e f h.2]
 | .lsr s g,b,h=>by cases b<;>simp_all [s9]
 | .eref s g i z o,b,h=>by cases b<;>simp_all [s9]
 | .fJ kz ka va e,b,h=>by
  cases b<;>simp[s9] at h
  rename_i mi mh mF f
  rw[h.1.1.1,h.1.1.2,h.1.2,od e f h.2]
 | .ny kz ka va e,b,h=>by
  cases b<;>simp[s9] at h
  rename_i mi mh mF f
  rw[h.1.1.1,h.1.1.2,h.1.2,od e f h.2]
 | .iter g kz ka va c e,b,h=>by
  cases b<;>simp[s9] at h
  rename_i g' mi mh mF c' f
  rw[h.1.1.1.1.1,h.1.1.1.1.2,h.1.1.1.2,h.1.1.2,lF c c' h.1.2,od e f h.2]
 | .func f a c,b,h=>by
  cases f<;>cases b<;>simp[s9] at h
  rename_i n f' b d
  cases f'<;>simp at h
  rename_i m
  rw[h.1.1,lF a b h.1.2,lF c d h.2]
theorem lF:∀ (a b:List AV),D2 a b=true->a=b
 | [],b,h=>by cases b<;>simp_all [D2]
 | x :: l,b,h=>by
  cases b with
  | nil=>simp[D2] at h
  | cons y m =>
   simp[D2] at h
   rw[CU x y h.1,lF l m h.2]
theorem od:∀ (a b:List (List AV)),xt a b=true->a=b
 | [],b,h=>by cases b<;>simp_all [xt]
 | x :: l,b,h=>by
  cases b with
  | nil=>simp[xt] at h
  | cons y m =>
   simp[xt] at h
   rw[lF x y h.1,od l m h.2]
end
def eqO:cJ->cJ->Bool
 | .box t a,.box t' b=>t==t'&&D2 a b
 | .map kz ka va e,.map mi mh mF f=>kz==mi&&ka==mh&&va==mF&&xt e f
 | .fJ kz ka va e,.fJ mi mh mF f=>kz==mi&&ka==mh&&va==mF&&xt e f
 | .Ji a,.Ji b=>D2 a b
 | .ba a,.ba b=>D2 a b
 | .dead,.dead=>true
 | _,_=>false
def TK:ai->ai->Bool
 | [],[]=>true
 | a :: l,b :: m=>eqO a b&&TK l m
 | _,_=>false
def eqR(a b:AV × Option gS):Bool :=
 s9 a.1 b.1&&match a.2,b.2 with
  | none,none=>true
  | some c,some d=>TK c.heap d.heap&&c.lo==d.lo
  | _,_=>false
theorem Z7{a b:cJ}(h:eqO a b=true):a=b:=by
 cases a<;>cases b<;>simp[eqO] at h
 ·rw[h.1,lF _ _ h.2]
 ·rw[h.1.1.1,h.1.1.2,h.1.2,od _ _ h.2]
 ·rw[h.1.1.1,h.1.1.2,h.1.2,od _ _ h.2]
 ·rw[lF _ _ h]
 ·rw[lF _ _ h]
 ·rfl
theorem CT:∀ {a b:ai},TK a b=true->a=b
 | [],[],_=>rfl
 | [],_ :: _,h=>by simp[TK] at h
 | _ :: _,[],h=>by simp[TK] at h
 | x :: l,y :: m,h=>by
  simp only[TK,an7] at h
  rw[Z7 h.1,CT h.2]
theorem O6{a b:AV × Option gS}(h:eqR a b=true):a=b:=by
 obtain⟨v,c⟩:=a
 obtain⟨w,d⟩:=b
 simp only[eqR,an7] at h
 obtain⟨h1,h2⟩:=h
 rw[CU v w h1]
 cases c<;>cases d<;>simp at h2
 ·rfl
 ·rename_i c d
  obtain⟨c1,c2⟩:=c
  obtain⟨d1,d2⟩:=d
  simp only at h2
  rw[CT h2.1,h2.2]
structure CS where
 nt:Nat
 sk:BT
 H:ai
 lo:Nat
 gen:Nat
def CS.HY(c:CS):AS:=⟨HW c.nt c.sk,c.H,c.lo,c.gen⟩
def CS.afz(nt:Nat)(s:AS):CS:=⟨nt,BT.of s.T (FH nt) 0,s.H,s.lo,s.gen⟩
def Z5:BT->BT->Bool
 | .leaf v,y=>match y with|.leaf u=>s9 v u|_=>false
 | .node l r,y=>match y with|.node l' r'=>Z5 l l'&&Z5 r r'|_=>false
theorem I' : ∀ {a b:BT},Z5 a b=true->a=b
 | .leaf v,.leaf u,h=>by rw[CU v u h]
 | .leaf _,.node _ _,h=>by simp[Z5] at h
 | .node _ _,.leaf _,h=>by simp[Z5] at h
 | .node l r,.node l' r',h=>by
  simp only[Z5,an7] at h
  rw[I' h.1,I' h.2]
def eqC(c d:CS):Bool:=c.nt==d.nt&&c.lo==d.lo&&c.gen==d.gen&&Z5 c.sk d.sk&&TK c.H d.H
theorem Z6{c d:CS}(h:eqC c d=true):c=d:=by
 obtain⟨n1,v1,h1,l1,g1⟩:=c
 obtain⟨n2,v2,h2,l2,g2⟩:=d
 simp only[eqC,an7,aoZ] at h
 obtain⟨⟨⟨⟨k0,k1⟩,k2⟩,k3⟩,k4⟩:=h
 rw[k0,k1,k2,I' k3,CT k4]
def eqP(x y:Array Bool × CS):Bool:=x.1.toList==y.1.toList&&eqC x.2 y.2
theorem Z8{x y:Array Bool × CS}(h:eqP x y=true):x=y:=by
 obtain⟨L,c⟩:=x
 obtain⟨M,d⟩:=y
 simp only[eqP,an7,aoZ] at h
 rw[Array.toList_inj.1 h.1,Z6 h.2]
def dedup:List (Array Bool × CS)->List (Array Bool × CS)
 | []=>[]
 | x :: l=>cond (l.any (eqP x)) (dedup l) (x :: dedup l)
theorem rR:∀ {l:List (Array Bool × CS)} {x:Array Bool × CS},x∈l->x∈dedup l
 | y :: l,x,h=>by
  simp only[dedup]
  cases hb:l.any (eqP y) with
  | true =>
   simp only[cond_true]
   rcases aoH.1 h with rfl|h
   ·obtain⟨z,hz,he⟩:=List.any_eq_true.1 hb
    rw[Z8 he];exact rR hz
   ·exact rR h
  | false =>
   simp only[anZ]
   rcases aoH.1 h with rfl|h
   ·exact aox
   ·exact apb _ (rR h)
theorem vF:∀ {l:List (Array Bool × CS)} {x:Array Bool × CS},x∈dedup l->x∈l
 | y :: l,x,h=>by
  simp only[dedup] at h
  cases hb:l.any (eqP y) with
  | true=>rw[hb,cond_true] at h;exact apb _ (vF h)
  | false =>
   rw[hb,anZ] at h
   rcases aoH.1 h with rfl|h
   ·exact aox
   ·exact apb _ (vF h)
section
variable (G:Nat->List AV)(cf:dK)(nt:Nat)(ops:List aO)(pre:List (List Nat))
def DT(x:Array Bool × CS):Option (List (Array Bool × CS)) :=
 match tO pre x.1 with
 | []=>none
 | i :: r=>collect (fun i=>(ops[i]?).bind fun o=>(bj G cf false x.2.HY o).map fun s'=>[(x.1.setIfInBounds i true,CS.afz nt s')]) (i :: r)
def ry:Nat->List (Array Bool × CS)->Option (List CS)
 | 0,lv=>cond (lv.all fun x=>(tO pre x.1).isEmpty) (some (lv.map (·.2))) none
 | n+1,lv=>(collect (DT G cf nt ops pre) lv).bind fun l=>ry n (dedup l)
end
theorem HJ{G:Nat->List AV}{cf:dK}{nt:Nat}{ops:List aO}{pre:List (List Nat)}{Q:AS->Prop} : ∀ (n:Nat) (lv:List (Array Bool × CS)) (res:List CS),ry G cf nt ops pre n lv=some res->(∀ c∈res,Q c.HY) ->
  ∀ x∈lv,L5 G cf nt ops pre n x.1 x.2.HY Q
 | 0,lv,res,h,hQ,x,hx=>by
  simp only[ry] at h
  obtain⟨h0,h⟩:=ag h
  injection h with h
  subst h
  have:=an'.1 h0 x hx
  exact⟨aqa.1 this,hQ _ (aoD.2 ⟨x,hx,rfl⟩)⟩
 | n+1,lv,res,h,hQ,x,hx=>by
  simp only[ry,anU] at h
  obtain⟨l,h1,h2⟩:=h
  obtain⟨a,ha,hm⟩:=kL h1 x hx
  unfold DT at ha
  split at ha
  ·cases ha
  ·rename_i j r hr
   refine⟨(fun e=>by rw[hr] at e;cases e),fun i hi=>?_⟩
   rw[hr] at hi
   obtain⟨b,hb,hmb⟩:=kL ha i hi
   simp only[anU,anT] at hb
   obtain⟨o,ho,s',hs,rfl⟩:=hb
   refine⟨o,s',ho,hs,?_⟩
   exact HJ n _ res h2 hQ _ (rR (hm _ (hmb _ aox)))
section
variable (G:Nat->List AV)(cf:dK)
def SM(s:AS)(t:Nat)(d:Option Nat)(g kz:Nat)(ka va:Bool)(q:List AV)(rest:List (List AV)):AS :=
 (s.cy t (.iter g kz ka va q rest)).bW d (.tuple [.bool true,oB ka (q.take kz),oB va (q.drop kz)])
def oy:List aO->AS->Option (List AS)
 | [],s=>some [s]
 | o :: r,s=>match k9 o with
  | some t=>match s.T t with
   | .iter g kz ka va _ todo=>match todo with
    | []=>oy r (s.bW o.dst (.tuple [.bool false]))
    | _ :: _=>collect (fun m=>match m with
     | q :: rest=>oy r (SM s t o.dst g kz ka va q rest)
     | []=>some []) (perms todo)
   | _=>none
  | none=>(bj G cf false s o).bind (oy r)
def rQ(F:AS->Option (List (cq × AS))):Nat->AS->Option (List (cq × AS))
 | 0,_=>none
 | n+1,s=>(F s).bind (collect fun x=>match x.1 with
  | .normal=>rQ F n x.2
  | _=>some [x])
def lE(n:Nat):bq->AS->Option (List (cq × AS))
 | .skip,s=>some [(.normal,s)]
 | .region false ops,s=>(oy G cf ops s).map fun l=>l.map fun s'=>(.normal,s')
 | .region true ops,s=>(fX G cf true ops s).map fun s'=>[(.normal,s')]
 | .seq a b,s=>(lE n a s).bind (collect fun x=>match x.1 with
  | .normal=>lE n b x.2
  | _=>some [x])
 | .cond c a b,s=>match c.eval G s.T with
  | .bool true=>lE n a s
  | .bool false=>lE n b s
  | _=>none
 | .block id a,s=>(lE n a s).map fun l=>l.map fun x=>match x.1 with
  | .exit i=>(cond (Nat.beq i id) .normal (.exit i),x.2)
  | _=>x
 | .loop a,s=>rQ (lE n a) n s
 | .exit id,s=>some [(.exit id,s)]
 | .ret,s=>some [(.ret,s)]
 | .nf nt ops pre,s=>(ry G cf nt ops pre ops.length [(Array.replicate ops.length false,CS.afz nt s)]).map fun l=>l.map fun c=>(.normal,c.HY)
end
section
variable {G:Nat->List AV}{cf:dK}
theorem rD:∀ (is:List aO) (s:AS) (l:List AS) (Q:AS->Prop),oy G cf is s=some l->(∀ x∈l,Q x)->mG G cf is s Q
 | [],s,l,Q,h,hQ=>by
  simp only[oy,anV] at h
  exact hQ s (by rw[<- h];exact aox)
 | o :: r,s,l,Q,h,hQ=>by
  unfold oy at h
  unfold mG
  cases hn:k9 o with
  | none =>
   rw[hn] at h
   simp only[anU] at h
   obtain⟨s',h1,h2⟩:=h
   exact⟨s',h1,rD r s' l Q h2 hQ⟩
  | some t =>
   rw[hn] at h
   simp only at h ⊢
   split at h
   ·rename_i g kz ka va cur todo hT
    refine⟨g,kz,ka,va,cur,todo,hT,fun h0=>?_,fun q rest hp=>?_⟩
    ·subst h0
     exact rD r _ l Q h hQ
    ·cases todo with
     | nil=>exact absurd (List.Perm.nil_eq hp) (by simp)
     | cons z zs =>
      simp only at h
      obtain⟨a,ha,hm⟩:=kL h _ (BO hp)
      exact rD r _ a Q ha fun x hx=>hQ x (hm x hx)
   ·cases h
theorem zl{F:AS->Option (List (cq × AS))}{W:AS->(cq->AS->Prop)->Prop}(hF:∀ s l Q,F s=some l->(∀ x∈l,Q x.1 x.2)->W s Q) :
  ∀ (n:Nat) (s:AS) (l:List (cq × AS)) (Q:cq->AS->Prop),rQ F n s=some l->(∀ x∈l,Q x.1 x.2)->zm W n s Q
 | 0,_,_,_,h,_=>by cases h
 | n+1,s,l,Q,h,hQ=>by
  simp only[rQ,anU] at h
  obtain⟨l1,h1,h2⟩:=h
  refine hF s l1 _ h1 fun x hx=>?_
  obtain⟨a,ha,hm⟩:=kL h2 x hx
  obtain⟨e,s1⟩:=x
  cases e with
  | normal=>exact zl hF n s1 a Q ha fun y hy=>hQ y (hm y hy)
  | exit i=>injection ha with ha;subst ha;exact hQ _ (hm _ aox)
  | ret=>injection ha with ha;subst ha;exact hQ _ (hm _ aox)
theorem pC(n:Nat):∀ (c:bq) (s:AS) (l:List (cq × AS)) (R:cq->AS->Prop),lE G cf n c s=some l->(∀ x∈l,R x.1 x.2)->WN G cf c s R
 | .skip,s,l,R,h,hR=>by
  simp only[lE,anV] at h
  exact hR (.normal,s) (by rw[<- h];exact aox)
 | .region false ops,s,l,R,h,hR=>by
  simp only[lE,anT] at h
  obtain⟨l1,h1,rfl⟩:=h
  exact rD ops s l1 _ h1 fun x hx=>hR (.normal,x) (aoD.2 ⟨x,hx,rfl⟩)
 | .region true ops,s,l,R,h,hR=>by
  simp only[lE,anT] at h
  obtain⟨s1,h1,rfl⟩:=h
  exact⟨s1,h1,hR (.normal,s1) aox⟩
 | .seq a b,s,l,R,h,hR=>by
  simp only[lE,anU] at h
  obtain⟨l1,h1,h2⟩:=h
  refine pC n a s l1 _ h1 fun x hx=>?_
  obtain⟨d,hd,hm⟩:=kL h2 x hx
  obtain⟨e,s1⟩:=x
  cases e with
  | normal=>exact pC n b s1 d R hd fun y hy=>hR y (hm y hy)
  | exit i=>injection hd with hd;subst hd;exact hR _ (hm _ aox)
  | ret=>injection hd with hd;subst hd;exact hR _ (hm _ aox)
 | .cond c a b,s,l,R,h,hR=>by
  simp only[lE] at h
  split at h
  ·rename_i ht
   exact⟨true,ht,(fun _=>pC n a s l R h hR),(fun e=>by cases e)⟩
  ·rename_i ht
   exact⟨false,ht,(fun e=>by cases e),(fun _=>pC n b s l R h hR)⟩
  ·cases h
 | .block id a,s,l,R,h,hR=>by
  simp only[lE,anT] at h
  obtain⟨l1,h1,rfl⟩:=h
  refine pC n a s l1 _ h1 fun x hx=>?_
  have:=hR _ (aoD.2 ⟨x,hx,rfl⟩)
  obtain⟨e,s1⟩:=x
  cases e<;>exact this
 | .loop a,s,l,R,h,hR=>⟨n,zl (fun s l Q h1 h2=>pC n a s l Q h1 h2) n s l R h hR⟩
 | .exit id,s,l,R,h,hR=>by
  simp only[lE,anV] at h
  exact hR (.exit id,s) (by rw[<- h];exact aox)
 | .ret,s,l,R,h,hR=>by
  simp only[lE,anV] at h
  exact hR (.ret,s) (by rw[<- h];exact aox)
 | .nf nt ops pre,s,l,R,h,hR=>by
  simp only[lE,anT] at h
  obtain⟨l1,h1,rfl⟩:=h
  exact HJ ops.length _ l1 h1 (fun c hc=>hR (.normal,c.HY) (aoD.2 ⟨c,hc,rfl⟩)) _ aox
end
section
variable {G:Nat->List AV}{cf:dK}{H:ai}(jK:∀ f args H r c,cf f args H=some (r,c)->kI H c)
include jK
theorem rC:∀ (is:List aO) (s:AS) (l:List AS),oy G cf is s=some l->fU H s->∀ x∈l,fU H x
 | [],s,l,h,hI,x,hx=>by
  simp only[oy,anV] at h
  rw[<- h] at hx
  rw[aom.1 hx];exact hI
 | o :: r,s,l,h,hI,x,hx=>by
  unfold oy at h
  cases hn:k9 o with
  | none =>
   rw[hn] at h
   simp only[anU] at h
   obtain⟨s',h1,h2⟩:=h
   have h3:fX G cf false [o] s=some s':=by simp only[fX,h1,an8]
   exact rC r s' l h2 (qP jK [o] s s' h3 hI) x hx
  | some t =>
   rw[hn] at h
   simp only at h
   split at h
   ·rename_i g kz ka va cur todo hT
    cases todo with
    | nil=>exact rC r _ l h (hI.gp (jt _ _ _).1 (jt _ _ _).2.2) x hx
    | cons z zs =>
     simp only at h
     obtain⟨m,_,a,ha,hxa⟩:=jY h x hx
     cases m with
     | nil=>injection ha with ha;subst ha;cases hxa
     | cons q rest =>
      refine rC r _ a ha ?_ x hxa
      unfold SM
      exact (hI.gp (s':=s.cy t (.iter g kz ka va q rest)) rfl rfl).gp (jt _ _ _).1 (jt _ _ _).2.2
   ·cases h
omit jK in
theorem zk{F:AS->Option (List (cq × AS))}(hF:∀ s l,F s=some l->fU H s->∀ x∈l,fU H x.2):∀ (n:Nat) (s:AS) (l:List (cq × AS)),rQ F n s=some l->fU H s->∀ x∈l,fU H x.2
 | 0,_,_,h,_,_,_=>by cases h
 | n+1,s,l,h,hI,x,hx=>by
  simp only[rQ,anU] at h
  obtain⟨l1,h1,h2⟩:=h
  obtain⟨y,hy,a,ha,hxa⟩:=jY h2 x hx
  have hyI:=hF s l1 h1 hI y hy
  obtain⟨e,s1⟩:=y
  cases e with
  | normal=>exact zk hF n s1 a ha hyI x hxa
  | exit i=>injection ha with ha;subst ha;rw[aom.1 hxa];exact hyI
  | ret=>injection ha with ha;subst ha;rw[aom.1 hxa];exact hyI
theorem BZ{nt:Nat}{ops:List aO}{pre:List (List Nat)} : ∀ (n:Nat) (lv:List (Array Bool × CS)) (res:List CS),ry G cf nt ops pre n lv=some res->(∀ x∈lv,fU H x.2.HY)->∀ c∈res,fU H c.HY
 | 0,lv,res,h,hI,c,hc=>by
  simp only[ry] at h
  obtain⟨_,h⟩:=ag h
  injection h with h
  subst h
  obtain⟨x,hx,rfl⟩:=aoD.1 hc
  exact hI x hx
 | n+1,lv,res,h,hI,c,hc=>by
  simp only[ry,anU] at h
  obtain⟨l,h1,h2⟩:=h
  refine BZ n _ res h2 (fun y hy=>?_) c hc
  obtain⟨x,hx,a,ha,hya⟩:=jY h1 y (vF hy)
  unfold DT at ha
  split at ha
  ·cases ha
  ·obtain⟨i,_,b,hb,hyb⟩:=jY ha y hya
   simp only[anU,anT] at hb
   obtain⟨o,_,s',hs,rfl⟩:=hb
   rw[aom.1 hyb]
   have h3:fX G cf false [o] x.2.HY=some s':=by simp only[fX,hs,an8]
   exact (qP jK [o] _ s' h3 (hI x hx)).gp rfl rfl
theorem pB(n:Nat):∀ (c:bq) (s:AS) (l:List (cq × AS)),lE G cf n c s=some l->fU H s->∀ x∈l,fU H x.2
 | .skip,s,l,h,hI,x,hx=>by
  simp only[lE,anV] at h
  rw[<- h] at hx;rw[aom.1 hx];exact hI
 | .region false ops,s,l,h,hI,x,hx=>by
  simp only[lE,anT] at h
  obtain⟨l1,h1,rfl⟩:=h
  obtain⟨y,hy,rfl⟩:=aoD.1 hx
  exact rC jK ops s l1 h1 hI y hy
 | .region true ops,s,l,h,hI,x,hx=>by
  simp only[lE,anT] at h
  obtain⟨s1,h1,rfl⟩:=h
  rw[aom.1 hx];exact qP jK ops s s1 h1 hI
 | .seq a b,s,l,h,hI,x,hx=>by
  simp only[lE,anU] at h
  obtain⟨l1,h1,h2⟩:=h
  obtain⟨y,hy,d,hd,hxd⟩:=jY h2 x hx
  have hyI:=pB n a s l1 h1 hI y hy
  obtain⟨e,s1⟩:=y
  cases e with
  | normal=>exact pB n b s1 d hd hyI x hxd
  | exit i=>injection hd with hd;subst hd;rw[aom.1 hxd];exact hyI
  | ret=>injection hd with hd;subst hd;rw[aom.1 hxd];exact hyI
 | .cond c a b,s,l,h,hI,x,hx=>by
  simp only[lE] at h
  split at h
  ·exact pB n a s l h hI x hx
  ·exact pB n b s l h hI x hx
  ·cases h
 | .block id a,s,l,h,hI,x,hx=>by
  simp only[lE,anT] at h
  obtain⟨l1,h1,rfl⟩:=h
  obtain⟨y,hy,rfl⟩:=aoD.1 hx
  have:=pB n a s l1 h1 hI y hy
  obtain⟨e,s1⟩:=y
  cases e<;>exact this
 | .loop a,s,l,h,hI,x,hx=>zk (fun s l h1 h2=>pB n a s l h1 h2) n s l h hI x hx
 | .exit id,s,l,h,hI,x,hx=>by
  simp only[lE,anV] at h
  rw[<- h] at hx;rw[aom.1 hx];exact hI
 | .ret,s,l,h,hI,x,hx=>by
  simp only[lE,anV] at h
  rw[<- h] at hx;rw[aom.1 hx];exact hI
 | .nf nt ops pre,s,l,h,hI,x,hx=>by
  simp only[lE,anT] at h
  obtain⟨l1,h1,rfl⟩:=h
  obtain⟨c,hc,rfl⟩:=aoD.1 hx
  refine BZ jK ops.length _ l1 h1 (fun y hy=>?_) c hc
  rw[aom.1 hy]
  exact hI.gp rfl rfl
end
def LG(base:Nat)(fn:aP)(x:cq × AS):Option (AV × Option gS) :=
 match x.1 with
 | .exit _=>none
 | _=>finish base fn x.2
def oneOf(base:Nat)(fn:aP):List (cq × AS)->Option (AV × Option gS)
 | []=>none
 | x :: l=>(LG base fn x).bind fun r=>cond (l.all fun y=>match LG base fn y with
  | some q=>eqR q r
  | none=>false) (some r) none
theorem Nn{base:Nat}{fn:aP}{l:List (cq × AS)}{r:AV × Option gS}(h:oneOf base fn l=some r):∀ x∈l,LG base fn x=some r:=by
 cases l with
 | nil=>cases h
 | cons y l =>
  simp only[oneOf,anU] at h
  obtain⟨q,hq,h⟩:=h
  obtain⟨h0,h⟩:=ag h
  injection h with h
  subst h
  intro x hx
  rcases aoH.1 hx with rfl|hx
  ·exact hq
  ·have:=an'.1 h0 x hx
   split at this
   ·rename_i z hz
    rw[hz,O6 this]
   ·cases this
def runN(G:Nat->List AV)(cf:dK)(n:Nat)(fn:aP)(args:List AV)(H:ai):Option (AV × Option gS) :=
 cond (Nat.beq args.length fn.np) ((lE G cf n fn.body { T:=gY args,H,lo:=H.length,gen:=0 }).bind (oneOf H.length fn)) none
def O7(A:AP):Nat->dK
 | 0=>fun _ _ _=>none
 | n+1=>fun f args H=>match A.ov f with
  | some g=>cond (args.all rS) (g args H) none
  | none=>match A.fns f with
   | none=>none
   | some fn=>runN A.aZ (O7 A n) n fn args H
section
variable {P:Program}{G:Nat->List AV}{H:ai}
theorem KD{cf:dK}(jK:fD P G cf)(hm:P.follows .mixedOrders=true){f:FuncId}{fn:Func}(Ai:P.funcs[f]?=some fn){cz locals muts:List Nat}{lI:aP}(hc:mA P cz locals muts fn=some lI)
  {n:Nat} {args:List AV} {r:AV} {c:Option gS} (he:runN G cf n lI args H=some (r,c)) :
  (fn.body.isSome=true/\fn.name≠ "runtime.NumGoroutine")/\kI H c /\
  ∀ (base:Nat) (gh:Gh) (w:World) (vs:Array Value),bc G base H gh w->clean gh->vs.size=args.length->(∀ (j:Nat) (v:Value) (x:AV),vs[j]?=some v->args[j]?=some x->CR gh H.length w (.par j) v x) ->
   Calls P f vs w fun e w'=>∃ v aX,e=.returned v/\mz G base H gh w r c v aX w':=by
 simp only[mA,anU] at hc
 obtain⟨code,qS,b,hb,rs,BD,hc⟩:=hc
 obtain⟨h0,hc⟩:=ag hc
 injection hc with hc
 subst hc
 simp only[an7,aoU,bne_iff_ne,ne_eq] at h0
 simp only[runN] at he
 obtain⟨h1,he⟩:=ag he
 have GF:args.length=fn.params.size+fn.nfree:=by simpa [gI] using h1
 simp only[anU] at he
 obtain⟨l,bV,he⟩:=he
 have fH:=Nn he
 have rM:kI H c:=by
  have wX:=pB (H:=H) (fun f args H r c h=>(jK f args H r c h).2.1) n b _ l bV ⟨an4 _,an4 _,fun _ _=>rfl⟩
  cases l with
  | nil=>cases he
  | cons x l =>
   have h2:=fH x aox
   have h3:=wX x aox
   obtain⟨ex,s'⟩:=x
   cases ex with
   | normal=>exact nu h3 h2
   | exit id=>cases h2
   | ret=>exact nu h3 h2
 refine⟨⟨by rw[qS];rfl,h0.2⟩,rM,fun base gh w vs hW j5 tX de=>?_⟩
 refine calls_of_wp Ai qS ?_
 have iF:vs.size<=fn.ntmps:=by omega
 have hI:=zf (locals:=locals) (muts:=muts) hW tX iF de
 refine lr jK hm code b hb _ gh.taken w _ _ _ hI (pC n b _ l (fun e s=>LG H.length { cz,locals,muts,nt:=fn.ntmps,np:=fn.params.size+fn.nfree,results:=rs,body:=b } (e,s)=some (r,c)) bV (fun x hx=>fH x hx)) (fun e s' a' aX w' hr kT=>?_)
 cases e with
 | exit i=>cases hr
 | normal =>
  obtain⟨_,v,Jy,hv,hR⟩:=po (P:=P) hW j5 kT BD hr
  exact⟨kT.F.defers,v,hv,v,Jy,rfl,hR⟩
 | ret =>
  obtain⟨_,v,Jy,hv,hR⟩:=po (P:=P) hW j5 kT BD hr
  exact⟨kT.F.defers,v,hv,v,Jy,rfl,hR⟩
theorem Bn{A:AP}(h:mj P A):∀ n,fD P A.aZ (O7 A n)
 | 0=>fun f args H r c he=>by cases he
 | n+1=>fun f args H r c he=>by
  simp only[O7] at he
  split at he
  ·rename_i g hg
   obtain⟨h0,he⟩:=ag he
   obtain⟨k1,k2,k3⟩:=h.ov f g hg args H r c he
   refine⟨k1,k2,fun base gh w vs hW j5 tX de=>k3 base gh w vs hW j5 tX (fun j v x hv hx=>?_)⟩
   rcases de j v x hv hx with h|⟨e,rfl,_⟩
   ·exact h
   ·have:=an'.1 h0 _ (aoh hx)
    simp[rS] at this
  ·split at he
   ·cases he
   ·rename_i lI hf
    obtain⟨fn,cz,locals,muts,Ai,hc⟩:=h.fns f lI hf
    obtain⟨⟨h1,h2⟩,h3,h4⟩:=KD (Bn h n) h.mixed Ai hc he
    exact⟨⟨fn,Ai,h1,h2⟩,h3,h4⟩
theorem Z9{A:AP}(h:mj P A)(n:Nat)(f:FuncId):jb P A.aZ f (O7 A n f):=by
 intro args H r c he
 obtain⟨k1,k2,k3⟩:=Bn h n f args H r c he
 exact⟨k1,k2,fun base gh w vs hW j5 tX de=>k3 base gh w vs hW j5 tX fun j v x hv hx=>.inl (de j v x hv hx)⟩
end
end
structure dP where
 f:FuncId
 args:List AV
 heap:ai
 out:AV × Option gS
def Ld(f:FuncId)(args:List AV)(H:ai):List dP->Option (AV × Option gS)
 | []=>none
 | e :: r=>cond (Nat.beq e.f f&&D2 e.args args&&TK e.heap H) (some e.out) (Ld f args H r)
def Lz(tb:List dP)(cf:dK):dK:=fun f args H=>match Ld f args H tb with
 | some r=>some r
 | none=>cf f args H
theorem Gq{cf:dK}{f:FuncId}{args:List AV}{H:ai}{r:AV × Option gS} : ∀ {tb:List dP},(∀ e∈tb,cf e.f e.args e.heap=some e.out)->Ld f args H tb=some r->cf f args H=some r
 | [],_,h=>by cases h
 | e :: tb,lH,h=>by
  simp only[Ld] at h
  cases hb:(Nat.beq e.f f&&D2 e.args args&&TK e.heap H) with
  | true =>
   rw[hb] at h
   injection h with h
   simp only[an7] at hb
   obtain⟨⟨h1,h2⟩,h3⟩:=hb
   have e1:e.f=f:=aph h1
   have:=lH e (aox ..)
   rw[e1,lF _ _ h2,CT h3,h] at this
   exact this
  | false =>
   rw[hb] at h
   exact Gq (fun e he=>lH e (apb _ he)) h
theorem Wg{cf:dK}{tb:List dP}(lH:∀ e∈tb,cf e.f e.args e.heap=some e.out):Lz tb cf=cf:=by
 funext f args H
 unfold Lz
 split
 ·rename_i r h;exact (Gq lH h).symm
 ·rfl
theorem O8{A:AP}{n:Nat}{f:FuncId}{fn:aP}{args:List AV}{H:ai}{tb:List dP}(ho:A.ov f=none)(hf:A.fns f=some fn)(lH:∀ e∈tb,O7 A n e.f e.args e.heap=some e.out) :
  O7 A (n+1) f args H=runN A.aZ (Lz tb (O7 A n)) n fn args H:=by
 rw[Wg lH]
 simp only[O7,ho,hf]
def isR(x:Option (AV × Option gS))(y:AV × Option gS):Bool:=match x with
 | some r=>eqR r y
 | none=>false
theorem mo{x:Option (AV × Option gS)}{y:AV × Option gS}(h:isR x y=true):x=some y:=by
 cases x with
 | none=>cases h
 | some r=>exact apK some (O6 h)
end Go.Abs
namespace Go.Proofs.YtbdhkgiakaegdaaGreatDoor
open Go Go.Abs Go.Proofs
def fN(k n:Int)(a f:List UInt8):List AV:=[.int .i64 k,.int .i64 n,.str a,.str f,.str [],.slice [] false,.slice [] false,.slice [] false]
def gd(k n:Int)(a f:List UInt8):List AV:=[.int .i64 k,.int .i64 n,.str a,.str f,.str [],.af,.af,.af]
def vY(n:Int)(v:AV):List AV:=[.int .i64 4,.int .i64 n,.str [],.str [],.str [],.slice [] false,v,.slice [] false]
def cI:cJ:=.box 125 [.ref 0 0]
def gK:cJ:=.box 47 [.int .i64 2,.str [102],.af,.str [73,110,116],.slice [] false,.int .i64 0,.int .i64 0,.str [],.str [],.str [],.af,.af,.af,.af]
def tY:cJ:=.fJ 1 false false [[.int .i64 9,.str [110,111,116]],[.int .i64 11,.str [108,101,110]]]
def gl(t:AV)(i:Int)(b:Bool):cJ:=.box 127 [t,.int .i64 i,.bool b]
def nQ:AV:=.slice [[.str [109,111,100,117,108,101],.str []],[.str [109],.str [32]],[.str [102,117,110],.str [32]],[.str [102],.str [32]],[.str [40],.str [32]],[.str [41],.str []],[.str [73,110,116],.str [32]],[.str [61],.str [32]],[.str [40],.str [32]],[.str [97],.str []],[.str [43],.str [32]],[.str [98],.str [32]],[.str [41],.str []],[.str [42],.str [32]],[.str [50],.str [32]]] false
def ma:AV:=.slice [[.str [109,111,100,117,108,101],.str []],[.str [109],.str [32]],[.str [102,117,110],.str [32]],[.str [102],.str [32]],[.str [40],.str [32]],[.str [41],.str []],[.str [73,110,116],.str [32]],[.str [61],.str [32]],[.str [80,111,105,110,116],.str [32]],[.str [58],.str []],[.str [120],.str []],[.str [91],.str []],[.str [112],.str []],[.str [93],.str []]] false
def ki:AV:=.slice [[.str [109,111,100,117,108,101],.str []],[.str [109],.str [32]],[.str [102,117,110],.str [32]],[.str [102],.str [32]],[.str [40],.str [32]],[.str [41],.str []],[.str [73,110,116],.str [32]],[.str [61],.str [32]],[.str [107],.str [32]],[.str [46],.str []],[.str [102],.str []],[.str [40],.str []],[.str [97],.str []],[.str [44],.str []],[.str [45],.str [32]],[.str [51],.str []],[.str [41],.str []]] false
def uY:AV:=.slice [[.str [109,111,100,117,108,101],.str []],[.str [109],.str [32]],[.str [102,117,110],.str [32]],[.str [102],.str [32]],[.str [40],.str [32]],[.str [41],.str []],[.str [73,110,116],.str [32]],[.str [61],.str [32]],[.str [105,102],.str [32]],[.str [97],.str [32]],[.str [116,104,101,110],.str [32]],[.str [98],.str [32]],[.str [101,108,115,101],.str [32]],[.str [99],.str [32]],[.str [111,114],.str [32]],[.str [97],.str [32]]] false
def nR:AV:=.slice [[.str [109,111,100,117,108,101],.str []],[.str [109],.str [32]],[.str [102,117,110],.str [32]],[.str [102],.str [32]],[.str [40],.str [32]],[.str [41],.str []],[.str [73,110,116],.str [32]],[.str [61],.str [32]],[.str [40],.str [32]],[.str [97],.str []],[.str [42],.str [32]],[.str [98],.str [32]],[.str [41],.str []],[.str [43],.str [32]],[.str [50],.str [32]]] false
def RN(d:Nat)(e:dP):Prop:=O7 AE d e.f e.args e.heap=some e.out
theorem dr{n:Nat}{e:dP}{fn:aP}{tb:List dP}(ho:AE.ov e.f=none)(hf:AE.fns e.f=some fn)(ht:∀ x∈tb,RN n x)(h:isR (Go.Abs.runN AE.aZ (Lz tb (O7 AE n)) n fn e.args e.heap) e.out=true):RN (n+1) e:=by
 unfold RN
 rw[O8 ho hf ht]
 exact mo h
theorem kW{d:Nat} : ∀ x∈([]:List dP),RN d x:=fun _ h=>by cases h
theorem jU{d:Nat}{e:dP}{l:List dP}(h:RN d e)(k:∀ x∈l,RN d x):∀ x∈e :: l,RN d x:=fun x hx=>(aoH.1 hx).elim (fun q=>q ▸ h) (k x)
end Go.Proofs.YtbdhkgiakaegdaaGreatDoor
