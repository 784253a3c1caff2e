/-
  A part of the proof of PrintForms: AbsWp, AbsNon, AbsAll, AbsMemo.
-/
import Derived.Test.YtbdnnjjcdcacnaaGreatDoorP08
set_option linter.unusedSimpArgs false
set_option linter.unusedVariables false
set_option linter.defProp false
namespace Go.Abs
section
def aY.sub:List Bool->aY->aY
 | [],c=>c
 | false :: p,.seq a _=>a.sub p
 | true :: p,.seq _ b=>b.sub p
 | false :: p,.cond _ a _=>a.sub p
 | true :: p,.cond _ _ b=>b.sub p
 | _ :: p,.block _ a=>a.sub p
 | _ :: p,.loop a=>a.sub p
 | _,c=>c
def W(A:AP)(c:aY)(s:AS)(Q:bP->AS->Prop):Prop:=∃ n e s',jg A.aZ (aD A) n c s=some (e,s')/\Q e s'
def WO(A:AP)(d:Bool)(os:List aM)(s:AS)(Q:AS->Prop):Prop:=∃ s',fA A.aZ (aD A) d os s=some s'/\Q s'
def bG{α:Type}(x:Option α)(K:α->Prop):Prop:=∃ s,x=some s/\K s
def AN(v:AV)(p q:AS->Prop)(s:AS):Prop:=∃ b,v=.bool b/\(b=true->p s)/\(b=false->q s)
def andThen(P:AS->Prop)(Q:bP->AS->Prop):bP->AS->Prop
 | .normal,s=>P s
 | e,s=>Q e s
def leave(id:Nat)(Q:bP->AS->Prop):bP->AS->Prop
 | .exit i,s=>Q (cond (Nat.beq i id) .normal (.exit i)) s
 | e,s=>Q e s
section
variable {A:AP}
theorem aH{α:Type}{s:α}{K:α->Prop} : bG (some s) K=K s:=by
 refine propext ⟨?_,fun h=>⟨s,rfl,h⟩⟩
 rintro ⟨s',h,hk⟩
 injection h with h
 rw[h];exact hk
theorem IE{p q:AS->Prop}{s:AS} : AN (.bool true) p q s=p s:=by
 refine propext ⟨?_,fun h=>⟨true,rfl,fun _=>h,fun hb=>Bool.noConfusion hb⟩⟩
 rintro ⟨b,h,h1,h2⟩
 injection h with h
 exact h1 h.symm
theorem Fa{p q:AS->Prop}{s:AS} : AN (.bool false) p q s=q s:=by
 refine propext ⟨?_,fun hq=>⟨false,rfl,(fun hb=>Bool.noConfusion hb),fun _=>hq⟩⟩
 rintro ⟨b,h,h1,h2⟩
 injection h with h
 exact h2 h.symm
theorem kL{b:Bool}{p q:AS->Prop}{s:AS}(h1:b=true->p s)(h2:b=false->q s):AN (.bool b) p q s:=⟨b,rfl,h1,h2⟩
theorem jf{P:Prop}{_:Decidable P}{p q:AS->Prop}{s:AS}(h1:P->p s)(h2:¬ P->q s):AN (.bool (decide P)) p q s :=
 ⟨_,rfl,fun h=>h1 (of_decide_eq_true h),fun h=>h2 (of_decide_eq_false h)⟩
theorem up{n m:Nat}(h:n<=m){c:aY}{s:AS}{r:bP × AS}(he:jg A.aZ (aD A) n c s=some r):jg A.aZ (aD A) m c s=some r:=jC (fun _ _ _ _ h=>h) h he
theorem NU{s:AS}{Q:bP->AS->Prop} : W A .skip s Q=Q .normal s:=by
 refine propext ⟨?_,fun h=>⟨0,_,_,rfl,h⟩⟩
 rintro ⟨n,e,s',h,hq⟩
 simp only[jg,an2,an7] at h
 rw[h.1,h.2];exact hq
theorem Yg{s:AS}{Q:bP->AS->Prop} : W A .ret s Q=Q .ret s:=by
 refine propext ⟨?_,fun h=>⟨0,_,_,rfl,h⟩⟩
 rintro ⟨n,e,s',h,hq⟩
 simp only[jg,an2,an7] at h
 rw[h.1,h.2];exact hq
theorem NS{i:Nat}{s:AS}{Q:bP->AS->Prop} : W A (.exit i) s Q=Q (.exit i) s:=by
 refine propext ⟨?_,fun h=>⟨0,_,_,rfl,h⟩⟩
 rintro ⟨n,e,s',h,hq⟩
 simp only[jg,an2,an7] at h
 rw[h.1,h.2];exact hq
theorem DO{a b:aY}{s:AS}{Q:bP->AS->Prop} : W A (.seq a b) s Q=W A a s (andThen (fun s'=>W A b s' Q) Q):=by
 refine propext ⟨?_,?_⟩
 ·rintro ⟨n,e,s',h,hq⟩
  simp only[jg,an1] at h
  obtain⟨⟨e1,s1⟩,h1,h2⟩:=h
  refine⟨n,e1,s1,h1,?_⟩
  cases e1 with
  | normal=>exact⟨n,e,s',h2,hq⟩
  | _ =>
   simp only[an2,an7] at h2
   obtain⟨rfl,rfl⟩:=h2
   exact hq
 ·rintro ⟨n,e,s',h,hq⟩
  cases e with
  | normal =>
   obtain⟨m,e2,s2,h2,hq⟩:=hq
   refine⟨max n m,e2,s2,?_,hq⟩
   simp only[jg,up (aqe n m) h,aoe,up (apR n m) h2]
  | exit i =>
   refine⟨n,_,s',?_,hq⟩
   simp only[jg,h,aoe]
  | ret =>
   refine⟨n,_,s',?_,hq⟩
   simp only[jg,h,aoe]
theorem BN{i:Nat}{a:aY}{s:AS}{Q:bP->AS->Prop} : W A (.block i a) s Q=W A a s (leave i Q):=by
 refine propext ⟨?_,?_⟩
 ·rintro ⟨n,e,s',h,hq⟩
  simp only[jg,an0] at h
  obtain⟨⟨e1,s1⟩,h1,h2⟩:=h
  refine⟨n,e1,s1,h1,?_⟩
  cases e1<;>simp only[an7] at h2<;>obtain⟨rfl,rfl⟩:=h2<;>exact hq
 ·rintro ⟨n,e,s',h,hq⟩
  cases e<;>exact⟨n,_,s',by simp only[jg,h,aok],hq⟩
theorem NQ{c:aF}{a b:aY}{s:AS}{Q:bP->AS->Prop} : W A (.cond c a b) s Q=AN (c.eval A.aZ s.T) (fun s=>W A a s Q) (fun s=>W A b s Q) s:=by
 refine propext ⟨?_,?_⟩
 ·rintro ⟨n,e,s',h,hq⟩
  simp only[jg] at h
  split at h
  ·rename_i t ht
   refine⟨t,ht,fun hb=>?_,fun hb=>?_⟩
   ·subst hb;exact⟨n,e,s',h,hq⟩
   ·subst hb;exact⟨n,e,s',h,hq⟩
  ·cases h
 ·rintro ⟨t,ht,h1,h2⟩
  cases t with
  | true =>
   obtain⟨n,e,s',h,hq⟩:=h1 rfl
   exact⟨n,e,s',by simp only[jg,ht];exact h,hq⟩
  | false =>
   obtain⟨n,e,s',h,hq⟩:=h2 rfl
   exact⟨n,e,s',by simp only[jg,ht];exact h,hq⟩
theorem xJ{d:Bool}{os:List aM}{s:AS}{Q:bP->AS->Prop} : W A (.region d os) s Q=WO A d os s (Q .normal):=by
 refine propext ⟨?_,?_⟩
 ·rintro ⟨n,e,s',h,hq⟩
  simp only[jg,an0,an7] at h
  obtain⟨s1,h1,rfl,rfl⟩:=h
  exact⟨s1,h1,hq⟩
 ·rintro ⟨s1,h1,hq⟩
  exact⟨0,.normal,s1,by simp only[jg,h1,aok],hq⟩
theorem Zg{d:Bool}{s:AS}{Q:AS->Prop} : WO A d [] s Q=Q s:=by
 refine propext ⟨?_,fun h=>⟨s,rfl,h⟩⟩
 rintro ⟨s',h,hq⟩
 simp only[fA,an2] at h
 rw[h];exact hq
theorem gd{d:Bool}{o:aM}{os:List aM}{s:AS}{Q:AS->Prop} : WO A d (o :: os) s Q=bG (cd A.aZ (aD A) d s o) fun s'=>WO A d os s' Q:=by
 refine propext ⟨?_,?_⟩
 ·rintro ⟨s',h,hq⟩
  simp only[fA,an1] at h
  obtain⟨s1,h1,h2⟩:=h
  exact⟨s1,h1,s',h2,hq⟩
 ·rintro ⟨s1,h1,s',h2,hq⟩
  exact⟨s',by simp only[fA,h1,aoe,h2],hq⟩
theorem NR{a b:aY}{s:AS}{Q:bP->AS->Prop}(R:AS->Prop)(h1:W A a s (andThen R Q))(h2:∀ s',R s'->W A b s' Q):W A (.seq a b) s Q:=by
 rw[DO]
 obtain⟨n,e,s',h,hq⟩:=h1
 exact⟨n,e,s',h,by cases e with|normal=>exact h2 s' hq|_=>exact hq⟩
theorem vl{c:aY}{s:AS}{Q Q' : bP->AS->Prop}(h:W A c s Q)(hq:∀ e s',Q e s'->Q' e s'):W A c s Q':=by
 obtain⟨n,e,s',h1,h2⟩:=h
 exact⟨n,e,s',h1,hq e s' h2⟩
theorem NT{a:aY}{Q:bP->AS->Prop}(I:Nat->AS->Prop)(hI:∀ k s,I k s->W A a s (andThen (fun s'=>∃ k',k' < k/\I k' s') Q)):∀ k s,I k s->W A (.loop a) s Q:=by
 intro k
 induction k using Nat.strongRecOn with
 | _ k ih =>
  intro s hs
  obtain⟨n,e,s1,h1,hq⟩:=hI k s hs
  cases e with
  | normal =>
   obtain⟨k',hk,An⟩:=hq
   obtain⟨m,e2,s2,h2,hq⟩:=ih k' hk s1 An
   refine⟨max n m+1,e2,s2,?_,hq⟩
   simp only[jg,iter] at h2 ⊢
   have OZ:=up (A:=A) (show n<=max n m+1 by omega) h1
   rw[OZ,aoe]
   have h2' : iter (jg A.aZ (aD A) (max n m+1) a) (max n m) s1=some (e2,s2) :=
    o8 (fun s r h=>up (show m<=max n m+1 by omega) h) (apR n m) h2
   exact h2'
  | exit i =>
   refine⟨n+1,_,s1,?_,hq⟩
   simp only[jg,iter]
   rw[up (A:=A) (show n<=n+1 by omega) h1,aoe]
  | ret =>
   refine⟨n+1,_,s1,?_,hq⟩
   simp only[jg,iter]
   rw[up (A:=A) (show n<=n+1 by omega) h1,aoe]
theorem tS{a:aY}{s:AS}{Q:bP->AS->Prop}(h:W A a s (andThen (fun s'=>W A (.loop a) s' Q) Q)):W A (.loop a) s Q:=by
 obtain⟨n,e,s1,h1,hq⟩:=h
 cases e with
 | normal =>
  obtain⟨m,e2,s2,h2,hq⟩:=hq
  refine⟨max n m+1,e2,s2,?_,hq⟩
  simp only[jg,iter] at h2 ⊢
  rw[up (A:=A) (show n<=max n m+1 by omega) h1,aoe]
  exact o8 (fun s r h=>up (show m<=max n m+1 by omega) h) (apR n m) h2
 | exit i =>
  refine⟨n+1,_,s1,?_,hq⟩
  simp only[jg,iter]
  rw[up (A:=A) (show n<=n+1 by omega) h1,aoe]
 | ret =>
  refine⟨n+1,_,s1,?_,hq⟩
  simp only[jg,iter]
  rw[up (A:=A) (show n<=n+1 by omega) h1,aoe]
theorem xi{a:aY}{Q:bP->AS->Prop}(n:Nat)(I:Nat->AS->Prop)(hI:∀ k s,k<=n->I k s->W A a s (andThen (fun s'=>k<n/\I (k+1) s') Q))(k:Nat)(s:AS)(hk:k<=n)(hs:I k s):W A (.loop a) s Q:=by
 refine NT (fun j s=>∃ k,k<=n/\j=n-k/\I k s) (fun j s h=>?_) (n-k) s ⟨k,hk,rfl,hs⟩
 obtain⟨k,hk,rfl,hs⟩:=h
 refine vl (hI k s hk hs) fun e s' hq=>?_
 cases e with
 | normal =>
  obtain⟨h1,h2⟩:=hq
  exact⟨n-(k+1),by omega,k+1,by omega,rfl,h2⟩
 | _=>exact hq
def Ex(i:Nat)(P V:AS->Prop):bP->AS->Prop
 | .exit j,s=>j=i/\P s
 | .ret,s=>V s
 | .normal,_=>False
theorem Ks{a:aY}{s:AS}{Q:bP->AS->Prop}(id:Nat)(P V:AS->Prop)(h:W A (.loop a) s (Ex id P V))(hp:∀ s',P s'->Q (.exit id) s')(hv:∀ s',V s'->Q .ret s'):W A (.loop a) s Q:=by
 refine vl h fun e s' hq=>?_
 cases e with
 | normal=>exact hq.elim
 | exit j=>obtain⟨rfl,hq⟩:=hq;exact hp s' hq
 | ret=>exact hv s' hq
theorem bM{a:aY}{Q:bP->AS->Prop}(n id:Nat)(I:Nat->AS->Prop)(P V:AS->Prop)(hI:∀ k s,k<=n->I k s->W A a s (andThen (fun s'=>k<n/\I (k+1) s') (Ex id P V)))
  (hp:∀ s',P s'->Q (.exit id) s') (hv:∀ s',V s'->Q .ret s') (k:Nat) (s:AS) (hk:k<=n) (hs:I k s):W A (.loop a) s Q :=
 Ks id P V (xi n I hI k s hk hs) hp hv
theorem Tp{a:aY}{Q:bP->AS->Prop}(id:Nat)(I:Nat->AS->Prop)(P V:AS->Prop)(hI:∀ k s,I k s->W A a s (andThen (fun s'=>∃ k',k' < k/\I k' s') (Ex id P V)))
  (hp:∀ s',P s'->Q (.exit id) s') (hv:∀ s',V s'->Q .ret s') (k:Nat) (s:AS) (hs:I k s):W A (.loop a) s Q :=
 Ks id P V (NT I hI k s hs) hp hv
def Hd(P:aQ->Prop)(H:ah)(lo gen:Nat)(s:AS):Prop:=P s.T/\s.H=H/\s.lo=lo/\s.gen=gen
theorem Hd.out{P:aQ->Prop}{H:ah}{lo gen:Nat}{s:AS}(h:Hd P H lo gen s):∃ T,s=⟨T,H,lo,gen⟩/\P T:=by
 obtain⟨T,H',l',g'⟩:=s
 obtain⟨h1,h2,h3,h4⟩:=h
 simp only at h1 h2 h3 h4
 subst h2 h3 h4
 exact⟨T,rfl,h1⟩
def Tn(P:aQ->Prop)(H:ah)(lo:Nat)(s:AS):Prop:=P s.T/\s.H=H/\s.lo=lo
theorem Tn.out{P:aQ->Prop}{H:ah}{lo:Nat}{s:AS}(h:Tn P H lo s):∃ T g,s=⟨T,H,lo,g⟩/\P T:=by
 obtain⟨T,H',l',g'⟩:=s
 obtain⟨h1,h2,h3⟩:=h
 simp only at h1 h2 h3
 subst h2 h3
 exact⟨T,g',rfl,h1⟩
def fin(base:Nat)(rs:List gL)(s:AS):Option (AV × Option gJ) :=
 cond (lp base s) ((kC s rs).bind fun r=>cond (r.leaves base) (some (r,cond (Nat.beq s.lo base) none (some ⟨s.H.take base,s.lo⟩))) none) none
def done(base:Nat)(rs:List gL)(r:AV × Option gJ):bP->AS->Prop
 | .exit _,_=>False
 | _,s=>fin base rs s=some r
def x8(base:Nat)(rs:List gL)(P:AV × Option gJ->Prop):bP->AS->Prop
 | .exit _,_=>False
 | _,s=>bG (fin base rs s) P
theorem M9{s:AS}{r:gL}{b:Nat}(h:nT s r=some b):hN s r=none:=by
 cases r with
 | tmp t =>
  simp only[nT] at h
  simp only[hN]
  split at h
  ·rename_i hT;rw[hT];rfl
  ·rename_i hT;rw[hT];rfl
  ·cases h
 | cell=>cases h
theorem FM{s:AS}{m:Nat}{rs:List gL}{q:AV × Option gJ}(he:qI m rs s=some q):∃ i l off n z,rs=[i]/\hN s i=some (.sref l off n z)/\m<=l:=by
 unfold qI at he
 split at he
 ·rename_i i
  simp only[an1] at he
  obtain⟨v,hv,he⟩:=he
  split at he
  ·rename_i l off n z
   split at he
   ·rename_i ty cs hH
    cases hb:(Nat.ble m l&&cs.all AV.plain) with
    | false=>rw[hb] at he;cases he
    | true =>
     simp only[aod,ao2] at hb
     exact⟨i,l,off,n,z,rfl,hv,hb.1⟩
   ·cases he
  ·cases he
 ·cases he
theorem N5{base:Nat}{fn:aJ}{s:AS}{r:AV × Option gJ}(h:gA base fn.results s=some r):mG base fn s=none:=by
 cases hf:mG base fn s with
 | none=>rfl
 | some q =>
  exfalso
  unfold mG at hf
  cases hb:fn.muts.elem 888888 with
  | false=>rw[hb] at hf;cases hf
  | true =>
   rw[hb,cond_true] at hf
   obtain⟨i,l,off,n,z,A',tq,Pl⟩:=FM hf
   unfold gA kC at h
   rw[A'] at h
   simp only at h
   cases hr:nT s i with
   | some b=>rw[M9 hr] at tq;cases tq
   | none =>
    rw[hr] at h
    simp only[tq,aoe] at h
    have:(AV.sref l off n z).leaves base=false:=by
     simp only[AV.leaves,AV.bu,AV.aU]
     cases hb:Nat.blt l base with
     | false=>rfl
     | true=>rw[aoO] at hb;omega
    rw[this] at h
    cases h
theorem sZ{base:Nat}{fn:aJ}{s:AS}{r:AV × Option gJ}(h:fin base fn.results s=some r):finish base fn s=some (sI fn r):=by
 unfold fin at h
 cases ho:lp base s with
 | false=>rw[ho] at h;cases h
 | true =>
  rw[ho,cond_true] at h
  have h:gA base fn.results s=some r:=h
  unfold finish jU pQ
  rw[ho,cond_true,N5 h,h];rfl
def Ce(base:Nat)(fn:aJ)(P:AV × Option gJ->Prop):bP->AS->Prop
 | .exit _,_=>False
 | _,s=>∃ r,finish base fn s=some r/\P r
theorem mQ{f:FuncId}{fn:aJ}(ho:A.ov f=none)(hf:A.fns f=some fn){args:List AV}{H:ah}{P:AV × Option gJ->Prop}(hn:Nat.beq args.length fn.np=true)
  (h:W A fn.body { T:=gu args,H,lo:=H.length,gen:=0 } (Ce H.length fn P)):∃ r,aD A f args H=some r/\P r:=by
 obtain⟨n,e,s',h1,h2⟩:=h
 have key:∀ r,finish H.length fn s'=some r->aD A f args H=some r:=by
  intro r hr
  refine vt ho hf (n:=n) ?_
  unfold vU
  rw[hn,cond_true,h1,aoe]
  cases e with
  | exit i=>exact h2.elim
  | _=>exact hr
 cases e with
 | exit i=>exact h2.elim
 | _=>obtain⟨r,hr,hP⟩:=h2;exact⟨r,key r hr,hP⟩
theorem rm{fn:aJ}(hm:fn.muts.elem 777777=false)(r:AV × Option gJ):sI fn r=r:=by unfold sI;rw[hm];rfl
theorem za{fn:aJ}(hm:fn.muts.elem 777777=true)(r:AV × Option gJ):sI fn r=(mC r.1,r.2):=by unfold sI;rw[hm];rfl
theorem AI{f:FuncId}{fn:aJ}(ho:A.ov f=none)(hf:A.fns f=some fn){args:List AV}{H:ah}{P:AV × Option gJ->Prop}(hn:Nat.beq args.length fn.np=true)
  (h:W A fn.body { T:=gu args,H,lo:=H.length,gen:=0 } (x8 H.length fn.results P)):∃ r,aD A f args H=some (sI fn r)/\P r:=by
 obtain⟨n,e,s',h1,h2⟩:=h
 have key:∀ r,fin H.length fn.results s'=some r->aD A f args H=some (sI fn r):=by
  intro r hr
  refine vt ho hf (n:=n) ?_
  unfold vU
  rw[hn,cond_true,h1,aoe]
  cases e with
  | exit i=>exact h2.elim
  | _=>exact sZ hr
 cases e with
 | exit i=>exact h2.elim
 | _=>obtain⟨r,hr,hP⟩:=h2;exact⟨r,key r hr,hP⟩
theorem xR{f:FuncId}{fn:aJ}(ho:A.ov f=none)(hf:A.fns f=some fn){args:List AV}{H:ah}{P:AV × Option gJ->Prop}(hn:Nat.beq args.length fn.np=true)
  (h:W A fn.body { T:=gu args,H,lo:=H.length,gen:=0 } (x8 H.length fn.results P)) (hm:fn.muts.elem 777777=false:=by rfl):∃ r,aD A f args H=some r/\P r:=by
 obtain⟨r,h1,h2⟩:=AI ho hf hn h
 rw[rm hm] at h1
 exact⟨r,h1,h2⟩
theorem mR{f:FuncId}{fn:aJ}(ho:A.ov f=none)(hf:A.fns f=some fn){args:List AV}{H:ah}{P:AV × Option gJ->Prop}(hn:Nat.beq args.length fn.np=true)
  (hm:fn.muts.elem 777777=true) (h:W A fn.body { T:=gu args,H,lo:=H.length,gen:=0 } (x8 H.length fn.results fun r=>P (mC r.1,r.2))):∃ r,aD A f args H=some r/\P r:=by
 obtain⟨r,h1,h2⟩:=AI ho hf hn h
 rw[za hm] at h1
 exact⟨_,h1,h2⟩
theorem Oc{f:FuncId}{fn:aJ}(ho:A.ov f=none)(hf:A.fns f=some fn){args:List AV}{H:ah}{r:AV × Option gJ}(hn:Nat.beq args.length fn.np=true)
  (h:W A fn.body { T:=gu args,H,lo:=H.length,gen:=0 } (done H.length fn.results r)):aD A f args H=some (sI fn r):=by
 obtain⟨n,e,s',h1,h2⟩:=h
 refine vt ho hf (n:=n) ?_
 unfold vU
 rw[hn,cond_true,h1,aoe]
 cases e with
 | exit i=>exact h2.elim
 | _=>exact sZ h2
theorem aB{f:FuncId}{fn:aJ}(ho:A.ov f=none)(hf:A.fns f=some fn){args:List AV}{H:ah}{r:AV × Option gJ}(hn:Nat.beq args.length fn.np=true)
  (h:W A fn.body { T:=gu args,H,lo:=H.length,gen:=0 } (done H.length fn.results r)) (hm:fn.muts.elem 777777=false:=by rfl):aD A f args H=some r:=by
 have:=Oc ho hf hn h
 rwa [rm hm] at this
end
section
variable {A:AP}{T:aQ}{H:ah}{lo gen:Nat}{Q:bP->AS->Prop}{K:AS->Prop}{d:Bool}
theorem Ze{a b:aY} : W A (.seq a b) ⟨T,H,lo,gen⟩ Q=W A a ⟨T,H,lo,gen⟩ (andThen (fun s'=>W A b s' Q) Q):=DO
theorem X8{i:Nat}{a:aY} : W A (.block i a) ⟨T,H,lo,gen⟩ Q=W A a ⟨T,H,lo,gen⟩ (leave i Q):=BN
theorem ada{c:aF}{a b:aY} : W A (.cond c a b) ⟨T,H,lo,gen⟩ Q=AN (c.eval A.aZ T) (fun s=>W A a s Q) (fun s=>W A b s Q) ⟨T,H,lo,gen⟩:=NQ
theorem HM{os:List aM} : W A (.region d os) ⟨T,H,lo,gen⟩ Q=WO A d os ⟨T,H,lo,gen⟩ (Q .normal):=xJ
theorem adi:W A .skip ⟨T,H,lo,gen⟩ Q=Q .normal ⟨T,H,lo,gen⟩:=NU
theorem agR:W A .ret ⟨T,H,lo,gen⟩ Q=Q .ret ⟨T,H,lo,gen⟩:=Yg
theorem ade{i:Nat} : W A (.exit i) ⟨T,H,lo,gen⟩ Q=Q (.exit i) ⟨T,H,lo,gen⟩:=NS
theorem Zd:WO A d [] ⟨T,H,lo,gen⟩ K=K ⟨T,H,lo,gen⟩:=Zg
theorem adh{t:Nat}{v:AV} : AS.cc ⟨T,H,lo,gen⟩ t v=⟨T.put t v,H,lo,gen⟩:=rfl
theorem agP{h:ah}{l:Nat} : AS.gk ⟨T,H,lo,gen⟩ ⟨h,l⟩=⟨T,h,cond (Nat.blt l lo) l lo,gen⟩:=rfl
theorem HL{P:AS->Prop} : andThen P Q .normal ⟨T,H,lo,gen⟩=P ⟨T,H,lo,gen⟩:=rfl
theorem ac'{P:AS->Prop} : andThen P Q .ret ⟨T,H,lo,gen⟩=Q .ret ⟨T,H,lo,gen⟩:=rfl
theorem X7{P:AS->Prop}{i:Nat} : andThen P Q (.exit i) ⟨T,H,lo,gen⟩=Q (.exit i) ⟨T,H,lo,gen⟩:=rfl
theorem adf{P:aQ->Prop}{H' : ah}{lo' : Nat} : Tn P H' lo' ⟨T,H,lo,gen⟩=(P T/\H=H'/\lo=lo'):=rfl
theorem S8{i:Nat}{P V:AS->Prop} : Ex i P V (.exit i) ⟨T,H,lo,gen⟩=P ⟨T,H,lo,gen⟩:=propext ⟨fun h=>h.2,fun h=>⟨rfl,h⟩⟩
theorem Ya{i:Nat}{P V:AS->Prop} : Ex i P V .ret ⟨T,H,lo,gen⟩=V ⟨T,H,lo,gen⟩:=rfl
theorem agQ{P:aQ->Prop}{H' : ah}{lo' gen' : Nat} : Hd P H' lo' gen' ⟨T,H,lo,gen⟩=(P T/\H=H'/\lo=lo'/\gen=gen'):=rfl
theorem adb{base:Nat}{rs:List gL}{r:AV × Option gJ} : done base rs r .ret ⟨T,H,lo,gen⟩=(fin base rs ⟨T,H,lo,gen⟩=some r):=rfl
theorem Ns{base:Nat}{rs:List gL}{r:AV × Option gJ} : done base rs r .normal ⟨T,H,lo,gen⟩=(fin base rs ⟨T,H,lo,gen⟩=some r):=rfl
theorem X9{base:Nat}{rs:List gL}{P:AV × Option gJ->Prop} : x8 base rs P .ret ⟨T,H,lo,gen⟩=bG (fin base rs ⟨T,H,lo,gen⟩) P:=rfl
theorem Kp{base:Nat}{rs:List gL}{P:AV × Option gJ->Prop} : x8 base rs P .normal ⟨T,H,lo,gen⟩=bG (fin base rs ⟨T,H,lo,gen⟩) P:=rfl
theorem Nt{i:Nat} : leave i Q .normal ⟨T,H,lo,gen⟩=Q .normal ⟨T,H,lo,gen⟩:=rfl
theorem adg{i:Nat} : leave i Q .ret ⟨T,H,lo,gen⟩=Q .ret ⟨T,H,lo,gen⟩:=rfl
theorem Yb{i:Nat} : leave i Q (.exit i) ⟨T,H,lo,gen⟩=Q .normal ⟨T,H,lo,gen⟩:=by simp[leave]
theorem S9{i j:Nat} : leave i Q (.exit j) ⟨T,H,lo,gen⟩=if j=i then Q .normal ⟨T,H,lo,gen⟩ else Q (.exit j) ⟨T,H,lo,gen⟩:=by
 by_cases dn:j=i
 ·subst dn;rw[if_pos rfl];exact Yb
 rw[if_neg dn]
 have hb:Nat.beq j i=false:=by
  cases hb:Nat.beq j i with
  | false=>rfl
  | true=>exact absurd (apo hb) dn
 simp[leave,hb]
end
theorem DX{n:Nat} : Nat.beq n n=true:=apU n
theorem put_eq{T:aQ}{d:Nat}{v:AV} : (T.put d v) d=v:=by simp[aQ.put]
theorem abU{T:aQ}{d i:Nat}{v:AV}(h:(i==d)=false):(T.put d v) i=T i:=by
 have dn:i≠d:=by simpa using h
 have hb:Nat.beq i d=false:=by
  cases hb:Nat.beq i d with
  | false=>rfl
  | true=>exact absurd (apo hb) dn
 simp only[aQ.put,hb];rfl
theorem Wr{T:aQ}{d i:Nat}{v:AV} : (T.put d v) i=if i=d then v else T i:=by
 by_cases h:i=d
 ·rw[if_pos h,h,put_eq]
 ·rw[if_neg h,abU (by simpa using h)]
theorem Js{a:AV}{l:List AV} : gu (a :: l) 0=a:=rfl
theorem Jr{a:AV}{l:List AV}{n:Nat} : gu (a :: l) (n+1)=gu l n:=by simp[gu]
end
section
def lk(o:aM):Option Nat :=
 match o.op,o.guard with
 | .next (.tmp t),none=>some t
 | _,_=>none
section
variable (G:Nat->List AV)(cf:dq)
def mE:List aM->AS->(AS->Prop)->Prop
 | [],s,Q=>Q s
 | o :: r,s,Q=>match lk o with
  | some t=>∃ g kz ka va cur todo,s.T t=.iter g kz ka va cur todo/\(todo=[]->mE r (s.cH o.dst (.tuple [.bool false])) Q) /\
    ∀ q rest,todo.Perm (q :: rest)->mE r ((s.cc t (.iter g kz ka va q rest)).cH o.dst (.tuple [.bool true,oE ka (q.take kz),oE va (q.drop kz)])) Q
  | none=>∃ s',cd G cf false s o=some s'/\mE r s' Q
inductive BT where
 | leaf (v:AV)
 | node (l r:BT)
def BT.of(f:aQ):Nat->Nat->BT
 | 0,o=>.leaf (f o)
 | k+1,o=>.node (BT.of f k o) (BT.of f k (o+2 ^ k))
def BT.get:BT->Nat->Nat->AV
 | .leaf v,_,_=>v
 | .node _ _,0,_=>.undef
 | .node l r,k+1,i=>cond (Nat.blt i (2 ^ k)) (BT.get l k i) (BT.get r k (i-2 ^ k))
def Fg(nt:Nat):Nat:=Nat.log2 nt+1
def HD(nt:Nat)(t:BT):aQ:=fun i=>cond (Nat.blt i nt) (BT.get t (Fg nt) i) .undef
def xS(nt:Nat)(s:AS):AS:={ s with T:=HD nt (BT.of s.T (Fg nt) 0) }
def tH(pre:List (List Nat))(L:Array Bool):List Nat:=(List.range pre.length).filter fun i=>!L.getD i true&&(pre.getD i []).all fun j=>L.getD j false
def Ly(nt:Nat)(ops:List aM)(pre:List (List Nat)):Nat->Array Bool->AS->(AS->Prop)->Prop
 | 0,L,s,Q=>tH pre L=[]/\Q s
 | n+1,L,s,Q=>(tH pre L=[]->Q s)/\∀ i∈tH pre L,∃ o s',ops[i]?=some o/\cd G cf false s o=some s'/\Ly nt ops pre n (L.setIfInBounds i true) (xS nt s') Q
def yT(F:AS->(bP->AS->Prop)->Prop):Nat->AS->(bP->AS->Prop)->Prop
 | 0,_,_=>False
 | n+1,s,Q=>F s (andThen (fun s'=>yT F n s' Q) Q)
def WN:aY->AS->(bP->AS->Prop)->Prop
 | .skip,s,Q=>Q .normal s
 | .region false ops,s,Q=>mE G cf ops s (Q .normal)
 | .region true ops,s,Q=>∃ s',fA G cf true ops s=some s'/\Q .normal s'
 | .seq a b,s,Q=>WN a s (andThen (fun s'=>WN b s' Q) Q)
 | .cond c a b,s,Q=>∃ t,c.eval G s.T=.bool t/\(t=true->WN a s Q)/\(t=false->WN b s Q)
 | .block id a,s,Q=>WN a s (leave id Q)
 | .loop a,s,Q=>∃ n,yT (WN a) n s Q
 | .exit id,s,Q=>Q (.exit id) s
 | .ret,s,Q=>Q .ret s
 | .vn nt ops pre,s,Q=>Ly G cf nt ops pre ops.length (Array.replicate ops.length false) (xS nt s) (Q .normal)
end
section
variable {P:Program}{G:Nat->List AV}{base nt:Nat}{gh:Gh}{w w' : World}{a:Act}{s:AS}{H:ah}{L:List Nat}
theorem JU{o:aM}{t:Nat}(h:lk o=some t):o.op=.next (.tmp t)/\o.guard=none:=by
 unfold lk at h
 split at h
 ·rename_i h1 h2
  injection h with h
  subst h
  exact⟨h1,h2⟩
 ·cases h
def NN(x:Option fQ):Prop:=∀ it,x≠some (.next it)
theorem NN.none:NN none:=fun _ h=>by cases h
theorem NN.bind{α:Type}{x:Option α}{f:α->Option fQ}(h:∀ a,NN (f a)):NN (x.bind f):=by
 cases x with
 | none=>exact NN.none
 | some a=>exact h a
theorem NN.map{α:Type}{x:Option α}{f:α->fQ}(h:∀ a,NN (some (f a))):NN (x.map f):=by
 cases x with
 | none=>exact NN.none
 | some a=>exact h a
theorem NN.cond{b:Bool}{x y:Option fQ}(h1:NN x)(h2:NN y):NN (bif b then x else y):=by cases b<;>assumption
theorem NN.Yl{b:Bool}{x y:fQ}(h1:NN (some x))(h2:NN (some y)):NN (some (bif b then x else y)):=by cases b<;>assumption
theorem NN.o6{ct:List Nat}{d:Option Nat}{g:aF}{ys:List aF} : NN (some (ua ct d g ys)):=by
 rw[uc];exact fun _ h=>by cases h
theorem Aa{ct locals muts:List Nat}{d:Option Nat}{c:Call} : NN (tZ P ct locals muts nt d c):=by
 unfold tZ
 repeat' first
  | exact NN.o6
  | exact NN.none
  | exact fun _ h=>by cases h
  | refine NN.bind fun _=>?_
  | refine NN.map fun _=>?_
  | refine NN.cond ?_ ?_
  | refine NN.Yl ?_ ?_
  | split
theorem D'{ct locals muts:List Nat}{d:Option Nat}{o:Op}{x:aF}(h:dc P ct locals muts nt d o=some (.next x)):∃ y,o=.next y false/\ax nt y=some x:=by
 have key:(∀ y b,o≠.next y b)->NN (dc P ct locals muts nt d o):=by
  intro hn
  cases o
  case makeMap t r =>
   cases r with
   | none=>simp only[dc];exact NN.map fun _ _ h=>by cases h
   | some r=>simp only[dc];exact NN.none
  all_goals simp only[dc]
  all_goals first
   | exact absurd rfl (hn _ _)
   | exact Aa
   | (repeat' first
     | exact NN.none
     | exact fun _ h=>by cases h
     | refine NN.bind fun _=>?_
     | refine NN.map fun _=>?_
     | refine NN.cond ?_ ?_
     | refine NN.Yl ?_ ?_
     | split)
 by_cases hn:∀ y b,o≠.next y b
 ·exact absurd h (key hn x)
 ·have:∃ y b,o=.next y b:=by
   refine Classical.byContradiction fun hc=>hn fun y b e=>hc ⟨y,b,e⟩
  obtain⟨y,b,rfl⟩:=this
  cases b with
  | true=>simp[dc] at h
  | false =>
   simp only[dc,an0,fQ.next.injEq] at h
   obtain⟨z,hz,rfl⟩:=h
   exact⟨y,rfl,hz⟩
theorem mN{cf:dq}(jH:fc P G cf){H0:ah}{iV:Gh}{w0:World}{ct locals muts:List Nat}{ops:Array Oper}(wY:∀ x,x∈locals->x∈L)(xq:∀ x,x∈muts->x∈L)(Q:Exit->Act->World->Prop)(R:AS->Prop)
  (hR:∀ s' a' aV w',R s'->Inv G base nt L H0 iV w0 s' aV w' a'->Q .normal a' w') :
  ∀ (l:List Oper) (is:List aM) (s:AS) (gh:Gh) (w:World) (a:Act),Inv G base nt L H0 iV w0 s gh w a->gl P ct locals muts nt ops l=some is->mE G cf is s R->wpList P ops Q l a w
 | [],is,s,gh,w,a,hI,hc,he=>by
  simp only[gl,an2] at hc
  subst hc
  exact hR s a gh w he hI
 | o :: l,is,s,gh,w,a,hI,hc,he=>by
  simp only[gl,an1,an0] at hc
  obtain⟨io,uz,is',HW,rfl⟩:=hc
  unfold mE at he
  unfold wpList
  have hinv:=jS uz
  cases hn:lk io with
  | none =>
   rw[hn] at he
   obtain⟨s1,h1,h2⟩:=he
   rw[nn,an0] at h1
   obtain⟨⟨z,s2⟩,hz,rfl⟩:=h1
   refine ph jH hI uz wY xq hz _ Q (fun a' aV w' kW=>?_)
   rw[hinv.2.2.1] at h2
   exact mN jH wY xq Q R hR l is' _ aV w' a' kW HW h2
  | some t =>
   rw[hn] at he
   obtain⟨g,kz,ka,va,cur,todo,hT,h0,h1⟩:=he
   obtain⟨dB,zR⟩:=JU hn
   rw[dB] at hinv
   obtain⟨y,hoy,yD⟩:=D' hinv.1
   have hog:o.guard=none:=by
    have hg:=hinv.2.1
    rw[zR] at hg
    cases Yx:o.guard with
    | none=>rfl
    | some jw =>
     obtain⟨j,want⟩:=jw
     rw[Yx] at hg
     simp only[oZ,an1] at hg
     obtain⟨_,_,hg⟩:=hg
     obtain⟨_,hg⟩:=ae hg
     cases hg
   have hw:Region.wanted o (yielded ops a.tmps)=true:=by simp[Region.wanted,hog]
   rw[if_pos hw]
   have htL:t∈L:=hI.F.obj t (by rw[hT];rfl)
   refine .inl (TO hI.W hI.F hoy yD hT htL hinv.2.2.2 _ Q (fun Mt v' aV w' hO=>?_) (fun q rest hp v' aV w' hO=>?_))
   ·have:=h0 Mt
    rw[hinv.2.2.1] at this
    exact mN jH wY xq Q R hR l is' _ aV w' _ (hI.out hO hI.lo) HW this
   ·have:=h1 q rest hp
    rw[hinv.2.2.1] at this
    exact mN jH wY xq Q R hR l is' _ aV w' _ (hI.out hO (hI.lo.fK rfl rfl)) HW this
theorem wS{cf:dq} : ∀ (l:List aM) (s:AS) (Q:AS->Prop),(∀ o,o∈l->lk o=none)->mE G cf l s Q->∃ s',fA G cf false l s=some s'/\Q s'
 | [],s,Q,_,h=>⟨s,rfl,h⟩
 | o :: l,s,Q,hn,h=>by
  have ho:=hn o aoF
  unfold mE at h
  rw[ho] at h
  obtain⟨s1,h1,h⟩:=h
  obtain⟨s2,h2,h3⟩:=wS l s1 Q (fun o ho=>hn o (apl _ ho)) h
  exact⟨s2,by simp only[fA,h1,aoe,h2],h3⟩
theorem qZ{mode pc:Bool}{is:List aM}{L:List Nat} : ∀ {l:List aM} {es:List rC},oD mode pc is L l=some es->∀ o,o∈inter mode pc is L l->lk o=none
 | [],_,_,o,ho=>by cases ho
 | p :: l,es,h,o,ho=>by
  simp only[oD,an1,an0] at h
  obtain⟨e,he,vb,h',rfl⟩:=h
  have hp:lk (jL pc p)=none:=by
   obtain⟨d,g,op⟩:=p
   cases op<;>try rfl
   ·simp only[jL];cases pc<;>rfl
   ·simp[Fu,AR] at he
  simp only[inter] at ho
  split at ho
  ·rcases aoN.1 ho with rfl|ho
   ·rfl
   ·rcases aoN.1 ho with rfl|ho
    ·exact hp
    ·exact qZ h' o ho
  ·rcases aoN.1 ho with rfl|ho
   ·exact hp
   ·exact qZ h' o ho
theorem BT.Jd(f:aQ):∀ (k o i:Nat),i<2 ^ k->BT.get (BT.of f k o) k i=f (o+i)
 | 0,o,i,h=>by
  have:i=0:=by simp at h;exact h
  subst this;rfl
 | k+1,o,i,h=>by
  have h2:2 ^ (k+1)=2 ^ k+2 ^ k:=by rw[Nat.pow_succ];omega
  simp only[BT.of,BT.get]
  cases hb:Nat.blt i (2 ^ k) with
  | true =>
   rw[aoO] at hb
   rw[cond_true];exact BT.Jd f k o i hb
  | false =>
   have hn:¬ i<2 ^ k:=fun h=>by rw[<- aoO] at h;rw[h] at hb;cases hb
   rw[an8,BT.Jd f k (o+2 ^ k) (i-2 ^ k) (by omega)]
   congr 1;omega
theorem Dw{nt:Nat}{T:aQ}{i:Nat}(h:i<nt):HD nt (BT.of T (Fg nt) 0) i=T i:=by
 have h1:Nat.blt i nt=true:=by rw[aoO];exact h
 unfold HD
 rw[h1,cond_true,BT.Jd _ _ _ _ (Nat.lt_trans h (by unfold Fg;exact Nat.lt_log2_self)),Nat.zero_add]
theorem XG{nt:Nat}{T:aQ}{i:Nat}(h:nt<=i):HD nt (BT.of T (Fg nt) 0) i=.undef:=by
 have h1:Nat.blt i nt=false:=by
  cases hb:Nat.blt i nt with
  | false=>rfl
  | true=>rw[aoO] at hb;omega
 unfold HD
 rw[h1];rfl
theorem SR.ZA{n:Nat}{T T' : aQ}{gen:Nat}{tm:Nat->Value}{i:Nat}{v:Value}{x:AV}(hT:∀ j,j<nt->T' j=T j)(h:SR gh n nt w T gen tm i v x):SR gh n nt w T' gen tm i v x:=by
 cases x
 case lref b g off=>obtain⟨h1,h2,h3⟩:=h;exact⟨h1,h2,fun e=>h3 (by rw[<- hT b h1];exact e)⟩
 case lsr b g=>obtain⟨h1,h2,h3⟩:=h;exact⟨h1,h2,fun e=>h3 (by rw[<- hT b h1];exact e)⟩
 case eref b g r z off=>obtain⟨h1,h2,h3⟩:=h;exact⟨h1,h2,fun e=>h3 (by rw[<- hT b h1];exact e)⟩
 all_goals exact h
theorem Inv.canon{H0:ah}{iV:Gh}{w0:World}(h:Inv G base nt L H0 iV w0 s gh w a):Inv G base nt L H0 iV w0 (xS nt s) gh w a:=by
 refine⟨h.W,⟨⟨h.F.defers,h.F.size,fun i hi=>?_⟩,fun i hi=>?_⟩,h.E,h.lo.fK rfl rfl⟩
 ·have h1:=h.F.slot i hi
  show SR gh s.H.length nt w (HD nt (BT.of s.T (Fg nt) 0)) s.gen _ i _ (HD nt (BT.of s.T (Fg nt) 0) i)
  rw[Dw hi]
  exact h1.ZA fun j hj=>Dw hj
 ·by_cases bf:i<nt
  ·have:(xS nt s).T i=s.T i:=Dw bf
   rw[this] at hi
   exact h.F.obj i hi
  ·have:(xS nt s).T i=.undef:=XG (by omega)
   rw[this] at hi
   cases hi
theorem zj{ops:Array Oper}{L:Array Bool} : tH (ops.toList.map ni) L=Region.ready .any ops L:=by
 unfold tH Region.ready
 rw[show (ops.toList.map ni).length=ops.size by simp]
 refine List.filter_congr fun i hi=>?_
 have bf:i<ops.size:=by simpa using hi
 have e1:(ops.toList.map ni).getD i []=ni ops[i]:=by simp[ao0,bf]
 rw[e1,aop bf]
 simp only[aok,apf,ni]
 congr 1
 rw[<- Array.all_toList,List.all_map,List.all_filter]
 rfl
theorem xL{cf:dq}(jH:fc P G cf){H0:ah}{iV:Gh}{w0:World}{ct locals muts:List Nat}{ops:Array Oper}(wY:∀ x,x∈locals->x∈L)(xq:∀ x,x∈muts->x∈L)(Q:Exit->Act->World->Prop)(R:AS->Prop)
  (hR:∀ s' a' aV w',R s'->Inv G base nt L H0 iV w0 s' aV w' a'->Q .normal a' w') {is:List aM} (hc:gl P ct locals muts nt ops ops.toList=some is) :
  ∀ (n:Nat) (B:Array Bool) (s:AS) (gh:Gh) (w:World) (a:Act),Inv G base nt L H0 iV w0 s gh w a->Ly G cf nt is (ops.toList.map ni) n B s R->wpAny P .any ops Q n B a w
 | 0,B,s,gh,w,a,hI,h=>⟨by rw[<- zj];exact h.1,hR s a gh w h.2 hI⟩
 | n+1,B,s,gh,w,a,hI,h=>by
  refine⟨fun e=>hR s a gh w (h.1 (by rw[zj];exact e)) hI,fun i hi=>?_⟩
  obtain⟨io,s1,uz,h1,h2⟩:=h.2 i (by rw[zj];exact hi)
  obtain⟨hlen,F6⟩:=je hc
  unfold wpOp
  split
  ·rename_i hn
   exfalso
   have h3:=(an9.1 uz).1
   have h4:ops.toList[i]?=none:=by simpa using hn
   have h5:=List.getElem?_eq_none_iff.1 h4
   omega
  ·rename_i o ho
   obtain⟨io',aik,bL⟩:=F6 i o (by simpa using ho)
   obtain rfl:io'=io:=apt (aik.symm.trans uz)
   have hinv:=jS bL
   rw[nn,an0] at h1
   obtain⟨⟨z,s2⟩,hz,rfl⟩:=h1
   refine ph jH hI bL wY xq hz _ Q (fun a' aV w' kW=>?_)
   rw[hinv.2.2.1] at h2
   exact xL jH wY xq Q R hR hc n _ _ aV w' a' kW.canon h2
theorem lC{cf:dq}(jH:fc P G cf)(hm:P.follows .mixedOrders=true){H0:ah}{iV:Gh}{w0:World}{ct locals muts:List Nat} :
  ∀ (c:Code) (ic:aY),fS P ct locals muts nt c=some ic->∀ (s:AS) (gh:Gh) (w:World) (a:Act) (Q:Exit->Act->World->Prop) (R:bP->AS->Prop),Inv G base nt (locals++muts) H0 iV w0 s gh w a->WN G cf ic s R ->
   (∀ e s' a' aV w',R e s'->Inv G base nt (locals++muts) H0 iV w0 s' aV w' a'->Q e.KD a' w')->c.wp P Q a w
 | .skip,ic,hc,s,gh,w,a,Q,R,hI,he,hQ=>by
  simp only[fS,an2] at hc
  subst hc
  exact wp_skip (hQ .normal s a gh w he hI)
 | .region id ops draw,ic,hc,s,gh,w,a,Q,R,hI,he,hQ=>by
  have Nz:=hc
  simp only[fS,an1] at hc
  obtain⟨is,HW,hc⟩:=hc
  cases hd3:cond draw (x9 locals ops.toList is) none with
  | some c3 =>
   rw[hd3] at hc
   injection hc with hc
   subst hc
   obtain⟨rfl,mode,pc,es,h1,h2,rfl⟩:=yd hd3
   obtain⟨s2,h3,h4⟩:=wS _ _ _ (qZ h1) he
   exact ik jH hm 0 (.region id ops true) _ Nz s s2 .normal gh w a Q hI (by simp only[jg,h3,aok]) (fun a' aV w' kW=>hQ .normal s2 a' aV w' h4 kW)
  | none =>
  rw[hd3] at hc
  simp only at hc
  cases hb:(!draw || (!(locals.elem 999998)&&uS (locals++muts) (ops.toList.zip is))) with
  | false =>
   rw[hb,an8] at hc
   obtain⟨hdr,hc⟩:=ae hc
   injection hc with hc
   subst hc
   subst hdr
   have hl:ops.size=is.length:=by simpa using (je HW).1
   simp only[WN,<- hl] at he
   exact wp_region_any hm (xL jH (fun x hx=>aog.2 (.inl hx)) (fun x hx=>aog.2 (.inr hx)) Q (R .normal) (fun s' a' aV w' hr kW=>hQ .normal s' a' aV w' hr kW) HW _ _ _ gh _ a hI.drew.canon he)
  | true =>
  have h0:=hb
  rw[hb,cond_true] at hc
  injection hc with hc
  subst hc
  cases draw with
  | false=>exact wp_region_list (mN jH (fun x hx=>aog.2 (.inl hx)) (fun x hx=>aog.2 (.inr hx)) Q (R .normal) (fun s' a' aV w' hr kW=>hQ .normal s' a' aV w' hr kW) ops.toList is s gh w a hI HW he)
  | true =>
   obtain⟨s',h1,h2⟩:=he
   exact ik jH hm 0 (.region id ops true) _ Nz s s' .normal gh w a Q hI (by simp only[jg,h1,aok]) (fun a' aV w' kW=>hQ .normal s' a' aV w' h2 kW)
 | .seq x y,ic,hc,s,gh,w,a,Q,R,hI,he,hQ=>by
  simp only[fS,an1,an0] at hc
  obtain⟨ix,hx,iy,hy,rfl⟩:=hc
  refine wp_seq (lC jH hm x ix hx s gh w a _ _ hI he (fun e s' a' aV w' hr kW=>?_))
  cases e with
  | normal=>exact lC jH hm y iy hy s' aV w' a' Q R kW hr hQ
  | exit id=>exact hQ (.exit id) s' a' aV w' hr kW
  | ret=>exact hQ .ret s' a' aV w' hr kW
 | .cond c x y,ic,hc,s,gh,w,a,Q,R,hI,he,hQ=>by
  simp only[fS,an1,an0] at hc
  obtain⟨iq,hq,ix,hx,iy,hy,rfl⟩:=hc
  obtain⟨t,ht,h1,h2⟩:=he
  have hv:=(cJ hI.W hI.F hq ht rfl).jI
  cases t with
  | true=>exact wp_cond_true hv (lC jH hm x ix hx s gh w a Q R hI (h1 rfl) hQ)
  | false=>exact wp_cond_false hv (lC jH hm y iy hy s gh w a Q R hI (h2 rfl) hQ)
 | .block id c,ic,hc,s,gh,w,a,Q,R,hI,he,hQ=>by
  simp only[fS,an0] at hc
  obtain⟨ix,hx,rfl⟩:=hc
  refine wp_block (lC jH hm c ix hx s gh w a _ _ hI he (fun e s' a' aV w' hr kW=>?_))
  cases e with
  | normal=>exact hQ .normal s' a' aV w' hr kW
  | exit i =>
   show if i=id then Q .normal a' w' else Q (.exit i) a' w'
   simp only[leave,fW] at hr
   by_cases hi:i=id
   ·rw[if_pos hi];exact hQ .normal s' a' aV w' (by simpa [hi] using hr) kW
   ·rw[if_neg hi];exact hQ (.exit i) s' a' aV w' (by simpa [hi] using hr) kW
  | ret=>exact hQ .ret s' a' aV w' hr kW
 | .loop c,ic,hc,s,gh,w,a,Q,R,hI,he,hQ=>by
  simp only[fS,an0] at hc
  obtain⟨ix,hx,rfl⟩:=hc
  obtain⟨n,he⟩:=he
  have rounds:∀ (m:Nat) (s:AS) (gh:Gh) (w:World) (a:Act),Inv G base nt (locals++muts) H0 iV w0 s gh w a->yT (WN G cf ix) m s R->Code.rounds P c Q m a w:=by
   intro m
   induction m with
   | zero=>intro s gh w a _ h;exact h.elim
   | succ m ih =>
    intro s gh w a hI h
    rw[rounds_succ]
    refine lC jH hm c ix hx s gh w a _ _ hI h (fun e s' a' aV w' hr kW=>?_)
    cases e with
    | normal=>exact ih s' aV w' a' kW hr
    | exit id=>exact hQ (.exit id) s' a' aV w' hr kW
    | ret=>exact hQ .ret s' a' aV w' hr kW
  exact wp_loop_rounds n (rounds n s gh w a hI he)
 | .exit id,ic,hc,s,gh,w,a,Q,R,hI,he,hQ=>by
  simp only[fS,an2] at hc
  subst hc
  exact wp_exit (hQ (.exit id) s a gh w he hI)
 | .ret,ic,hc,s,gh,w,a,Q,R,hI,he,hQ=>by
  simp only[fS,an2] at hc
  subst hc
  exact wp_ret (hQ .ret s a gh w he hI)
 | .label l,ic,hc,s,gh,w,a,Q,R,hI,he,hQ=>by
  simp only[fS,an2] at hc
  subst hc
  exact wp_label (hQ .normal s a gh w he hI)
 | .scope c,ic,hc,s,gh,w,a,Q,R,hI,he,hQ=>by
  simp only[fS] at hc
  refine wp_scope_straight (lC jH hm c ic hc s gh w a _ R hI he (fun e s' a' aV w' hr kW=>?_))
  have:=hQ e s' a' aV w' hr kW
  cases e<;>exact this
 | .rangeFunc _ _ _ _,_,hc,_,_,_,_,_,_,_,_,_=>by simp[fS] at hc
 | .goto _,_,hc,_,_,_,_,_,_,_,_,_=>by simp[fS] at hc
 | .refuse _,_,hc,_,_,_,_,_,_,_,_,_=>by simp[fS] at hc
theorem Zy{A:AP}(hA:oB P A):fc P A.aZ (aD A):=by
 intro f args H r c h
 obtain⟨n,hn⟩:=nf.1 h
 exact vC hA n f args H r c hn
theorem agN{A:AP}(hA:oB P A){f:FuncId}{fn:Func}(zQ:P.funcs[f]?=some fn){ct locals muts:List Nat}{nI:aJ}(hc:oY P ct locals muts fn=some nI){g:List AV->ah->Option (AV × Option gJ)}
  (O7:∀ args H r c,g args H=some (r,c)->kY H c)
  (hg:∀ args H x,g args H=some x->args.length=nI.np/\WN A.aZ (aD A) nI.body { T:=gu args,H,lo:=H.length,gen:=0 } (fun e s=>match e with|.exit _=>False|_=>finish H.length nI s=some x)):iQ P A.aZ f g:=by
 intro args H r c he
 obtain⟨DE,hwn⟩:=hg args H (r,c) he
 simp only[oY,an1] at hc
 obtain⟨code,qL,b,hb,rs,A',hc⟩:=hc
 obtain⟨h0,hc⟩:=ae hc
 injection hc with hc
 subst hc
 simp only[aod,ao2,bne_iff_ne,ne_eq] at h0
 refine⟨⟨fn,zQ,by rw[qL];rfl,h0.2⟩,O7 args H r c he,fun base gh w vs hW jW ve cL=>?_⟩
 refine calls_of_wp zQ qL ?_
 have alC:args.length=fn.params.size+fn.nfree:=DE
 have hI:=yL (locals:=locals) (muts:=muts) (fn:=fn) hW ve (by omega) (fun j v x hv hx=>.inl (cL j v x hv hx))
 refine lC (Zy hA) hA.mixed code b hb _ gh.taken w _ _ _ hI hwn (fun e s' a' aV w' hr kW=>?_)
 cases e with
 | exit i=>exact hr.elim
 | normal =>
  obtain⟨_,v,Je,hv,hR⟩:=py (P:=P) hW jW kW A' hr
  exact⟨kW.F.defers,v,hv,v,Je,rfl,hR⟩
 | ret =>
  obtain⟨_,v,Je,hv,hR⟩:=py (P:=P) hW jW kW A' hr
  exact⟨kW.F.defers,v,hv,v,Je,rfl,hR⟩
end
end
section
def yM{α:Type}(x:α):List α->List (List α)
 | []=>[[x]]
 | y :: l=>(x :: y :: l) :: (yM x l).map (y :: ·)
def perms{α:Type} : List α->List (List α)
 | []=>[[]]
 | x :: l=>(perms l).flatMap (yM x)
theorem y9{α:Type}(x:α):∀ (a b:List α),a++x :: b∈yM x (a++b)
 | [],b=>by cases b<;>simp[yM]
 | y :: a,b=>by
  simp only[apu,yM,aoN,aoy]
  exact .inr ⟨_,y9 x a b,rfl⟩
theorem Bl{α:Type} : ∀ {l m:List α},l.Perm m->m∈perms l
 | [],m,h=>by
  have:m=[]:=List.Perm.eq_nil h.symm
  rw[this];simp[perms]
 | x :: l,m,h=>by
  have hx:x∈m:=h.mem_iff.1 aoF
  obtain⟨a,b,rfl⟩:=List.append_of_mem hx
  have h2:l.Perm (a++b):=(h.trans List.perm_middle).cons_inv
  simp only[perms,apw]
  exact⟨_,Bl h2,y9 x a b⟩
def collect{α β:Type}(f:α->Option (List β)):List α->Option (List β)
 | []=>some []
 | x :: l=>(f x).bind fun a=>(collect f l).map (a++·)
theorem kI{α β:Type}{f:α->Option (List β)} : ∀ {xs:List α} {l:List β},collect f xs=some l->∀ x∈xs,∃ a,f x=some a/\∀ y∈a,y∈l
 | [],_,_,x,hx=>by cases hx
 | z :: xs,l,h,x,hx=>by
  simp only[collect,an1,an0] at h
  obtain⟨a,ha,b,hb,rfl⟩:=h
  rcases aoN.1 hx with rfl|hx
  ·exact⟨a,ha,fun y hy=>apM _ hy⟩
  ·obtain⟨c,hc,hm⟩:=kI hb x hx
   exact⟨c,hc,fun y hy=>aqi _ (hm y hy)⟩
theorem jQ{α β:Type}{f:α->Option (List β)} : ∀ {xs:List α} {l:List β},collect f xs=some l->∀ y∈l,∃ x∈xs,∃ a,f x=some a/\y∈a
 | [],_,h,y,hy=>by simp only[collect,an2] at h;rw[<- h] at hy;cases hy
 | z :: xs,l,h,y,hy=>by
  simp only[collect,an1,an0] at h
  obtain⟨a,ha,b,hb,rfl⟩:=h
  rcases aog.1 hy with hy|hy
  ·exact⟨z,aoF,a,ha,hy⟩
  ·obtain⟨x,hx,c,hc,hm⟩:=jQ hb y hy
   exact⟨x,apl _ hx,c,hc,hm⟩
mutual
def sW:AV->AV->Bool
 | .bool a,y=>match y with|.bool b=>a==b|_=>false
 | .int k a,y=>match y with|.int k' b=>k==k'&&a==b|_=>false
 | .str a,y=>match y with|.str b=>a==b|_=>false
 | .any,y=>match y with|.any=>true|_=>false
 | .di,y=>match y with|.di=>true|_=>false
 | .de,y=>match y with|.de=>true|_=>false
 | .cM,y=>match y with|.cM=>true|_=>false
 | .bR,y=>match y with|.bR=>true|_=>false
 | .aj,y=>match y with|.aj=>true|_=>false
 | .slice e o,y=>match y with|.slice f q=>wV e f&&o==q|_=>false
 | .ref l o,y=>match y with|.ref l' o'=>l==l'&&o==o'|_=>false
 | .sref l o n z,y=>match y with|.sref l' o' n' z'=>l==l'&&o==o'&&n==n'&&z==z'|_=>false
 | .mref l,y=>match y with|.mref l'=>l==l'|_=>false
 | .agg a,y=>match y with|.agg b=>DD a b|_=>false
 | .tuple a,y=>match y with|.tuple b=>DD a b|_=>false
 | .iface t a,y=>match y with|.iface t' b=>t==t'&&sW a b|_=>false
 | .eptr a,y=>match y with|.eptr b=>DD a b|_=>false
 | .lbox g a,y=>match y with|.lbox g' b=>g==g'&&DD a b|_=>false
 | .lref s g o,y=>match y with|.lref s' g' o'=>s==s'&&g==g'&&o==o'|_=>false
 | .lsl g e,y=>match y with|.lsl g' f=>g==g'&&wV e f|_=>false
 | .lsr s g,y=>match y with|.lsr s' g'=>s==s'&&g==g'|_=>false
 | .eref s g i z o,y=>match y with|.eref s' g' i' z' o'=>s==s'&&g==g'&&i==i'&&z==z'&&o==o'|_=>false
 | .fg kz ka va e,y=>match y with|.fg ml mj mD f=>kz==ml&&ka==mj&&va==mD&&wV e f|_=>false
 | .nC kz ka va e,y=>match y with|.nC ml mj mD f=>kz==ml&&ka==mj&&va==mD&&wV e f|_=>false
 | .iter g kz ka va c e,y=>match y with|.iter g' ml mj mD c' f=>g==g'&&kz==ml&&ka==mj&&va==mD&&DD c c'&&wV e f|_=>false
 | .func f a c,y=>match f,y with|.func n,.func (.func m) b d=>n==m&&DD a b&&DD c d|_,_=>false
def DD:List AV->List AV->Bool
 | [],y=>match y with|[]=>true|_=>false
 | a :: l,y=>match y with|b :: m=>sW a b&&DD l m|_=>false
def wV:List (List AV)->List (List AV)->Bool
 | [],y=>match y with|[]=>true|_=>false
 | a :: l,y=>match y with|b :: m=>DD a b&&wV l m|_=>false
end
mutual
theorem Cq:∀ (a b:AV),sW a b=true->a=b
 | .bool a,b,h=>by cases b<;>simp_all [sW]
 | .int k a,b,h=>by cases b<;>simp_all [sW]
 | .str a,b,h=>by cases b<;>simp_all [sW]
 | .any,b,h=>by cases b<;>simp_all [sW]
 | .di,b,h=>by cases b<;>simp_all [sW]
 | .de,b,h=>by cases b<;>simp_all [sW]
 | .cM,b,h=>by cases b<;>simp_all [sW]
 | .bR,b,h=>by cases b<;>simp_all [sW]
 | .aj,b,h=>by cases b<;>simp_all [sW]
 | .slice e o,b,h=>by
  cases b<;>simp[sW] at h
  rename_i f q
  rw[oq e f h.1,h.2]
 | .ref l o,b,h=>by cases b<;>simp_all [sW]
 | .sref l o n z,b,h=>by cases b<;>simp_all [sW]
 | .mref l,b,h=>by cases b<;>simp_all [sW]
 | .agg a,b,h=>by
  cases b<;>simp[sW] at h
  rename_i f
  rw[lK a f h]
 | .tuple a,b,h=>by
  cases b<;>simp[sW] at h
  rename_i f
  rw[lK a f h]
 | .iface t a,b,h=>by
  cases b<;>simp[sW] at h
  rename_i t' f
  rw[Cq a f h.2,h.1]
 | .eptr a,b,h=>by
  cases b<;>simp[sW] at h
  rename_i f
  rw[lK a f h]
 | .lbox g a,b,h=>by
  cases b<;>simp[sW] at h
  rename_i g' f
  rw[h.1,lK a f h.2]
 | .lref s g o,b,h=>by cases b<;>simp_all [sW]
 | .lsl g e,b,h=>by
  cases b<;>simp[sW] at h
  rename_i g' f
  rw[h.1,oq e f h.2]
 | .lsr s g,b,h=>by cases b<;>simp_all [sW]
 | .eref s g i z o,b,h=>by cases b<;>simp_all [sW]
 | .fg kz ka va e,b,h=>by
  cases b<;>simp[sW] at h
  rename_i ml mj mD f
  rw[h.1.1.1,h.1.1.2,h.1.2,oq e f h.2]
 | .nC kz ka va e,b,h=>by
  cases b<;>simp[sW] at h
  rename_i ml mj mD f
  rw[h.1.1.1,h.1.1.2,h.1.2,oq e f h.2]
 | .iter g kz ka va c e,b,h=>by
  cases b<;>simp[sW] at h
  rename_i g' ml mj mD c' f
  rw[h.1.1.1.1.1,h.1.1.1.1.2,h.1.1.1.2,h.1.1.2,lK c c' h.1.2,oq e f h.2]
 | .func f a c,b,h=>by
  cases f<;>cases b<;>simp[sW] at h
  rename_i n f' b d
  cases f'<;>simp at h
  rename_i m
  rw[h.1.1,lK a b h.1.2,lK c d h.2]
theorem lK:∀ (a b:List AV),DD a b=true->a=b
 | [],b,h=>by cases b<;>simp_all [DD]
 | x :: l,b,h=>by
  cases b with
  | nil=>simp[DD] at h
  | cons y m =>
   simp[DD] at h
   rw[Cq x y h.1,lK l m h.2]
theorem oq:∀ (a b:List (List AV)),wV a b=true->a=b
 | [],b,h=>by cases b<;>simp_all [wV]
 | x :: l,b,h=>by
  cases b with
  | nil=>simp[wV] at h
  | cons y m =>
   simp[wV] at h
   rw[lK x y h.1,oq l m h.2]
end
def eqO:bZ->bZ->Bool
 | .box t a,.box t' b=>t==t'&&DD a b
 | .map kz ka va e,.map ml mj mD f=>kz==ml&&ka==mj&&va==mD&&wV e f
 | .fg kz ka va e,.fg ml mj mD f=>kz==ml&&ka==mj&&va==mD&&wV e f
 | .IZ a,.IZ b=>DD a b
 | .cS a,.cS b=>DD a b
 | .dead,.dead=>true
 | _,_=>false
def TG:ah->ah->Bool
 | [],[]=>true
 | a :: l,b :: m=>eqO a b&&TG l m
 | _,_=>false
def eqR(a b:AV × Option gJ):Bool :=
 sW a.1 b.1&&match a.2,b.2 with
  | none,none=>true
  | some c,some d=>TG c.heap d.heap&&c.lo==d.lo
  | _,_=>false
theorem ZQ{a b:bZ}(h:eqO a b=true):a=b:=by
 cases a<;>cases b<;>simp[eqO] at h
 ·rw[h.1,lK _ _ h.2]
 ·rw[h.1.1.1,h.1.1.2,h.1.2,oq _ _ h.2]
 ·rw[h.1.1.1,h.1.1.2,h.1.2,oq _ _ h.2]
 ·rw[lK _ _ h]
 ·rw[lK _ _ h]
 ·rfl
theorem Cp:∀ {a b:ah},TG a b=true->a=b
 | [],[],_=>rfl
 | [],_ :: _,h=>by simp[TG] at h
 | _ :: _,[],h=>by simp[TG] at h
 | x :: l,y :: m,h=>by
  simp only[TG,aod] at h
  rw[ZQ h.1,Cp h.2]
theorem ZS{a b:AV × Option gJ}(h:eqR a b=true):a=b:=by
 obtain⟨v,c⟩:=a
 obtain⟨w,d⟩:=b
 simp only[eqR,aod] at h
 obtain⟨h1,h2⟩:=h
 rw[Cq v w h1]
 cases c<;>cases d<;>simp at h2
 ·rfl
 ·rename_i c d
  obtain⟨c1,c2⟩:=c
  obtain⟨d1,d2⟩:=d
  simp only at h2
  rw[Cp h2.1,h2.2]
structure CS where
 nt:Nat
 sw:BT
 H:ah
 lo:Nat
 gen:Nat
def CS.HG(c:CS):AS:=⟨HD c.nt c.sw,c.H,c.lo,c.gen⟩
def CS.afF(nt:Nat)(s:AS):CS:=⟨nt,BT.of s.T (Fg nt) 0,s.H,s.lo,s.gen⟩
def ZO:BT->BT->Bool
 | .leaf v,y=>match y with|.leaf u=>sW v u|_=>false
 | .node l r,y=>match y with|.node l' r'=>ZO l l'&&ZO r r'|_=>false
theorem IP:∀ {a b:BT},ZO a b=true->a=b
 | .leaf v,.leaf u,h=>by rw[Cq v u h]
 | .leaf _,.node _ _,h=>by simp[ZO] at h
 | .node _ _,.leaf _,h=>by simp[ZO] at h
 | .node l r,.node l' r',h=>by
  simp only[ZO,aod] at h
  rw[IP h.1,IP h.2]
def eqC(c d:CS):Bool:=c.nt==d.nt&&c.lo==d.lo&&c.gen==d.gen&&ZO c.sw d.sw&&TG c.H d.H
theorem ZP{c d:CS}(h:eqC c d=true):c=d:=by
 obtain⟨n1,v1,h1,l1,g1⟩:=c
 obtain⟨n2,v2,h2,l2,g2⟩:=d
 simp only[eqC,aod,ao3] at h
 obtain⟨⟨⟨⟨k0,k1⟩,k2⟩,k3⟩,k4⟩:=h
 rw[k0,k1,k2,IP k3,Cp k4]
def eqP(x y:Array Bool × CS):Bool:=x.1.toList==y.1.toList&&eqC x.2 y.2
theorem ZR{x y:Array Bool × CS}(h:eqP x y=true):x=y:=by
 obtain⟨L,c⟩:=x
 obtain⟨M,d⟩:=y
 simp only[eqP,aod,ao3] at h
 rw[Array.toList_inj.1 h.1,ZP h.2]
def dedup:List (Array Bool × CS)->List (Array Bool × CS)
 | []=>[]
 | x :: l=>cond (l.any (eqP x)) (dedup l) (x :: dedup l)
theorem rU:∀ {l:List (Array Bool × CS)} {x:Array Bool × CS},x∈l->x∈dedup l
 | y :: l,x,h=>by
  simp only[dedup]
  cases hb:l.any (eqP y) with
  | true =>
   simp only[cond_true]
   rcases aoN.1 h with rfl|h
   ·obtain⟨z,hz,he⟩:=List.any_eq_true.1 hb
    rw[ZR he];exact rU hz
   ·exact rU h
  | false =>
   simp only[an8]
   rcases aoN.1 h with rfl|h
   ·exact aoF
   ·exact apl _ (rU h)
theorem vx:∀ {l:List (Array Bool × CS)} {x:Array Bool × CS},x∈dedup l->x∈l
 | y :: l,x,h=>by
  simp only[dedup] at h
  cases hb:l.any (eqP y) with
  | true=>rw[hb,cond_true] at h;exact apl _ (vx h)
  | false =>
   rw[hb,an8] at h
   rcases aoN.1 h with rfl|h
   ·exact aoF
   ·exact apl _ (vx h)
section
variable (G:Nat->List AV)(cf:dq)(nt:Nat)(ops:List aM)(pre:List (List Nat))
def Du(x:Array Bool × CS):Option (List (Array Bool × CS)) :=
 match tH pre x.1 with
 | []=>none
 | i :: r=>collect (fun i=>(ops[i]?).bind fun o=>(cd G cf false x.2.HG o).map fun s'=>[(x.1.setIfInBounds i true,CS.afF nt s')]) (i :: r)
def ru:Nat->List (Array Bool × CS)->Option (List CS)
 | 0,lv=>cond (lv.all fun x=>(tH pre x.1).isEmpty) (some (lv.map (·.2))) none
 | n+1,lv=>(collect (Du G cf nt ops pre) lv).bind fun l=>ru n (dedup l)
end
theorem Hq{G:Nat->List AV}{cf:dq}{nt:Nat}{ops:List aM}{pre:List (List Nat)}{Q:AS->Prop} : ∀ (n:Nat) (lv:List (Array Bool × CS)) (res:List CS),ru G cf nt ops pre n lv=some res->(∀ c∈res,Q c.HG) ->
  ∀ x∈lv,Ly G cf nt ops pre n x.1 x.2.HG Q
 | 0,lv,res,h,hQ,x,hx=>by
  simp only[ru] at h
  obtain⟨h0,h⟩:=ae h
  injection h with h
  subst h
  have:=aof.1 h0 x hx
  exact⟨aqp.1 this,hQ _ (aoy.2 ⟨x,hx,rfl⟩)⟩
 | n+1,lv,res,h,hQ,x,hx=>by
  simp only[ru,an1] at h
  obtain⟨l,h1,h2⟩:=h
  obtain⟨a,ha,hm⟩:=kI h1 x hx
  unfold Du at ha
  split at ha
  ·cases ha
  ·rename_i j r hr
   refine⟨(fun e=>by rw[hr] at e;cases e),fun i hi=>?_⟩
   rw[hr] at hi
   obtain⟨b,hb,hmb⟩:=kI ha i hi
   simp only[an1,an0] at hb
   obtain⟨o,ho,s',hs,rfl⟩:=hb
   refine⟨o,s',ho,hs,?_⟩
   exact Hq n _ res h2 hQ _ (rU (hm _ (hmb _ aoF)))
section
variable (G:Nat->List AV)(cf:dq)
def SH(s:AS)(t:Nat)(d:Option Nat)(g kz:Nat)(ka va:Bool)(q:List AV)(rest:List (List AV)):AS :=
 (s.cc t (.iter g kz ka va q rest)).cH d (.tuple [.bool true,oE ka (q.take kz),oE va (q.drop kz)])
def oC:List aM->AS->Option (List AS)
 | [],s=>some [s]
 | o :: r,s=>match lk o with
  | some t=>match s.T t with
   | .iter g kz ka va _ todo=>match todo with
    | []=>oC r (s.cH o.dst (.tuple [.bool false]))
    | _ :: _=>collect (fun m=>match m with
     | q :: rest=>oC r (SH s t o.dst g kz ka va q rest)
     | []=>some []) (perms todo)
   | _=>none
  | none=>(cd G cf false s o).bind (oC r)
def rT(F:AS->Option (List (bP × AS))):Nat->AS->Option (List (bP × AS))
 | 0,_=>none
 | n+1,s=>(F s).bind (collect fun x=>match x.1 with
  | .normal=>rT F n x.2
  | _=>some [x])
def lI(n:Nat):aY->AS->Option (List (bP × AS))
 | .skip,s=>some [(.normal,s)]
 | .region false ops,s=>(oC G cf ops s).map fun l=>l.map fun s'=>(.normal,s')
 | .region true ops,s=>(fA G cf true ops s).map fun s'=>[(.normal,s')]
 | .seq a b,s=>(lI n a s).bind (collect fun x=>match x.1 with
  | .normal=>lI n b x.2
  | _=>some [x])
 | .cond c a b,s=>match c.eval G s.T with
  | .bool true=>lI n a s
  | .bool false=>lI n b s
  | _=>none
 | .block id a,s=>(lI n a s).map fun l=>l.map fun x=>match x.1 with
  | .exit i=>(cond (Nat.beq i id) .normal (.exit i),x.2)
  | _=>x
 | .loop a,s=>rT (lI n a) n s
 | .exit id,s=>some [(.exit id,s)]
 | .ret,s=>some [(.ret,s)]
 | .vn nt ops pre,s=>(ru G cf nt ops pre ops.length [(Array.replicate ops.length false,CS.afF nt s)]).map fun l=>l.map fun c=>(.normal,c.HG)
end
section
variable {G:Nat->List AV}{cf:dq}
theorem rE:∀ (is:List aM) (s:AS) (l:List AS) (Q:AS->Prop),oC G cf is s=some l->(∀ x∈l,Q x)->mE G cf is s Q
 | [],s,l,Q,h,hQ=>by
  simp only[oC,an2] at h
  exact hQ s (by rw[<- h];exact aoF)
 | o :: r,s,l,Q,h,hQ=>by
  unfold oC at h
  unfold mE
  cases hn:lk o with
  | none =>
   rw[hn] at h
   simp only[an1] at h
   obtain⟨s',h1,h2⟩:=h
   exact⟨s',h1,rE r s' l Q h2 hQ⟩
  | some t =>
   rw[hn] at h
   simp only at h ⊢
   split at h
   ·rename_i g kz ka va cur todo hT
    refine⟨g,kz,ka,va,cur,todo,hT,fun h0=>?_,fun q rest hp=>?_⟩
    ·subst h0
     exact rE r _ l Q h hQ
    ·cases todo with
     | nil=>exact absurd (List.Perm.nil_eq hp) (by simp)
     | cons z zs =>
      simp only at h
      obtain⟨a,ha,hm⟩:=kI h _ (Bl hp)
      exact rE r _ a Q ha fun x hx=>hQ x (hm x hx)
   ·cases h
theorem yS{F:AS->Option (List (bP × AS))}{W:AS->(bP->AS->Prop)->Prop}(hF:∀ s l Q,F s=some l->(∀ x∈l,Q x.1 x.2)->W s Q) :
  ∀ (n:Nat) (s:AS) (l:List (bP × AS)) (Q:bP->AS->Prop),rT F n s=some l->(∀ x∈l,Q x.1 x.2)->yT W n s Q
 | 0,_,_,_,h,_=>by cases h
 | n+1,s,l,Q,h,hQ=>by
  simp only[rT,an1] at h
  obtain⟨l1,h1,h2⟩:=h
  refine hF s l1 _ h1 fun x hx=>?_
  obtain⟨a,ha,hm⟩:=kI h2 x hx
  obtain⟨e,s1⟩:=x
  cases e with
  | normal=>exact yS hF n s1 a Q ha fun y hy=>hQ y (hm y hy)
  | exit i=>injection ha with ha;subst ha;exact hQ _ (hm _ aoF)
  | ret=>injection ha with ha;subst ha;exact hQ _ (hm _ aoF)
theorem pG(n:Nat):∀ (c:aY) (s:AS) (l:List (bP × AS)) (R:bP->AS->Prop),lI G cf n c s=some l->(∀ x∈l,R x.1 x.2)->WN G cf c s R
 | .skip,s,l,R,h,hR=>by
  simp only[lI,an2] at h
  exact hR (.normal,s) (by rw[<- h];exact aoF)
 | .region false ops,s,l,R,h,hR=>by
  simp only[lI,an0] at h
  obtain⟨l1,h1,rfl⟩:=h
  exact rE ops s l1 _ h1 fun x hx=>hR (.normal,x) (aoy.2 ⟨x,hx,rfl⟩)
 | .region true ops,s,l,R,h,hR=>by
  simp only[lI,an0] at h
  obtain⟨s1,h1,rfl⟩:=h
  exact⟨s1,h1,hR (.normal,s1) aoF⟩
 | .seq a b,s,l,R,h,hR=>by
  simp only[lI,an1] at h
  obtain⟨l1,h1,h2⟩:=h
  refine pG n a s l1 _ h1 fun x hx=>?_
  obtain⟨d,hd,hm⟩:=kI h2 x hx
  obtain⟨e,s1⟩:=x
  cases e with
  | normal=>exact pG n b s1 d R hd fun y hy=>hR y (hm y hy)
  | exit i=>injection hd with hd;subst hd;exact hR _ (hm _ aoF)
  | ret=>injection hd with hd;subst hd;exact hR _ (hm _ aoF)
 | .cond c a b,s,l,R,h,hR=>by
  simp only[lI] at h
  split at h
  ·rename_i ht
   exact⟨true,ht,(fun _=>pG n a s l R h hR),(fun e=>by cases e)⟩
  ·rename_i ht
   exact⟨false,ht,(fun e=>by cases e),(fun _=>pG n b s l R h hR)⟩
  ·cases h
 | .block id a,s,l,R,h,hR=>by
  simp only[lI,an0] at h
  obtain⟨l1,h1,rfl⟩:=h
  refine pG n a s l1 _ h1 fun x hx=>?_
  have:=hR _ (aoy.2 ⟨x,hx,rfl⟩)
  obtain⟨e,s1⟩:=x
  cases e<;>exact this
 | .loop a,s,l,R,h,hR=>⟨n,yS (fun s l Q h1 h2=>pG n a s l Q h1 h2) n s l R h hR⟩
 | .exit id,s,l,R,h,hR=>by
  simp only[lI,an2] at h
  exact hR (.exit id,s) (by rw[<- h];exact aoF)
 | .ret,s,l,R,h,hR=>by
  simp only[lI,an2] at h
  exact hR (.ret,s) (by rw[<- h];exact aoF)
 | .vn nt ops pre,s,l,R,h,hR=>by
  simp only[lI,an0] at h
  obtain⟨l1,h1,rfl⟩:=h
  exact Hq ops.length _ l1 h1 (fun c hc=>hR (.normal,c.HG) (aoy.2 ⟨c,hc,rfl⟩)) _ aoF
end
section
variable {G:Nat->List AV}{cf:dq}{H:ah}(jH:∀ f args H r c,cf f args H=some (r,c)->kY H c)
include jH
theorem rD:∀ (is:List aM) (s:AS) (l:List AS),oC G cf is s=some l->fG H s->∀ x∈l,fG H x
 | [],s,l,h,hI,x,hx=>by
  simp only[oC,an2] at h
  rw[<- h] at hx
  rw[aos.1 hx];exact hI
 | o :: r,s,l,h,hI,x,hx=>by
  unfold oC at h
  cases hn:lk o with
  | none =>
   rw[hn] at h
   simp only[an1] at h
   obtain⟨s',h1,h2⟩:=h
   have h3:fA G cf false [o] s=some s':=by simp only[fA,h1,aoe]
   exact rD r s' l h2 (qH jH [o] s s' h3 hI) x hx
  | some t =>
   rw[hn] at h
   simp only at h
   split at h
   ·rename_i g kz ka va cur todo hT
    cases todo with
    | nil=>exact rD r _ l h (hI.fK (jk _ _ _).1 (jk _ _ _).2.2) x hx
    | cons z zs =>
     simp only at h
     obtain⟨m,_,a,ha,hxa⟩:=jQ h x hx
     cases m with
     | nil=>injection ha with ha;subst ha;cases hxa
     | cons q rest =>
      refine rD r _ a ha ?_ x hxa
      unfold SH
      exact (hI.fK (s':=s.cc t (.iter g kz ka va q rest)) rfl rfl).fK (jk _ _ _).1 (jk _ _ _).2.2
   ·cases h
omit jH in
theorem yR{F:AS->Option (List (bP × AS))}(hF:∀ s l,F s=some l->fG H s->∀ x∈l,fG H x.2):∀ (n:Nat) (s:AS) (l:List (bP × AS)),rT F n s=some l->fG H s->∀ x∈l,fG H x.2
 | 0,_,_,h,_,_,_=>by cases h
 | n+1,s,l,h,hI,x,hx=>by
  simp only[rT,an1] at h
  obtain⟨l1,h1,h2⟩:=h
  obtain⟨y,hy,a,ha,hxa⟩:=jQ h2 x hx
  have hyI:=hF s l1 h1 hI y hy
  obtain⟨e,s1⟩:=y
  cases e with
  | normal=>exact yR hF n s1 a ha hyI x hxa
  | exit i=>injection ha with ha;subst ha;rw[aos.1 hxa];exact hyI
  | ret=>injection ha with ha;subst ha;rw[aos.1 hxa];exact hyI
theorem Bz{nt:Nat}{ops:List aM}{pre:List (List Nat)} : ∀ (n:Nat) (lv:List (Array Bool × CS)) (res:List CS),ru G cf nt ops pre n lv=some res->(∀ x∈lv,fG H x.2.HG)->∀ c∈res,fG H c.HG
 | 0,lv,res,h,hI,c,hc=>by
  simp only[ru] at h
  obtain⟨_,h⟩:=ae h
  injection h with h
  subst h
  obtain⟨x,hx,rfl⟩:=aoy.1 hc
  exact hI x hx
 | n+1,lv,res,h,hI,c,hc=>by
  simp only[ru,an1] at h
  obtain⟨l,h1,h2⟩:=h
  refine Bz n _ res h2 (fun y hy=>?_) c hc
  obtain⟨x,hx,a,ha,hya⟩:=jQ h1 y (vx hy)
  unfold Du at ha
  split at ha
  ·cases ha
  ·obtain⟨i,_,b,hb,hyb⟩:=jQ ha y hya
   simp only[an1,an0] at hb
   obtain⟨o,_,s',hs,rfl⟩:=hb
   rw[aos.1 hyb]
   have h3:fA G cf false [o] x.2.HG=some s':=by simp only[fA,hs,aoe]
   exact (qH jH [o] _ s' h3 (hI x hx)).fK rfl rfl
theorem pF(n:Nat):∀ (c:aY) (s:AS) (l:List (bP × AS)),lI G cf n c s=some l->fG H s->∀ x∈l,fG H x.2
 | .skip,s,l,h,hI,x,hx=>by
  simp only[lI,an2] at h
  rw[<- h] at hx;rw[aos.1 hx];exact hI
 | .region false ops,s,l,h,hI,x,hx=>by
  simp only[lI,an0] at h
  obtain⟨l1,h1,rfl⟩:=h
  obtain⟨y,hy,rfl⟩:=aoy.1 hx
  exact rD jH ops s l1 h1 hI y hy
 | .region true ops,s,l,h,hI,x,hx=>by
  simp only[lI,an0] at h
  obtain⟨s1,h1,rfl⟩:=h
  rw[aos.1 hx];exact qH jH ops s s1 h1 hI
 | .seq a b,s,l,h,hI,x,hx=>by
  simp only[lI,an1] at h
  obtain⟨l1,h1,h2⟩:=h
  obtain⟨y,hy,d,hd,hxd⟩:=jQ h2 x hx
  have hyI:=pF n a s l1 h1 hI y hy
  obtain⟨e,s1⟩:=y
  cases e with
  | normal=>exact pF n b s1 d hd hyI x hxd
  | exit i=>injection hd with hd;subst hd;rw[aos.1 hxd];exact hyI
  | ret=>injection hd with hd;subst hd;rw[aos.1 hxd];exact hyI
 | .cond c a b,s,l,h,hI,x,hx=>by
  simp only[lI] at h
  split at h
  ·exact pF n a s l h hI x hx
  ·exact pF n b s l h hI x hx
  ·cases h
 | .block id a,s,l,h,hI,x,hx=>by
  simp only[lI,an0] at h
  obtain⟨l1,h1,rfl⟩:=h
  obtain⟨y,hy,rfl⟩:=aoy.1 hx
  have:=pF n a s l1 h1 hI y hy
  obtain⟨e,s1⟩:=y
  cases e<;>exact this
 | .loop a,s,l,h,hI,x,hx=>yR (fun s l h1 h2=>pF n a s l h1 h2) n s l h hI x hx
 | .exit id,s,l,h,hI,x,hx=>by
  simp only[lI,an2] at h
  rw[<- h] at hx;rw[aos.1 hx];exact hI
 | .ret,s,l,h,hI,x,hx=>by
  simp only[lI,an2] at h
  rw[<- h] at hx;rw[aos.1 hx];exact hI
 | .vn nt ops pre,s,l,h,hI,x,hx=>by
  simp only[lI,an0] at h
  obtain⟨l1,h1,rfl⟩:=h
  obtain⟨c,hc,rfl⟩:=aoy.1 hx
  refine Bz jH ops.length _ l1 h1 (fun y hy=>?_) c hc
  rw[aos.1 hy]
  exact hI.fK rfl rfl
end
def K8(base:Nat)(fn:aJ)(x:bP × AS):Option (AV × Option gJ) :=
 match x.1 with
 | .exit _=>none
 | _=>finish base fn x.2
def oneOf(base:Nat)(fn:aJ):List (bP × AS)->Option (AV × Option gJ)
 | []=>none
 | x :: l=>(K8 base fn x).bind fun r=>cond (l.all fun y=>match K8 base fn y with
  | some q=>eqR q r
  | none=>false) (some r) none
theorem MU{base:Nat}{fn:aJ}{l:List (bP × AS)}{r:AV × Option gJ}(h:oneOf base fn l=some r):∀ x∈l,K8 base fn x=some r:=by
 cases l with
 | nil=>cases h
 | cons y l =>
  simp only[oneOf,an1] at h
  obtain⟨q,hq,h⟩:=h
  obtain⟨h0,h⟩:=ae h
  injection h with h
  subst h
  intro x hx
  rcases aoN.1 hx with rfl|hx
  ·exact hq
  ·have:=aof.1 h0 x hx
   split at this
   ·rename_i z hz
    rw[hz,ZS this]
   ·cases this
def runN(G:Nat->List AV)(cf:dq)(n:Nat)(fn:aJ)(args:List AV)(H:ah):Option (AV × Option gJ) :=
 cond (Nat.beq args.length fn.np) ((lI G cf n fn.body { T:=gu args,H,lo:=H.length,gen:=0 }).bind (oneOf H.length fn)) none
def FC(A:AP):Nat->dq
 | 0=>fun _ _ _=>none
 | n+1=>fun f args H=>match A.ov f with
  | some g=>cond (args.all uP) (g args H) none
  | none=>match A.fns f with
   | none=>none
   | some fn=>runN A.aZ (FC A n) n fn args H
section
variable {P:Program}{G:Nat->List AV}{H:ah}
theorem Ke{cf:dq}(jH:fc P G cf)(hm:P.follows .mixedOrders=true){f:FuncId}{fn:Func}(zQ:P.funcs[f]?=some fn){ct locals muts:List Nat}{nI:aJ}(hc:oY P ct locals muts fn=some nI)
  {n:Nat} {args:List AV} {r:AV} {c:Option gJ} (he:runN G cf n nI args H=some (r,c)) :
  (fn.body.isSome=true/\fn.name≠ "runtime.NumGoroutine")/\kY H c /\
  ∀ (base:Nat) (gh:Gh) (w:World) (vs:Array Value),aX G base H gh w->clean gh->vs.size=args.length->(∀ (j:Nat) (v:Value) (x:AV),vs[j]?=some v->args[j]?=some x->CR gh H.length w (.par j) v x) ->
   Calls P f vs w fun e w'=>∃ v aV,e=.returned v/\l8 G base H gh w r c v aV w':=by
 simp only[oY,an1] at hc
 obtain⟨code,qL,b,hb,rs,A',hc⟩:=hc
 obtain⟨h0,hc⟩:=ae hc
 injection hc with hc
 subst hc
 simp only[aod,ao2,bne_iff_ne,ne_eq] at h0
 simp only[runN] at he
 obtain⟨h1,he⟩:=ae he
 have DE:args.length=fn.params.size+fn.nfree:=by simpa [fW] using h1
 simp only[an1] at he
 obtain⟨l,bH,he⟩:=he
 have dA:=MU he
 have rN:kY H c:=by
  have qp:=pF (H:=H) (fun f args H r c h=>(jH f args H r c h).2.1) n b _ l bH ⟨aoa _,aoa _,fun _ _=>rfl⟩
  cases l with
  | nil=>cases he
  | cons x l =>
   have h2:=dA x aoF
   have h3:=qp x aoF
   obtain⟨ex,s'⟩:=x
   cases ex with
   | normal=>exact nu h3 h2
   | exit id=>cases h2
   | ret=>exact nu h3 h2
 refine⟨⟨by rw[qL];rfl,h0.2⟩,rN,fun base gh w vs hW jW ve cL=>?_⟩
 refine calls_of_wp zQ qL ?_
 have gO:vs.size<=fn.ntmps:=by omega
 have hI:=yL (locals:=locals) (muts:=muts) hW ve gO cL
 refine lC jH hm code b hb _ gh.taken w _ _ _ hI (pG n b _ l (fun e s=>K8 H.length { ct,locals,muts,nt:=fn.ntmps,np:=fn.params.size+fn.nfree,results:=rs,body:=b } (e,s)=some (r,c)) bH (fun x hx=>dA x hx)) (fun e s' a' aV w' hr kW=>?_)
 cases e with
 | exit i=>cases hr
 | normal =>
  obtain⟨_,v,Je,hv,hR⟩:=py (P:=P) hW jW kW A' hr
  exact⟨kW.F.defers,v,hv,v,Je,rfl,hR⟩
 | ret =>
  obtain⟨_,v,Je,hv,hR⟩:=py (P:=P) hW jW kW A' hr
  exact⟨kW.F.defers,v,hv,v,Je,rfl,hR⟩
theorem AU{A:AP}(h:oB P A):∀ n,fc P A.aZ (FC A n)
 | 0=>fun f args H r c he=>by cases he
 | n+1=>fun f args H r c he=>by
  simp only[FC] at he
  split at he
  ·rename_i g hg
   obtain⟨h0,he⟩:=ae he
   obtain⟨k1,k2,k3⟩:=h.ov f g hg args H r c he
   refine⟨k1,k2,fun base gh w vs hW jW ve cL=>k3 base gh w vs hW jW ve (fun j v x hv hx=>?_)⟩
   rcases cL j v x hv hx with h|⟨e,rfl,_⟩
   ·exact h
   ·have:=aof.1 h0 _ (aoo hx)
    simp[uP] at this
  ·split at he
   ·cases he
   ·rename_i nI hf
    obtain⟨fn,ct,locals,muts,zQ,hc⟩:=h.fns f nI hf
    obtain⟨⟨h1,h2⟩,h3,h4⟩:=Ke (AU h n) h.mixed zQ hc he
    exact⟨⟨fn,zQ,h1,h2⟩,h3,h4⟩
theorem ZT{A:AP}(h:oB P A)(n:Nat)(f:FuncId):iQ P A.aZ f (FC A n f):=by
 intro args H r c he
 obtain⟨k1,k2,k3⟩:=AU h n f args H r c he
 exact⟨k1,k2,fun base gh w vs hW jW ve cL=>k3 base gh w vs hW jW ve fun j v x hv hx=>.inl (cL j v x hv hx)⟩
end
end
structure vj where
 f:FuncId
 args:List AV
 heap:ah
 out:AV × Option gJ
def KI(f:FuncId)(args:List AV)(H:ah):List vj->Option (AV × Option gJ)
 | []=>none
 | e :: r=>cond (Nat.beq e.f f&&DD e.args args&&TG e.heap H) (some e.out) (KI f args H r)
def RB(tb:List vj)(cf:dq):dq:=fun f args H=>match KI f args H tb with
 | some r=>some r
 | none=>cf f args H
theorem FN{cf:dq}{f:FuncId}{args:List AV}{H:ah}{r:AV × Option gJ} : ∀ {tb:List vj},(∀ e∈tb,cf e.f e.args e.heap=some e.out)->KI f args H tb=some r->cf f args H=some r
 | [],_,h=>by cases h
 | e :: tb,lL,h=>by
  simp only[KI] at h
  cases hb:(Nat.beq e.f f&&DD e.args args&&TG e.heap H) with
  | true =>
   rw[hb] at h
   injection h with h
   simp only[aod] at hb
   obtain⟨⟨h1,h2⟩,h3⟩:=hb
   have e1:e.f=f:=apo h1
   have:=lL e (aoF ..)
   rw[e1,lK _ _ h2,Cp h3,h] at this
   exact this
  | false =>
   rw[hb] at h
   exact FN (fun e he=>lL e (apl _ he)) h
theorem V'{cf:dq}{tb:List vj}(lL:∀ e∈tb,cf e.f e.args e.heap=some e.out):RB tb cf=cf:=by
 funext f args H
 unfold RB
 split
 ·rename_i r h;exact (FN lL h).symm
 ·rfl
theorem Oy{A:AP}{n:Nat}{f:FuncId}{fn:aJ}{args:List AV}{H:ah}{tb:List vj}(ho:A.ov f=none)(hf:A.fns f=some fn)(lL:∀ e∈tb,FC A n e.f e.args e.heap=some e.out) :
  FC A (n+1) f args H=runN A.aZ (RB tb (FC A n)) n fn args H:=by
 rw[V' lL]
 simp only[FC,ho,hf]
end Go.Abs
