/-
  A part of the proof of PrintLossless: AbsLoc, AbsCode.
-/
import Derived.Test.YtnhpoddlmjpapaaGreatDoorQ05
set_option linter.unusedSimpArgs false
set_option linter.unusedVariables false
set_option linter.defProp false
noncomputable section
namespace Go.Abs
variable {s1:AS}{r:AV}{C:Array Value}{pc:Bool}{fn:Func}{ghI:Gh}{cs:List AV}{is:List aS}{rs:List gY}{j l loc m sz z:Nat}{E:Nat->qP}{ty:TypeId}{v v0:Value}{w0 wI:World}{y:aE}{o:aS}{H0:ae}{qd:ax}{p:bL}{op:oc}
section
structure Agr (e:qP) (s x:AS):Prop where
 T:∀ t,t∈e.rs->x.T t=s.T t
 H:e.rh=true\/e.wh=true->x.H=s.H/\x.lo=s.lo
 G:e.wg=true->x.gen=s.gen
structure fW (e:qP) (s1 x x1:AS):Prop where
 T:∀ t,t∈e.ws->x1.T t=s1.T t
 T' : ∀ t,t∉e.ws->x1.T t=x.T t
 H:e.wh=true->x1.H=s1.H/\x1.lo=s1.lo
 H' : e.wh=false->x1.H=x.H/\x1.lo=x.lo
 G:e.wg=true->x1.gen=s1.gen
 G' : e.wg=false->x1.gen=x.gen
def fW.stay{e:qP}{s x:AS}(h:Agr e s x)(hw:∀ t,t∈e.ws->t∈e.rs):fW e s x x :=
 ⟨fun t ht=>h.T t (hw t ht),fun _ _=>rfl,fun hh=>h.H (.inr hh),fun _=>⟨rfl,rfl⟩,fun hg=>h.G hg,fun _=>rfl⟩
section
variable {G:Nat->List AV}{cf:gD}{s x:AS}{e:qP}
def R4(h:∀ t,t∈e.rs->x.T t=s.T t)(hy:∀ t,t∈y.tmps->t∈e.rs):y.eval G x.T=y.eval G s.T:=by
 cases y<;>try rfl
 rename_i t;exact h t (hy t (by simp[aE.tmps]))
def B5(h:∀ t,t∈e.rs->x.T t=s.T t)(hy:∀ t,t∈y.tmps->t∈e.rs):y.addr G x.T=y.addr G s.T:=by
 cases y<;>try rfl
 rename_i t;simp only[aE.addr];rw[h t (hy t (by simp[aE.tmps]))]
def fT(pc:Bool):oc->oc
 | .call f xs=>cond pc (.Ch f xs) (.call f xs)
 | o=>o
def A1(pc:Bool)(o:aS):nh pc o=⟨o.dst,o.guard,fT pc o.op⟩:=by
 obtain⟨d,g,op⟩:=o;cases op<;>simp only[nh,fT]
 cases pc<;>rfl
def fM(s:AS)(t:Nat)(v:AV)(k:Nat):(s.cy t v).T k=if k=t then v else s.T k:=kZ s.T t v k
def Dc{c:RA}{Y:AV}(h:aN s Y=true)(hc:gv c Y=true)(hT:∀ b,b∈iv c->x.T b=s.T b):aN x Y=true:=by
 cases Y<;>simp only[aN] at h ⊢<;>try (cases h;done)
 case lref b g off =>
  cases c with
  | frame b' =>
   simp only[gv,iE,au1] at hc;subst hc;rw[hT b' (ava.2 rfl)];exact h
  | _=>cases hc
 case eref=>cases c<;>cases hc
def YG{c:RA}(he:F7 pc c op=some e)(hc:∀ y,(∃ t a z,op=.load t a z y)\/(∃ z v,op=.store z y v)\/op=.nilCheck y\/(∃ f,op=.fieldAddr f y)\/(∃ n z i,op=.ixArr n z y i)->gv c (y.addr G s.T)=true)
  (gT:∀ y,(∃ z i,op=.ixSl z y i)\/(∃ k,op=.len k y)->gv .heap (y.addr G s.T)=true)
  {z:AV} {so:Option AS} (cu:aQ G cf s (fT pc op)=some (z,so)) (ha:Agr e s x) :
  ∃ xo,aQ G cf x op=some (z,xo)/\fW e (so.getD s) x (xo.getD x)/\(∀ t,t∈e.ws->t∈e.rs):=by
 have stay:(∀ t,t∈e.ws->t∈e.rs)->so=none->aQ G cf x op=some (z,none)->∃ xo,aQ G cf x op=some (z,xo)/\fW e (so.getD s) x (xo.getD x)/\(∀ t,t∈e.ws->t∈e.rs):=by
  rintro hw rfl h
  exact⟨none,h,fW.stay ha hw,hw⟩
 have ev:∀ {y:aE},(∀ t,t∈y.tmps->t∈e.rs)->y.eval G x.T=y.eval G s.T:=fun hy=>R4 ha.T hy
 have ad:∀ {y:aE},(∀ t,t∈y.tmps->t∈e.rs)->y.addr G x.T=y.addr G s.T:=fun hy=>B5 ha.T hy
 have KC:∀ {X:Option AV} {w:AV} {o:Option AS},X.map (fun v=>(v,(none:Option AS)))=some (w,o)->o=none:=by
  intro X w o h;cases X with
  | none=>cases h
  | some v=>simp at h;exact h.2.symm
 have pure' : (∀ t,t∈e.ws->t∈e.rs)->PP (fun _=>False) (aQ G cf s (fT pc op))->aQ G cf x op=aQ G cf s (fT pc op)->∃ xo,aQ G cf x op=some (z,xo)/\fW e (so.getD s) x (xo.getD x)/\(∀ t,t∈e.ws->t∈e.rs):=fun hw hp hx=>by
  cases so with
  | none=>exact stay hw rfl (hx.trans cu)
  | some s1=>exact (hp _ _ cu).elim
 cases op<;>simp only[F7] at he<;>try (cases he;done)
 case bin|mm|un|U3|conv|pick|index|rj|extract =>
  simp only[auR] at he;subst he;refine pure' (fun t h=>by cases h) ?_ (by simp (disch:=(intro t h;simp[oc.tmps,h])) only[fT,aQ,ev,ad])
  simp only[fT,aQ]
  repeat' first
   | exact PP.none
   | exact PP.stay
   | refine PP.cond ?_ ?_
   | refine PP.bind fun _=>?_
   | refine PP.map fun _=>?_
   | split
 case look m k =>
  simp only[auR] at he;subst he;refine pure' (fun t h=>by cases h) ?_ (by
   simp only[fT,aQ,ad (y:=m) fun t h=>auY.2 (.inl h),ev (y:=k) fun t h=>auY.2 (.inr h)]
   unfold wU yU;simp only[(ha.H (.inl rfl)).1])
  simp only[fT,aQ,wU]
  repeat' first
   | exact PP.none
   | exact PP.stay
   | refine PP.cond ?_ ?_
   | refine PP.bind fun _=>?_
   | refine PP.map fun _=>?_
   | split
 case mov take obj y =>
  cases obj with
  | true=>cases he
  | false =>
   simp only[cond_false,auR] at he;subst he;have hw:∀ t,t∈(cond take y.tmps [])->t∈y.tmps:=by cases take<;>simp
   simp only[fT,aQ] at cu ⊢;cases y with
   | tmp t =>
    have ht:=ha.T t (by simp[aE.tmps])
    simp only[qZ] at cu ⊢;rw[ht];generalize s.T t=X at cu ht;cases X
    case slice el own =>
     cases OI:(take&&own) with
     | false =>
      simp only[OI,cond_false,auR,auV] at cu;obtain⟨rfl,rfl⟩:=cu;exact⟨none,by simp only[OI,cond_false],fW.stay ha hw,hw⟩
     | true =>
      simp only[auT] at OI;obtain⟨rfl,rfl⟩:=OI;simp only[Bool.and_self,cond_true,auR,auV] at cu;obtain⟨rfl,rfl⟩:=cu;refine⟨some (x.cy t (.slice el false)),rfl,⟨fun k hk=>?_,fun k hk=>?_,fun h=>(by cases h),fun _=>⟨rfl,rfl⟩,fun h=>(by cases h),fun _=>rfl⟩,hw⟩
      ·simp only[cond_true,aE.tmps,ava] at hk
       simp only[avN,fM,hk,awE]
      ·simp only[cond_true,aE.tmps,ava] at hk
       simp only[avN,fM,if_neg hk]
    case lsl g el =>
     cases take with
     | true =>
      simp only[cond_true,cond_false] at cu;obtain⟨h0,cu⟩:=al cu;simp only[auR,auV] at cu;obtain⟨rfl,rfl⟩:=cu;refine⟨some (x.cy t (.slice el false)),by simp only[h0,cond_true,cond_false],⟨fun k hk=>?_,fun k hk=>?_,fun h=>(by cases h),fun _=>⟨rfl,rfl⟩,fun h=>(by cases h),fun _=>rfl⟩,hw⟩
      ·simp only[cond_true,aE.tmps,ava] at hk
       simp only[avN,fM,hk,awE]
      ·simp only[cond_true,aE.tmps,ava] at hk
       simp only[avN,fM,if_neg hk]
     | false =>
      simp only[cond_false,auR,auV] at cu;obtain⟨rfl,rfl⟩:=cu;exact⟨none,rfl,fW.stay ha hw,hw⟩
    case iter=>cases cu
    all_goals
     simp only[auR,auV] at cu;obtain⟨rfl,rfl⟩:=cu;exact⟨none,rfl,fW.stay ha hw,hw⟩
   | _ =>
    simp only[qZ,auR,auV] at cu;obtain⟨rfl,rfl⟩:=cu;exact⟨none,rfl,fW.stay ha hw,hw⟩
 case allocL zs =>
  simp only[auR] at he;subst he;simp only[fT,aQ,auR,auV] at cu;obtain⟨rfl,rfl⟩:=cu;have hg:=ha.G rfl;refine⟨some { x with gen:=x.gen+1 },by simp only[aQ,hg],⟨fun k hk=>(by cases hk),fun _ _=>rfl,fun h=>(by cases h),fun _=>⟨rfl,rfl⟩,fun _=>?_,fun h=>(by cases h)⟩,fun k hk=>(by cases hk)⟩
  simp[hg]
 case boxL y =>
  simp only[auR] at he;subst he;simp only[fT,aQ,auP,auV] at cu;obtain⟨cs,iG,rfl,rfl⟩:=cu;have hg:=ha.G rfl;refine⟨some { x with gen:=x.gen+1 },by simp only[aQ,hg,ev (y:=y) (fun t h=>h),iG,au2],⟨fun k hk=>(by cases hk),fun _ _=>rfl,fun h=>(by cases h),fun _=>⟨rfl,rfl⟩,fun _=>?_,fun h=>(by cases h)⟩,fun k hk=>(by cases hk)⟩
  simp[hg]
 case build zs ps =>
  simp only[auR] at he;subst he;have e1:(ps.map fun p=>(p.1,p.2.1,(p.2.2.eval G x.T).drop))=ps.map fun p=>(p.1,p.2.1,(p.2.2.eval G s.T).drop):=List.map_congr_left fun p hp=>by
   rw[ev (y:=p.2.2) (fun t h=>by simp only[oc.tmps,aws];exact⟨p,hp,h⟩)]
  simp only[fT,aQ,auP,auV] at cu;obtain⟨E,hE,rfl,rfl⟩:=cu;exact stay (fun t h=>by cases h) rfl (by simp only[aQ,e1,hE,au2])
 case mkslice b sz zs ps =>
  simp only[auR] at he;subst he;have e1:(ps.map fun p=>(p.1,(p.2.eval G x.T).drop))=ps.map fun p=>(p.1,(p.2.eval G s.T).drop):=List.map_congr_left fun p hp=>by
   rw[ev (y:=p.2) (fun t h=>by simp only[oc.tmps,aws];exact⟨p,hp,h⟩)]
  simp only[fT,aQ,auQ] at cu;obtain⟨E,hE,cu⟩:=cu;obtain⟨h0,cu⟩:=al cu;simp only[auR,auV] at cu;obtain⟨rfl,rfl⟩:=cu;exact stay (fun t h=>by cases h) rfl (by simp only[aQ,e1,hE,auW,h0,cond_true])
 case slice k y lo hi mx =>
  simp only[auR] at he;subst he;simp only[fT,aQ] at cu;have D6:=KC cu;subst D6;have opt:∀ o:Option aE,(∀ t,t∈o.toList.flatMap aE.tmps->t∈(oc.slice k y lo hi mx).tmps)->o.map (·.eval G x.T)=o.map (·.eval G s.T):=by
   intro o ho;cases o with
   | none=>rfl
   | some q=>simp only[au2];rw[ev (y:=q) (fun t hm=>ho t (xD hm))]
  exact stay (fun t h=>by cases h) rfl (by
   simp only[aQ];rw[ev (y:=y) (fun t hm=>by simp only[oc.tmps,auY];exact .inl (.inl (.inl hm))),
    opt lo (fun t hm=>by simp only[oc.tmps,auY];exact .inl (.inl (.inr hm))),
    opt hi (fun t hm=>by simp only[oc.tmps,auY];exact .inl (.inr hm)),
    opt mx (fun t hm=>by simp only[oc.tmps,auY];exact .inr hm)]
   exact cu)
 case mkfunc f a b =>
  simp only[auR] at he;subst he;simp only[fT,aQ] at cu;obtain⟨h0,cu⟩:=al cu;simp only[auR,auV] at cu;obtain⟨rfl,rfl⟩:=cu;have ha:∀ y,y∈a->y.addr G x.T=y.addr G s.T:=fun y hy=>ad (y:=y) (fun t h=>by
   simp only[oc.tmps,auY,aws];exact .inl ⟨y,hy,h⟩)
  have hb:∀ y,y∈b->y.addr G x.T=y.addr G s.T:=fun y hy=>ad (y:=y) (fun t h=>by
   simp only[oc.tmps,auY,aws];exact .inr ⟨y,hy,h⟩)
  have e1:=List.map_congr_left ha;have e2:=List.map_congr_left hb;have e3:(a.map fun a=>(a.addr G x.T).drop)=a.map fun a=>(a.addr G s.T).drop:=List.map_congr_left fun y hy=>by rw[ha y hy]
  have e4:(b.map fun a=>(a.addr G x.T).drop)=b.map fun a=>(a.addr G s.T).drop:=List.map_congr_left fun y hy=>by rw[hb y hy]
  exact stay (fun t h=>by cases h) rfl (by simp only[aQ];rw[e1,e2,e3,e4,h0,cond_true])
 case load take agg sz y =>
  simp only[auR] at he;subst he;have mo:=hc y (.inl ⟨take,agg,sz,rfl⟩);simp only[fT,aQ] at cu ⊢;rw[ad (y:=y) (fun t h=>auY.2 (.inl h))]
  generalize y.addr G s.T=Y at cu mo;have hw:∀ t,t∈(cond (take&&!agg) (iv c) [])->t∈y.tmps++iv c:=by
   intro t ht;cases hb:(take&&!agg) with
   | false=>rw[hb] at ht;cases ht
   | true=>rw[hb] at ht;exact auY.2 (.inr ht)
  cases Y<;>simp only[cO] at cu<;>try (cases cu;done)
  case eptr cs =>
   simp only[auP,auV] at cu;obtain⟨v,hv,rfl,rfl⟩:=cu;exact⟨none,by simp only[cO,hv,au2],fW.stay ha hw,hw⟩
  case ref loc off =>
   cases c with
   | frame b=>cases mo
   | heap =>
    obtain⟨hH,hl⟩:=ha.H (.inl rfl);split at cu
    ·rename_i ty cs Ow
     simp only[auP,auV] at cu;obtain⟨v,hv,rfl,rfl⟩:=cu
     by_cases hta:take=true/\agg=false
     ·obtain⟨rfl,rfl⟩:=hta
      refine⟨some (x.iF ⟨s.H.set loc (.box ty (cJ off cs)),loc⟩),by simp only[cO,hH,Ow,hv,au2,av5,Bool.and_self,cond_true],⟨fun k hk=>(by cases hk),fun k hk=>rfl,fun _=>⟨rfl,?_⟩,fun h=>(by cases h),fun h=>(by cases h),fun _=>rfl⟩,hw⟩
      simp only[av5,Bool.and_self,cond_true,avN,AS.iF,hl]
     ·have hb:(take&&!agg)=false:=by cases take<;>cases agg<;>simp_all
      have D6:∀ A:AS,(cond (take&&!agg) (some A) none:Option AS)=none:=fun A=>by rw[hb];rfl
      rw[D6];exact⟨none,by simp only[cO,hH,Ow,hv,au2,D6],fW.stay ha hw,hw⟩
    ·rename_i cs Ow
     simp only[auP,auV] at cu;obtain⟨v,hv,rfl,rfl⟩:=cu;exact⟨none,by simp only[cO,hH,Ow,hv,au2],fW.stay ha hw,hw⟩
    ·rename_i cs Ow
     simp only[auP,auV] at cu;obtain⟨v,hv,rfl,rfl⟩:=cu;exact⟨none,by simp only[cO,hH,Ow,hv,au2],fW.stay ha hw,hw⟩
    ·cases cu
  case lref b g off =>
   cases c with
   | heap=>cases mo
   | frame b' =>
    simp only[gv,iE,au1] at mo;subst mo;have hTb:=ha.T b' (auY.2 (.inr (ava.2 rfl)));split at cu
    ·rename_i g' cs hT
     obtain⟨h0,cu⟩:=al cu;simp only[auP,auV] at cu;obtain⟨v,hv,rfl,rfl⟩:=cu;rw[hT] at hTb
     by_cases hta:take=true/\agg=false
     ·obtain⟨rfl,rfl⟩:=hta
      refine⟨some (x.cy b' (.lbox g (cJ off cs))),by simp only[cO,hTb,h0,cond_true,hv,au2,av5,Bool.and_self],⟨fun k hk=>?_,fun k hk=>?_,fun h=>(by cases h),fun _=>⟨rfl,rfl⟩,fun h=>(by cases h),fun _=>rfl⟩,hw⟩
      ·simp only[av5,Bool.and_self,cond_true,iv,ava] at hk
       simp only[av5,Bool.and_self,cond_true,avN,fM,hk,awE]
      ·simp only[av5,Bool.and_self,cond_true,iv,ava] at hk
       simp only[avN,fM,if_neg hk]
     ·have hb:(take&&!agg)=false:=by cases take<;>cases agg<;>simp_all
      have D6:∀ A:AS,(cond (take&&!agg) (some A) none:Option AS)=none:=fun A=>by rw[hb];rfl
      rw[D6];exact⟨none,by simp only[cO,hTb,h0,cond_true,hv,au2,D6],fW.stay ha hw,hw⟩
    ·cases cu
  case eref=>cases c<;>cases mo
 case nilCheck y =>
  simp only[auR] at he;subst he;have mo:=hc y (.inr (.inr (.inl rfl)));simp only[fT,aQ] at cu ⊢;rw[ad (y:=y) (fun t h=>auY.2 (.inl h))]
  generalize y.addr G s.T=Y at cu mo;obtain⟨h0,cu⟩:=al cu;simp only[auR,auV] at cu;obtain⟨rfl,rfl⟩:=cu;have h1:=Dc h0 mo (fun b hb=>ha.T b (auY.2 (.inr hb)))
  exact⟨none,by simp only[h1,cond_true],fW.stay ha (fun t h=>by cases h),fun t h=>by cases h⟩
 case fieldAddr off y =>
  simp only[auR] at he;subst he;have mo:=hc y (.inr (.inr (.inr (.inl ⟨off,rfl⟩))));simp only[fT,aQ] at cu ⊢;rw[ad (y:=y) (fun t h=>auY.2 (.inl h))]
  generalize y.addr G s.T=Y at cu mo;obtain⟨h0,cu⟩:=al cu;have D6:=KC cu;subst D6;have h1:=Dc h0 mo (fun b hb=>ha.T b (auY.2 (.inr hb)))
  exact⟨none,by simp only[h1,cond_true];exact cu,fW.stay ha (fun t h=>by cases h),fun t h=>by cases h⟩
 case ixArr n sz y i =>
  simp only[auR] at he;subst he;have mo:=hc y (.inr (.inr (.inr (.inr ⟨n,sz,i,rfl⟩))));simp only[fT,aQ,auQ] at cu ⊢;obtain⟨k,hk,cu⟩:=cu;rw[ad (y:=y) (fun t h=>by simp[h]),ev (y:=i) (fun t h=>by simp[h])]
  generalize y.addr G s.T=Y at cu mo;obtain⟨h0,cu⟩:=al cu;simp only[auT] at h0;have D6:=KC cu;subst D6;have h1:=Dc h0.2 mo (fun b hb=>ha.T b (xD hb))
  exact⟨none,⟨k,hk,by simp only[h0.1,h1,Bool.and_self,cond_true];exact cu⟩,fW.stay ha (fun t h=>by cases h),fun t h=>by cases h⟩
 case ixSl sz y i =>
  simp only[auR] at he;subst he;have mo:=gT y (.inl ⟨sz,i,rfl⟩);simp only[fT,aQ] at cu ⊢;rw[ad (y:=y) (fun t h=>auY.2 (.inl h)),ev (y:=i) (fun t h=>auY.2 (.inr h))]
  generalize y.addr G s.T=Y at cu mo;cases Y<;>try (cases cu;done)
  case slice el own =>
   simp only[auQ] at cu;obtain⟨k,hk,r,hr,cu⟩:=cu;obtain⟨h0,cu⟩:=al cu;simp only[auR,auV] at cu;obtain⟨rfl,rfl⟩:=cu;exact⟨none,by simp only[hk,auW,hr,h0,cond_true],fW.stay ha (fun t h=>by cases h),fun t h=>by cases h⟩
  case sref l o m zz =>
   simp only[auQ] at cu;obtain⟨k,hk,cu⟩:=cu;obtain⟨h0,cu⟩:=al cu;simp only[auR,auV] at cu;obtain⟨rfl,rfl⟩:=cu;exact⟨none,by simp only[hk,auW,h0,cond_true],fW.stay ha (fun t h=>by cases h),fun t h=>by cases h⟩
  case lsr=>cases mo
 case len k y =>
  simp only[auR] at he;subst he;have mo:=gT y (.inr ⟨k,rfl⟩);simp only[fT,aQ] at cu ⊢;rw[ad (y:=y) (fun t h=>h)]
  generalize y.addr G s.T=Y at cu mo;cases Y
  case lsr=>cases mo
  all_goals
   have D6:=KC cu;subst D6;exact⟨none,cu,fW.stay ha (fun t h=>by cases h),fun t h=>by cases h⟩
 case store sz y v =>
  simp only[auR] at he;subst he;have mo:=hc y (.inr (.inl ⟨sz,v,rfl⟩));have hw:∀ t,t∈v.tmps++iv c->t∈y.tmps++v.tmps++iv c:=fun t ht=>by
   rcases auY.1 ht with h|h
   ·exact auY.2 (.inl (auY.2 (.inr h)))
   ·exact auY.2 (.inr h)
  have hv:=ev (y:=v) (fun t h=>auY.2 (.inl (auY.2 (.inr h))))
  have hvT:∀ t,t∈v.tmps->x.T t=s.T t:=fun t h=>ha.T t (auY.2 (.inl (auY.2 (.inr h))))
  simp only[fT,aQ,auP,auV] at cu ⊢;obtain⟨s1,cu,rfl,rfl⟩:=cu;rw[ad (y:=y) (fun t h=>auY.2 (.inl (auY.2 (.inl h)))),hv]
  generalize y.addr G s.T=Y at cu mo;have sp:∀ (s1 x1:AS),(∀ t,t∈v.tmps->x1.T t=s1.T t)->(∀ t,t∈v.tmps->(x1.bC v).T t=(s1.bC v).T t)/\(∀ t,t∉v.tmps->(x1.bC v).T t=x1.T t)/\(∀ t,t∉v.tmps->(s1.bC v).T t=s1.T t):=by
   intro s1 x1 h;cases v with
   | tmp t0 =>
    have h0:=h t0 (by simp[aE.tmps])
    by_cases ho:∃ el,s1.T t0=.slice el true
    ·obtain⟨el,ho⟩:=ho
     rw[vH s1 t0 ho,vH x1 t0 (h0.trans ho)];refine⟨fun t ht=>?_,fun t ht=>?_,fun t ht=>?_⟩
     ·simp only[aE.tmps,ava] at ht
      rw[fM,fM,if_pos ht,if_pos ht]
     ·simp only[aE.tmps,ava] at ht
      rw[fM,if_neg ht]
     ·simp only[aE.tmps,ava] at ht
      rw[fM,if_neg ht]
    ·have OE:∀ el,s1.T t0≠.slice el true:=fun el h=>ho ⟨el,h⟩
     rw[rN s1 t0 OE,rN x1 t0 (fun el h=>OE el (h0.symm.trans h))]
     exact⟨h,fun _ _=>rfl,fun _ _=>rfl⟩
   | _=>exact⟨fun t ht=>by simp[aE.tmps] at ht,fun _ _=>rfl,fun _ _=>rfl⟩
  simp only[au] at cu ⊢;split at cu
  ·cases cu
  rename_i vs Fx;obtain⟨h0,aij⟩:=al cu;clear cu;have cu:=aij;clear aij;cases Y<;>(try dsimp only at cu ⊢)<;>try (cases cu;done)
  case ref loc off =>
   cases c with
   | frame b=>cases mo
   | heap =>
    obtain⟨hH,hl⟩:=ha.H (.inl rfl);split at cu
    ·rename_i ty cs Ow
     obtain⟨h1,cu⟩:=al cu;injection cu with cu
     subst cu;obtain⟨k1,k2,k3⟩:=sp (s.iF ⟨s.H.set loc (.box ty (putAt cs off vs)),loc⟩) (x.iF ⟨x.H.set loc (.box ty (putAt cs off vs)),loc⟩) hvT;refine⟨some ((x.iF ⟨x.H.set loc (.box ty (putAt cs off vs)),loc⟩).bC v),⟨x.iF ⟨x.H.set loc (.box ty (putAt cs off vs)),loc⟩,by simp only[h0,cond_true,hH,Ow,h1],trivial,rfl⟩,⟨fun k hk=>?_,fun k hk=>?_,fun _=>?_,fun h=>(by cases h),fun h=>(by cases h),fun _=>?_⟩,hw⟩
     ·exact k1 k (by simpa [iv] using hk)
     ·exact k2 k (by simpa [iv] using hk)
     ·obtain⟨q1,_,q3⟩:=iZ (x.iF ⟨x.H.set loc (.box ty (putAt cs off vs)),loc⟩) v
      obtain⟨r1,_,r3⟩:=iZ (s.iF ⟨s.H.set loc (.box ty (putAt cs off vs)),loc⟩) v;exact⟨q1.trans (axB (by simp only[AS.iF,hH]) r1.symm),q3.trans (axB (by simp only[AS.iF,hl]) r3.symm)⟩
     ·obtain⟨_,q2,_⟩:=iZ (x.iF ⟨x.H.set loc (.box ty (putAt cs off vs)),loc⟩) v
      exact q2.trans rfl
    ·rename_i cs Ow
     obtain⟨h1,cu⟩:=al cu;injection cu with cu
     subst cu;obtain⟨k1,k2,k3⟩:=sp (s.iF ⟨s.H.set loc (.bV (putAt cs off vs)),loc⟩) (x.iF ⟨x.H.set loc (.bV (putAt cs off vs)),loc⟩) hvT;refine⟨some ((x.iF ⟨x.H.set loc (.bV (putAt cs off vs)),loc⟩).bC v),⟨x.iF ⟨x.H.set loc (.bV (putAt cs off vs)),loc⟩,by simp only[h0,cond_true,hH,Ow,h1],trivial,rfl⟩,⟨fun k hk=>?_,fun k hk=>?_,fun _=>?_,fun h=>(by cases h),fun h=>(by cases h),fun _=>?_⟩,hw⟩
     ·exact k1 k (by simpa [iv] using hk)
     ·exact k2 k (by simpa [iv] using hk)
     ·obtain⟨q1,_,q3⟩:=iZ (x.iF ⟨x.H.set loc (.bV (putAt cs off vs)),loc⟩) v
      obtain⟨r1,_,r3⟩:=iZ (s.iF ⟨s.H.set loc (.bV (putAt cs off vs)),loc⟩) v;exact⟨q1.trans (axB (by simp only[AS.iF,hH]) r1.symm),q3.trans (axB (by simp only[AS.iF,hl]) r3.symm)⟩
     ·obtain⟨_,q2,_⟩:=iZ (x.iF ⟨x.H.set loc (.bV (putAt cs off vs)),loc⟩) v
      exact q2.trans rfl
    ·cases cu
  case lref b g off =>
   cases c with
   | heap=>cases mo
   | frame b' =>
    simp only[gv,iE,au1] at mo;subst mo;have hTb:=ha.T b' (auY.2 (.inr (ava.2 rfl)));split at cu
    ·rename_i g' cs hT
     obtain⟨h1,cu⟩:=al cu;injection cu with cu
     subst cu;rw[hT] at hTb;have aoh:∀ t,t∈v.tmps->(x.cy b' (.lbox g (putAt cs off vs))).T t=(s.cy b' (.lbox g (putAt cs off vs))).T t:=fun t ht=>by rw[fM,fM,hvT t ht]
     obtain⟨k1,k2,k3⟩:=sp _ _ aoh;refine⟨some ((x.cy b' (.lbox g (putAt cs off vs))).bC v),⟨x.cy b' (.lbox g (putAt cs off vs)),by simp only[h0,cond_true,hTb,h1],trivial,rfl⟩,⟨fun k hk=>?_,fun k hk=>?_,fun h=>(by cases h),fun _=>?_,fun h=>(by cases h),fun _=>?_⟩,hw⟩
     ·by_cases Wv:k∈v.tmps
      ·exact k1 k Wv
      ·have IW:k=b':=by
        rcases auY.1 hk with h|h
        ·exact absurd h Wv
        ·exact ava.1 h
       show ((x.cy b' _).bC v).T k=((s.cy b' _).bC v).T k
       rw[k2 k Wv,k3 k Wv,fM,fM,if_pos IW,if_pos IW]
     ·have Wv:k∉v.tmps:=fun h=>hk (auY.2 (.inl h))
      have IW:k≠b':=fun h=>hk (auY.2 (.inr (ava.2 h)))
      show ((x.cy b' _).bC v).T k=x.T k
      rw[k2 k Wv,fM,if_neg IW]
     ·obtain⟨q1,_,q3⟩:=iZ (x.cy b' (.lbox g (putAt cs off vs))) v
      exact⟨q1.trans rfl,q3.trans rfl⟩
     ·obtain⟨_,q2,_⟩:=iZ (x.cy b' (.lbox g (putAt cs off vs))) v
      exact q2.trans rfl
    ·cases cu
  case eref=>cases c<;>cases mo
 case append isB wr sz bytes y1 y2 =>
  cases wr with
  | true=>cases he
  | false =>
   simp only[cond_false,auR] at he;subst he;have hw:∀ t,t∈y1.tmps->t∈y1.tmps++y2.tmps:=fun t h=>auY.2 (.inl h)
   have h2:=ev (y:=y2) (fun t h=>auY.2 (.inr h))
   simp only[fT,aQ] at cu ⊢;cases y1 with
   | tmp t =>
    have ht:=ha.T t (by simp[aE.tmps])
    simp only[br] at cu ⊢;rw[ht,h2];split at cu
    ·simp only[auQ] at cu
     obtain⟨f,_,cu⟩:=cu;simp at cu
    ·rename_i el own hT
     simp only[cond_false,auP,auV] at cu;obtain⟨z',hz,rfl,rfl⟩:=cu;refine⟨some (x.cy t (.slice el false)),by simp only[cond_false,hz,au2],⟨fun k hk=>?_,fun k hk=>?_,fun h=>(by cases h),fun _=>⟨rfl,rfl⟩,fun h=>(by cases h),fun _=>rfl⟩,hw⟩
     ·simp only[aE.tmps,ava] at hk
      simp only[avN,fM,hk,awE]
     ·simp only[aE.tmps,ava] at hk
      simp only[avN,fM,if_neg hk]
    ·simp only[cond_false,auP,auV] at cu
     obtain⟨z',hz,rfl,rfl⟩:=cu;exact⟨some x,by simp only[cond_false,hz,au2],fW.stay ha hw,hw⟩
    ·cases cu
   | _ =>
    simp only[br,cond_false] at cu ⊢;have D6:=KC cu;subst D6;rw[h2];exact⟨none,cu,fW.stay ha hw,hw⟩
 case appendO sz bytes y1 y2 =>
  simp only[auR] at he;subst he;obtain⟨hH,hl⟩:=ha.H (.inl rfl);simp only[fT,aQ] at cu ⊢;rw[ad (y:=y1) (fun t h=>auY.2 (.inl h)),ev (y:=y2) (fun t h=>auY.2 (.inr h))]
  simp only[ju] at cu ⊢;split at cu
  ·rename_i v hn
   simp only[auR,auV] at cu;obtain⟨rfl,rfl⟩:=cu;exact⟨none,rfl,fW.stay ha (fun t h=>by cases h),fun t h=>by cases h⟩
  simp only[jN,auQ] at cu ⊢;obtain⟨f,hf,cu⟩:=cu;have fin:∀ (c0:fR),fW ⟨y1.tmps++y2.tmps,[],true,true,false⟩ (s.iF c0) x (x.iF c0):=fun c0=>⟨fun k hk=>(by cases hk),fun _ _=>rfl,fun _=>⟨rfl,by simp only[AS.iF,hl]⟩,fun h=>(by cases h),fun h=>(by cases h),fun _=>rfl⟩
  split at cu
  ·obtain⟨h0,cu⟩:=al cu
   simp only[auR,auV] at cu;obtain⟨rfl,rfl⟩:=cu;rename_i hY;exact⟨some (x.iF ⟨s.H++[bM.box bE f.flatten],s.H.length⟩),⟨f,hf,by simp only[h0,cond_true,hH]⟩,fin ⟨s.H++[bM.box bE f.flatten],s.H.length⟩,fun t h=>by cases h⟩
  ·obtain⟨h0,cu⟩:=al cu
   simp only[auR,auV] at cu;obtain⟨rfl,rfl⟩:=cu;rename_i hY;exact⟨some (x.iF ⟨s.H++[bM.box bE f.flatten],s.H.length⟩),⟨f,hf,by simp only[h0,cond_true,hH]⟩,fin ⟨s.H++[bM.box bE f.flatten],s.H.length⟩,fun t h=>by cases h⟩
  ·rename_i l o n zz hY
   split at cu
   ·rename_i ty cs Ow
    obtain⟨h0,cu⟩:=al cu;simp only[auR,auV] at cu;obtain⟨rfl,rfl⟩:=cu;exact⟨some (x.iF ⟨s.H.set l .dead++[bM.box bE (cs++f.flatten)],l⟩),⟨f,hf,by simp only[hH,Ow,h0,cond_true]⟩,fin ⟨s.H.set l .dead++[bM.box bE (cs++f.flatten)],l⟩,fun t h=>by cases h⟩
   ·cases cu
  ·cases cu
 case copyO y1 y2 =>
  simp only[auR] at he;subst he;obtain⟨hH,hl⟩:=ha.H (.inl rfl);simp only[fT,aQ] at cu ⊢;rw[ad (y:=y1) (fun t h=>auY.2 (.inl h)),ev (y:=y2) (fun t h=>auY.2 (.inr h))]
  simp only[yj] at cu ⊢;have fin:∀ (c0:fR),fW ⟨y1.tmps++y2.tmps,[],true,true,false⟩ (s.iF c0) x (x.iF c0):=fun c0=>⟨fun k hk=>(by cases hk),fun _ _=>rfl,fun _=>⟨rfl,by simp only[AS.iF,hl]⟩,fun h=>(by cases h),fun h=>(by cases h),fun _=>rfl⟩
  split at cu
  ·rename_i l o n zz f own hY hZ
   split at cu
   ·rename_i cs Ow
    obtain⟨h0,cu⟩:=al cu;simp only[auR,auV] at cu;obtain⟨rfl,rfl⟩:=cu;exact⟨some (x.iF ⟨s.H.set l (.bV (putAt cs o (f.take (Nat.min f.length n)).flatten)),l⟩),by simp only[hH,Ow,h0,cond_true],fin ⟨s.H.set l (.bV (putAt cs o (f.take (Nat.min f.length n)).flatten)),l⟩,fun t h=>by cases h⟩
   ·cases cu
  ·simp only[auR,auV] at cu
   obtain⟨rfl,rfl⟩:=cu;exact⟨none,rfl,fW.stay ha (fun t h=>by cases h),fun t h=>by cases h⟩
  ·cases cu
 case call f args =>
  simp only[auR] at he;subst he;obtain⟨hH,hl⟩:=ha.H (.inl rfl);have hf:=ev (y:=f) (fun t h=>by simp only[oc.tmps,auY];exact .inl h)
  have had:∀ y,y∈args->y.addr G x.T=y.addr G s.T:=fun y hy=>ad (y:=y) (fun t h=>by simp only[oc.tmps,auY,aws];exact .inr ⟨y,hy,h⟩)
  have e1:=List.map_congr_left had;have e2:(args.map fun a=>(a.addr G x.T).dk)=args.map fun a=>(a.addr G s.T).dk:=List.map_congr_left fun y hy=>by rw[had y hy]
  have OH:∀ t,t∈([]:List Nat)->t∈(oc.call f args).tmps:=fun t h=>by cases h
  cases pc with
  | true =>
   simp only[fT,cond_true,aQ] at cu ⊢;rw[hf,e1,e2,hH];split at cu
   ·obtain⟨h0,cu⟩:=al cu
    simp only[auQ] at cu;obtain⟨r,hr,cu⟩:=cu;split at cu
    ·rename_i h2
     simp only[auR,auV] at cu;obtain⟨rfl,rfl⟩:=cu;exact⟨none,by simp only[h0,cond_true,hr,au2,h2,av6],fW.stay ha OH,OH⟩
    ·cases cu
   ·cases cu
  | false =>
   simp only[fT,cond_false,aQ] at cu ⊢;rw[hf,e1,e2,hH];split at cu
   ·obtain⟨h0,cu⟩:=al cu
    simp only[auP,auV] at cu;obtain⟨r,hr,rfl,rfl⟩:=cu;refine⟨r.2.map x.iF,by simp only[h0,cond_true,hr,au2],?_,OH⟩
    cases h2:r.2 with
    | none=>exact fW.stay ha OH
    | some c0=>exact⟨fun k hk=>(by cases hk),fun _ _=>rfl,fun _=>⟨rfl,by simp only[au2,avN,AS.iF,hl]⟩,fun h=>(by cases h),fun h=>(by cases h),fun _=>rfl⟩
   ·cases cu
def Jy{c:RA}(he:F7 pc c op=some e):∀ t,t∈e.ws->t∈e.rs:=by
 intro t ht;cases op<;>simp only[F7] at he<;>try (cases he;done)
 case mov take obj y =>
  cases obj with
  | true=>cases he
  | false =>
   simp only[cond_false,auR] at he;subst he;cases take with
   | true=>exact ht
   | false=>cases ht
 case load take agg sz y =>
  simp only[auR] at he;subst he;cases hb:(take&&!agg) with
  | true=>simp only[hb,cond_true] at ht;exact auY.2 (.inr ht)
  | false=>simp only[hb,cond_false] at ht;cases ht
 case store sz y v =>
  simp only[auR] at he;subst he
  rcases auY.1 ht with h|h
  ·exact auY.2 (.inl (auY.2 (.inr h)))
  ·exact auY.2 (.inr h)
 case append isB wr sz bytes y1 y2 =>
  cases wr with
  | true=>cases he
  | false =>
   simp only[cond_false,auR] at he;subst he;exact auY.2 (.inl ht)
 all_goals
  simp only[auR] at he;subst he;cases ht
def De{L:List Nat}(he:Jx pc is L o=some e)
  (hc:∀ c y,vW is L o.op=some (c,y)->(∀ g w,o.guard=some (g,w)->s.T g=.bool w)->gv c (y.addr G s.T)=true) {s1:AS}
  (cu:aP G cf s (nh pc o)=some s1) (ha:Agr e s x):∃ x1,aP G cf x o=some x1/\fW e s1 x x1/\(∀ t,t∈e.ws->t∈o.dst.toList\/t∈e.rs):=by
 simp only[Jx,auP] at he;obtain⟨e0,he0,rfl⟩:=he;rw[A1] at cu;have ha0:Agr e0 s x:=⟨fun t ht=>ha.T t (auY.2 (.inr ht)),ha.H,ha.G⟩
 have Ir:∀ (q:AS) (d:Option Nat) (v:AV) (k:Nat),(q.bW d v).T k=if k∈d.toList then v else q.T k:=by
  intro q d v k;cases d with
  | none=>simp[AS.bW]
  | some d=>simp only[AS.bW,fM,Option.toList_some,ava]
 have put:∀ (v:AV) (s2 x2:AS),fW e0 s2 x x2->(∀ t,t∈e0.ws->t∈e0.rs) ->
   fW ⟨(match o.guard with|some (g,_)=>[g]|none=>[])++e0.rs,o.dst.toList++e0.ws,e0.rh,e0.wh,e0.wg⟩ (s2.bW o.dst v) x (x2.bW o.dst v)/\(∀ t,t∈o.dst.toList++e0.ws->t∈o.dst.toList\/t∈(match o.guard with|some (g,_)=>[g]|none=>[])++e0.rs):=by
  intro v s2 x2 hM hw;refine⟨⟨fun t ht=>?_,fun t ht=>?_,fun h=>?_,fun h=>?_,fun h=>?_,fun h=>?_⟩,fun t ht=>?_⟩
  ·rw[Ir,Ir]
   by_cases hd:t∈o.dst.toList
   ·rw[if_pos hd,if_pos hd]
   ·rw[if_neg hd,if_neg hd]
    rcases auY.1 ht with h|h
    ·exact absurd h hd
    ·exact hM.T t h
  ·rw[Ir,if_neg (fun h=>ht (auY.2 (.inl h)))]
   exact hM.T' t (fun h=>ht (auY.2 (.inr h)))
  ·rw[(ni s2 o.dst v).1,(ni s2 o.dst v).2.2,(ni x2 o.dst v).1,(ni x2 o.dst v).2.2];exact hM.H h
  ·rw[(ni x2 o.dst v).1,(ni x2 o.dst v).2.2];exact hM.H' h
  ·rw[(ni s2 o.dst v).2.1,(ni x2 o.dst v).2.1];exact hM.G h
  ·rw[(ni x2 o.dst v).2.1];exact hM.G' h
  ·rcases auY.1 ht with h|h
   ·exact .inl h
   ·exact .inr (auY.2 (.inr (hw t h)))
 have run:(∀ g w,o.guard=some (g,w)->s.T g=.bool w)->((aQ G cf s (fT pc o.op)).bind fun r=>match r.2 with
   | none=>some (s.bW o.dst r.1)
   | some s'=>some (s'.bW o.dst r.1))=some s1 ->
   ∃ x1,((aQ G cf x o.op).bind fun r=>match r.2 with
    | none=>some (x.bW o.dst r.1)
    | some s'=>some (s'.bW o.dst r.1))=some x1/\fW ⟨(match o.guard with|some (g,_)=>[g]|none=>[])++e0.rs,o.dst.toList++e0.ws,e0.rh,e0.wh,e0.wg⟩ s1 x x1 /\
    (∀ t,t∈o.dst.toList++e0.ws->t∈o.dst.toList\/t∈(match o.guard with|some (g,_)=>[g]|none=>[])++e0.rs):=by
  intro hg hr;simp only[auQ] at hr;obtain⟨⟨z,so⟩,hz,hr⟩:=hr;obtain⟨xo,h1,h2,h3⟩:=YG he0 (fun y hy=>by
    have key:∃ c,vW is L o.op=some (c,y):=by
     rcases hy with ⟨t,a,z,h⟩|⟨z,v,h⟩|h|⟨f,h⟩|⟨n,z,i,h⟩<;>rw[h]<;>exact⟨_,rfl⟩
    obtain⟨c,hk⟩:=key;rw[hk];exact hc c y hk hg)
   (fun y hy=>by
    have key:vW is L o.op=some (.heap,y):=by
     rcases hy with ⟨z,i,h⟩|⟨k,h⟩<;>rw[h]<;>rfl
    exact hc _ y key hg) hz ha0
  have qa:s1=(so.getD s).bW o.dst z:=by
   cases so with
   | none=>simp only[avk,cond_false,auR] at hr;exact hr.symm
   | some s2=>simp only[cond_false,auR] at hr;exact hr.symm
  subst qa;obtain⟨p1,p2⟩:=put z _ _ h2 h3;refine⟨(xo.getD x).bW o.dst z,?_,p1,p2⟩;rw[h1];cases xo with
  | none=>rfl
  | some x2=>rfl
 unfold aP at cu ⊢;cases HO:o.guard with
 | none =>
  rw[HO] at run;simp only[HO] at cu ⊢;exact run (fun g w h=>by cases h) cu
 | some gw =>
  obtain⟨g,w⟩:=gw;have hxg:=ha.T g (by rw[HO];exact auY.2 (.inl (ava.2 rfl)))
  simp only[HO] at cu ⊢;rw[hxg];rw[HO] at run put;have skip:some (s.bW o.dst .undef)=some s1->∃ x1,some (x.bW o.dst .undef)=some x1/\fW ⟨[g]++e0.rs,o.dst.toList++e0.ws,e0.rh,e0.wh,e0.wg⟩ s1 x x1/\(∀ t,t∈o.dst.toList++e0.ws->t∈o.dst.toList\/t∈[g]++e0.rs):=by
   intro h;injection h with h
   subst h;obtain⟨p1,p2⟩:=put .undef s x (fW.stay ha0 (Jy he0)) (Jy he0);exact⟨_,rfl,p1,p2⟩
  generalize hX:s.T g=X at cu;cases X with
  | bool b =>
   simp only at cu ⊢;cases hb:(b==w) with
   | true =>
    rw[hb] at cu;simp only[cond_true] at cu ⊢;exact run (fun g' w' h=>by injection h with h;injection h with h1 h2;subst h1 h2;rw[hX];congr 1;simpa using hb) cu
   | false =>
    rw[hb] at cu;simp only[cond_false] at cu ⊢;exact skip cu
  | tuple vs =>
   cases vs with
   | nil=>exact skip cu
   | cons v vs=>cases cu
  | _=>cases cu
end
section
variable {α:Type}{S:Nat->AS}{f:AS->α}{w X:Nat->Prop}{n k:Nat}{x x1:AS}
def Hc(S:Nat->AS)(f:AS->α)(w X:Nat->Prop)(x:AS):Prop :=
 (∃ i,X i/\w i/\(∀ j,X j->w j->j<=i)/\f x=f (S (i+1)))\/((∀ j,X j->¬ w j)/\f x=f (S 0))
def sk(hf:∀ j,j<n->¬ w j->f (S (j+1))=f (S j)){a:Nat} : ∀ (b:Nat),a<=b->b<=n->(∀ j,a<=j->j<b->¬ w j)->f (S b)=f (S a):=by
 intro b
 induction b with
 | zero=>intro h _ _;rw[show a=0 by omega]
 | succ b ih =>
  intro h1 h2 h3
  rcases axf b a with h|h
  ·rw[show a=b+1 by omega]
  ·rw[hf b ah (h3 b h ah),ih h ah (fun j a1 a2=>h3 j a1 ah)]
def ve(hf:∀ j,j<n->¬ w j->f (S (j+1))=f (S j))(hk:k<=n)(hC:Hc S f w X x)(h1:∀ j,j<k->w j->X j)(h2:∀ j,X j->w j->j<k):f x=f (S k):=by
 rcases hC with ⟨i,hX,hw,hm,he⟩|⟨mH,he⟩
 ·rw[he]
  refine (sk hf k (h2 i hX hw) hk (fun j a b Qz=>?_)).symm
  have:=hm j (h1 j b Qz) Qz
  omega
 ·rw[he]
  exact (sk hf k (Nat.zero_le _) hk (fun j a b Qz=>mH j (h1 j b Qz) Qz)).symm
def wP(hw:w k)(hm:∀ j,X j->w j->j<=k)(he:f x1=f (S (k+1))):Hc S f w (fun j=>X j\/j=k) x1 :=
 .inl ⟨k,.inr rfl,hw,fun j hj Qz=>by rcases hj with h|h;exact hm j h Qz;omega,he⟩
def zF(hw:¬ w k)(hC:Hc S f w X x)(he:f x1=f x):Hc S f w (fun j=>X j\/j=k) x1:=by
 rcases hC with ⟨i,hX,WA,hm,h⟩|⟨mH,h⟩
 ·exact .inl ⟨i,.inl hX,WA,fun j hj Qz=>by
   rcases hj with h'|h'
   ·exact hm j h' Qz
   ·subst h';exact absurd Qz hw,by rw[he,h]⟩
 ·exact .inr ⟨fun j hj Qz=>by
   rcases hj with h'|h'
   ·exact mH j h' Qz
   ·subst h';exact hw Qz,by rw[he,h]⟩
def wO{Y:Nat->Prop}(h:∀ j,X j↔Y j)(hC:Hc S f w X x):Hc S f w Y x:=by
 rcases hC with ⟨i,hX,WA,hm,h'⟩|⟨mH,h'⟩
 ·exact .inl ⟨i,(h i).1 hX,WA,fun j hj=>hm j ((h j).2 hj),h'⟩
 ·exact .inr ⟨fun j hj=>mH j ((h j).2 hj),h'⟩
structure wG (S:Nat->AS) (E:Nat->qP) (X:Nat->Prop) (x:AS):Prop where
 T:∀ t,Hc S (fun s=>s.T t) (fun j=>t∈(E j).ws) X x
 H:Hc S (fun s=>(s.H,s.lo)) (fun j=>(E j).wh=true) X x
 G:Hc S (fun s=>s.gen) (fun j=>(E j).wg=true) X x
structure RU (S:Nat->AS) (E:Nat->qP) (n:Nat):Prop where
 T:∀ t j,j<n->¬ (t∈(E j).ws)->(S (j+1)).T t=(S j).T t
 H:∀ j,j<n->¬ ((E j).wh=true)->((S (j+1)).H,(S (j+1)).lo)=((S j).H,(S j).lo)
 G:∀ j,j<n->¬ ((E j).wg=true)->(S (j+1)).gen=(S j).gen
def vp{x y:List Nat}{t:Nat}(h1:t∈x)(h2:t∈y):meets x y=true:=by
 simp only[meets,List.any_eq_true];exact⟨t,h1,cT h2⟩
def Ca(hK:RU S E n)(hk:k<n)(hB:wG S E X x)(hX:¬ X k)(h1:∀ j,j<k->conflict (E k) (E j)=true->X j)(h2:∀ j,k<j->conflict (E j) (E k)=true->¬ X j):Agr (E k) (S k) x:=by
 have lt:∀ j,X j->j<k\/k<j:=fun j h=>by
  rcases aw4 j k with a|a|a
  ·exact .inl a
  ·subst a;exact absurd h hX
  ·exact .inr a
 refine⟨fun t ht=>?_,fun hh=>?_,fun hg=>?_⟩
 ·refine ve (fun j=>hK.T t j) (awx hk) (hB.T t) (fun j hj hw=>h1 j hj ?_) (fun j hj hw=>?_)
  ·simp only[conflict,vp hw ht,Bool.or_true,axP]
  ·rcases lt j hj with a|a
   ·exact a
   ·exact absurd hj (h2 j a (by simp only[conflict,vp hw ht,axP]))
 ·have:=ve (fun j=>hK.H j) (awx hk) hB.H (fun j hj hw=>h1 j hj (by
   rcases hh with h|h<;>simp[conflict,hw,h])) (fun j hj hw=>by
   rcases lt j hj with a|a
   ·exact a
   ·exact absurd hj (h2 j a (by rcases hh with h|h<;>simp[conflict,hw,h])))
  simp only[auV] at this;exact this
 ·exact ve (fun j=>hK.G j) (awx hk) hB.G (fun j hj hw=>h1 j hj (by simp[conflict,hw,hg])) (fun j hj hw=>by
   rcases lt j hj with a|a
   ·exact a
   ·exact absurd hj (h2 j a (by simp[conflict,hw,hg])))
def Jf(hB:wG S E X x)(hX:¬ X k)(h2:∀ j,k<j->conflict (E j) (E k)=true->¬ X j)(hM:fW (E k) (S (k+1)) x x1):wG S E (fun j=>X j\/j=k) x1:=by
 have le:∀ j,X j->(k<j->conflict (E j) (E k)=true)->j<=k:=fun j h hc=>by
  rcases axf k j with a|a
  ·exact absurd h (h2 j a (hc a))
  ·exact a
 refine⟨fun t=>?_,?_,?_⟩
 ·by_cases ht:t∈(E k).ws
  ·exact wP ht (fun j hj hw=>le j hj fun _=>by simp only[conflict,vp hw ht,Bool.or_true,axP]) (hM.T t ht)
  ·exact zF ht (hB.T t) (hM.T' t ht)
 ·by_cases hh:(E k).wh=true
  ·exact wP hh (fun j hj hw=>le j hj fun _=>by simp[conflict,hw,hh]) (by simp only[hM.H hh])
  ·have:=hM.H' (cT hh)
   exact zF hh hB.H (by simp only[this])
 ·by_cases hg:(E k).wg=true
  ·exact wP hg (fun j hj hw=>le j hj fun _=>by simp[conflict,hw,hg]) (hM.G hg)
  ·exact zF hg hB.G (hM.G' (cT hg))
def LX(hK:RU S E n)(hB:wG S E X x)(hX:∀ j,X j↔j<n):x=S n:=by
 have hT:x.T=(S n).T:=funext fun t=>ve (fun j=>hK.T t j) (Nat.le_refl _) (hB.T t) (fun j hj _=>(hX j).2 hj) (fun j hj _=>(hX j).1 hj)
 have hH:=ve (fun j=>hK.H j) (Nat.le_refl _) hB.H (fun j hj _=>(hX j).2 hj) (fun j hj _=>(hX j).1 hj)
 have hG:=ve (fun j=>hK.G j) (Nat.le_refl _) hB.G (fun j hj _=>(hX j).2 hj) (fun j hj _=>(hX j).1 hj)
 simp only[auV] at hH;obtain⟨h1,h2⟩:=hH;cases x;generalize S n=y at hT h1 h2 hG;cases y;simp only at hT h1 h2 hG;subst hT h1 h2 hG;rfl
def Je(hX:∀ j,¬ X j):wG S E X (S 0) :=
 ⟨fun _=>.inr ⟨fun j h=>absurd h (hX j),rfl⟩,.inr ⟨fun j h=>absurd h (hX j),rfl⟩,.inr ⟨fun j h=>absurd h (hX j),rfl⟩⟩
end
section
variable {G:Nat->List AV}{cf:gD}
def Nv{s:AS}{r:AV × Option AS}(h:aQ G cf s (fT pc op)=some r):aQ G cf s op=some r:=by
 cases op<;>try exact h
 rename_i f xs;cases pc with
 | false=>exact h
 | true =>
  simp only[fT,cond_true,aQ] at h ⊢;split at h
  ·obtain⟨h0,h⟩:=al h
   simp only[auQ] at h;obtain⟨⟨v,c⟩,h1,h⟩:=h;simp only[h0,cond_true,h1,au2];cases c with
   | none=>exact h
   | some c=>cases h
  ·cases h
def y3{s:AS}(h:aP G cf s (nh pc o)=some s1):aP G cf s o=some s1:=by
 rw[A1] at h;have run:((aQ G cf s (fT pc o.op)).bind fun r=>match r.2 with
   | none=>some (s.bW o.dst r.1)
   | some s'=>some (s'.bW o.dst r.1))=some s1->((aQ G cf s o.op).bind fun r=>match r.2 with
   | none=>some (s.bW o.dst r.1)
   | some s'=>some (s'.bW o.dst r.1))=some s1:=by
  intro h;simp only[auQ] at h;obtain⟨r,hr,h⟩:=h;rw[Nv hr];exact h
 unfold aP at h ⊢;cases HO:o.guard with
 | none=>simp only[HO] at h ⊢;exact run h
 | some gw =>
  obtain⟨g,w⟩:=gw;simp only[HO] at h ⊢;generalize s.T g=X at h ⊢;cases X with
  | bool b =>
   simp only at h ⊢;cases hb:(b==w) with
   | true=>rw[hb] at h;simp only[cond_true] at h ⊢;exact run h
   | false=>rw[hb] at h;exact h
  | tuple vs=>cases vs with
   | nil=>exact h
   | cons v vs=>cases h
  | _=>cases h
def QH{L:List Nat}{s s':AS}(h:gM G cf (inter pc is L o) s=some s') :
  (∀ c y,vW is L o.op=some (c,y)->(∀ g w,o.guard=some (g,w)->s.T g=.bool w)->gv c (y.addr G s.T)=true)/\aP G cf s (nh pc o)=some s':=by
 unfold inter at h;split at h
 ·rename_i c x hk
  simp only[gM,auQ,auR] at h;obtain⟨s0,h0,s1,h1,rfl⟩:=h;have chk:s0=s/\((∀ g w,o.guard=some (g,w)->s.T g=.bool w)->gv c (x.addr G s.T)=true):=by
   have run:((aQ G cf s (.chk c x)).bind fun r=>match r.2 with
     | none=>some (s.bW none r.1)
     | some s'=>some (s'.bW none r.1))=some s0->s0=s/\gv c (x.addr G s.T)=true:=by
    intro h;simp only[aQ] at h;cases hc:gv c (x.addr G s.T) with
    | false=>rw[hc] at h;cases h
    | true=>rw[hc] at h;simp[AS.bW] at h;exact⟨h.symm,rfl⟩
   unfold aP at h0;cases HO:o.guard with
   | none=>simp only[HO] at h0;exact⟨(run h0).1,fun _=>(run h0).2⟩
   | some gw =>
    obtain⟨g,w⟩:=gw;simp only[HO] at h0;generalize hX:s.T g=X at h0;cases X with
    | bool b =>
     simp only at h0;cases hb:(b==w) with
     | true=>rw[hb] at h0;exact⟨(run h0).1,fun _=>(run h0).2⟩
     | false =>
      rw[hb] at h0;simp only[cond_false,AS.bW,auR] at h0;refine⟨h0.symm,fun hg=>?_⟩
      have:=hg g w rfl
      rw[hX] at this;injection this with this
      subst this;simp at hb
    | tuple vs =>
     cases vs with
     | nil =>
      simp only[AS.bW,auR] at h0;refine⟨h0.symm,fun hg=>?_⟩
      have:=hg g w rfl
      rw[hX] at this;cases this
     | cons v vs=>cases h0
    | _=>cases h0
  obtain⟨rfl,amR⟩:=chk;refine⟨fun c' y tF=>?_,h1⟩
  rw[hk] at tF;injection tF with tF
  injection tF with e1 e2
  subst e1 e2;exact amR
 ·rename_i hk
  simp only[gM,auQ,auR] at h;obtain⟨s1,h1,rfl⟩:=h;exact⟨fun c' y tF=>(by rw[hk] at tF;cases tF),h1⟩
end
end
section
def bJ.ahE:bJ->Exit
 | .normal=>.normal
 | .exit id=>.exit id
 | .ret=>.ret
section
variable {P:Program}{G:Nat->List AV}{base nt:Nat}{gh:Gh}{w w' : World}{a:Act}{s:AS}{H:ae}{L:List Nat}
def Inv.drew{lT:Gh}(h:Inv G base nt L H0 lT w0 s gh w a):Inv G base nt L H0 lT w0 s gh { w with drawn:=w.drawn+1 } a:=by
 have st:Step (fun _=>False) s.H.length gh w gh { w with drawn:=w.drawn+1 }:=⟨fun _ _ h=>h,fun _ _ _=>rfl,Nat.le_refl _,rfl,rfl,rfl,fun _ _ _=>⟨.inl rfl,rfl,fun _ h=>h⟩,fun b hb=>h.W.cA b hb,fun _ _=>rfl,fun _ _ _ h=>h,fun _ _ _ _ h=>h⟩
 exact⟨h.W.step st (fun l=>⟨id,fun _=>id⟩) h.W.pN h.W.qN (fun _ _ _ h=>.inl h),h.F.grown (H':=s.H) (lo':=s.lo) st (fun i=>⟨id,id,fun _=>id⟩) (Nat.le_refl _),
  h.E.trans ⟨st.mono (fun _ h=>h.elim),fun _ h=>h⟩ h.lo.len,h.lo⟩
def pL(tmps:Array Value):ResultVar->Sem Value
 | .tmp t=>pure (tmps.getD t undef)
 | .cell a t=>do loadVar t (<- asAddr (tmps.getD a undef))
def wA{g:ResultVar->Sem Value} : ∀ (l:List ResultVar) (vs:List Value),l.length=vs.length->(∀ (j:Nat) (r:ResultVar) (v:Value),l[j]?=some r->vs[j]?=some v->(g r).run P w=.ok v w)->(l.mapM g).run P w=.ok vs w
 | [],[],_,_=>ag
 | r :: l,v :: vs,hl,h=>by
  have h1:=h 0 r v rfl rfl;have h2:=wA l vs (cT hl) (fun j r v hr hv=>h (j+1) r v (cT hr) (cT hv))
  simp_all
 | [],_ :: _,hl,_=>by simp at hl
 | _ :: _,[],hl,_=>by simp at hl
def lg{tmps:Array Value}{vs:List Value}(hl:fn.results.toList.length=vs.length)(h:∀ (j:Nat) (r:ResultVar) (v:Value),fn.results.toList[j]?=some r->vs[j]?=some v->(pL tmps r).run P w=.ok v w) :
  (results fn tmps).run P w=.ok (if h:vs.toArray.size=1 then vs.toArray[0] else .tuple vs.toArray) w:=by
 have e:results fn tmps=(do let vs <- fn.results.mapM (pL tmps);pure (if h:vs.size=1 then vs[0] else .tuple vs)):=by
  unfold results
  congr 1
 rw[e,Sem.run_bind];have h2:(fn.results.mapM (pL tmps)).run P w=.ok vs.toArray w:=by
  rw[Array.mapM_eq_mapM_toList];have:=wA (P:=P) (w:=w) fn.results.toList vs hl h
  simp[this]
 rw[h2];rfl
def kO:∀ {l:List ResultVar} {rs:List gY},kA P nt l=some rs->l.length=rs.length/\∀ (j:Nat) (r:ResultVar) (i:gY),l[j]?=some r->rs[j]?=some i ->
  (∃ t,r=.tmp t/\i=.tmp t/\t<nt)\/∃ t ty g sz,r=.cell t ty/\i=.cell t g sz/\t<nt/\nP P ty=some g/\fD P ty=some sz
 | [],rs,h=>by simp[kA] at h;subst h;exact⟨rfl,fun j r i h=>by simp at h⟩
 | .tmp t :: l,rs,h=>by
  simp only[kA] at h;obtain⟨h0,h⟩:=al h;simp only[auP] at h;obtain⟨rs',hr,rfl⟩:=h;obtain⟨h1,h2⟩:=kO hr;refine⟨by simp[h1],fun j r i hj hi=>?_⟩
  cases j with
  | zero=>simp at hj hi;subst hj hi;exact .inl ⟨t,rfl,rfl,by simpa [avh] using h0⟩
  | succ j=>exact h2 j r i (cT hj) (cT hi)
 | .cell t ty :: l,rs,h=>by
  simp only[kA] at h;obtain⟨h0,h⟩:=al h;simp only[auQ,auP] at h;obtain⟨g,hg,sz,hs,rs',hr,rfl⟩:=h;obtain⟨h1,h2⟩:=kO hr;refine⟨by simp[h1],fun j r i hj hi=>?_⟩
  cases j with
  | zero=>simp at hj hi;subst hj hi;exact .inr ⟨t,ty,g,sz,rfl,rfl,by simpa [avh] using h0,hg,hs⟩
  | succ j=>exact h2 j r i (cT hj) (cT hi)
def Dz(hW:bf G base s.H gh w)(hF:FR L nt gh w a s){r:ResultVar}{i:gY}(hc:(∃ t,r=.tmp t/\i=.tmp t/\t<nt)\/∃ t ty g sz,r=.cell t ty/\i=.cell t g sz/\t<nt/\nP P ty=some g/\fD P ty=some sz)
  {z:AV} (hz:iO s i=some z):∃ v,(pL a.tmps r).run P w=.ok v w/\((∃ t,i=.tmp t/\t<nt/\v=gN a t/\z=s.T t/\CR gh s.H.length w (.sl t) v z)\/VR gh s.H.length w v z):=by
 rcases hc with ⟨t,rfl,rfl,ht⟩|⟨t,ty,g,sz,rfl,rfl,ht,hg,hs⟩
 ·refine⟨gN a t,rfl,.inl ⟨t,rfl,ht,rfl,?_⟩⟩
  simp only[iO] at hz;obtain⟨h0,hz⟩:=al hz;injection hz with hz
  subst hz;have h:=hF.slot t ht
  change SR gh s.H.length nt w s.T s.gen (gN a) t (gN a t) (s.T t) at h
  refine⟨rfl,?_⟩;generalize s.T t=X at h h0
  cases X<;>first|exact h|(simp[aM] at h0)
 ·have h:=hF.slot t ht
  change SR gh s.H.length nt w s.T s.gen (gN a) t (gN a t) (s.T t) at h
  simp only[iO] at hz;have run:∀ {b:Nat} {f:Nat->Value} {cs:List AV},gN a t=.pointer (some ⟨b,0,none⟩)->ab false g sz 0 cs=some z->(∀ (j:Nat) (x:AV),cs[j]?=some x->w.cell? ⟨b,0+j,none⟩=some (f j)/\(f j).oneCell'=true/\VR gh s.H.length w (f j) x.drop) ->
    ∃ v,(pL a.tmps (.cell t ty)).run P w=.ok v w/\((∃ t',gY.cell t g sz=.tmp t'/\t' < nt/\v=gN a t'/\z=s.T t'/\CR gh s.H.length w (.sl t') v z)\/VR gh s.H.length w v z):=by
   intro b f cs hb hl hf;obtain⟨v,h1,h2⟩:=mr (P:=P) hl hg hs hf;refine⟨v,?_,.inr h2⟩;have iJ:a.tmps.getD t undef=.pointer (some ⟨b,0,none⟩):=hb
   show (do loadVar ty (<- asAddr (a.tmps.getD t undef)):Sem Value).run P w=_
   rw[iJ]
   simpa [asAddr] using h1
  split at hz
  ·rename_i gg cs hT
   rw[hT] at h;obtain⟨_,b,hb,hB⟩:=h;obtain⟨f,hf⟩:=qW hB;exact run hb hz hf
  ·rename_i loc hT
   rw[hT] at h;have hv:=CR.dropped (h:CR gh s.H.length w (.sl t) (gN a t) (.ref loc 0));obtain⟨aZ,hp⟩:=VR.kD hv;split at hz
   ·rename_i WH cs hH
    obtain⟨f,hf⟩:=qW (hW.boxes loc _ cs hH);exact run hp hz hf
   ·cases hz
  ·cases hz
theorem freeze(hW:bf G base s.H gh w)(hF:FR L nt gh w a s){b g:Nat}{e:List (List AV)}(hb:b<nt)(hT:s.T b=.lsl g e)(qE:nf e=true) :
  ∃ bt,bf G base s.H bt w/\Ext s.H.length gh w bt w/\CR bt s.H.length w .ret (gN a b) (.slice e true):=by
 obtain⟨ad,cap,hV,⟨rfl,rfl,Kg⟩|⟨k,C,ty,sz,dp,rfl,hκ,hS,hk,hC,hl,hr,iG⟩⟩:=pR hF hb hT
 ·refine⟨gh,hW,Ext.refl _ _ _ (fun b hb=>hW.cA b hb),.inl ?_⟩
  rw[hV];refine .full ad 0 [] ?_ trivial;cases ad with
  | none=>exact .dq
  | some ad =>
   obtain⟨b',o',sp⟩:=ad;have:=(Kg _ rfl).1
   simp only at this;subst this;exact .slice b' o' 0 0 0 [] (fun _ _=>undef) rfl (Nat.le_refl _) (fun i r h=>by simp at h) (fun i j r x h=>by simp at h) (fun i j r x h=>by simp at h)
 ·have mH:∀ o,gh.S k o->C[o]?=C[o]?:=fun _ _=>rfl
  have hn:gh.κ k≠.none:=by rw[hκ];simp
  have CQ:∀ j m,j<e.length*sz->C[j]?=some (.int .u8 m)->ty=jg:=by
   intro j m hj hc;have dF:jr gh.S w sz (C.toList.take (e.length*sz)).toArray e:=by
    have hle:e.length*sz<=C.size:=by rw[hC];exact au6 _ hl
    refine⟨dw,hr,fun i j r x hi hj=>?_⟩
    grind [xw]
   refine pM (isB:=false) (m:=m) dF qE (fun h=>by cases h) hj ?_
   grind
  have hE:=BS hW hk rfl (fun o=>o<e.length*sz) mH (p:=.ret) ag hn (by rw[hκ];simp) s.H.length
  have nL:=O4 hW hk rfl (fun o=>o<e.length*sz) mH CQ .ret hn (by rw[hκ];simp)
  have T4:=setRow_self w k C ty (0,0) hk;rw[T4] at hE nL;refine⟨_,nL,hE,.inr ⟨e,rfl,?_,k,cap,C,ty,0,0,sz,hV,ag,dp,hk,hC,hr,hl,Nat.zero_le _,?_⟩⟩
  ·rw[hV]
   have key:∀ (i j:Nat) (r:List AV) (x:AV),e[i]?=some r->r[j]?=some x->C[i*sz+j]?=some (C.getD (i*sz+j) undef)/\PR gh.S w (C.getD (i*sz+j) undef) x/\i*sz+j<e.length*sz:=by
    intro i j r x hi hj;obtain⟨u,hu,hp⟩:=iG i j r x hi hj;have aZ:=(auZ.1 hu).1;have:C.getD (i*sz+j) undef=u:=by
     simp_all
    rw[this];exact⟨hu,hp,xw (auU.1 hi).1 (by rw[<- hr i r hi];exact (auU.1 hj).1)⟩
   refine .slice k 0 e.length cap sz e (fun i j=>C.getD (i*sz+j) undef) rfl hl hr (fun i j r x hi hj=>?_) (fun i j r x hi hj=>?_)
   ·obtain⟨h1,h2,h3⟩:=key i j r x hi hj
    refine⟨.inr ⟨rfl,cT h3⟩,?_,h2.gm⟩;rw[avt,cell_of_row w k _ C ty _ hk];exact h1
   ·exact (key i j r x hi hj).2.1.mono (fun b o h=>.inl h) (fun _ _ _=>rfl) (fun _ _ _ _ h=>h)
  ·grind
def VR.bz{n:Nat}{x:AV}(h:VR gh n w v x)(hx:x.bz m=true):VR gh m w v x:=by
 cases x
 case ref loc off =>
  obtain⟨_,rfl⟩:=h.kD;exact .ref loc off (by simpa [AV.bz,avh] using hx)
 case sref loc off k z =>
  obtain⟨_,cap,hk,hz,rfl⟩:=h.kU;exact .sref loc off k cap z (by simpa [AV.bz,avh] using hx) hk hz
 case mref loc =>
  obtain⟨_,rfl⟩:=h.pC;exact .mref loc (by simpa [AV.bz,avh] using hx)
 all_goals exact .plain _ _ (h.l8 hx)
def VR.ft{n:Nat}{x:AV}(h:VR gh n w v x)(hx:x.ft m=true):VR gh m w v x:=by
 cases x
 case agg cs =>
  obtain⟨C,rfl,hs,iw,hc⟩:=h.mf;exact .agg C cs hs iw (fun j v x hv tV=>(hc j v x hv tV).bz (auX.1 hx x (au0 tV)))
 all_goals exact h.bz hx
def VR.leaves{n:Nat}{x:AV}(h:VR gh n w v x)(hx:x.leaves m=true):VR gh m w v x:=by
 cases x
 case func f fs cs =>
  simp only[AV.leaves,auT] at hx;obtain⟨us,ts,rfl,h1,h2,h3,h4⟩:=h.uH;exact .func f us ts fs cs h1 h2 (fun j v x hv tV=>(h3 j v x hv tV).bz (auX.1 hx.1 x (au0 tV))) (fun j v x hv tV=>(h4 j v x hv tV).bz (auX.1 hx.2 x (au0 tV)))
 case iface t y =>
  cases h with
  | plain _ _ h=>exact .plain _ _ h
  | iface _ u _ h=>exact .iface t u y (h.bz hx)
 case tuple vs =>
  obtain⟨us,rfl,hs,h1⟩:=h.vk;exact .tuple us vs hs (fun j v x hv tV=>(h1 j v x hv tV).ft (auX.1 hx x (au0 tV)))
 case slice e own =>
  cases h with
  | plain _ _ h=>exact .plain _ _ h
  | full a k _ h hz=>exact .full a k e h hz
 all_goals exact h.ft hx
def CR.leaves{n:Nat}{x:AV}(h:CR gh n w p v x)(hx:x.leaves m=true):CR gh m w p v x:=by
 rcases h with h|h
 ·exact .inl (h.leaves hx)
 ·exact .inr h
def VR.iD{n:Nat}{x:AV}(h:VR gh n w v x)(hx:iD loc x=true)(hl:loc<m):VR gh m w v x:=by
 cases x
 case ref l off =>
  obtain⟨_,rfl⟩:=h.kD;have:l<=loc:=by simpa [Abs.iD,avm] using hx
  exact .ref l off ah
 case sref l off k z =>
  obtain⟨_,cap,hk,hz,rfl⟩:=h.kU;have:l<=loc:=by simpa [Abs.iD,avm] using hx
  exact .sref l off k cap z ah hk hz
 case mref l =>
  obtain⟨_,rfl⟩:=h.pC;have:l<=loc:=by simpa [Abs.iD,avm] using hx
  exact .mref l ah
 case slice e own =>
  cases h with
  | plain _ _ h=>exact .plain _ _ h
  | full a k _ h hz=>exact .full a k e h hz
 all_goals exact .plain _ _ (h.l8 hx)
def VR.lU{n:Nat}{x:AV}(h:VR gh n w v x)(hx:lU loc x=true)(hl:loc<m):VR gh m w v x:=by
 cases x
 case agg cs =>
  obtain⟨C,rfl,hs,iw,hc⟩:=h.mf;exact .agg C cs hs iw (fun j v x hv tV=>(hc j v x hv tV).iD (auX.1 hx x (au0 tV)) hl)
 all_goals exact h.iD hx hl
def VR.aX{n:Nat}{x:AV}(h:VR gh n w v x)(hx:aX loc x=true)(hl:loc<m):VR gh m w v x:=by
 cases x
 case ref l off =>
  obtain⟨_,rfl⟩:=h.kD;have:l<=loc:=by simpa [Abs.aX,avm] using hx
  exact .ref l off ah
 case sref l off k z =>
  obtain⟨_,cap,hk,hz,rfl⟩:=h.kU;have:l<=loc:=by simpa [Abs.aX,avm] using hx
  exact .sref l off k cap z ah hk hz
 case mref l =>
  obtain⟨_,rfl⟩:=h.pC;have:l<=loc:=by simpa [Abs.aX,avm] using hx
  exact .mref l ah
 case slice e own =>
  cases h with
  | plain _ _ h=>exact .plain _ _ h
  | full a k _ h hz=>exact .full a k e h hz
 case func f fs cs =>
  simp only[Abs.aX,auT] at hx;obtain⟨us,ts,rfl,h1,h2,h3,h4⟩:=h.uH;exact .func f us ts fs cs h1 h2 (fun j v x hv tV=>(h3 j v x hv tV).lU (auX.1 hx.1 x (au0 tV)) hl) (fun j v x hv tV=>(h4 j v x hv tV).lU (auX.1 hx.2 x (au0 tV)) hl)
 all_goals exact .plain _ _ (h.l8 hx)
def PR.lower{S:Nat->Nat->Prop}{x:AV}(h:PR S w0 v0 x){n:Nat} : ∀ {v:Value},VR gh n w v x->VR gh m w v x:=by
 induction h with
 | iface t v0 x h ih =>
  intro v hv;cases hv with
  | plain _ _ h=>exact .plain _ _ h
  | iface _ u _ h=>exact .iface t u x (ih h)
 | func f =>
  intro v hv;cases hv with
  | plain _ _ h=>exact .plain _ _ h
  | func _ fs cs _ _ h1 h2 h3 h4=>exact .func f fs cs [] [] h1 h2 (fun j v x _ hx=>by simp at hx) (fun j v x _ hx=>by simp at hx)
 | _ =>
  intro v hv;cases hv<;>exact .plain _ _ ‹_›
theorem VR.lower{lT:Gh}{x:AV}(h:VR lT m w0 v0 x){n:Nat} : ∀ {v:Value},VR gh n w v x->VR gh m w v x:=by
 induction h with
 | plain v0 x h=>intro v hv;exact h.lower hv
 | full a k e h hz =>
  intro v hv;cases hv with
  | plain _ _ h=>cases h
  | full a k _ h hz=>exact .full a k e h hz
 | ref loc off h=>intro v hv;obtain⟨_,rfl⟩:=hv.kD;exact .ref loc off h
 | sref loc off k cap z h hk hz=>intro v hv;obtain⟨_,cap,hk,hz,rfl⟩:=hv.kU;exact .sref loc off k cap z h hk hz
 | mref loc h=>intro v hv;obtain⟨_,rfl⟩:=hv.pC;exact .mref loc h
 | func f fs cs xs ys hf hc _ _ ih1 ih2 =>
  intro v hv;obtain⟨us,ts,rfl,h1,h2,h3,h4⟩:=hv.uH;refine .func f us ts xs ys h1 h2 (fun j v x hv hx=>?_) (fun j v x hv hx=>?_)
  ·grind
  ·grind
 | iface t v0 x h ih =>
  intro v hv;cases hv with
  | plain _ _ h=>exact .plain _ _ h
  | iface _ u _ h=>exact .iface t u x (ih h)
 | agg cs xs hs iw _ ih =>
  intro v hv;obtain⟨C,rfl,wj,TS,hc⟩:=hv.mf;refine .agg C xs wj TS (fun j v x hv hx=>?_)
  grind
 | tuple vs xs hs _ ih =>
  intro v hv;obtain⟨us,rfl,wj,h1⟩:=hv.vk;refine .tuple us xs wj (fun j v x hv hx=>?_)
  grind
def As(H:ae)(m:Nat)(gh:Gh)(w:World):Prop:=∀ (l:Nat) (cs:List AV),l<m->H[l]?=some (.bV cs)->iL gh m w (gh.ρ l) (.hb l) (fun j=>.hs l j) cs
theorem afa(Ql:bf G base H0 ghI wI)(we:iH H0 s)(ho:ku H0.length s=true)(hW:bf G base s.H gh w):As s.H H0.length gh w:=by
 intro l cs hl hH;obtain⟨h1,h2,C,RP,h3,h4,h5⟩:=(hW.more l _ hH:iL gh s.H.length w (gh.ρ l) (.hb l) (fun j=>.hs l j) cs)
 refine⟨h1,h2,C,RP,h3,h4,fun j v x hv hx=>⟨(h5 j v x hv hx).1,?_⟩⟩
 have oy:=(h5 j v x hv hx).2
 by_cases oT:l<s.lo
 ·have hH0:H0[l]?=some (.bV cs):=by rw[<- we.same l oT];exact hH
  obtain⟨_,_,C0,WH,g3,g4,g5⟩:=(Ql.more l _ hH0:iL ghI H0.length wI (ghI.ρ l) (.hb l) (fun j=>.hs l j) cs)
  have hj:j<C0.size:=by have:=(auU.1 hx).1;omega
  rcases oy with HJ|CS
  ·rcases (g5 j _ x (au' hj) hx).2 with k|⟨e,rfl,_⟩
   ·exact .inl (k.lower HJ)
   ·cases HJ with
    | plain _ _ h=>cases h
    | full a k _ h hz=>exact .inl (.full a k e h hz)
  ·exact .inr CS
 ·have hc:x.bz H0.length=true:=by
   unfold ku at ho;cases hb:Nat.beq s.lo H0.length with
   | true=>have:=avR hb;omega
   | false =>
    rw[hb,cond_false] at ho;have hm:bM.bV cs∈(s.H.take H0.length).drop s.lo:=by
     refine au0 (i:=l-s.lo) ?_
     grind
    grind
  rcases oy with HJ|⟨e,rfl,_⟩
  ·exact .inl (HJ.bz hc)
  ·simp[AV.bz,AV.plain] at hc
def CR.aX{n:Nat}{x:AV}(h:CR gh n w p v x)(hx:aX loc x=true)(hl:loc<m):CR gh m w p v x:=by
 rcases h with h|h
 ·exact .inl (h.aX hx hl)
 ·exact .inr h
def bf.Io(hW:bf G base H gh w)(hm:m<=H.length)(hold:As H m gh w):bf G base (H.take m) gh w:=by
 have aa9:(H.take m).length=m:=dw;refine⟨hW.size,hW.pN,hW.qN,hW.aW,fun loc ty cs hl=>?_,fun loc ty cs hl=>?_,hW.Bq,hW.bytes,fun loc o hl=>?_,fun loc ty cs hl=>?_⟩
 rotate_left 2
 ·rw[avn] at hl
  split at hl
  ·rename_i aZ
   have h:=hW.more loc o hl;rw[aa9];cases o with
   | map kz ka va es =>
    obtain⟨⟨h1,h2,E,ck,f,h3,h4,h5,h6⟩,h7⟩:=h;refine⟨⟨h1,h2,E,ck,f,h3,h4,h5,fun i j r x hi hj hl=>?_⟩,h7⟩
    have hc:=auX.1 (auX.1 h7 r (au0 hi)) x (au0 hj);obtain⟨k1,k2,k3⟩:=h6 i j r x hi hj hl;refine⟨k1,fun hv=>?_,k3.aX hc aZ⟩
    exact (k2 hv).aX hc aZ
   | iW kz ka va es=>exact h
   | Tc cs=>exact h
   | bV cs=>exact hold loc cs aZ hl
   | _=>trivial
  ·cases hl
 ·rw[avn] at hl
  split at hl
  ·exact hW.types loc ty cs hl
  ·cases hl
 ·rw[avn] at hl
  split at hl
  ·rename_i aZ
   obtain⟨h1,h2,C,RP,h3,h4,h5⟩:=hW.boxes loc _ cs hl;refine⟨h1,h2,C,RP,h3,h4,fun j v x hv hx=>⟨(h5 j v x hv hx).1,?_⟩⟩
   have hlen:(H.take m).length=m:=dw;rw[hlen];exact (h5 j v x hv hx).2.aX (auX.1 (hW.refs loc _ cs hl) x (au0 hx)) aZ
  ·cases hl
 ·rw[avn] at hl
  split at hl
  ·exact hW.refs loc _ cs hl
  ·cases hl
theorem It(hW:bf G base s.H gh w)(hF:FR L nt gh w a s):∀ (l:List ResultVar) (rs:List gY) (xs:List AV),l.length=rs.length->(∀ (j:Nat) (r:ResultVar) (i:gY),l[j]?=some r->rs[j]?=some i ->
    (∃ t,r=.tmp t/\i=.tmp t/\t<nt)\/∃ t ty g sz,r=.cell t ty/\i=.cell t g sz/\t<nt/\nP P ty=some g/\fD P ty=some sz)->lN s rs=some xs ->
    ∃ vs:List Value,l.length=vs.length/\vs.length=xs.length/\(∀ (j:Nat) (r:ResultVar) (v:Value),l[j]?=some r->vs[j]?=some v->(pL a.tmps r).run P w=.ok v w)/\∀ (j:Nat) (v:Value) (x:AV),vs[j]?=some v->xs[j]?=some x->VR gh s.H.length w v x:=by
 intro l
 induction l with
 | nil =>
  intro rs xs hl _ h;have:=avc.1 (cT hl.symm)
  subst this;simp only[lN,auR] at h
  simp_all
 | cons rv l ih =>
  intro rs xs hl hc h;cases rs with
  | nil=>simp at hl
  | cons i rs =>
   simp only[lN,auQ,auP] at h;obtain⟨z,hz,ys,QC,rfl⟩:=h;obtain⟨v,h1,h2⟩:=Dz (P:=P) hW hF (hc 0 rv i rfl rfl) hz;have hv:VR gh s.H.length w v z.dk:=by
    rcases h2 with ⟨t,_,_,_,_,oy⟩|HJ
    ·exact ml oy.dropped
    ·exact ml HJ.dropped
   obtain⟨vs,k1,k2,k3,k4⟩:=ih rs ys (cT hl) (fun j r i hr hi=>hc (j+1) r i (cT hr) (cT hi)) QC
   refine⟨v :: vs,by simp[k1],by simp[k2],fun j r u hr hu=>?_,fun j u x hu hx=>?_⟩
   ·grind
   ·grind
theorem ND{lT:Gh}(mo:clean lT)(hI:Inv G base nt L H lT w0 s gh w a)(hc:kA P nt fn.results.toList=some rs){c:Option fR}(hold:∀ bt w',bf G base s.H bt w'->As s.H H.length bt w')(he:iI H.length rs s=some (r,c)) :
  jF H c/\∃ v bt,(results fn a.tmps).run P w=.ok v w/\oY G base H lT w0 r c v bt w:=by
 simp only[iI,auQ] at he;obtain⟨r',hr,he⟩:=he;obtain⟨tQ,he⟩:=al he;simp only[auR,auV] at he;obtain⟨rfl,xK⟩:=he;have hlen:=hI.lo.len;have jX:qe H c=s.H.take H.length:=by
  cases hb:Nat.beq s.lo H.length with
  | false=>rw[hb] at xK;subst xK;rfl
  | true =>
   rw[hb] at xK;subst xK;have we:=avR hb
   show H=_
   refine awi fun l=>?_
   rw[avn];split
   ·rename_i hl;exact (hI.lo.same l ah).symm
   ·grind
 have uB:(qe H c).length=H.length:=by rw[jX];simp;omega
 have Mx:jF H c:=by
  refine⟨awc uB.symm,fun c' BI=>?_⟩
  cases hb:Nat.beq s.lo H.length with
  | true=>rw[hb] at xK;rw[<- xK] at BI;cases BI
  | false =>
   rw[hb] at xK;rw[<- xK] at BI;simp only[cond_false,auR] at BI;subst BI;refine⟨hI.lo.lo,fun l hl=>?_⟩
   have:=hI.lo.lo
   rw[avn,if_pos (by simp only at hl;omega)]
   exact hI.lo.same l hl
 refine⟨Mx,?_⟩;have fin:∀ {v:Value} {bt:Gh},(results fn a.tmps).run P w=.ok v w->bf G base s.H bt w->Ext s.H.length gh w bt w->CR bt s.H.length w .ret v r'->∃ v bt,(results fn a.tmps).run P w=.ok v w/\oY G base H lT w0 r' c v bt w:=by
  intro v bt h1 h2 h3 h4;have hE:=hI.E.trans h3 hlen;refine⟨v,bt,h1,awc uB.symm,by rw[jX];exact h2.Io hlen (hold _ _ h2),?_,hE.out,by rw[uB];exact h4.leaves tQ⟩
  have st:=hE.step;refine⟨st.S,st.cell,st.size,st.os,st.tape,st.output,fun b hb hn=>st.od b hb (fun ht=>hn ?_),st.fresh,st.ρ,st.len,st.mp⟩
  rcases mo b with h|h|h|h
  ·exact absurd h ht.1
  ·exact absurd h ht.2
  ·exact .inl h
  ·exact .inr h
 obtain⟨hl,qF⟩:=kO hc;have hrefl:Ext s.H.length gh w gh w:=Ext.refl _ _ _ (fun b hb=>hI.W.cA b hb)
 have one:∀ (rv:ResultVar) (v:Value),fn.results.toList=[rv]->(pL a.tmps rv).run P w=.ok v w->(results fn a.tmps).run P w=.ok v w:=by
  intro rv v h1 h2;have:=lg (P:=P) (w:=w) (fn:=fn) (tmps:=a.tmps) (vs:=[v]) (by rw[h1];rfl) (fun j r' v' hr hv=>by
   rw[h1] at hr;cases j with
   | zero=>simp at hr hv;subst hr hv;exact h2
   | succ j=>simp at hr)
  simpa using this
 unfold my at hr;split at hr
 ·rename_i i
  have MK:([i]:List gY)=[i]:=rfl;rw[MK] at hl;obtain⟨rv,Qw⟩:∃ rv,fn.results.toList=[rv]:=awd.1 (cT hl);have XN:=qF 0 rv i (by rw[Qw];rfl) (by rw[MK];rfl)
  split at hr
  ·rename_i b bU
   rcases XN with ⟨t,rfl,rfl,ht⟩|⟨t,ty,g,sz,rfl,rfl,_⟩
   ·simp only[ow] at bU
    have ri:=hI.F.slot t ht
    change SR gh s.H.length nt w s.T s.gen (gN a) t (gN a t) (s.T t) at ri
    split at bU
    ·rename_i g e hT
     injection bU with bU
     subst bU;rw[hT] at hr;obtain⟨qE,hr⟩:=al hr;injection hr with hr
     subst hr;obtain⟨bt,h2,h3,h4⟩:=freeze hI.W hI.F ht hT qE;exact fin (one _ _ Qw rfl) h2 h3 h4
    ·rename_i b' g hT
     rw[hT] at ri;obtain⟨iJ,_,hv⟩:=ri;split at bU
     ·rename_i g' e Fq
      obtain⟨h0,bU⟩:=al bU;injection bU with bU
      subst bU;rw[Fq] at hr;obtain⟨qE,hr⟩:=al hr;injection hr with hr
      subst hr;have Ka:g=g':=by simpa [iE] using h0
      have iQ:=hv (by rw[Fq,Ka];rfl)
      obtain⟨bt,h2,h3,h4⟩:=freeze hI.W hI.F iJ Fq qE;exact fin (one _ _ Qw rfl) h2 h3 (by show CR bt s.H.length w .ret (gN a t) _;rw[iQ];exact h4)
     ·cases bU
    ·cases bU
   ·cases bU
  ·obtain⟨v,h1,h2⟩:=Dz (P:=P) hI.W hI.F XN hr
   rcases h2 with ⟨t,_,ht,rfl,hz,oy⟩|HJ
   ·rcases oy with HJ|⟨e,rfl,_⟩
    ·exact fin (one _ _ Qw h1) hI.W hrefl (.inl HJ)
    ·obtain⟨bt,h2,_,h3,_,h4⟩:=yX hI.W hI.F ht hz.symm .ret ag
     exact fin (one _ _ Qw h1) h2 h3 h4
   ·exact fin (one _ _ Qw h1) hI.W hrefl (.inl HJ)
 ·rename_i dp
  simp only[auP] at hr;obtain⟨xs,hxs,rfl⟩:=hr;obtain⟨vs,k1,k2,k3,k4⟩:=It (P:=P) hI.W hI.F _ _ xs hl qF hxs;have HR:vs.length≠1:=by
   intro h;rw[<- k1,hl] at h;obtain⟨i,hi⟩:=awd.1 h;exact dp i hi
  have fe:=lg (P:=P) (w:=w) (fn:=fn) (tmps:=a.tmps) k1 k3;rw[axc (cT HR)] at fe;exact fin fe hI.W hrefl (.inl (.tuple vs.toArray xs (cT k2) (fun j v x hv hx=>k4 j v x (cT hv) hx)))
def JR(hI:iH H s){c:Option fR}(he:iI H.length rs s=some (r,c)):jF H c:=by
 simp only[iI,auQ] at he;obtain⟨r',hr,he⟩:=he;obtain⟨tQ,he⟩:=al he;simp only[auR,auV] at he;obtain⟨rfl,xK⟩:=he;have hlen:=hI.len;cases hb:Nat.beq s.lo H.length with
 | true=>rw[hb] at xK;subst xK;exact⟨Nat.le_refl _,fun c' h=>by cases h⟩
 | false =>
  rw[hb] at xK;subst xK;refine⟨by simp[qe];omega,fun c' BI=>?_⟩
  simp only[cond_false,auR] at BI;subst BI;refine⟨hI.lo,fun l hl=>?_⟩
  have:=hI.lo
  rw[avn,if_pos (by simp only at hl;omega)]
  exact hI.same l hl
def CC{c:Option fR}(he:qA m rs s=some (r,c)):rs.length≠1/\∃ xs e,qL s m rs=some (xs,some e)/\r=.tuple xs/\c=some ⟨s.H.take m++[.box bE e.flatten],s.lo⟩:=by
 unfold qA at he;cases hb:Nat.beq rs.length 1 with
 | true=>rw[hb] at he;cases he
 | false =>
  rw[hb] at he;simp only[cond_false,auQ,auP,auV] at he;obtain⟨⟨xs,eo⟩,hq,e,rfl,rfl,rfl⟩:=he;exact⟨(fun h=>by rw[h] at hb;cases hb),xs,e,hq,rfl,rfl⟩
theorem CE{x:AV × Option fR}(he:mc m qd s=some x):ku m s=true/\(sD m qd.results s=some x\/iI m qd.results s=some x\/qA m qd.results s=some x\/sG m qd.results s=some x):=by
 unfold mc at he;obtain⟨h0,he⟩:=al he;refine⟨h0,?_⟩;unfold qp at he;split at he
 ·rename_i h
  unfold oE at h
  grind
 ·grind
theorem CA{c:Option fR}(he:sD m rs s=some (r,c)):∃ i l off n z ty cs,rs=[i]/\iO s i=some (.sref l off n z)/\s.H[l]?=some (.box ty cs)/\m<=l/\cs.all AV.plain=true/\r=.sref m off n z/\c=some ⟨s.H.take m++[.bV cs],s.lo⟩:=by
 unfold sD at he;split at he
 ·rename_i i
  simp only[auQ] at he;obtain⟨v,hv,he⟩:=he;split at he
  ·rename_i l off n z
   split at he
   ·rename_i ty cs hH
    obtain⟨h0,he⟩:=al he;simp only[auR,auV] at he;simp only[auT,avm] at h0
    grind
   ·cases he
  ·cases he
 ·cases he
theorem Ol(hI:iH H s){c:Option fR}(xK:cond (Nat.beq s.lo H.length) none (some ⟨s.H.take H.length,s.lo⟩)=c):jF H c/\qe H c=s.H.take H.length:=by
 have hlen:=hI.len;cases hb:Nat.beq s.lo H.length with
 | true =>
  rw[hb] at xK;subst xK;have we:=avR hb;refine⟨⟨Nat.le_refl _,fun c' h=>by cases h⟩,?_⟩
  show H=_
  refine awi fun l=>?_
  rw[avn];split
  ·rename_i hl;exact (hI.same l ah).symm
  ·grind
 | false =>
  rw[hb] at xK;subst xK;refine⟨⟨by simp[qe];omega,fun c' BI=>?_⟩,rfl⟩
  simp only[cond_false,auR] at BI;subst BI;refine⟨hI.lo,fun l hl=>?_⟩
  have:=hI.lo
  rw[avn,if_pos (by simp only at hl;omega)]
  exact hI.same l hl
theorem CB{c:Option fR}(he:sG m rs s=some (r,c)):vG m s rs=some r/\r.leaves m=true/\cond (Nat.beq s.lo m) none (some ⟨s.H.take m,s.lo⟩)=c:=by
 simp only[sG,auQ] at he
 grind
theorem JW(hI:iH H s)(o:bM):jF H (some ⟨s.H.take H.length++[o],s.lo⟩):=by
 have:=hI.len
 have h1:=hI.lo;refine⟨by simp[qe];omega,fun c' BI=>?_⟩
 injection BI with BI
 subst BI;refine⟨hI.lo,fun l hl=>?_⟩
 simp only at hl ⊢;rw[au3 dw,avn,if_pos ah];exact hI.same l hl
def Cz{c:Option fR}(he:wY rs s=some (r,c)):rs.length≠1/\∃ xs,lN s rs=some xs/\r=.tuple xs/\c=some ⟨s.H,s.lo⟩:=by
 unfold wY at he;cases hb:Nat.beq rs.length 1 with
 | true=>rw[hb] at he;cases he
 | false =>
  rw[hb] at he;simp only[cond_false,auP,auV] at he;obtain⟨xs,h1,h2,h3⟩:=he;exact⟨fun h=>by (rw[h] at hb;cases hb),xs,h1,h2.symm,h3.symm⟩
def WR(hI:iH H s):jF H (some ⟨s.H,s.lo⟩):=by
 refine⟨hI.len,fun c' BI=>?_⟩
 injection BI with BI
 subst BI;exact⟨hI.lo,hI.same⟩
theorem AG{x:AV × Option fR}(he:finish m qd s=some x):(∃ r0,mc m qd s=some (r0,x.2)/\(x.1=r0\/x.1=ng r0))\/wY qd.results s=some x:=by
 unfold finish at he;split at he
 case h_2 =>
  unfold BB at he
  grind
 rename_i y hy;injection he with he
 subst he;refine .inl ?_;have he:=hy;simp only[auP] at he;obtain⟨⟨r0,c0⟩,h1,h2⟩:=he;unfold rC at h2
 grind
theorem PR.n2{S:Nat->Nat->Prop}{w:World}{x:AV}(h:PR S w v x):PR S w v (n2 x):=by
 have one:∀ {v x},PR S w v x->PR S w v (n1 x):=by
  intro v x h;have h0:=h
  cases h<;>first|exact .dq|exact h0
 have h0:=h;cases h with
 | aq=>exact .dq
 | slice b o n cap sz e f hn kT bU dm dv =>
  have gb:∀ (i:Nat) (r:List AV),(e.map fun r=>r.map n1)[i]?=some r->∃ r0,e[i]?=some r0/\r=r0.map n1:=by
   grind
  have Qm:∀ (r0:List AV) (j:Nat) (x:AV),(r0.map n1)[j]?=some x->∃ x0,r0[j]?=some x0/\x=n1 x0:=by
   grind
  refine .slice b o n cap sz _ f (by rw[List.length_map];exact hn) kT (fun i r hr=>?_) (fun i j r x hr hx=>?_) (fun i j r x hr hx=>?_)
  ·grind
  ·grind
  ·grind
 | dq=>exact .dq
 | any v ho=>exact h0
 | _=>exact h0
def VR.n2{gh:Gh}{n:Nat}{w:World}{x:AV}(h:VR gh n w v x):VR gh n w v (n2 x):=by
 have h0:=h;cases h with
 | plain _ _ h=>exact .plain _ _ h.n2
 | _=>exact h0
def VR.n3{gh:Gh}{n:Nat}{w:World}{x:AV}(h:VR gh n w v x):VR gh n w v (n3 x):=by
 have h0:=h;cases h with
 | agg cs xs hs iw h =>
  refine .agg cs _ (by rw[List.length_map];exact hs) iw (fun j v x hv hx=>?_)
  rw[List.getElem?_map] at hx;cases D8:xs[j]? with
  | none=>rw[D8] at hx;cases hx
  | some x0=>rw[D8] at hx;injection hx with hx;subst hx;exact (h j v x0 hv D8).n2
 | plain _ _ h =>
  cases x with
  | agg cs=>cases h
  | _=>exact h0.n2
 | _=>exact h0
def VR.ng{gh:Gh}{n:Nat}{w:World}{x:AV}(h:VR gh n w v x):VR gh n w v (ng x):=by
 have h0:=h;cases h with
 | tuple vs xs hs h =>
  refine .tuple vs _ (by rw[List.length_map];exact hs) (fun j v x hv hx=>?_)
  rw[List.getElem?_map] at hx;cases D8:xs[j]? with
  | none=>rw[D8] at hx;cases hx
  | some x0=>rw[D8] at hx;injection hx with hx;subst hx;exact (h j v x0 hv D8).n3
 | agg cs xs hs iw h=>exact h0.n3
 | plain _ _ h =>
  cases x with
  | tuple cs=>cases h
  | _=>exact h0.n3
 | _=>exact h0
def YW{gh:Gh}{n:Nat}{w:World}{x:AV}(h:CR gh n w p v x):CR gh n w p v (ng x):=by
 rcases h with h|⟨e,rfl,h1,h2⟩
 ·exact .inl h.ng
 ·exact .inr ⟨e,rfl,h1,h2⟩
theorem CD(hI:iH H s){c:Option fR}(he:finish H.length qd s=some (r,c)):jF H c:=by
 rcases AG he with ⟨r0,he,_⟩|he
 case inr =>
  obtain⟨_,xs,_,_,rfl⟩:=Cz he;exact WR hI
 rcases (CE he).2 with he|he|he|he
 ·grind [CA,JW]
 ·exact JR hI he
 ·obtain⟨_,xs,e,_,_,rfl⟩:=CC he
  exact JW hI _
 ·exact (Ol hI (CB he).2.2).1
def wZ{α:Type} : ∀ (e:List (List α)) (idx:Nat) (x:α),(∀ r∈e,r.length=sz)->e.flatten[idx]?=some x->∃ i j r,e[i]?=some r/\r[j]?=some x/\idx=i*sz+j
 | [],_,_,_,h=>by simp at h
 | r :: e,idx,x,hr,h=>by
  rw[avo] at h
  by_cases hl:idx<r.length
  ·rw[au3 hl] at h;exact⟨0,idx,r,rfl,h,ag⟩
  ·rw[List.getElem?_append_right ah] at h
   obtain⟨i,j,r',h1,h2,h3⟩:=wZ e _ x (fun r h=>hr r (xD h)) h
   have:=hr r ag
   exact⟨i+1,j,r',cT h1,h2,by rw[avG];omega⟩
theorem AH{α:Type} : ∀ (e:List (List α)),(∀ r∈e,r.length=sz)->e.flatten.length=e.length*sz
 | [],_=>ag
 | r :: e,hr=>by
  have:=hr r ag
  have ih:=AH e (fun r h=>hr r (xD h))
  grind
def Gh.mU(gh:Gh)(k n:Nat):Gh:={ gh.tN k (.hb n) with ρ:=fun l=>if l=n then k else gh.ρ l }
def rW(hW:bf G base H gh w){k:Nat}(hk:k<w.heap.size){n:Nat}(hn:m<=n):Step (fun r=>r=gh.κ k) m gh w (gh.mU k n) w:=by
 have h:=mF hW hk (.hb n) m;refine⟨h.S,h.cell,h.size,h.os,h.tape,h.output,h.od,h.fresh,fun loc hl=>?_,h.len,h.mp⟩
 show (if loc=n then _ else _)=_
 rw[if_neg ah]
theorem bf.mU(hW:bf G base H gh w){k:Nat}(hk:w.heap[k]?=some (.cells C ty (0,0)))(hS:∀ o,¬ gh.S k o)(h0:gh.κ k≠.none)(ht:∀ l,l<H.length->gh.κ k≠.hb l/\∀ j,gh.κ k≠.hs l j)
  {cs:List AV} (hlen:cs.length<=C.size) (iG:∀ (j:Nat) (u:Value) (x:AV),C[j]?=some u->cs[j]?=some x->u.oneCell'=true/\VR gh H.length w u x) (hr:cs.all (aX H.length)=true) :
  bf G base (H++[.box bE cs]) (gh.mU k H.length) w:=by
 have aZ:=(auZ.1 hk).1;have st:=rW hW aZ (Nat.le_refl H.length);have hn:∀ l,l<H.length->¬ (bL.hb l=gh.κ k)/\∀ j,¬ (bL.hs l j=gh.κ k):=fun l hl=>⟨fun h=>(ht l hl).1 h.symm,fun j h=>(ht l hl).2 j h.symm⟩
 have last:∀ {loc:Nat} {o:bM},(H++[bM.box bE cs])[loc]?=some o->¬ loc<H.length->loc=H.length/\o=.box bE cs:=by
  grind
 refine⟨hW.size,hW.pN,fun b hb=>?_,fun g j x hx=>?_,fun loc oe ds hl=>?_,fun loc oe ds hl=>?_,hW.Bq,hW.bytes,fun loc o hl=>?_,fun loc oe ds hl hf=>?_⟩
 ·have j7:(if b=k then bL.hb H.length else gh.κ b)≠.none:=hb
  split at j7
  ·rename_i e;rw[e];exact hW.qN k h0
  ·exact hW.qN b j7
 ·obtain⟨v,h1,h2,h3⟩:=hW.aW g j x hx
  exact⟨v,h1,h2.mono st.S st.cell st.mp,h3⟩
 ·rw[List.length_append,av0]
  by_cases kj:loc<H.length
  ·rw[au3 kj] at hl
   have h:=(hW.boxes loc oe ds hl).mono st (n':=H.length+1) (Nat.le_succ _) (hn loc kj).1 (hn loc kj).2;rw[st.ρ loc kj];exact h
  ·obtain⟨rfl,ho⟩:=last hl kj
   injection ho with ho1 ho2
   subst ho1 ho2;have hρ:(gh.mU k H.length).ρ H.length=k:=by simp[Gh.mU]
   rw[hρ];refine⟨by simp[Gh.mU,Gh.tN],hS,C,ty,hk,hlen,fun j v x hv hx=>?_⟩
   obtain⟨h1,h2⟩:=iG j v x hv hx;exact⟨h1,.inl (h2.mono st (Nat.le_succ _))⟩
 ·by_cases kj:loc<H.length
  ·rw[au3 kj] at hl
   exact hW.refs loc oe ds hl
  ·obtain⟨rfl,ho⟩:=last hl kj
   injection ho with ho1 ho2
   subst ho1 ho2;exact hr
 ·rw[List.length_append,av0]
  by_cases kj:loc<H.length
  ·rw[au3 kj] at hl
   rw[st.ρ loc kj];exact (hW.more loc o hl).mono st (Nat.le_succ _) (hn loc kj).1 (hn loc kj).2
  ·obtain⟨rfl,rfl⟩:=last hl kj
   trivial
 ·by_cases kj:loc<H.length
  ·rw[au3 kj] at hl
   rw[st.ρ loc kj];exact hW.types loc oe ds hl hf
  ·obtain⟨rfl,ho⟩:=last hl kj
   injection ho with ho1 ho2
   exact absurd ho1 hf
theorem bf.ack(hW:bf G base H gh w){k:Nat}(hk:w.heap[k]?=some (.cells C ty (0,0)))(hS:∀ o,¬ gh.S k o)(h0:gh.κ k≠.none)(ht:∀ l,l<H.length->gh.κ k≠.hb l/\∀ j,gh.κ k≠.hs l j)
  {cs:List AV} (hlen:cs.length<=C.size) (iG:∀ (j:Nat) (u:Value) (x:AV),C[j]?=some u->cs[j]?=some x->u.oneCell'=true/\VR gh H.length w u x) :
  bf G base (H++[.bV cs]) (gh.mU k H.length) w:=by
 have aZ:=(auZ.1 hk).1;have st:=rW hW aZ (Nat.le_refl H.length);have hn:∀ l,l<H.length->¬ (bL.hb l=gh.κ k)/\∀ j,¬ (bL.hs l j=gh.κ k):=fun l hl=>⟨fun h=>(ht l hl).1 h.symm,fun j h=>(ht l hl).2 j h.symm⟩
 have last:∀ {loc:Nat} {o:bM},(H++[bM.bV cs])[loc]?=some o->¬ loc<H.length->loc=H.length/\o=.bV cs:=by
  grind
 refine⟨hW.size,hW.pN,fun b hb=>?_,fun g j x hx=>?_,fun loc oe ds hl=>?_,fun loc oe ds hl=>?_,hW.Bq,hW.bytes,fun loc o hl=>?_,fun loc oe ds hl hf=>?_⟩
 ·have j7:(if b=k then bL.hb H.length else gh.κ b)≠.none:=hb
  split at j7
  ·rename_i e;rw[e];exact hW.qN k h0
  ·exact hW.qN b j7
 ·obtain⟨v,h1,h2,h3⟩:=hW.aW g j x hx
  exact⟨v,h1,h2.mono st.S st.cell st.mp,h3⟩
 ·rw[List.length_append,av0]
  by_cases kj:loc<H.length
  ·rw[au3 kj] at hl
   have h:=(hW.boxes loc oe ds hl).mono st (n':=H.length+1) (Nat.le_succ _) (hn loc kj).1 (hn loc kj).2;rw[st.ρ loc kj];exact h
  ·obtain⟨rfl,ho⟩:=last hl kj
   cases ho
 ·by_cases kj:loc<H.length
  ·rw[au3 kj] at hl
   exact hW.refs loc oe ds hl
  ·obtain⟨rfl,ho⟩:=last hl kj
   cases ho
 ·rw[List.length_append,av0]
  by_cases kj:loc<H.length
  ·rw[au3 kj] at hl
   rw[st.ρ loc kj];exact (hW.more loc o hl).mono st (Nat.le_succ _) (hn loc kj).1 (hn loc kj).2
  ·obtain⟨rfl,rfl⟩:=last hl kj
   have hρ:(gh.mU k H.length).ρ H.length=k:=by simp[Gh.mU]
   rw[hρ];refine⟨by simp[Gh.mU,Gh.tN],hS,C,ty,hk,hlen,fun j v x hv hx=>?_⟩
   obtain⟨h1,h2⟩:=iG j v x hv hx;exact⟨h1,.inl (h2.mono st (Nat.le_succ _))⟩
 ·by_cases kj:loc<H.length
  ·rw[au3 kj] at hl
   rw[st.ρ loc kj];exact hW.types loc oe ds hl hf
  ·obtain⟨rfl,ho⟩:=last hl kj
   cases ho
def PR.ads{S:Nat->Nat->Prop}{x:AV}(h:PR S w v x)(hp:x.plain=true)(m:Nat):aX m x=true:=by
 cases h<;>first|rfl|exact hp
def Y6{lT:Gh}(hI:Inv G base nt L H lT w0 s gh w a)(hm:m<=s.H.length):∀ (l:List ResultVar) (rs:List gY) (xs:List AV) (q:Option (List (List AV))),l.length=rs.length->(∀ (j:Nat) (r:ResultVar) (i:gY),l[j]?=some r->rs[j]?=some i ->
    (∃ t,r=.tmp t/\i=.tmp t/\t<nt)\/∃ t ty g sz,r=.cell t ty/\i=.cell t g sz/\t<nt/\nP P ty=some g/\fD P ty=some sz)->qL s m rs=some (xs,q) ->
    ∃ vs:List Value,l.length=vs.length/\vs.length=xs.length/\(∀ (j:Nat) (r:ResultVar) (v:Value),l[j]?=some r->vs[j]?=some v->(pL a.tmps r).run P w=.ok v w) /\
     (q=none->∀ (j:Nat) (v:Value) (x:AV),vs[j]?=some v->xs[j]?=some x->VR gh m w v x) /\
     ∀ e,q=some e->∃ b g,b<nt/\s.T b=.lsl g e/\e≠[]/\(e.all fun r=>r.all AV.plain)=true/\∀ (j:Nat) (v:Value) (x:AV),vs[j]?=some v->xs[j]?=some x->VR gh m w v x\/(x=.sref m 0 e.length (VH e)/\v=gN a b):=by
 intro l
 induction l with
 | nil =>
  intro rs xs q hl _ h;have:=avc.1 (cT hl.symm)
  subst this;simp only[qL,auR,auV] at h;obtain⟨rfl,rfl⟩:=h
  simp_all
 | cons rv l ih =>
  intro rs xs q hl hc h;cases rs with
  | nil=>simp at hl
  | cons i rs =>
   simp only[qL,auQ] at h;obtain⟨⟨ys,q'⟩,QC,h⟩:=h;obtain⟨vs,k1,k2,k3,k4,k5⟩:=ih rs ys q' (cT hl) (fun j r i hr hi=>hc (j+1) r i (cT hr) (cT hi)) QC
   have XN:=hc 0 rv i rfl rfl;have runs:∀ v,(pL a.tmps rv).run P w=.ok v w->∀ (j:Nat) (r:ResultVar) (u:Value),(rv :: l)[j]?=some r->(v :: vs)[j]?=some u->(pL a.tmps r).run P w=.ok u w:=by
    intro v h1 j r u hr hu;cases j with
    | zero=>simp at hr hu;subst hr hu;exact h1
    | succ j=>exact k3 j r u (cT hr) (cT hu)
   split at h
   ·rename_i b bU
    split at h
    ·rename_i gg e hT
     obtain⟨h0,h⟩:=al h;simp only[auT,awD,avg,awZ] at h0;simp only[auR,auV] at h;obtain⟨rfl,rfl⟩:=h;obtain⟨⟨hq',dp⟩,ij⟩:=h0
     rcases XN with ⟨t,rfl,rfl,ht⟩|⟨t,ty,g,sz,rfl,rfl,_⟩
     ·have hb:b<nt/\gN a t=gN a b:=by
       simp only[ow] at bU;have ri:=hI.F.slot t ht
       change SR gh s.H.length nt w s.T s.gen (gN a) t (gN a t) (s.T t) at ri
       split at bU
       ·injection bU with bU;subst bU;exact⟨ht,rfl⟩
       ·rename_i b' g CI
        rw[CI] at ri;obtain⟨iJ,_,hv⟩:=ri;split at bU
        ·rename_i g' e' Fq
         obtain⟨h0,bU⟩:=al bU;injection bU with bU
         subst bU;have Ka:g=g':=by simpa [iE] using h0
         exact⟨iJ,hv (by rw[Fq,Ka];rfl)⟩
        ·cases bU
       ·cases bU
      refine⟨gN a t :: vs,by simp[k1],by simp[k2],runs _ rfl,(fun h=>by cases h),fun e' yw=>?_⟩
      injection yw with yw
      subst yw;refine⟨b,gg,hb.1,hT,dp,ij,fun j u x hu hx=>?_⟩
      cases j with
      | zero=>simp at hu hx;subst hu hx;exact .inr ⟨rfl,hb.2⟩
      | succ j=>exact .inl (k4 hq' j u x (cT hu) (cT hx))
     ·cases bU
    ·cases h
   ·simp only[auQ] at h
    obtain⟨z,hz,h⟩:=h;obtain⟨h0,h⟩:=al h;simp only[auR,auV] at h;obtain⟨rfl,rfl⟩:=h;obtain⟨v,h1,h2⟩:=Dz (P:=P) hI.W hI.F XN hz;have hv:VR gh m w v z.dk:=by
     rcases h2 with ⟨t,_,_,_,_,oy⟩|HJ
     ·exact (ml oy.dropped).ft h0
     ·exact (ml HJ.dropped).ft h0
    refine⟨v :: vs,by simp[k1],by simp[k2],runs v h1,fun hq j u x hu hx=>?_,fun e he=>?_⟩
    ·cases j with
     | zero=>simp at hu hx;subst hu hx;exact hv
     | succ j=>exact k4 hq j u x (cT hu) (cT hx)
    ·obtain⟨b,g,c1,c2,c3,c4,c5⟩:=k5 e he
     refine⟨b,g,c1,c2,c3,c4,fun j u x hu hx=>?_⟩
     cases j with
     | zero=>simp at hu hx;subst hu hx;exact .inl hv
     | succ j=>exact c5 j u x (cT hu) (cT hx)
theorem ZI{lT:Gh}(mo:clean lT)(hI:Inv G base nt L H lT w0 s gh w a)(hc:kA P nt fn.results.toList=some rs){c:Option fR}(hold:∀ bt w',bf G base s.H bt w'->As s.H H.length bt w')(he:qA H.length rs s=some (r,c)) :
  ∃ v bt,(results fn a.tmps).run P w=.ok v w/\oY G base H lT w0 r c v bt w:=by
 obtain⟨anH,xs,e,hq,rfl,rfl⟩:=CC he;obtain⟨hl,qF⟩:=kO hc;have hlen:=hI.lo.len;obtain⟨vs,k1,k2,k3,_,k5⟩:=Y6 (P:=P) hI hlen _ _ xs (some e) hl qF hq;obtain⟨b,g,hb,hT,dp,ij,iQ⟩:=k5 e rfl;have fe:=lg (P:=P) (w:=w) (fn:=fn) (tmps:=a.tmps) k1 k3;rw[axc (by intro h;apply anH;rw[<- hl,k1];simpa using h)] at fe
 obtain⟨ad,cap,hV,⟨h0,_⟩|⟨k,C,ty,sz,_,rfl,hκ,hS,hk,hC,hle,hr,iG⟩⟩:=pR hI.F hb hT
 ·exact absurd h0 dp
 have adE:=(auZ.1 hk).1;have hWp:=hI.W.Io hlen (hold _ _ hI.W);have OC:(s.H.take H.length).length=H.length:=dw;have bU:∀ r∈e,r.length=sz:=fun r hm=>by obtain⟨i,hi⟩:=avl hm;exact hr i r hi
 have h0:gh.κ k≠.none:=by rw[hκ];simp
 have h1:gh.κ k≠.outer:=by rw[hκ];simp
 have ht:∀ l,l<(s.H.take H.length).length->gh.κ k≠.hb l/\∀ j,gh.κ k≠.hs l j:=fun l _=>by rw[hκ];simp
 have nL:=hWp.mU hk hS h0 ht (cs:=e.flatten) (by rw[AH e bU,hC];exact au6 _ hle)
  (fun j u x hu hx=>by
   obtain⟨i,j',r,e1,e2,rfl⟩:=wZ e j x bU hx;obtain⟨u',HW,hp⟩:=iG i j' r x e1 e2;rw[hu] at HW;injection HW with HW
   subst HW;exact⟨hp.gm,.plain _ _ hp⟩)
  (auX.2 fun x hx=>by
   obtain⟨j,hj⟩:=avl hx;obtain⟨i,j',r,e1,e2,_⟩:=wZ e j x bU hj;obtain⟨u',_,hp⟩:=iG i j' r x e1 e2;exact hp.ads (auX.1 (auX.1 ij r (au0 e1)) x (au0 e2)) _)
 rw[OC] at nL;have DO:=rW hI.W adE (m:=H.length) (Nat.le_refl H.length);have hE:Ext H.length gh w (gh.mU k H.length) w:=⟨DO.mono (fun r h=>by rw[h];exact⟨h0,h1⟩),fun b' iJ=>by
  have j7:(if b'=k then bL.hb H.length else gh.κ b')=.outer:=iJ
  split at j7
  ·cases j7
  ·exact j7⟩
 have AJ:=hI.E.trans hE (Nat.le_refl _);have uF:(qe H (some ⟨s.H.take H.length++[.box bE e.flatten],s.lo⟩)).length=H.length+1:=by simp[qe];omega
 refine⟨_,_,fe,by rw[uF];omega,nL,?_,AJ.out,?_⟩
 ·have st:=AJ.step
  refine⟨st.S,st.cell,st.size,st.os,st.tape,st.output,fun b hb hn=>st.od b hb (fun ht=>hn ?_),st.fresh,st.ρ,st.len,st.mp⟩
  rcases mo b with h|h|h|h
  ·exact absurd h ht.1
  ·exact absurd h ht.2
  ·exact .inl h
  ·exact .inr h
 ·rw[uF]
  refine .inl (.tuple vs.toArray xs (cT k2) (fun j v x hv hx=>?_))
  rcases iQ j v x (cT hv) hx with h|⟨rfl,rfl⟩
  ·exact h.mono DO (Nat.le_succ _)
  ·rw[hV]
   have hρ:(gh.mU k H.length).ρ H.length=k:=by simp[Gh.mU]
   have hrw:VH e=sz:=by
    cases e with
    | nil=>exact absurd rfl dp
    | cons r0 e=>simp[VH,bU r0 (List.mem_cons_self ..)]
   have:=VR.sref (gh:=gh.mU k H.length) (w:=w) (n:=H.length+1) H.length 0 e.length cap (VH e) ah hle (fun _=>⟨ty,by rw[hρ];exact⟨C,(0,0),hk,by rw[hC,hrw,avt]⟩⟩)
   rw[hρ] at this;exact this
theorem ZG{lT:Gh}(mo:clean lT)(hI:Inv G base nt L H lT w0 s gh w a)(hc:kA P nt fn.results.toList=some rs){c:Option fR}(hold:∀ bt w',bf G base s.H bt w'->As s.H H.length bt w')(he:sD H.length rs s=some (r,c)) :
  ∃ v bt,(results fn a.tmps).run P w=.ok v w/\oY G base H lT w0 r c v bt w:=by
 obtain⟨i,l,off,n,z,WH,cs,OG,aiO,hH,hml,ij,rfl,rfl⟩:=CA he;obtain⟨hl,qF⟩:=kO hc;have hlen:=hI.lo.len;rw[OG] at hl;obtain⟨rv,Qw⟩:∃ rv,fn.results.toList=[rv]:=awd.1 (cT hl);have XN:=qF 0 rv i (by rw[Qw];rfl) (by rw[OG];rfl)
 obtain⟨v,h1,h2⟩:=Dz (P:=P) hI.W hI.F XN aiO;have hv:VR gh s.H.length w v (.sref l off n z):=by
  rcases h2 with ⟨t,_,_,_,_,oy⟩|HJ
  ·exact oy.dropped
  ·exact HJ
 obtain⟨_,cap,hk,hz,rfl⟩:=hv.kU;have fe:=lg (P:=P) (w:=w) (fn:=fn) (tmps:=a.tmps) (vs:=[.slice (some ⟨gh.ρ l,off,none⟩) n cap]) (by rw[Qw];rfl) (fun j r' v' hr hv=>by
  rw[Qw] at hr;cases j with
  | zero=>simp at hr hv;subst hr hv;exact h1
  | succ j=>simp at hr)
 obtain⟨hκ,hS,C,ty,hb,hC,iG⟩:=hI.W.boxes l _ cs hH;have adE:=(auZ.1 hb).1;have hWp:=hI.W.Io hlen (hold _ _ hI.W);have OC:(s.H.take H.length).length=H.length:=dw;have h0:gh.κ (gh.ρ l)≠.none:=by rw[hκ];simp
 have Wt:gh.κ (gh.ρ l)≠.outer:=by rw[hκ];simp
 have nL:=hWp.ack hb hS h0 (fun l' Fu=>by rw[hκ];rw[OC] at Fu;exact⟨by intro e;injection e with e;omega,ag⟩) (cs:=cs) hC (fun j u x hu hx=>by
  obtain⟨k1,k2⟩:=iG j u x hu hx;have hp:=auX.1 ij x (au0 hx);have:=k2.dropped
  rw[vY hp] at this;exact⟨k1,.plain _ _ (this.l8 hp)⟩)
 rw[OC] at nL;have DO:=rW hI.W adE (m:=H.length) (Nat.le_refl H.length);have hE:Ext H.length gh w (gh.mU (gh.ρ l) H.length) w:=⟨DO.mono (fun r h=>by rw[h];exact⟨h0,Wt⟩),fun b' iJ=>by
  have j7:(if b'=gh.ρ l then bL.hb H.length else gh.κ b')=.outer:=iJ
  split at j7
  ·cases j7
  ·exact j7⟩
 have AJ:=hI.E.trans hE (Nat.le_refl _);have uF:(qe H (some ⟨s.H.take H.length++[.bV cs],s.lo⟩)).length=H.length+1:=by simp[qe];omega
 refine⟨_,_,cT fe,by rw[uF];omega,nL,?_,AJ.out,?_⟩
 ·have st:=AJ.step
  refine⟨st.S,st.cell,st.size,st.os,st.tape,st.output,fun b hb hn=>st.od b hb (fun ht=>hn ?_),st.fresh,st.ρ,st.len,st.mp⟩
  rcases mo b with h|h|h|h
  ·exact absurd h ht.1
  ·exact absurd h ht.2
  ·exact .inl h
  ·exact .inr h
 ·rw[uF]
  have hρ:(gh.mU (gh.ρ l) H.length).ρ H.length=gh.ρ l:=by simp[Gh.mU]
  have:=VR.sref (gh:=gh.mU (gh.ρ l) H.length) (w:=w) (n:=H.length+1) H.length off n cap z ah hk (fun T8=>by rw[hρ];exact hz T8)
  rw[hρ] at this;exact .inl this
def rb(H:ae)(m k l:Nat):Option (List AV) :=
 ((H[l]?).bind pJ).bind fun cs=>cond (cs.all fun x=>(gx H m k x.drop).plain&&kI x) (some (cs.map fun x=>gx H m k x.drop)) none
def ams(gh:Gh)(H:ae)(m:Nat)(b o:Nat):Prop:=gh.S b o\/∃ k l cs,m<=l/\rb H m k l=some cs/\gh.ρ l=b/\o<cs.length
def Gh.XG(gh:Gh)(H:ae)(m:Nat):Gh:={ gh with S:=ams gh H m }
theorem sI{k:Nat}(h:rb H m k l=some cs):∃ o ds,H[l]?=some o/\pJ o=some ds/\cs=ds.map (fun x=>gx H m k x.drop)/\∀ x,x∈ds->(gx H m k x.drop).plain=true/\kI x=true:=by
 unfold rb at h;simp only[auQ] at h
 grind
def Nn(hW:bf G base H gh w){o:bM}{ds:List AV}(ho:H[l]?=some o)(hd:pJ o=some ds):iL gh H.length w (gh.ρ l) (.hb l) (fun j=>.hs l j) ds:=by
 cases o<;>simp only[pJ,reduceCtorEq,auR] at hd
 ·subst hd;exact hW.boxes l _ _ ho
 ·subst hd;exact hW.more l _ ho
def yo(hW:bf G base H gh w)(m n:Nat):Step (fun r=>∃ l,m<=l/\r=.hb l) n gh w (gh.XG H m) w:=by
 refine⟨fun b o h=>.inl h,fun _ _ _=>rfl,Nat.le_refl _,rfl,rfl,rfl,fun b hb hn=>⟨.inl rfl,rfl,fun o ho=>?_⟩,fun b hb=>hW.cA b hb,fun _ _=>rfl,fun _ _ _ h=>h,fun _ _ _ _ h=>h⟩
 rcases ho with ho|⟨k,l,cs,hl,hf,hρ,_⟩
 ·exact ho
 ·exfalso
  obtain⟨o',ds,OE,hd,_⟩:=sI hf;exact hn ⟨l,hl,by rw[<- hρ];exact (Nn hW OE hd).1⟩
theorem CG(hW:bf G base H gh w){k:Nat}(hV:∀ {v:Value} {x:AV},VR gh H.length w v x->VR (gh.XG H m) H.length w v (gx H m k x))(hm:m<=l)(hf:rb H m k l=some cs){x:AV}(hx:cs[j]?=some x) :
  ∃ v,w.cell? ⟨gh.ρ l,j,none⟩=some v/\PR (gh.XG H m).S w v x/\(gh.XG H m).S (gh.ρ l) j/\∀ n,v≠.int .u8 n:=by
 have hf0:=hf;obtain⟨o',ds,OE,hd,rfl,fq⟩:=sI hf;obtain⟨hκ,hS,C,RP,hb,hle,dm⟩:=Nn hW OE hd;have tU:=(auU.1 hx).1;simp only[List.getElem?_map,auP] at hx;obtain⟨y,hy,rfl⟩:=hx;have hj2:=(auU.1 hy).1;have hv:C[j]?=some C[j]:=au' ah;obtain⟨k1,k2⟩:=dm j _ y hv hy;obtain⟨p1,p2⟩:=fq y (au0 hy);refine⟨C[j],by rw[cell_of_row w _ j C RP _ hb];exact hv,(hV k2.dropped).l8 p1,.inr ⟨k,l,_,hm,hf0,rfl,tU⟩,fun n hn=>?_⟩
 have HJ:=k2.dropped;rw[hn] at HJ;cases HJ with
 | plain _ _ h =>
  cases y<;>simp only[AV.drop] at h<;>cases h<;>simp[kI] at p2
def ui : ∀ {n:Nat} {l:List AV} {i:Nat} {r:List AV},(chunks z n l)[i]?=some r->i<n/\r=(l.drop (i*z)).take z
 | 0,l,i,r,h=>by simp[chunks] at h
 | n+1,l,0,r,h=>by simp[chunks] at h;exact⟨ah,by simp[h]⟩
 | n+1,l,i+1,r,h=>by
  simp only[chunks,avy] at h;obtain⟨h1,h2⟩:=ui h;refine⟨ah,?_⟩;rw[h2,av',avG,aw6,axp z]
def Ay : ∀ {n:Nat} {l:List AV},(chunks z n l).length=n
 | 0,l=>rfl
 | n+1,l=>by simp[chunks,Ay]
theorem BG(hW:bf G base H gh w){m:Nat} : ∀ (k:Nat) {v:Value} {x:AV},VR gh H.length w v x->VR (gh.XG H m) H.length w v (gx H m k x)
 | 0,v,x,h=>h.mono (yo hW m _) (Nat.le_refl _)
 | d+1,v,x,h=>by
  have ih:=@BG hW m d;have h0:=h.mono (yo hW m _) (Nat.le_refl _);unfold gx;split
  ·rename_i l off k z
   cases hb:Nat.ble m l with
   | false=>exact h0
   | true =>
    rw[cond_true];split
    ·rename_i ds hds
     cases j7:(Nat.blt 0 z&&Nat.ble (off+k*z) ds.length&&ds.all fun x=>(gx H m d x.drop).plain&&kI x) with
     | false=>exact h0
     | true =>
      rw[cond_true];simp only[auT,avh,avm] at j7;obtain⟨⟨hz,hle⟩,fq⟩:=j7;have iG:rb H m d l=some (ds.map fun x=>gx H m d x.drop):=by
       unfold rb
       grind
      generalize hcc:ds.map (fun x=>gx H m d x.drop)=cs at *
      obtain⟨_,cap,hk,_,rfl⟩:=h.kU;have hml:m<=l:=by simpa [avm] using hb
      have cell:∀ {i j:Nat} {r:List AV} {y:AV},(chunks z k (cs.drop off))[i]?=some r->r[j]?=some y->i<k/\j<z/\cs[off+i*z+j]?=some y:=by
       intro i j r y hi hj;obtain⟨h1,rfl⟩:=ui hi
       grind
      have hlen:cs.length=ds.length:=by rw[<- hcc];simp
      refine .plain _ _ (.slice (gh.ρ l) off k cap z _ (fun i j=>(w.cell? ⟨gh.ρ l,off+i*z+j,none⟩).getD undef) Ay hk (fun i r hi=>?_) (fun i j r y hi hj=>?_) (fun i j r y hi hj=>?_))
      ·obtain⟨h1,rfl⟩:=ui hi
       have:(i+1)*z<=k*z:=au6 _ h1
       grind
      ·obtain⟨_,_,hc⟩:=cell hi hj
       obtain⟨u,k1,k2,k3,_⟩:=CG hW ih hml iG hc;exact⟨k3,by rw[k1];rfl,by rw[k1];exact k2.gm⟩
      ·grind [CG]
    ·exact h0
  ·exact h0
theorem Ot(hW:bf G base H gh w){x:AV}(h:VR gh H.length w v x):VR (gh.XG H m) H.length w v (Ms H m x):=by
 unfold Ms;split
 ·rename_i cs
  obtain⟨C,rfl,hs,iw,hc⟩:=h.mf;refine .agg C _ (cT hs) iw (fun j v x hv hx=>?_)
  grind [BG]
 ·exact BG hW Fp h
theorem ahM(hW:bf G base H gh w)(hm:m<=H.length)(hold:As H m gh w):bf G base (H.take m) (gh.XG H m) w:=by
 have Ql:=hW.Io hm hold;have aa9:(H.take m).length=m:=dw;have st:=yo hW m (H.take m).length;have ht:∀ l,l<m->¬ (∃ k,m<=k/\bL.hb l=.hb k)/\∀ j,¬ (∃ k,m<=k/\bL.hs l j=.hb k):=by
  grind
 have lt:∀ {l:Nat} {o:bM},(H.take m)[l]?=some o->l<m:=fun h=>by have:=(auU.1 h).1;omega
 refine⟨Ql.size,fun b o ho=>?_,Ql.qN,fun g j x hx=>?_,fun loc ty cs hl=>?_,Ql.refs,Ql.Bq,Ql.mj st (fun b o n ho=>?_),fun loc o hl=>?_,fun loc ty cs hl=>Ql.types loc ty cs hl⟩
 ·rcases ho with ho|⟨k,l,cs,hl,hf,rfl,_⟩
  ·exact hW.pN b o ho
  ·obtain⟨o',ds,OE,hd,_⟩:=sI hf
   obtain⟨_,_,C,RP,hb,_⟩:=Nn hW OE hd
   grind
 ·obtain⟨v,h1,h2,h3⟩:=Ql.aW g j x hx
  exact⟨v,h1,h2.mono st.S st.cell st.mp,st.S g j h3⟩
 ·exact (Ql.boxes loc ty cs hl).mono st (Nat.le_refl _) (ht loc (lt hl)).1 (ht loc (lt hl)).2
 ·rcases ho with ho|⟨k,l,cs,hl,hf,rfl,aZ⟩
  ·exact .inl ho
  ·refine .inr fun hc=>?_
   obtain⟨v,k1,_,_,k4⟩:=CG hW (BG hW k) hl hf (auS aZ)
   grind
 ·exact (Ql.more loc o hl).mono st (Nat.le_refl _) (ht loc (lt hl)).1 (ht loc (lt hl)).2
theorem ZH{lT:Gh}(mo:clean lT)(hI:Inv G base nt L H lT w0 s gh w a)(hc:kA P nt fn.results.toList=some rs){c:Option fR}(hold:∀ bt w',bf G base s.H bt w'->As s.H H.length bt w')(he:sG H.length rs s=some (r,c)) :
  ∃ v bt,(results fn a.tmps).run P w=.ok v w/\oY G base H lT w0 r c v bt w:=by
 obtain⟨hr,tQ,xK⟩:=CB he;have hlen:=hI.lo.len;have jX:=(Ol hI.lo xK).2;have uB:(qe H c).length=H.length:=by rw[jX];simp;omega
 have DO:=yo hI.W H.length H.length;have Lr:Ext H.length gh w (gh.XG s.H H.length) w:=⟨DO.mono (fun r h=>by obtain⟨l,_,rfl⟩:=h;exact⟨ag,ag⟩),fun b hb=>hb⟩
 have fin:∀ {v:Value},(results fn a.tmps).run P w=.ok v w->VR (gh.XG s.H H.length) s.H.length w v r->∃ v bt,(results fn a.tmps).run P w=.ok v w/\oY G base H lT w0 r c v bt w:=by
  intro v h1 h4;have hE:=hI.E.trans Lr (Nat.le_refl _);refine⟨v,_,h1,awc uB.symm,by rw[jX];exact ahM hI.W hlen (hold _ _ hI.W),?_,hE.out,by rw[uB];exact .inl (h4.leaves tQ)⟩
  have st:=hE.step;refine⟨st.S,st.cell,st.size,st.os,st.tape,st.output,fun b hb hn=>st.od b hb (fun ht=>hn ?_),st.fresh,st.ρ,st.len,st.mp⟩
  rcases mo b with h|h|h|h
  ·exact absurd h ht.1
  ·exact absurd h ht.2
  ·exact .inl h
  ·exact .inr h
 obtain⟨hl,qF⟩:=kO hc;have one:∀ (rv:ResultVar) (v:Value),fn.results.toList=[rv]->(pL a.tmps rv).run P w=.ok v w->(results fn a.tmps).run P w=.ok v w:=by
  intro rv v h1 h2;have:=lg (P:=P) (w:=w) (fn:=fn) (tmps:=a.tmps) (vs:=[v]) (by rw[h1];rfl) (fun j r' v' hr hv=>by
   rw[h1] at hr;cases j with
   | zero=>simp at hr hv;subst hr hv;exact h2
   | succ j=>simp at hr)
  simpa using this
 unfold vG at hr;split at hr
 ·rename_i i
  have MK:([i]:List gY)=[i]:=rfl;rw[MK] at hl;obtain⟨rv,Qw⟩:∃ rv,fn.results.toList=[rv]:=awd.1 (cT hl);have XN:=qF 0 rv i (by rw[Qw];rfl) (by rw[MK];rfl)
  simp only[auP] at hr;obtain⟨z,hz,rfl⟩:=hr;obtain⟨v,h1,h2⟩:=Dz (P:=P) hI.W hI.F XN hz;have hv:VR gh s.H.length w v z.dk:=by
   rcases h2 with ⟨t,_,_,_,_,oy⟩|HJ
   ·exact ml oy.dropped
   ·exact ml HJ.dropped
  exact fin (one _ _ Qw h1) (Ot hI.W hv)
 ·rename_i dp
  simp only[auP] at hr;obtain⟨xs,hxs,rfl⟩:=hr;obtain⟨vs,k1,k2,k3,k4⟩:=It (P:=P) hI.W hI.F _ _ xs hl qF hxs;have HR:vs.length≠1:=by
   intro h;rw[<- k1,hl] at h;obtain⟨i,hi⟩:=awd.1 h;exact dp i hi
  have fe:=lg (P:=P) (w:=w) (fn:=fn) (tmps:=a.tmps) k1 k3;rw[axc (cT HR)] at fe;refine fin fe (.tuple vs.toArray _ (cT k2) (fun j v x hv hx=>?_))
  simp only[List.getElem?_map,auP] at hx;obtain⟨y,hy,rfl⟩:=hx;exact Ot hI.W (k4 j v y (cT hv) hy)
theorem ZF{lT:Gh}(mo:clean lT)(hI:Inv G base nt L H lT w0 s gh w a)(hc:kA P nt fn.results.toList=some rs){c:Option fR}(he:wY rs s=some (r,c)) :
  ∃ v bt,(results fn a.tmps).run P w=.ok v w/\oY G base H lT w0 r c v bt w:=by
 obtain⟨dp,xs,hxs,rfl,rfl⟩:=Cz he;obtain⟨hl,qF⟩:=kO hc;obtain⟨vs,k1,k2,k3,k4⟩:=It (P:=P) hI.W hI.F _ _ xs hl qF hxs;have HR:vs.length≠1:=by
  grind
 have fe:=lg (P:=P) (w:=w) (fn:=fn) (tmps:=a.tmps) k1 k3;rw[axc (cT HR)] at fe;refine⟨_,gh,fe,hI.lo.len,hI.W,?_,hI.E.out,.inl (.tuple vs.toArray xs (cT k2) (fun j v x hv hx=>k4 j v x (cT hv) hx))⟩
 have st:=hI.E.step;refine⟨st.S,st.cell,st.size,st.os,st.tape,st.output,fun b hb hn=>st.od b hb (fun ht=>hn ?_),st.fresh,st.ρ,st.len,st.mp⟩
 rcases mo b with h|h|h|h
 ·exact absurd h ht.1
 ·exact absurd h ht.2
 ·exact .inl h
 ·exact .inr h
theorem Rj{lT:Gh}(Ql:bf G base H ghI wI)(mo:clean lT)(hI:Inv G base nt L H lT w0 s gh w a)(hc:kA P nt fn.results.toList=some qd.results){c:Option fR}(he:finish H.length qd s=some (r,c)) :
  jF H c/\∃ v bt,(results fn a.tmps).run P w=.ok v w/\oY G base H lT w0 r c v bt w:=by
 refine⟨CD hI.lo he,?_⟩
 rcases AG he with ⟨r0,he,hr⟩|he
 case inr=>exact ZF mo hI hc he
 suffices hs:∃ v bt,(results fn a.tmps).run P w=.ok v w/\oY G base H lT w0 r0 c v bt w by
  obtain⟨v,bt,k1,k2⟩:=hs
  rcases hr with rfl|rfl
  ·exact⟨v,bt,k1,k2⟩
  ·exact⟨v,bt,k1,{ k2 with val:=YW k2.val }⟩
 clear hr;obtain⟨ho,he⟩:=CE he;have hold:∀ bt w',bf G base s.H bt w'->As s.H H.length bt w':=fun bt w' h=>afa Ql hI.lo ho h
 rcases he with he|he|he|he
 ·grind [ZG]
 ·exact (ND mo hI hc hold he).2
 ·grind [ZI]
 ·grind [ZH]
section
variable {cf:gD}(tO:∀ f args H r c,cf f args H=some (r,c)->jF H c)
include tO
theorem SX{z:AV}{s:AS}(he:Cv G cf s o=some (z,s1))(h:iH H s):iH H s1:=by
 have fe:((aQ G cf s o.op).bind fun r=>match r.2 with
   | none=>some (r.1,s)
   | some s'=>some (r.1,s'))=some (z,s1)->iH H s1:=by
  intro h1;simp only[auQ] at h1
  grind [Oe]
 unfold Cv at he
 grind
theorem JF:∀ (is:List aS) (s s' : AS),gM G cf is s=some s'->iH H s->iH H s'
 | [],s,s',he,h=>by simp only[gM,auR] at he;rw[<- he];exact h
 | o :: r,s,s',he,h=>by
  simp only[gM,auQ,wV,auP] at he;obtain⟨s1,⟨⟨z,s2⟩,hz,rfl⟩,he⟩:=he;have h2:=SX tO hz h;exact JF r _ s' he (h2.qu (ni _ _ _).1 (ni _ _ _).2.2)
theorem wT(n:Nat):∀ (c:aH) (s s' : AS) (ex:bJ),kK G cf n c s=some (ex,s')->iH H s->iH H s'
 | .skip,s,s',ex,he,h=>by simp only[kK,auR,auV] at he;rw[<- he.2];exact h
 | .region ops,s,s',ex,he,h=>by
  simp only[kK,auP,auV] at he
  grind [JF]
 | .seq a b,s,s',ex,he,h=>by
  simp only[kK,auQ] at he;obtain⟨⟨e1,s1⟩,h1,he⟩:=he;have h2:=wT n a s s1 e1 h1 h;cases e1 with
  | normal=>exact wT n b s1 s' ex he h2
  | _=>simp only[auR,auV] at he;rw[<- he.2];exact h2
 | .cond c a b,s,s',ex,he,h=>by
  simp only[kK] at he;split at he
  ·rename_i t _
   cases t with
   | true=>exact wT n a s s' ex he h
   | false=>exact wT n b s s' ex he h
  ·cases he
 | .block id a,s,s',ex,he,h=>by
  simp only[kK,auP] at he;obtain⟨⟨e1,s1⟩,h1,he⟩:=he;have h2:=wT n a s s1 e1 h1 h
  grind
 | .loop a,s,s',ex,he,h=>by
  simp only[kK] at he;have go:∀ (m:Nat) (s:AS),iter (kK G cf n a) m s=some (ex,s')->iH H s->iH H s':=by
   intro m
   induction m with
   | zero=>intro s h;cases h
   | succ m ih =>
    intro s h1 h;simp only[iter,auQ] at h1;obtain⟨⟨e1,s1⟩,h1,h2⟩:=h1;have h3:=wT n a s s1 e1 h1 h
    grind
  exact go n s he h
 | .exit id,s,s',ex,he,h=>by simp only[kK,auR,auV] at he;rw[<- he.2];exact h
 | .ret,s,s',ex,he,h=>by simp only[kK,auR,auV] at he;rw[<- he.2];exact h
 | .qQ _ _,s,s',ex,he,h=>by simp[kK] at he
end
def Gh.taken(gh:Gh):Gh:={ gh with κ:=fun b=>match gh.κ b with|.par j=>.sl j|o=>o }
def ajw(p:bL):Prop:=∃ j,p=.par j
def xG(hW:bf G base H gh w)(n:Nat):Step ajw n gh w gh.taken w:=by
 refine⟨fun _ _ h=>h,fun _ _ _=>rfl,Nat.le_refl _,rfl,rfl,rfl,fun b hb hn=>⟨.inl rfl,?_,fun _ h=>h⟩,fun b hb=>?_,fun _ _=>rfl,fun _ _ _ h=>h,fun _ _ _ _ h=>h⟩
 ·simp only[Gh.taken]
  cases h:gh.κ b<;>first|rfl|skip
  exact absurd ⟨_,h⟩ hn
 ·simp only[Gh.taken,hW.fresh b hb]
  simp
def Z7(hW:bf G base H gh w):bf G base H gh.taken w:=by
 refine hW.step (xG hW H.length) (fun l=>⟨fun h=>(by obtain⟨j,h⟩:=h;cases h),fun k h=>(by obtain⟨j,h⟩:=h;cases h)⟩) hW.pN (fun b hb=>hW.qN b fun h=>hb ?_) (fun _ _ _ h=>.inl h)
 simp[Gh.taken,h]
theorem Wb(hW:bf G base H gh w){n:Nat}{x:AV}(h:CR gh n w (.par j) v x):CR gh.taken n w (.sl j) v x:=by
 have st:=xG hW n
 rcases h with h|⟨e,rfl,h1,h2⟩
 ·exact .inl (h.mono st (Nat.le_refl _))
 ·refine .inr ⟨e,rfl,h1,?_⟩
  obtain⟨b,cap,C,ty,lo,hi,sz,k1,k2,k3,k4,k5⟩:=h2;exact⟨b,cap,C,ty,lo,hi,sz,k1,by simp[Gh.taken,k2],k3,k4,k5⟩
theorem Uc{H:ae}{locals muts:List Nat}{args:List AV}{gh:Gh}{w:World}{vs:Array Value}(hW:bf G base H gh w)(Fx:vs.size=args.length)(j9:vs.size<=fn.ntmps)(dv:∀ (j:Nat) (v:Value) (x:AV),vs[j]?=some v->args[j]?=some x->CR gh H.length w (.par j) v x) :
  Inv G base fn.ntmps (locals++muts) H gh w ({ T:=fm args,H,lo:=H.length,gen:=0 } : AS) gh.taken w { tmps:=vs++Array.replicate (fn.ntmps-vs.size) undef,defers:=[] }:=by
 have gI:∀ b,w.heap.size<=b->gh.κ b≠.outer:=fun b hb=>hW.cA b hb
 have hE:Ext H.length gh w gh.taken w:=⟨(xG hW H.length).mono (fun p hp=>by obtain⟨j,rfl⟩:=hp;simp[rP]),fun b hb=>by
  simp only[Gh.taken] at hb;cases h:gh.κ b<;>rw[h] at hb<;>first|exact hb|cases hb⟩
 refine⟨Z7 hW,⟨⟨rfl,dw,fun i hi=>?_⟩,fun i hi=>?_⟩,hE,⟨Nat.le_refl _,Nat.le_refl _,fun _ _=>rfl⟩⟩
 ·have oy:CR gh.taken H.length w (.sl i) ((vs++Array.replicate (fn.ntmps-vs.size) undef).getD i undef) (fm args i):=by
   by_cases aZ:i<vs.size
   ·have h1:=au' aZ
    have h2:=auS (show i<args.length by omega)
    have h3:=dv i _ _ h1 h2;have e1:(vs++Array.replicate (fn.ntmps-vs.size) undef).getD i undef=vs[i]:=by
     rw[Array.getD_eq_getD_getElem?,Array.getElem?_append_left aZ,h1];rfl
    have e2:fm args i=args[i]:=by simp only[fm,List.getD_eq_getElem?_getD,h2];rfl
    grind [Wb]
   ·have e1:(vs++Array.replicate (fn.ntmps-vs.size) undef).getD i undef=undef:=by
     simp_all
    have e2:fm args i=.undef:=by simp only[fm,List.getD_eq_getElem?_getD,List.getElem?_eq_none (show args.length<=i by omega)];rfl
    rw[e1,e2];exact .inl .undef
  exact pU oy.aM oy
 ·exfalso
  have hn:fz (fm args i)=none:=by
   by_cases aZ:i<args.length
   ·have h1:=au' (show i<vs.size by omega)
    have h2:=auS aZ;have e2:fm args i=args[i]:=by simp only[fm,List.getD_eq_getElem?_getD,h2];rfl
    rw[e2];exact me (dv i _ _ h1 h2).aM
   ·have e2:fm args i=.undef:=by simp only[fm,List.getD_eq_getElem?_getD,List.getElem?_eq_none (show args.length<=i by omega)];rfl
    rw[e2];rfl
  grind
def fU(P:Program)(G:Nat->List AV)(f:FuncId)(g:List AV->ae->Option (AV × Option fR)):Prop :=
 ∀ args H r c,g args H=some (r,c)->(∃ fn,P.funcs[f]?=some fn/\fn.body.isSome=true/\fn.name≠ "runtime.NumGoroutine")/\jF H c /\
  ∀ (base:Nat) (gh:Gh) (w:World) (vs:Array Value),bf G base H gh w->clean gh->vs.size=args.length->(∀ (j:Nat) (v:Value) (x:AV),vs[j]?=some v->args[j]?=some x->VR gh H.length w v x) ->
   Calls P f vs w fun e w'=>∃ v bt,e=.returned v/\oY G base H gh w r c v bt w'
end
end
end Go.Abs
end
