/-
  A part of the proof of SyntaxErrors: AbsLoc, AbsCode.
-/
import Derived.Test.YtbadnagdfefbnaaGreatDoorQ05
set_option linter.unusedSimpArgs false
set_option linter.unusedVariables false
set_option linter.defProp false
noncomputable section
namespace Go.Abs
variable {s1:AS}{C:Array Value}{pc:Bool}{fn:Func}{ghI:Gh}{cs:List AV}{is:List aV}{rs:List iu}{j loc m sz z:Nat}{E:Nat->rB}{ty:TypeId}{v v0:Value}{w0 wI:World}{qw:aB}{y:aE}{o:aV}{H0:ae}{p:bM}{op:ow}
section
structure WR (e:rB) (s x:AS):Prop where
 T:∀ t,t∈e.rs->x.T t=s.T t
 H:e.rh=true\/e.wh=true->x.H=s.H/\x.lo=s.lo
 G:e.wg=true->x.gen=s.gen
structure fU (e:rB) (s1 x x1:AS):Prop where
 T:∀ t,t∈e.ws->x1.T t=s1.T t
 T' : ∀ t,t∉e.ws->x1.T t=x.T t
 H:e.wh=true->x1.H=s1.H/\x1.lo=s1.lo
 H' : e.wh=false->x1.H=x.H/\x1.lo=x.lo
 G:e.wg=true->x1.gen=s1.gen
 G' : e.wg=false->x1.gen=x.gen
def fU.stay{e:rB}{s x:AS}(h:WR e s x)(hw:∀ t,t∈e.ws->t∈e.rs):fU e s x x :=
 ⟨fun t ht=>h.T t (hw t ht),fun _ _=>rfl,fun hh=>h.H (.inr hh),fun _=>⟨rfl,rfl⟩,fun hg=>h.G hg,fun _=>rfl⟩
section
variable {G:Nat->List AV}{cf:gz}{s x:AS}{e:rB}
def R0(h:∀ t,t∈e.rs->x.T t=s.T t)(hy:∀ t,t∈y.tmps->t∈e.rs):y.eval G x.T=y.eval G s.T:=by
 cases y<;>try rfl
 rename_i t;exact h t (hy t (by simp[aE.tmps]))
def Ci(h:∀ t,t∈e.rs->x.T t=s.T t)(hy:∀ t,t∈y.tmps->t∈e.rs):y.addr G x.T=y.addr G s.T:=by
 cases y<;>try rfl
 rename_i t;simp only[aE.addr];rw[h t (hy t (by simp[aE.tmps]))]
def fR(pc:Bool):ow->ow
 | .call f xs=>cond pc (.Cs f xs) (.call f xs)
 | o=>o
def Ba(pc:Bool)(o:aV):nq pc o=⟨o.dst,o.guard,fR pc o.op⟩:=by
 obtain⟨d,g,op⟩:=o;cases op<;>simp only[nq,fR]
 cases pc<;>rfl
def fI(s:AS)(t:Nat)(v:AV)(k:Nat):(s.cx t v).T k=if k=t then v else s.T k:=lr s.T t v k
def De{c:Rw}{Y:AV}(h:aP s Y=true)(hc:gr c Y=true)(hT:∀ b,b∈iB c->x.T b=s.T b):aP x Y=true:=by
 cases Y<;>simp only[aP] at h ⊢<;>try (cases h;done)
 case lref b g off =>
  cases c with
  | frame b' =>
   simp only[gr,iI,avf] at hc;subst hc;rw[hT b' (avi.2 rfl)];exact h
  | _=>cases hc
 case eref=>cases c<;>cases hc
def YN{c:Rw}(he:F4 pc c op=some e)(hc:∀ y,(∃ t a z,op=.load t a z y)\/(∃ z v,op=.store z y v)\/op=.nilCheck y\/(∃ f,op=.fieldAddr f y)\/(∃ n z i,op=.ixArr n z y i)->gr c (y.addr G s.T)=true)
  (gV:∀ y,(∃ z i,op=.ixSl z y i)\/(∃ k,op=.len k y)->gr .heap (y.addr G s.T)=true)
  {z:AV} {so:Option AS} (ct:aR G cf s (fR pc op)=some (z,so)) (ha:WR e s x) :
  ∃ xo,aR G cf x op=some (z,xo)/\fU e (so.getD s) x (xo.getD x)/\(∀ t,t∈e.ws->t∈e.rs):=by
 have stay:(∀ t,t∈e.ws->t∈e.rs)->so=none->aR G cf x op=some (z,none)->∃ xo,aR G cf x op=some (z,xo)/\fU e (so.getD s) x (xo.getD x)/\(∀ t,t∈e.ws->t∈e.rs):=by
  rintro hw rfl h
  exact⟨none,h,fU.stay ha hw,hw⟩
 have ev:∀ {y:aE},(∀ t,t∈y.tmps->t∈e.rs)->y.eval G x.T=y.eval G s.T:=fun hy=>R0 ha.T hy
 have ad:∀ {y:aE},(∀ t,t∈y.tmps->t∈e.rs)->y.addr G x.T=y.addr G s.T:=fun hy=>Ci ha.T hy
 have Kq:∀ {X:Option AV} {w:AV} {o:Option AS},X.map (fun v=>(v,(none:Option AS)))=some (w,o)->o=none:=by
  intro X w o h;cases X with
  | none=>cases h
  | some v=>simp at h;exact h.2.symm
 have pure' : (∀ t,t∈e.ws->t∈e.rs)->PP (fun _=>False) (aR G cf s (fR pc op))->aR G cf x op=aR G cf s (fR pc op)->∃ xo,aR G cf x op=some (z,xo)/\fU e (so.getD s) x (xo.getD x)/\(∀ t,t∈e.ws->t∈e.rs):=fun hw hp hx=>by
  cases so with
  | none=>exact stay hw rfl (hx.trans ct)
  | some s1=>exact (hp _ _ ct).elim
 cases op<;>simp only[F4] at he<;>try (cases he;done)
 case bin|mm|un|Ve|conv|pick|index|rR|extract =>
  simp only[au4] at he;subst he;refine pure' (fun t h=>by cases h) ?_ (by simp (disch:=(intro t h;simp[ow.tmps,h])) only[fR,aR,ev,ad])
  simp only[fR,aR]
  repeat' first
   | exact PP.none
   | exact PP.stay
   | refine PP.cond ?_ ?_
   | refine PP.bind fun _=>?_
   | refine PP.map fun _=>?_
   | split
 case look m k =>
  simp only[au4] at he;subst he;refine pure' (fun t h=>by cases h) ?_ (by
   simp only[fR,aR,ad (y:=m) fun t h=>au'.2 (.inl h),ev (y:=k) fun t h=>au'.2 (.inr h)]
   unfold w7 za;simp only[(ha.H (.inl rfl)).1])
  simp only[fR,aR,w7]
  repeat' first
   | exact PP.none
   | exact PP.stay
   | refine PP.cond ?_ ?_
   | refine PP.bind fun _=>?_
   | refine PP.map fun _=>?_
   | split
 case mov take obj y =>
  cases obj with
  | true=>cases he
  | false =>
   simp only[cond_false,au4] at he;subst he;have hw:∀ t,t∈(cond take y.tmps [])->t∈y.tmps:=by cases take<;>simp
   simp only[fR,aR] at ct ⊢;cases y with
   | tmp t =>
    have ht:=ha.T t (by simp[aE.tmps])
    simp only[rN] at ct ⊢;rw[ht];generalize s.T t=X at ct ht;cases X
    case slice el own =>
     cases Ou:(take&&own) with
     | false =>
      simp only[Ou,cond_false,au4,au8] at ct;obtain⟨rfl,rfl⟩:=ct;exact⟨none,by simp only[Ou,cond_false],fU.stay ha hw,hw⟩
     | true =>
      simp only[au6] at Ou;obtain⟨rfl,rfl⟩:=Ou;simp only[Bool.and_self,cond_true,au4,au8] at ct;obtain⟨rfl,rfl⟩:=ct;refine⟨some (x.cx t (.slice el false)),rfl,⟨fun k hk=>?_,fun k hk=>?_,fun h=>(by cases h),fun _=>⟨rfl,rfl⟩,fun h=>(by cases h),fun _=>rfl⟩,hw⟩
      ·simp only[cond_true,aE.tmps,avi] at hk
       simp only[av0,fI,hk,awT]
      ·simp only[cond_true,aE.tmps,avi] at hk
       simp only[av0,fI,if_neg hk]
    case lsl g el =>
     cases take with
     | true =>
      simp only[cond_true,cond_false] at ct;obtain⟨h0,ct⟩:=al ct;simp only[au4,au8] at ct;obtain⟨rfl,rfl⟩:=ct;refine⟨some (x.cx t (.slice el false)),by simp only[h0,cond_true,cond_false],⟨fun k hk=>?_,fun k hk=>?_,fun h=>(by cases h),fun _=>⟨rfl,rfl⟩,fun h=>(by cases h),fun _=>rfl⟩,hw⟩
      ·simp only[cond_true,aE.tmps,avi] at hk
       simp only[av0,fI,hk,awT]
      ·simp only[cond_true,aE.tmps,avi] at hk
       simp only[av0,fI,if_neg hk]
     | false =>
      simp only[cond_false,au4,au8] at ct;obtain⟨rfl,rfl⟩:=ct;exact⟨none,rfl,fU.stay ha hw,hw⟩
    case iter=>cases ct
    all_goals
     simp only[au4,au8] at ct;obtain⟨rfl,rfl⟩:=ct;exact⟨none,rfl,fU.stay ha hw,hw⟩
   | _ =>
    simp only[rN,au4,au8] at ct;obtain⟨rfl,rfl⟩:=ct;exact⟨none,rfl,fU.stay ha hw,hw⟩
 case allocL zs =>
  simp only[au4] at he;subst he;simp only[fR,aR,au4,au8] at ct;obtain⟨rfl,rfl⟩:=ct;have hg:=ha.G rfl;refine⟨some { x with gen:=x.gen+1 },by simp only[aR,hg],⟨fun k hk=>(by cases hk),fun _ _=>rfl,fun h=>(by cases h),fun _=>⟨rfl,rfl⟩,fun _=>?_,fun h=>(by cases h)⟩,fun k hk=>(by cases hk)⟩
  simp[hg]
 case boxL y =>
  simp only[au4] at he;subst he;simp only[fR,aR,au2,au8] at ct;obtain⟨cs,iL,rfl,rfl⟩:=ct;have hg:=ha.G rfl;refine⟨some { x with gen:=x.gen+1 },by simp only[aR,hg,ev (y:=y) (fun t h=>h),iL,ave],⟨fun k hk=>(by cases hk),fun _ _=>rfl,fun h=>(by cases h),fun _=>⟨rfl,rfl⟩,fun _=>?_,fun h=>(by cases h)⟩,fun k hk=>(by cases hk)⟩
  simp[hg]
 case build zs ps =>
  simp only[au4] at he;subst he;have e1:(ps.map fun p=>(p.1,p.2.1,(p.2.2.eval G x.T).drop))=ps.map fun p=>(p.1,p.2.1,(p.2.2.eval G s.T).drop):=List.map_congr_left fun p hp=>by
   rw[ev (y:=p.2.2) (fun t h=>by simp only[ow.tmps,awC];exact⟨p,hp,h⟩)]
  simp only[fR,aR,au2,au8] at ct;obtain⟨E,hE,rfl,rfl⟩:=ct;exact stay (fun t h=>by cases h) rfl (by simp only[aR,e1,hE,ave])
 case mkslice b sz zs ps =>
  simp only[au4] at he;subst he;have e1:(ps.map fun p=>(p.1,(p.2.eval G x.T).drop))=ps.map fun p=>(p.1,(p.2.eval G s.T).drop):=List.map_congr_left fun p hp=>by
   rw[ev (y:=p.2) (fun t h=>by simp only[ow.tmps,awC];exact⟨p,hp,h⟩)]
  simp only[fR,aR,au3] at ct;obtain⟨E,hE,ct⟩:=ct;obtain⟨h0,ct⟩:=al ct;simp only[au4,au8] at ct;obtain⟨rfl,rfl⟩:=ct;exact stay (fun t h=>by cases h) rfl (by simp only[aR,e1,hE,au9,h0,cond_true])
 case slice k y lo hi mx =>
  simp only[au4] at he;subst he;simp only[fR,aR] at ct;have D7:=Kq ct;subst D7;have opt:∀ o:Option aE,(∀ t,t∈o.toList.flatMap aE.tmps->t∈(ow.slice k y lo hi mx).tmps)->o.map (·.eval G x.T)=o.map (·.eval G s.T):=by
   intro o ho;cases o with
   | none=>rfl
   | some q=>simp only[ave];rw[ev (y:=q) (fun t hm=>ho t (zo hm))]
  exact stay (fun t h=>by cases h) rfl (by
   simp only[aR];rw[ev (y:=y) (fun t hm=>by simp only[ow.tmps,au'];exact .inl (.inl (.inl hm))),
    opt lo (fun t hm=>by simp only[ow.tmps,au'];exact .inl (.inl (.inr hm))),
    opt hi (fun t hm=>by simp only[ow.tmps,au'];exact .inl (.inr hm)),
    opt mx (fun t hm=>by simp only[ow.tmps,au'];exact .inr hm)]
   exact ct)
 case mkfunc f a b =>
  simp only[au4] at he;subst he;simp only[fR,aR] at ct;obtain⟨h0,ct⟩:=al ct;simp only[au4,au8] at ct;obtain⟨rfl,rfl⟩:=ct;have ha:∀ y,y∈a->y.addr G x.T=y.addr G s.T:=fun y hy=>ad (y:=y) (fun t h=>by
   simp only[ow.tmps,au',awC];exact .inl ⟨y,hy,h⟩)
  have hb:∀ y,y∈b->y.addr G x.T=y.addr G s.T:=fun y hy=>ad (y:=y) (fun t h=>by
   simp only[ow.tmps,au',awC];exact .inr ⟨y,hy,h⟩)
  have e1:=List.map_congr_left ha;have e2:=List.map_congr_left hb;have e3:(a.map fun a=>(a.addr G x.T).drop)=a.map fun a=>(a.addr G s.T).drop:=List.map_congr_left fun y hy=>by rw[ha y hy]
  have e4:(b.map fun a=>(a.addr G x.T).drop)=b.map fun a=>(a.addr G s.T).drop:=List.map_congr_left fun y hy=>by rw[hb y hy]
  exact stay (fun t h=>by cases h) rfl (by simp only[aR];rw[e1,e2,e3,e4,h0,cond_true])
 case load take agg sz y =>
  simp only[au4] at he;subst he;have mA:=hc y (.inl ⟨take,agg,sz,rfl⟩);simp only[fR,aR] at ct ⊢;rw[ad (y:=y) (fun t h=>au'.2 (.inl h))]
  generalize y.addr G s.T=Y at ct mA;have hw:∀ t,t∈(cond (take&&!agg) (iB c) [])->t∈y.tmps++iB c:=by
   intro t ht;cases hb:(take&&!agg) with
   | false=>rw[hb] at ht;cases ht
   | true=>rw[hb] at ht;exact au'.2 (.inr ht)
  cases Y<;>simp only[cS] at ct<;>try (cases ct;done)
  case eptr cs =>
   simp only[au2,au8] at ct;obtain⟨v,hv,rfl,rfl⟩:=ct;exact⟨none,by simp only[cS,hv,ave],fU.stay ha hw,hw⟩
  case ref loc off =>
   cases c with
   | frame b=>cases mA
   | heap =>
    obtain⟨hH,hl⟩:=ha.H (.inl rfl);split at ct
    ·rename_i ty cs Oe
     simp only[au2,au8] at ct;obtain⟨v,hv,rfl,rfl⟩:=ct
     by_cases hta:take=true/\agg=false
     ·obtain⟨rfl,rfl⟩:=hta
      refine⟨some (x.iK ⟨s.H.set loc (.box ty (cM off cs)),loc⟩),by simp only[cS,hH,Oe,hv,ave,awd,Bool.and_self,cond_true],⟨fun k hk=>(by cases hk),fun k hk=>rfl,fun _=>⟨rfl,?_⟩,fun h=>(by cases h),fun h=>(by cases h),fun _=>rfl⟩,hw⟩
      simp only[awd,Bool.and_self,cond_true,av0,AS.iK,hl]
     ·have hb:(take&&!agg)=false:=by cases take<;>cases agg<;>simp_all
      have D7:∀ A:AS,(cond (take&&!agg) (some A) none:Option AS)=none:=fun A=>by rw[hb];rfl
      rw[D7];exact⟨none,by simp only[cS,hH,Oe,hv,ave,D7],fU.stay ha hw,hw⟩
    ·rename_i cs Oe
     simp only[au2,au8] at ct;obtain⟨v,hv,rfl,rfl⟩:=ct;exact⟨none,by simp only[cS,hH,Oe,hv,ave],fU.stay ha hw,hw⟩
    ·rename_i cs Oe
     simp only[au2,au8] at ct;obtain⟨v,hv,rfl,rfl⟩:=ct;exact⟨none,by simp only[cS,hH,Oe,hv,ave],fU.stay ha hw,hw⟩
    ·cases ct
  case lref b g off =>
   cases c with
   | heap=>cases mA
   | frame b' =>
    simp only[gr,iI,avf] at mA;subst mA;have hTb:=ha.T b' (au'.2 (.inr (avi.2 rfl)));split at ct
    ·rename_i g' cs hT
     obtain⟨h0,ct⟩:=al ct;simp only[au2,au8] at ct;obtain⟨v,hv,rfl,rfl⟩:=ct;rw[hT] at hTb
     by_cases hta:take=true/\agg=false
     ·obtain⟨rfl,rfl⟩:=hta
      refine⟨some (x.cx b' (.lbox g (cM off cs))),by simp only[cS,hTb,h0,cond_true,hv,ave,awd,Bool.and_self],⟨fun k hk=>?_,fun k hk=>?_,fun h=>(by cases h),fun _=>⟨rfl,rfl⟩,fun h=>(by cases h),fun _=>rfl⟩,hw⟩
      ·simp only[awd,Bool.and_self,cond_true,iB,avi] at hk
       simp only[awd,Bool.and_self,cond_true,av0,fI,hk,awT]
      ·simp only[awd,Bool.and_self,cond_true,iB,avi] at hk
       simp only[av0,fI,if_neg hk]
     ·have hb:(take&&!agg)=false:=by cases take<;>cases agg<;>simp_all
      have D7:∀ A:AS,(cond (take&&!agg) (some A) none:Option AS)=none:=fun A=>by rw[hb];rfl
      rw[D7];exact⟨none,by simp only[cS,hTb,h0,cond_true,hv,ave,D7],fU.stay ha hw,hw⟩
    ·cases ct
  case eref=>cases c<;>cases mA
 case nilCheck y =>
  simp only[au4] at he;subst he;have mA:=hc y (.inr (.inr (.inl rfl)));simp only[fR,aR] at ct ⊢;rw[ad (y:=y) (fun t h=>au'.2 (.inl h))]
  generalize y.addr G s.T=Y at ct mA;obtain⟨h0,ct⟩:=al ct;simp only[au4,au8] at ct;obtain⟨rfl,rfl⟩:=ct;have h1:=De h0 mA (fun b hb=>ha.T b (au'.2 (.inr hb)))
  exact⟨none,by simp only[h1,cond_true],fU.stay ha (fun t h=>by cases h),fun t h=>by cases h⟩
 case fieldAddr off y =>
  simp only[au4] at he;subst he;have mA:=hc y (.inr (.inr (.inr (.inl ⟨off,rfl⟩))));simp only[fR,aR] at ct ⊢;rw[ad (y:=y) (fun t h=>au'.2 (.inl h))]
  generalize y.addr G s.T=Y at ct mA;obtain⟨h0,ct⟩:=al ct;have D7:=Kq ct;subst D7;have h1:=De h0 mA (fun b hb=>ha.T b (au'.2 (.inr hb)))
  exact⟨none,by simp only[h1,cond_true];exact ct,fU.stay ha (fun t h=>by cases h),fun t h=>by cases h⟩
 case ixArr n sz y i =>
  simp only[au4] at he;subst he;have mA:=hc y (.inr (.inr (.inr (.inr ⟨n,sz,i,rfl⟩))));simp only[fR,aR,au3] at ct ⊢;obtain⟨k,hk,ct⟩:=ct;rw[ad (y:=y) (fun t h=>by simp[h]),ev (y:=i) (fun t h=>by simp[h])]
  generalize y.addr G s.T=Y at ct mA;obtain⟨h0,ct⟩:=al ct;simp only[au6] at h0;have D7:=Kq ct;subst D7;have h1:=De h0.2 mA (fun b hb=>ha.T b (zo hb))
  exact⟨none,⟨k,hk,by simp only[h0.1,h1,Bool.and_self,cond_true];exact ct⟩,fU.stay ha (fun t h=>by cases h),fun t h=>by cases h⟩
 case ixSl sz y i =>
  simp only[au4] at he;subst he;have mA:=gV y (.inl ⟨sz,i,rfl⟩);simp only[fR,aR] at ct ⊢;rw[ad (y:=y) (fun t h=>au'.2 (.inl h)),ev (y:=i) (fun t h=>au'.2 (.inr h))]
  generalize y.addr G s.T=Y at ct mA;cases Y<;>try (cases ct;done)
  case slice el own =>
   simp only[au3] at ct;obtain⟨k,hk,r,hr,ct⟩:=ct;obtain⟨h0,ct⟩:=al ct;simp only[au4,au8] at ct;obtain⟨rfl,rfl⟩:=ct;exact⟨none,by simp only[hk,au9,hr,h0,cond_true],fU.stay ha (fun t h=>by cases h),fun t h=>by cases h⟩
  case sref l o m zz =>
   simp only[au3] at ct;obtain⟨k,hk,ct⟩:=ct;obtain⟨h0,ct⟩:=al ct;simp only[au4,au8] at ct;obtain⟨rfl,rfl⟩:=ct;exact⟨none,by simp only[hk,au9,h0,cond_true],fU.stay ha (fun t h=>by cases h),fun t h=>by cases h⟩
  case lsr=>cases mA
 case len k y =>
  simp only[au4] at he;subst he;have mA:=gV y (.inr ⟨k,rfl⟩);simp only[fR,aR] at ct ⊢;rw[ad (y:=y) (fun t h=>h)]
  generalize y.addr G s.T=Y at ct mA;cases Y
  case lsr=>cases mA
  all_goals
   have D7:=Kq ct;subst D7;exact⟨none,ct,fU.stay ha (fun t h=>by cases h),fun t h=>by cases h⟩
 case store sz y v =>
  simp only[au4] at he;subst he;have mA:=hc y (.inr (.inl ⟨sz,v,rfl⟩));have hw:∀ t,t∈v.tmps++iB c->t∈y.tmps++v.tmps++iB c:=fun t ht=>by
   rcases au'.1 ht with h|h
   ·exact au'.2 (.inl (au'.2 (.inr h)))
   ·exact au'.2 (.inr h)
  have hv:=ev (y:=v) (fun t h=>au'.2 (.inl (au'.2 (.inr h))))
  have hvT:∀ t,t∈v.tmps->x.T t=s.T t:=fun t h=>ha.T t (au'.2 (.inl (au'.2 (.inr h))))
  simp only[fR,aR,au2,au8] at ct ⊢;obtain⟨s1,ct,rfl,rfl⟩:=ct;rw[ad (y:=y) (fun t h=>au'.2 (.inl (au'.2 (.inl h)))),hv]
  generalize y.addr G s.T=Y at ct mA;have sp:∀ (s1 x1:AS),(∀ t,t∈v.tmps->x1.T t=s1.T t)->(∀ t,t∈v.tmps->(x1.bG v).T t=(s1.bG v).T t)/\(∀ t,t∉v.tmps->(x1.bG v).T t=x1.T t)/\(∀ t,t∉v.tmps->(s1.bG v).T t=s1.T t):=by
   intro s1 x1 h;cases v with
   | tmp t0 =>
    have h0:=h t0 (by simp[aE.tmps])
    by_cases ho:∃ el,s1.T t0=.slice el true
    ·obtain⟨el,ho⟩:=ho
     rw[vT s1 t0 ho,vT x1 t0 (h0.trans ho)];refine⟨fun t ht=>?_,fun t ht=>?_,fun t ht=>?_⟩
     ·simp only[aE.tmps,avi] at ht
      rw[fI,fI,if_pos ht,if_pos ht]
     ·simp only[aE.tmps,avi] at ht
      rw[fI,if_neg ht]
     ·simp only[aE.tmps,avi] at ht
      rw[fI,if_neg ht]
    ·have Om:∀ el,s1.T t0≠.slice el true:=fun el h=>ho ⟨el,h⟩
     rw[sv s1 t0 Om,sv x1 t0 (fun el h=>Om el (h0.symm.trans h))]
     exact⟨h,fun _ _=>rfl,fun _ _=>rfl⟩
   | _=>exact⟨fun t ht=>by simp[aE.tmps] at ht,fun _ _=>rfl,fun _ _=>rfl⟩
  simp only[ax] at ct ⊢;split at ct
  ·cases ct
  rename_i vs Fz;obtain⟨h0,ah8⟩:=al ct;clear ct;have ct:=ah8;clear ah8;cases Y<;>(try dsimp only at ct ⊢)<;>try (cases ct;done)
  case ref loc off =>
   cases c with
   | frame b=>cases mA
   | heap =>
    obtain⟨hH,hl⟩:=ha.H (.inl rfl);split at ct
    ·rename_i ty cs Oe
     obtain⟨h1,ct⟩:=al ct;injection ct with ct
     subst ct;obtain⟨k1,k2,k3⟩:=sp (s.iK ⟨s.H.set loc (.box ty (putAt cs off vs)),loc⟩) (x.iK ⟨x.H.set loc (.box ty (putAt cs off vs)),loc⟩) hvT;refine⟨some ((x.iK ⟨x.H.set loc (.box ty (putAt cs off vs)),loc⟩).bG v),⟨x.iK ⟨x.H.set loc (.box ty (putAt cs off vs)),loc⟩,by simp only[h0,cond_true,hH,Oe,h1],trivial,rfl⟩,⟨fun k hk=>?_,fun k hk=>?_,fun _=>?_,fun h=>(by cases h),fun h=>(by cases h),fun _=>?_⟩,hw⟩
     ·exact k1 k (by simpa [iB] using hk)
     ·exact k2 k (by simpa [iB] using hk)
     ·obtain⟨q1,_,q3⟩:=jj (x.iK ⟨x.H.set loc (.box ty (putAt cs off vs)),loc⟩) v
      obtain⟨r1,_,r3⟩:=jj (s.iK ⟨s.H.set loc (.box ty (putAt cs off vs)),loc⟩) v;exact⟨q1.trans (Eq.trans (by simp only[AS.iK,hH]) r1.symm),q3.trans (Eq.trans (by simp only[AS.iK,hl]) r3.symm)⟩
     ·obtain⟨_,q2,_⟩:=jj (x.iK ⟨x.H.set loc (.box ty (putAt cs off vs)),loc⟩) v
      exact q2.trans rfl
    ·rename_i cs Oe
     obtain⟨h1,ct⟩:=al ct;injection ct with ct
     subst ct;obtain⟨k1,k2,k3⟩:=sp (s.iK ⟨s.H.set loc (.bZ (putAt cs off vs)),loc⟩) (x.iK ⟨x.H.set loc (.bZ (putAt cs off vs)),loc⟩) hvT;refine⟨some ((x.iK ⟨x.H.set loc (.bZ (putAt cs off vs)),loc⟩).bG v),⟨x.iK ⟨x.H.set loc (.bZ (putAt cs off vs)),loc⟩,by simp only[h0,cond_true,hH,Oe,h1],trivial,rfl⟩,⟨fun k hk=>?_,fun k hk=>?_,fun _=>?_,fun h=>(by cases h),fun h=>(by cases h),fun _=>?_⟩,hw⟩
     ·exact k1 k (by simpa [iB] using hk)
     ·exact k2 k (by simpa [iB] using hk)
     ·obtain⟨q1,_,q3⟩:=jj (x.iK ⟨x.H.set loc (.bZ (putAt cs off vs)),loc⟩) v
      obtain⟨r1,_,r3⟩:=jj (s.iK ⟨s.H.set loc (.bZ (putAt cs off vs)),loc⟩) v;exact⟨q1.trans (Eq.trans (by simp only[AS.iK,hH]) r1.symm),q3.trans (Eq.trans (by simp only[AS.iK,hl]) r3.symm)⟩
     ·obtain⟨_,q2,_⟩:=jj (x.iK ⟨x.H.set loc (.bZ (putAt cs off vs)),loc⟩) v
      exact q2.trans rfl
    ·cases ct
  case lref b g off =>
   cases c with
   | heap=>cases mA
   | frame b' =>
    simp only[gr,iI,avf] at mA;subst mA;have hTb:=ha.T b' (au'.2 (.inr (avi.2 rfl)));split at ct
    ·rename_i g' cs hT
     obtain⟨h1,ct⟩:=al ct;injection ct with ct
     subst ct;rw[hT] at hTb;have anG:∀ t,t∈v.tmps->(x.cx b' (.lbox g (putAt cs off vs))).T t=(s.cx b' (.lbox g (putAt cs off vs))).T t:=fun t ht=>by rw[fI,fI,hvT t ht]
     obtain⟨k1,k2,k3⟩:=sp _ _ anG;refine⟨some ((x.cx b' (.lbox g (putAt cs off vs))).bG v),⟨x.cx b' (.lbox g (putAt cs off vs)),by simp only[h0,cond_true,hTb,h1],trivial,rfl⟩,⟨fun k hk=>?_,fun k hk=>?_,fun h=>(by cases h),fun _=>?_,fun h=>(by cases h),fun _=>?_⟩,hw⟩
     ·by_cases WY:k∈v.tmps
      ·exact k1 k WY
      ·have IP:k=b':=by
        rcases au'.1 hk with h|h
        ·exact absurd h WY
        ·exact avi.1 h
       show ((x.cx b' _).bG v).T k=((s.cx b' _).bG v).T k
       rw[k2 k WY,k3 k WY,fI,fI,if_pos IP,if_pos IP]
     ·have WY:k∉v.tmps:=fun h=>hk (au'.2 (.inl h))
      have IP:k≠b':=fun h=>hk (au'.2 (.inr (avi.2 h)))
      show ((x.cx b' _).bG v).T k=x.T k
      rw[k2 k WY,fI,if_neg IP]
     ·obtain⟨q1,_,q3⟩:=jj (x.cx b' (.lbox g (putAt cs off vs))) v
      exact⟨q1.trans rfl,q3.trans rfl⟩
     ·obtain⟨_,q2,_⟩:=jj (x.cx b' (.lbox g (putAt cs off vs))) v
      exact q2.trans rfl
    ·cases ct
  case eref=>cases c<;>cases mA
 case append isB wr sz bytes y1 y2 =>
  cases wr with
  | true=>cases he
  | false =>
   simp only[cond_false,au4] at he;subst he;have hw:∀ t,t∈y1.tmps->t∈y1.tmps++y2.tmps:=fun t h=>au'.2 (.inl h)
   have h2:=ev (y:=y2) (fun t h=>au'.2 (.inr h))
   simp only[fR,aR] at ct ⊢;cases y1 with
   | tmp t =>
    have ht:=ha.T t (by simp[aE.tmps])
    simp only[bt] at ct ⊢;rw[ht,h2];split at ct
    ·simp only[au3] at ct
     obtain⟨f,_,ct⟩:=ct;simp at ct
    ·rename_i el own hT
     simp only[cond_false,au2,au8] at ct;obtain⟨z',hz,rfl,rfl⟩:=ct;refine⟨some (x.cx t (.slice el false)),by simp only[cond_false,hz,ave],⟨fun k hk=>?_,fun k hk=>?_,fun h=>(by cases h),fun _=>⟨rfl,rfl⟩,fun h=>(by cases h),fun _=>rfl⟩,hw⟩
     ·simp only[aE.tmps,avi] at hk
      simp only[av0,fI,hk,awT]
     ·simp only[aE.tmps,avi] at hk
      simp only[av0,fI,if_neg hk]
    ·simp only[cond_false,au2,au8] at ct
     obtain⟨z',hz,rfl,rfl⟩:=ct;exact⟨some x,by simp only[cond_false,hz,ave],fU.stay ha hw,hw⟩
    ·cases ct
   | _ =>
    simp only[bt,cond_false] at ct ⊢;have D7:=Kq ct;subst D7;rw[h2];exact⟨none,ct,fU.stay ha hw,hw⟩
 case appendO sz bytes y1 y2 =>
  simp only[au4] at he;subst he;obtain⟨hH,hl⟩:=ha.H (.inl rfl);simp only[fR,aR] at ct ⊢;rw[ad (y:=y1) (fun t h=>au'.2 (.inl h)),ev (y:=y2) (fun t h=>au'.2 (.inr h))]
  simp only[jE] at ct ⊢;split at ct
  ·rename_i v hn
   simp only[au4,au8] at ct;obtain⟨rfl,rfl⟩:=ct;exact⟨none,rfl,fU.stay ha (fun t h=>by cases h),fun t h=>by cases h⟩
  simp only[jU,au3] at ct ⊢;obtain⟨f,hf,ct⟩:=ct;have fin:∀ (c0:fP),fU ⟨y1.tmps++y2.tmps,[],true,true,false⟩ (s.iK c0) x (x.iK c0):=fun c0=>⟨fun k hk=>(by cases hk),fun _ _=>rfl,fun _=>⟨rfl,by simp only[AS.iK,hl]⟩,fun h=>(by cases h),fun h=>(by cases h),fun _=>rfl⟩
  split at ct
  ·obtain⟨h0,ct⟩:=al ct
   simp only[au4,au8] at ct;obtain⟨rfl,rfl⟩:=ct;rename_i hY;exact⟨some (x.iK ⟨s.H++[bS.box bD f.flatten],s.H.length⟩),⟨f,hf,by simp only[h0,cond_true,hH]⟩,fin ⟨s.H++[bS.box bD f.flatten],s.H.length⟩,fun t h=>by cases h⟩
  ·obtain⟨h0,ct⟩:=al ct
   simp only[au4,au8] at ct;obtain⟨rfl,rfl⟩:=ct;rename_i hY;exact⟨some (x.iK ⟨s.H++[bS.box bD f.flatten],s.H.length⟩),⟨f,hf,by simp only[h0,cond_true,hH]⟩,fin ⟨s.H++[bS.box bD f.flatten],s.H.length⟩,fun t h=>by cases h⟩
  ·rename_i l o n zz hY
   split at ct
   ·rename_i ty cs Oe
    obtain⟨h0,ct⟩:=al ct;simp only[au4,au8] at ct;obtain⟨rfl,rfl⟩:=ct;exact⟨some (x.iK ⟨s.H.set l .dead++[bS.box bD (cs++f.flatten)],l⟩),⟨f,hf,by simp only[hH,Oe,h0,cond_true]⟩,fin ⟨s.H.set l .dead++[bS.box bD (cs++f.flatten)],l⟩,fun t h=>by cases h⟩
   ·cases ct
  ·cases ct
 case copyO y1 y2 =>
  simp only[au4] at he;subst he;obtain⟨hH,hl⟩:=ha.H (.inl rfl);simp only[fR,aR] at ct ⊢;rw[ad (y:=y1) (fun t h=>au'.2 (.inl h)),ev (y:=y2) (fun t h=>au'.2 (.inr h))]
  simp only[yw] at ct ⊢;have fin:∀ (c0:fP),fU ⟨y1.tmps++y2.tmps,[],true,true,false⟩ (s.iK c0) x (x.iK c0):=fun c0=>⟨fun k hk=>(by cases hk),fun _ _=>rfl,fun _=>⟨rfl,by simp only[AS.iK,hl]⟩,fun h=>(by cases h),fun h=>(by cases h),fun _=>rfl⟩
  split at ct
  ·rename_i l o n zz f own hY hZ
   split at ct
   ·rename_i cs Oe
    obtain⟨h0,ct⟩:=al ct;simp only[au4,au8] at ct;obtain⟨rfl,rfl⟩:=ct;exact⟨some (x.iK ⟨s.H.set l (.bZ (putAt cs o (f.take (Nat.min f.length n)).flatten)),l⟩),by simp only[hH,Oe,h0,cond_true],fin ⟨s.H.set l (.bZ (putAt cs o (f.take (Nat.min f.length n)).flatten)),l⟩,fun t h=>by cases h⟩
   ·cases ct
  ·simp only[au4,au8] at ct
   obtain⟨rfl,rfl⟩:=ct;exact⟨none,rfl,fU.stay ha (fun t h=>by cases h),fun t h=>by cases h⟩
  ·cases ct
 case call f args =>
  simp only[au4] at he;subst he;obtain⟨hH,hl⟩:=ha.H (.inl rfl);have hf:=ev (y:=f) (fun t h=>by simp only[ow.tmps,au'];exact .inl h)
  have had:∀ y,y∈args->y.addr G x.T=y.addr G s.T:=fun y hy=>ad (y:=y) (fun t h=>by simp only[ow.tmps,au',awC];exact .inr ⟨y,hy,h⟩)
  have e1:=List.map_congr_left had;have e2:(args.map fun a=>(a.addr G x.T).dh)=args.map fun a=>(a.addr G s.T).dh:=List.map_congr_left fun y hy=>by rw[had y hy]
  have Ot:∀ t,t∈([]:List Nat)->t∈(ow.call f args).tmps:=fun t h=>by cases h
  cases pc with
  | true =>
   simp only[fR,cond_true,aR] at ct ⊢;rw[hf,e1,e2,hH];split at ct
   ·obtain⟨h0,ct⟩:=al ct
    simp only[au3] at ct;obtain⟨r,hr,ct⟩:=ct;split at ct
    ·rename_i h2
     simp only[au4,au8] at ct;obtain⟨rfl,rfl⟩:=ct;exact⟨none,by simp only[h0,cond_true,hr,ave,h2,awf],fU.stay ha Ot,Ot⟩
    ·cases ct
   ·cases ct
  | false =>
   simp only[fR,cond_false,aR] at ct ⊢;rw[hf,e1,e2,hH];split at ct
   ·obtain⟨h0,ct⟩:=al ct
    simp only[au2,au8] at ct;obtain⟨r,hr,rfl,rfl⟩:=ct;refine⟨r.2.map x.iK,by simp only[h0,cond_true,hr,ave],?_,Ot⟩
    cases h2:r.2 with
    | none=>exact fU.stay ha Ot
    | some c0=>exact⟨fun k hk=>(by cases hk),fun _ _=>rfl,fun _=>⟨rfl,by simp only[ave,av0,AS.iK,hl]⟩,fun h=>(by cases h),fun h=>(by cases h),fun _=>rfl⟩
   ·cases ct
def Jn{c:Rw}(he:F4 pc c op=some e):∀ t,t∈e.ws->t∈e.rs:=by
 intro t ht;cases op<;>simp only[F4] at he<;>try (cases he;done)
 case mov take obj y =>
  cases obj with
  | true=>cases he
  | false =>
   simp only[cond_false,au4] at he;subst he;cases take with
   | true=>exact ht
   | false=>cases ht
 case load take agg sz y =>
  simp only[au4] at he;subst he;cases hb:(take&&!agg) with
  | true=>simp only[hb,cond_true] at ht;exact au'.2 (.inr ht)
  | false=>simp only[hb,cond_false] at ht;cases ht
 case store sz y v =>
  simp only[au4] at he;subst he
  rcases au'.1 ht with h|h
  ·exact au'.2 (.inl (au'.2 (.inr h)))
  ·exact au'.2 (.inr h)
 case append isB wr sz bytes y1 y2 =>
  cases wr with
  | true=>cases he
  | false =>
   simp only[cond_false,au4] at he;subst he;exact au'.2 (.inl ht)
 all_goals
  simp only[au4] at he;subst he;cases ht
def Dg{L:List Nat}(he:Jm pc is L o=some e)
  (hc:∀ c y,wu is L o.op=some (c,y)->(∀ g w,o.guard=some (g,w)->s.T g=.bool w)->gr c (y.addr G s.T)=true) {s1:AS}
  (ct:aS G cf s (nq pc o)=some s1) (ha:WR e s x):∃ x1,aS G cf x o=some x1/\fU e s1 x x1/\(∀ t,t∈e.ws->t∈o.dst.toList\/t∈e.rs):=by
 simp only[Jm,au2] at he;obtain⟨e0,he0,rfl⟩:=he;rw[Ba] at ct;have ha0:WR e0 s x:=⟨fun t ht=>ha.T t (au'.2 (.inr ht)),ha.H,ha.G⟩
 have Ij:∀ (q:AS) (d:Option Nat) (v:AV) (k:Nat),(q.ca d v).T k=if k∈d.toList then v else q.T k:=by
  intro q d v k;cases d with
  | none=>simp[AS.ca]
  | some d=>simp only[AS.ca,fI,Option.toList_some,avi]
 have put:∀ (v:AV) (s2 x2:AS),fU e0 s2 x x2->(∀ t,t∈e0.ws->t∈e0.rs) ->
   fU ⟨(match o.guard with|some (g,_)=>[g]|none=>[])++e0.rs,o.dst.toList++e0.ws,e0.rh,e0.wh,e0.wg⟩ (s2.ca o.dst v) x (x2.ca o.dst v)/\(∀ t,t∈o.dst.toList++e0.ws->t∈o.dst.toList\/t∈(match o.guard with|some (g,_)=>[g]|none=>[])++e0.rs):=by
  intro v s2 x2 hM hw;refine⟨⟨fun t ht=>?_,fun t ht=>?_,fun h=>?_,fun h=>?_,fun h=>?_,fun h=>?_⟩,fun t ht=>?_⟩
  ·rw[Ij,Ij]
   by_cases hd:t∈o.dst.toList
   ·rw[if_pos hd,if_pos hd]
   ·rw[if_neg hd,if_neg hd]
    rcases au'.1 ht with h|h
    ·exact absurd h hd
    ·exact hM.T t h
  ·rw[Ij,if_neg (fun h=>ht (au'.2 (.inl h)))]
   exact hM.T' t (fun h=>ht (au'.2 (.inr h)))
  ·rw[(nr s2 o.dst v).1,(nr s2 o.dst v).2.2,(nr x2 o.dst v).1,(nr x2 o.dst v).2.2];exact hM.H h
  ·rw[(nr x2 o.dst v).1,(nr x2 o.dst v).2.2];exact hM.H' h
  ·rw[(nr s2 o.dst v).2.1,(nr x2 o.dst v).2.1];exact hM.G h
  ·rw[(nr x2 o.dst v).2.1];exact hM.G' h
  ·rcases au'.1 ht with h|h
   ·exact .inl h
   ·exact .inr (au'.2 (.inr (hw t h)))
 have run:(∀ g w,o.guard=some (g,w)->s.T g=.bool w)->((aR G cf s (fR pc o.op)).bind fun r=>match r.2 with
   | none=>some (s.ca o.dst r.1)
   | some s'=>some (s'.ca o.dst r.1))=some s1 ->
   ∃ x1,((aR G cf x o.op).bind fun r=>match r.2 with
    | none=>some (x.ca o.dst r.1)
    | some s'=>some (s'.ca o.dst r.1))=some x1/\fU ⟨(match o.guard with|some (g,_)=>[g]|none=>[])++e0.rs,o.dst.toList++e0.ws,e0.rh,e0.wh,e0.wg⟩ s1 x x1 /\
    (∀ t,t∈o.dst.toList++e0.ws->t∈o.dst.toList\/t∈(match o.guard with|some (g,_)=>[g]|none=>[])++e0.rs):=by
  intro hg hr;simp only[au3] at hr;obtain⟨⟨z,so⟩,hz,hr⟩:=hr;obtain⟨xo,h1,h2,h3⟩:=YN he0 (fun y hy=>by
    have key:∃ c,wu is L o.op=some (c,y):=by
     rcases hy with ⟨t,a,z,h⟩|⟨z,v,h⟩|h|⟨f,h⟩|⟨n,z,i,h⟩<;>rw[h]<;>exact⟨_,rfl⟩
    obtain⟨c,hk⟩:=key;rw[hk];exact hc c y hk hg)
   (fun y hy=>by
    have key:wu is L o.op=some (.heap,y):=by
     rcases hy with ⟨z,i,h⟩|⟨k,h⟩<;>rw[h]<;>rfl
    exact hc _ y key hg) hz ha0
  have qK:s1=(so.getD s).ca o.dst z:=by
   cases so with
   | none=>simp only[avt,cond_false,au4] at hr;exact hr.symm
   | some s2=>simp only[cond_false,au4] at hr;exact hr.symm
  subst qK;obtain⟨p1,p2⟩:=put z _ _ h2 h3;refine⟨(xo.getD x).ca o.dst z,?_,p1,p2⟩;rw[h1];cases xo with
  | none=>rfl
  | some x2=>rfl
 unfold aS at ct ⊢;cases HK:o.guard with
 | none =>
  rw[HK] at run;simp only[HK] at ct ⊢;exact run (fun g w h=>by cases h) ct
 | some gw =>
  obtain⟨g,w⟩:=gw;have hxg:=ha.T g (by rw[HK];exact au'.2 (.inl (avi.2 rfl)))
  simp only[HK] at ct ⊢;rw[hxg];rw[HK] at run put;have skip:some (s.ca o.dst .undef)=some s1->∃ x1,some (x.ca o.dst .undef)=some x1/\fU ⟨[g]++e0.rs,o.dst.toList++e0.ws,e0.rh,e0.wh,e0.wg⟩ s1 x x1/\(∀ t,t∈o.dst.toList++e0.ws->t∈o.dst.toList\/t∈[g]++e0.rs):=by
   intro h;injection h with h
   subst h;obtain⟨p1,p2⟩:=put .undef s x (fU.stay ha0 (Jn he0)) (Jn he0);exact⟨_,rfl,p1,p2⟩
  generalize hX:s.T g=X at ct;cases X with
  | bool b =>
   simp only at ct ⊢;cases hb:(b==w) with
   | true =>
    rw[hb] at ct;simp only[cond_true] at ct ⊢;exact run (fun g' w' h=>by injection h with h;injection h with h1 h2;subst h1 h2;rw[hX];congr 1;simpa using hb) ct
   | false =>
    rw[hb] at ct;simp only[cond_false] at ct ⊢;exact skip ct
  | tuple vs =>
   cases vs with
   | nil=>exact skip ct
   | cons v vs=>cases ct
  | _=>cases ct
end
section
variable {α:Type}{S:Nat->AS}{f:AS->α}{w X:Nat->Prop}{n k:Nat}{x x1:AS}
def G8(S:Nat->AS)(f:AS->α)(w X:Nat->Prop)(x:AS):Prop :=
 (∃ i,X i/\w i/\(∀ j,X j->w j->j<=i)/\f x=f (S (i+1)))\/((∀ j,X j->¬ w j)/\f x=f (S 0))
def sW(hf:∀ j,j<n->¬ w j->f (S (j+1))=f (S j)){a:Nat} : ∀ (b:Nat),a<=b->b<=n->(∀ j,a<=j->j<b->¬ w j)->f (S b)=f (S a):=by
 intro b
 induction b with
 | zero=>intro h _ _;rw[show a=0 by omega]
 | succ b ih =>
  intro h1 h2 h3
  rcases awQ b a with h|h
  ·rw[show a=b+1 by omega]
  ·rw[hf b ah (h3 b h ah),ih h ah (fun j a1 a2=>h3 j a1 ah)]
def vo(hf:∀ j,j<n->¬ w j->f (S (j+1))=f (S j))(hk:k<=n)(hC:G8 S f w X x)(h1:∀ j,j<k->w j->X j)(h2:∀ j,X j->w j->j<k):f x=f (S k):=by
 rcases hC with ⟨i,hX,hw,hm,he⟩|⟨mJ,he⟩
 ·rw[he]
  refine (sW hf k (h2 i hX hw) hk (fun j a b Qt=>?_)).symm
  have:=hm j (h1 j b Qt) Qt
  omega
 ·rw[he]
  exact (sW hf k (avB _) hk (fun j a b Qt=>mJ j (h1 j b Qt) Qt)).symm
def wY(hw:w k)(hm:∀ j,X j->w j->j<=k)(he:f x1=f (S (k+1))):G8 S f w (fun j=>X j\/j=k) x1 :=
 .inl ⟨k,.inr rfl,hw,fun j hj Qt=>by rcases hj with h|h;exact hm j h Qt;omega,he⟩
def zR(hw:¬ w k)(hC:G8 S f w X x)(he:f x1=f x):G8 S f w (fun j=>X j\/j=k) x1:=by
 rcases hC with ⟨i,hX,Yp,hm,h⟩|⟨mJ,h⟩
 ·exact .inl ⟨i,.inl hX,Yp,fun j hj Qt=>by
   rcases hj with h'|h'
   ·exact hm j h' Qt
   ·subst h';exact absurd Qt hw,by rw[he,h]⟩
 ·exact .inr ⟨fun j hj Qt=>by
   rcases hj with h'|h'
   ·exact mJ j h' Qt
   ·subst h';exact hw Qt,by rw[he,h]⟩
def wX{Y:Nat->Prop}(h:∀ j,X j↔Y j)(hC:G8 S f w X x):G8 S f w Y x:=by
 rcases hC with ⟨i,hX,Yp,hm,h'⟩|⟨mJ,h'⟩
 ·exact .inl ⟨i,(h i).1 hX,Yp,fun j hj=>hm j ((h j).2 hj),h'⟩
 ·exact .inr ⟨fun j hj=>mJ j ((h j).2 hj),h'⟩
structure wP (S:Nat->AS) (E:Nat->rB) (X:Nat->Prop) (x:AS):Prop where
 T:∀ t,G8 S (fun s=>s.T t) (fun j=>t∈(E j).ws) X x
 H:G8 S (fun s=>(s.H,s.lo)) (fun j=>(E j).wh=true) X x
 G:G8 S (fun s=>s.gen) (fun j=>(E j).wg=true) X x
structure RO (S:Nat->AS) (E:Nat->rB) (n:Nat):Prop where
 T:∀ t j,j<n->¬ (t∈(E j).ws)->(S (j+1)).T t=(S j).T t
 H:∀ j,j<n->¬ ((E j).wh=true)->((S (j+1)).H,(S (j+1)).lo)=((S j).H,(S j).lo)
 G:∀ j,j<n->¬ ((E j).wg=true)->(S (j+1)).gen=(S j).gen
def vC{x y:List Nat}{t:Nat}(h1:t∈x)(h2:t∈y):meets x y=true:=by
 simp only[meets,List.any_eq_true];exact⟨t,h1,cY h2⟩
def Cp(hK:RO S E n)(hk:k<n)(hB:wP S E X x)(hX:¬ X k)(h1:∀ j,j<k->conflict (E k) (E j)=true->X j)(h2:∀ j,k<j->conflict (E j) (E k)=true->¬ X j):WR (E k) (S k) x:=by
 have lt:∀ j,X j->j<k\/k<j:=fun j h=>by
  rcases axf j k with a|a|a
  ·exact .inl a
  ·subst a;exact absurd h hX
  ·exact .inr a
 refine⟨fun t ht=>?_,fun hh=>?_,fun hg=>?_⟩
 ·refine vo (fun j=>hK.T t j) (awG hk) (hB.T t) (fun j hj hw=>h1 j hj ?_) (fun j hj hw=>?_)
  ·simp only[conflict,vC hw ht,Bool.or_true,axV]
  ·rcases lt j hj with a|a
   ·exact a
   ·exact absurd hj (h2 j a (by simp only[conflict,vC hw ht,axV]))
 ·have:=vo (fun j=>hK.H j) (awG hk) hB.H (fun j hj hw=>h1 j hj (by
   rcases hh with h|h<;>simp[conflict,hw,h])) (fun j hj hw=>by
   rcases lt j hj with a|a
   ·exact a
   ·exact absurd hj (h2 j a (by rcases hh with h|h<;>simp[conflict,hw,h])))
  simp only[au8] at this;exact this
 ·exact vo (fun j=>hK.G j) (awG hk) hB.G (fun j hj hw=>h1 j hj (by simp[conflict,hw,hg])) (fun j hj hw=>by
   rcases lt j hj with a|a
   ·exact a
   ·exact absurd hj (h2 j a (by simp[conflict,hw,hg])))
def I'(hB:wP S E X x)(hX:¬ X k)(h2:∀ j,k<j->conflict (E j) (E k)=true->¬ X j)(hM:fU (E k) (S (k+1)) x x1):wP S E (fun j=>X j\/j=k) x1:=by
 have le:∀ j,X j->(k<j->conflict (E j) (E k)=true)->j<=k:=fun j h hc=>by
  rcases awQ k j with a|a
  ·exact absurd h (h2 j a (hc a))
  ·exact a
 refine⟨fun t=>?_,?_,?_⟩
 ·by_cases ht:t∈(E k).ws
  ·exact wY ht (fun j hj hw=>le j hj fun _=>by simp only[conflict,vC hw ht,Bool.or_true,axV]) (hM.T t ht)
  ·exact zR ht (hB.T t) (hM.T' t ht)
 ·by_cases hh:(E k).wh=true
  ·exact wY hh (fun j hj hw=>le j hj fun _=>by simp[conflict,hw,hh]) (by simp only[hM.H hh])
  ·have:=hM.H' (cY hh)
   exact zR hh hB.H (by simp only[this])
 ·by_cases hg:(E k).wg=true
  ·exact wY hg (fun j hj hw=>le j hj fun _=>by simp[conflict,hw,hg]) (hM.G hg)
  ·exact zR hg hB.G (hM.G' (cY hg))
def LD(hK:RO S E n)(hB:wP S E X x)(hX:∀ j,X j↔j<n):x=S n:=by
 have hT:x.T=(S n).T:=funext fun t=>vo (fun j=>hK.T t j) (Nat.le_refl _) (hB.T t) (fun j hj _=>(hX j).2 hj) (fun j hj _=>(hX j).1 hj)
 have hH:=vo (fun j=>hK.H j) (Nat.le_refl _) hB.H (fun j hj _=>(hX j).2 hj) (fun j hj _=>(hX j).1 hj)
 have hG:=vo (fun j=>hK.G j) (Nat.le_refl _) hB.G (fun j hj _=>(hX j).2 hj) (fun j hj _=>(hX j).1 hj)
 simp only[au8] at hH;obtain⟨h1,h2⟩:=hH;cases x;generalize S n=y at hT h1 h2 hG;cases y;simp only at hT h1 h2 hG;subst hT h1 h2 hG;rfl
def I9(hX:∀ j,¬ X j):wP S E X (S 0) :=
 ⟨fun _=>.inr ⟨fun j h=>absurd h (hX j),rfl⟩,.inr ⟨fun j h=>absurd h (hX j),rfl⟩,.inr ⟨fun j h=>absurd h (hX j),rfl⟩⟩
end
section
variable {G:Nat->List AV}{cf:gz}
def M'{s:AS}{r:AV × Option AS}(h:aR G cf s (fR pc op)=some r):aR G cf s op=some r:=by
 cases op<;>try exact h
 rename_i f xs;cases pc with
 | false=>exact h
 | true =>
  simp only[fR,cond_true,aR] at h ⊢;split at h
  ·obtain⟨h0,h⟩:=al h
   simp only[au3] at h;obtain⟨⟨v,c⟩,h1,h⟩:=h;simp only[h0,cond_true,h1,ave];cases c with
   | none=>exact h
   | some c=>cases h
  ·cases h
def zh{s:AS}(h:aS G cf s (nq pc o)=some s1):aS G cf s o=some s1:=by
 rw[Ba] at h;have run:((aR G cf s (fR pc o.op)).bind fun r=>match r.2 with
   | none=>some (s.ca o.dst r.1)
   | some s'=>some (s'.ca o.dst r.1))=some s1->((aR G cf s o.op).bind fun r=>match r.2 with
   | none=>some (s.ca o.dst r.1)
   | some s'=>some (s'.ca o.dst r.1))=some s1:=by
  intro h;simp only[au3] at h;obtain⟨r,hr,h⟩:=h;rw[M' hr];exact h
 unfold aS at h ⊢;cases HK:o.guard with
 | none=>simp only[HK] at h ⊢;exact run h
 | some gw =>
  obtain⟨g,w⟩:=gw;simp only[HK] at h ⊢;generalize s.T g=X at h ⊢;cases X with
  | bool b =>
   simp only at h ⊢;cases hb:(b==w) with
   | true=>rw[hb] at h;simp only[cond_true] at h ⊢;exact run h
   | false=>rw[hb] at h;exact h
  | tuple vs=>cases vs with
   | nil=>exact h
   | cons v vs=>cases h
  | _=>cases h
def QB{L:List Nat}{s s':AS}(h:gO G cf (inter pc is L o) s=some s') :
  (∀ c y,wu is L o.op=some (c,y)->(∀ g w,o.guard=some (g,w)->s.T g=.bool w)->gr c (y.addr G s.T)=true)/\aS G cf s (nq pc o)=some s':=by
 unfold inter at h;split at h
 ·rename_i c x hk
  simp only[gO,au3,au4] at h;obtain⟨s0,h0,s1,h1,rfl⟩:=h;have chk:s0=s/\((∀ g w,o.guard=some (g,w)->s.T g=.bool w)->gr c (x.addr G s.T)=true):=by
   have run:((aR G cf s (.chk c x)).bind fun r=>match r.2 with
     | none=>some (s.ca none r.1)
     | some s'=>some (s'.ca none r.1))=some s0->s0=s/\gr c (x.addr G s.T)=true:=by
    intro h;simp only[aR] at h;cases hc:gr c (x.addr G s.T) with
    | false=>rw[hc] at h;cases h
    | true=>rw[hc] at h;simp[AS.ca] at h;exact⟨h.symm,rfl⟩
   unfold aS at h0;cases HK:o.guard with
   | none=>simp only[HK] at h0;exact⟨(run h0).1,fun _=>(run h0).2⟩
   | some gw =>
    obtain⟨g,w⟩:=gw;simp only[HK] at h0;generalize hX:s.T g=X at h0;cases X with
    | bool b =>
     simp only at h0;cases hb:(b==w) with
     | true=>rw[hb] at h0;exact⟨(run h0).1,fun _=>(run h0).2⟩
     | false =>
      rw[hb] at h0;simp only[cond_false,AS.ca,au4] at h0;refine⟨h0.symm,fun hg=>?_⟩
      have:=hg g w rfl
      rw[hX] at this;injection this with this
      subst this;simp at hb
    | tuple vs =>
     cases vs with
     | nil =>
      simp only[AS.ca,au4] at h0;refine⟨h0.symm,fun hg=>?_⟩
      have:=hg g w rfl
      rw[hX] at this;cases this
     | cons v vs=>cases h0
    | _=>cases h0
  obtain⟨rfl,amo⟩:=chk;refine⟨fun c' y tV=>?_,h1⟩
  rw[hk] at tV;injection tV with tV
  injection tV with e1 e2
  subst e1 e2;exact amo
 ·rename_i hk
  simp only[gO,au3,au4] at h;obtain⟨s1,h1,rfl⟩:=h;exact⟨fun c' y tV=>(by rw[hk] at tV;cases tV),h1⟩
end
end
section
def bH.ahs:bH->Exit
 | .normal=>.normal
 | .exit id=>.exit id
 | .ret=>.ret
section
variable {P:Program}{G:Nat->List AV}{base nt:Nat}{gh:Gh}{w w' : World}{a:Act}{s:AS}{H:ae}{L:List Nat}
def Inv.drew{mo:Gh}(h:Inv G base nt L H0 mo w0 s gh w a):Inv G base nt L H0 mo w0 s gh { w with drawn:=w.drawn+1 } a:=by
 have st:Step (fun _=>False) s.H.length gh w gh { w with drawn:=w.drawn+1 }:=⟨fun _ _ h=>h,fun _ _ _=>rfl,Nat.le_refl _,rfl,rfl,rfl,fun _ _ _=>⟨.inl rfl,rfl,fun _ h=>h⟩,fun b hb=>h.W.cB b hb,fun _ _=>rfl,fun _ _ _ h=>h,fun _ _ _ _ h=>h⟩
 exact⟨h.W.step st (fun l=>⟨id,fun _=>id⟩) h.W.qa h.W.ry (fun _ _ _ h=>.inl h),h.F.grown (H':=s.H) (lo':=s.lo) st (fun i=>⟨id,id,fun _=>id⟩) (Nat.le_refl _),
  h.E.trans ⟨st.mono (fun _ h=>h.elim),fun _ h=>h⟩ h.lo.len,h.lo⟩
def p8(tmps:Array Value):ResultVar->Sem Value
 | .tmp t=>pure (tmps.getD t undef)
 | .cell a t=>do loadVar t (<- asAddr (tmps.getD a undef))
def wH{g:ResultVar->Sem Value} : ∀ (l:List ResultVar) (vs:List Value),l.length=vs.length->(∀ (j:Nat) (r:ResultVar) (v:Value),l[j]?=some r->vs[j]?=some v->(g r).run P w=.ok v w)->(l.mapM g).run P w=.ok vs w
 | [],[],_,_=>ag
 | r :: l,v :: vs,hl,h=>by
  have h1:=h 0 r v rfl rfl;have h2:=wH l vs (cY hl) (fun j r v hr hv=>h (j+1) r v (cY hr) (cY hv))
  simp_all
 | [],_ :: _,hl,_=>by simp at hl
 | _ :: _,[],hl,_=>by simp at hl
def lE{tmps:Array Value}{vs:List Value}(hl:fn.results.toList.length=vs.length)(h:∀ (j:Nat) (r:ResultVar) (v:Value),fn.results.toList[j]?=some r->vs[j]?=some v->(p8 tmps r).run P w=.ok v w) :
  (results fn tmps).run P w=.ok (if h:vs.toArray.size=1 then vs.toArray[0] else .tuple vs.toArray) w:=by
 have e:results fn tmps=(do let vs <- fn.results.mapM (p8 tmps);pure (if h:vs.size=1 then vs[0] else .tuple vs)):=by
  unfold results
  congr 1
 rw[e,Sem.run_bind];have h2:(fn.results.mapM (p8 tmps)).run P w=.ok vs.toArray w:=by
  rw[Array.mapM_eq_mapM_toList];have:=wH (P:=P) (w:=w) fn.results.toList vs hl h
  simp[this]
 rw[h2];rfl
def kT:∀ {l:List ResultVar} {rs:List iu},kC P nt l=some rs->l.length=rs.length/\∀ (j:Nat) (r:ResultVar) (i:iu),l[j]?=some r->rs[j]?=some i ->
  (∃ t,r=.tmp t/\i=.tmp t/\t<nt)\/∃ t ty g sz,r=.cell t ty/\i=.cell t g sz/\t<nt/\n7 P ty=some g/\fC P ty=some sz
 | [],rs,h=>by simp[kC] at h;subst h;exact⟨rfl,fun j r i h=>by simp at h⟩
 | .tmp t :: l,rs,h=>by
  simp only[kC] at h;obtain⟨h0,h⟩:=al h;simp only[au2] at h;obtain⟨rs',hr,rfl⟩:=h;obtain⟨h1,h2⟩:=kT hr;refine⟨by simp[h1],fun j r i hj hi=>?_⟩
  cases j with
  | zero=>simp at hj hi;subst hj hi;exact .inl ⟨t,rfl,rfl,by simpa [avn] using h0⟩
  | succ j=>exact h2 j r i (cY hj) (cY hi)
 | .cell t ty :: l,rs,h=>by
  simp only[kC] at h;obtain⟨h0,h⟩:=al h;simp only[au3,au2] at h;obtain⟨g,hg,sz,hs,rs',hr,rfl⟩:=h;obtain⟨h1,h2⟩:=kT hr;refine⟨by simp[h1],fun j r i hj hi=>?_⟩
  cases j with
  | zero=>simp at hj hi;subst hj hi;exact .inr ⟨t,ty,g,sz,rfl,rfl,by simpa [avn] using h0,hg,hs⟩
  | succ j=>exact h2 j r i (cY hj) (cY hi)
def DB(hW:a8 G base s.H gh w)(hF:FR L nt gh w a s){r:ResultVar}{i:iu}(hc:(∃ t,r=.tmp t/\i=.tmp t/\t<nt)\/∃ t ty g sz,r=.cell t ty/\i=.cell t g sz/\t<nt/\n7 P ty=some g/\fC P ty=some sz)
  {z:AV} (hz:iW s i=some z):∃ v,(p8 a.tmps r).run P w=.ok v w/\((∃ t,i=.tmp t/\t<nt/\v=gP a t/\z=s.T t/\CR gh s.H.length w (.sl t) v z)\/VR gh s.H.length w v z):=by
 rcases hc with ⟨t,rfl,rfl,ht⟩|⟨t,ty,g,sz,rfl,rfl,ht,hg,hs⟩
 ·refine⟨gP a t,rfl,.inl ⟨t,rfl,ht,rfl,?_⟩⟩
  simp only[iW] at hz;obtain⟨h0,hz⟩:=al hz;injection hz with hz
  subst hz;have h:=hF.slot t ht
  change SR gh s.H.length nt w s.T s.gen (gP a) t (gP a t) (s.T t) at h
  refine⟨rfl,?_⟩;generalize s.T t=X at h h0
  cases X<;>first|exact h|(simp[aN] at h0)
 ·have h:=hF.slot t ht
  change SR gh s.H.length nt w s.T s.gen (gP a) t (gP a t) (s.T t) at h
  simp only[iW] at hz;have run:∀ {b:Nat} {f:Nat->Value} {cs:List AV},gP a t=.pointer (some ⟨b,0,none⟩)->ab false g sz 0 cs=some z->(∀ (j:Nat) (x:AV),cs[j]?=some x->w.cell? ⟨b,0+j,none⟩=some (f j)/\(f j).oneCell'=true/\VR gh s.H.length w (f j) x.drop) ->
    ∃ v,(p8 a.tmps (.cell t ty)).run P w=.ok v w/\((∃ t',iu.cell t g sz=.tmp t'/\t' < nt/\v=gP a t'/\z=s.T t'/\CR gh s.H.length w (.sl t') v z)\/VR gh s.H.length w v z):=by
   intro b f cs hb hl hf;obtain⟨v,h1,h2⟩:=mB (P:=P) hl hg hs hf;refine⟨v,?_,.inr h2⟩;have iR:a.tmps.getD t undef=.pointer (some ⟨b,0,none⟩):=hb
   show (do loadVar ty (<- asAddr (a.tmps.getD t undef)):Sem Value).run P w=_
   rw[iR]
   simpa [asAddr] using h1
  split at hz
  ·rename_i gg cs hT
   rw[hT] at h;obtain⟨_,b,hb,hB⟩:=h;obtain⟨f,hf⟩:=rJ hB;exact run hb hz hf
  ·rename_i loc hT
   rw[hT] at h;have hv:=CR.dropped (h:CR gh s.H.length w (.sl t) (gP a t) (.ref loc 0));obtain⟨aZ,hp⟩:=VR.kF hv;split at hz
   ·rename_i W9 cs hH
    obtain⟨f,hf⟩:=rJ (hW.boxes loc _ cs hH);exact run hp hz hf
   ·cases hz
  ·cases hz
theorem freeze(hW:a8 G base s.H gh w)(hF:FR L nt gh w a s){b g:Nat}{e:List (List AV)}(hb:b<nt)(hT:s.T b=.lsl g e)(ri:ng e=true) :
  ∃ br,a8 G base s.H br w/\Ext s.H.length gh w br w/\CR br s.H.length w .ret (gP a b) (.slice e true):=by
 obtain⟨ad,cap,hV,⟨rfl,rfl,J4⟩|⟨k,C,ty,sz,dk,rfl,hκ,hS,hk,hC,hl,hr,iL⟩⟩:=qe hF hb hT
 ·refine⟨gh,hW,Ext.refl _ _ _ (fun b hb=>hW.cB b hb),.inl ?_⟩
  rw[hV];refine .full ad 0 [] ?_ trivial;cases ad with
  | none=>exact .dF
  | some ad =>
   obtain⟨b',o',sp⟩:=ad;have:=(J4 _ rfl).1
   simp only at this;subst this;exact .slice b' o' 0 0 0 [] (fun _ _=>undef) rfl (Nat.le_refl _) (fun i r h=>by simp at h) (fun i j r x h=>by simp at h) (fun i j r x h=>by simp at h)
 ·have mJ:∀ o,gh.S k o->C[o]?=C[o]?:=fun _ _=>rfl
  have hn:gh.κ k≠.none:=by rw[hκ];simp
  have Fw:∀ j m,j<e.length*sz->C[j]?=some (.int .u8 m)->ty=jo:=by
   intro j m hj hc;have dw:jz gh.S w sz (C.toList.take (e.length*sz)).toArray e:=by
    have hle:e.length*sz<=C.size:=by rw[hC];exact avg _ hl
    refine⟨dq,hr,fun i j r x hi hj=>?_⟩
    grind [xE]
   refine p9 (isB:=false) (m:=m) dw ri (fun h=>by cases h) hj ?_
   grind
  have hE:=B4 hW hk rfl (fun o=>o<e.length*sz) mJ (p:=.ret) ag hn (by rw[hκ];simp) s.H.length
  have nW:=OY hW hk rfl (fun o=>o<e.length*sz) mJ Fw .ret hn (by rw[hκ];simp)
  have T6:=setRow_self w k C ty (0,0) hk;rw[T6] at hE nW;refine⟨_,nW,hE,.inr ⟨e,rfl,?_,k,cap,C,ty,0,0,sz,hV,ag,dk,hk,hC,hr,hl,avB _,?_⟩⟩
  ·rw[hV]
   have key:∀ (i j:Nat) (r:List AV) (x:AV),e[i]?=some r->r[j]?=some x->C[i*sz+j]?=some (C.getD (i*sz+j) undef)/\PR gh.S w (C.getD (i*sz+j) undef) x/\i*sz+j<e.length*sz:=by
    intro i j r x hi hj;obtain⟨u,hu,hp⟩:=iL i j r x hi hj;have aZ:=(avc.1 hu).1;have:C.getD (i*sz+j) undef=u:=by
     simp_all
    rw[this];exact⟨hu,hp,xE (au7.1 hi).1 (by rw[<- hr i r hi];exact (au7.1 hj).1)⟩
   refine .slice k 0 e.length cap sz e (fun i j=>C.getD (i*sz+j) undef) rfl hl hr (fun i j r x hi hj=>?_) (fun i j r x hi hj=>?_)
   ·obtain⟨h1,h2,h3⟩:=key i j r x hi hj
    refine⟨.inr ⟨rfl,cY h3⟩,?_,h2.gb⟩;rw[avA,cell_of_row w k _ C ty _ hk];exact h1
   ·exact (key i j r x hi hj).2.1.mono (fun b o h=>.inl h) (fun _ _ _=>rfl) (fun _ _ _ _ h=>h)
  ·grind
def VR.bw{n:Nat}{x:AV}(h:VR gh n w v x)(hx:x.bw m=true):VR gh m w v x:=by
 cases x
 case ref loc off =>
  obtain⟨_,rfl⟩:=h.kF;exact .ref loc off (by simpa [AV.bw,avn] using hx)
 case sref loc off k z =>
  obtain⟨_,cap,hk,hz,rfl⟩:=h.k9;exact .sref loc off k cap z (by simpa [AV.bw,avn] using hx) hk hz
 case mref loc =>
  obtain⟨_,rfl⟩:=h.pQ;exact .mref loc (by simpa [AV.bw,avn] using hx)
 all_goals exact .plain _ _ (h.mh hx)
def VR.fu{n:Nat}{x:AV}(h:VR gh n w v x)(hx:x.fu m=true):VR gh m w v x:=by
 cases x
 case agg cs =>
  obtain⟨C,rfl,hs,iC,hc⟩:=h.mq;exact .agg C cs hs iC (fun j v x hv ui=>(hc j v x hv ui).bw (ava.1 hx x (avb ui)))
 all_goals exact h.bw hx
def VR.leaves{n:Nat}{x:AV}(h:VR gh n w v x)(hx:x.leaves m=true):VR gh m w v x:=by
 cases x
 case func f fs cs =>
  simp only[AV.leaves,au6] at hx;obtain⟨us,ts,rfl,h1,h2,h3,h4⟩:=h.uR;exact .func f us ts fs cs h1 h2 (fun j v x hv ui=>(h3 j v x hv ui).bw (ava.1 hx.1 x (avb ui))) (fun j v x hv ui=>(h4 j v x hv ui).bw (ava.1 hx.2 x (avb ui)))
 case iface t y =>
  cases h with
  | plain _ _ h=>exact .plain _ _ h
  | iface _ u _ h=>exact .iface t u y (h.bw hx)
 case tuple vs =>
  obtain⟨us,rfl,hs,h1⟩:=h.vx;exact .tuple us vs hs (fun j v x hv ui=>(h1 j v x hv ui).fu (ava.1 hx x (avb ui)))
 case slice e own =>
  cases h with
  | plain _ _ h=>exact .plain _ _ h
  | full a k _ h hz=>exact .full a k e h hz
 all_goals exact h.fu hx
def CR.leaves{n:Nat}{x:AV}(h:CR gh n w p v x)(hx:x.leaves m=true):CR gh m w p v x:=by
 rcases h with h|h
 ·exact .inl (h.leaves hx)
 ·exact .inr h
def VR.iH{n:Nat}{x:AV}(h:VR gh n w v x)(hx:iH loc x=true)(hl:loc<m):VR gh m w v x:=by
 cases x
 case ref l off =>
  obtain⟨_,rfl⟩:=h.kF;have:l<=loc:=by simpa [Abs.iH,avv] using hx
  exact .ref l off ah
 case sref l off k z =>
  obtain⟨_,cap,hk,hz,rfl⟩:=h.k9;have:l<=loc:=by simpa [Abs.iH,avv] using hx
  exact .sref l off k cap z ah hk hz
 case mref l =>
  obtain⟨_,rfl⟩:=h.pQ;have:l<=loc:=by simpa [Abs.iH,avv] using hx
  exact .mref l ah
 case slice e own =>
  cases h with
  | plain _ _ h=>exact .plain _ _ h
  | full a k _ h hz=>exact .full a k e h hz
 all_goals exact .plain _ _ (h.mh hx)
def VR.l8{n:Nat}{x:AV}(h:VR gh n w v x)(hx:l8 loc x=true)(hl:loc<m):VR gh m w v x:=by
 cases x
 case agg cs =>
  obtain⟨C,rfl,hs,iC,hc⟩:=h.mq;exact .agg C cs hs iC (fun j v x hv ui=>(hc j v x hv ui).iH (ava.1 hx x (avb ui)) hl)
 all_goals exact h.iH hx hl
def VR.bf{n:Nat}{x:AV}(h:VR gh n w v x)(hx:bf loc x=true)(hl:loc<m):VR gh m w v x:=by
 cases x
 case ref l off =>
  obtain⟨_,rfl⟩:=h.kF;have:l<=loc:=by simpa [Abs.bf,avv] using hx
  exact .ref l off ah
 case sref l off k z =>
  obtain⟨_,cap,hk,hz,rfl⟩:=h.k9;have:l<=loc:=by simpa [Abs.bf,avv] using hx
  exact .sref l off k cap z ah hk hz
 case mref l =>
  obtain⟨_,rfl⟩:=h.pQ;have:l<=loc:=by simpa [Abs.bf,avv] using hx
  exact .mref l ah
 case slice e own =>
  cases h with
  | plain _ _ h=>exact .plain _ _ h
  | full a k _ h hz=>exact .full a k e h hz
 case func f fs cs =>
  simp only[Abs.bf,au6] at hx;obtain⟨us,ts,rfl,h1,h2,h3,h4⟩:=h.uR;exact .func f us ts fs cs h1 h2 (fun j v x hv ui=>(h3 j v x hv ui).l8 (ava.1 hx.1 x (avb ui)) hl) (fun j v x hv ui=>(h4 j v x hv ui).l8 (ava.1 hx.2 x (avb ui)) hl)
 all_goals exact .plain _ _ (h.mh hx)
def PR.lower{S:Nat->Nat->Prop}{x:AV}(h:PR S w0 v0 x){n:Nat} : ∀ {v:Value},VR gh n w v x->VR gh m w v x:=by
 induction h with
 | iface t v0 x h ih =>
  intro v hv;cases hv with
  | plain _ _ h=>exact .plain _ _ h
  | iface _ u _ h=>exact .iface t u x (ih h)
 | func f =>
  intro v hv;cases hv with
  | plain _ _ h=>exact .plain _ _ h
  | func _ fs cs _ _ h1 h2 h3 h4=>exact .func f fs cs [] [] h1 h2 (fun j v x _ hx=>by simp at hx) (fun j v x _ hx=>by simp at hx)
 | _ =>
  intro v hv;cases hv<;>exact .plain _ _ ‹_›
theorem VR.lower{mo:Gh}{x:AV}(h:VR mo m w0 v0 x){n:Nat} : ∀ {v:Value},VR gh n w v x->VR gh m w v x:=by
 induction h with
 | plain v0 x h=>intro v hv;exact h.lower hv
 | full a k e h hz =>
  intro v hv;cases hv with
  | plain _ _ h=>cases h
  | full a k _ h hz=>exact .full a k e h hz
 | ref loc off h=>intro v hv;obtain⟨_,rfl⟩:=hv.kF;exact .ref loc off h
 | sref loc off k cap z h hk hz=>intro v hv;obtain⟨_,cap,hk,hz,rfl⟩:=hv.k9;exact .sref loc off k cap z h hk hz
 | mref loc h=>intro v hv;obtain⟨_,rfl⟩:=hv.pQ;exact .mref loc h
 | func f fs cs xs ys hf hc _ _ ih1 ih2 =>
  intro v hv;obtain⟨us,ts,rfl,h1,h2,h3,h4⟩:=hv.uR;refine .func f us ts xs ys h1 h2 (fun j v x hv hx=>?_) (fun j v x hv hx=>?_)
  ·grind
  ·grind
 | iface t v0 x h ih =>
  intro v hv;cases hv with
  | plain _ _ h=>exact .plain _ _ h
  | iface _ u _ h=>exact .iface t u x (ih h)
 | agg cs xs hs iC _ ih =>
  intro v hv;obtain⟨C,rfl,wA,TV,hc⟩:=hv.mq;refine .agg C xs wA TV (fun j v x hv hx=>?_)
  grind
 | tuple vs xs hs _ ih =>
  intro v hv;obtain⟨us,rfl,wA,h1⟩:=hv.vx;refine .tuple us xs wA (fun j v x hv hx=>?_)
  grind
def AE(H:ae)(m:Nat)(gh:Gh)(w:World):Prop:=∀ (l:Nat) (cs:List AV),l<m->H[l]?=some (.bZ cs)->iT gh m w (gh.ρ l) (.hb l) (fun j=>.hs l j) cs
theorem ae'(Qf:a8 G base H0 ghI wI)(xT:iM H0 s)(ho:kB H0.length s=true)(hW:a8 G base s.H gh w):AE s.H H0.length gh w:=by
 intro l cs hl hH;obtain⟨h1,h2,C,RJ,h3,h4,h5⟩:=(hW.more l _ hH:iT gh s.H.length w (gh.ρ l) (.hb l) (fun j=>.hs l j) cs)
 refine⟨h1,h2,C,RJ,h3,h4,fun j v x hv hx=>⟨(h5 j v x hv hx).1,?_⟩⟩
 have oJ:=(h5 j v x hv hx).2
 by_cases ru:l<s.lo
 ·have hH0:H0[l]?=some (.bZ cs):=by rw[<- xT.same l ru];exact hH
  obtain⟨_,_,C0,W9,g3,g4,g5⟩:=(Qf.more l _ hH0:iT ghI H0.length wI (ghI.ρ l) (.hb l) (fun j=>.hs l j) cs)
  have hj:j<C0.size:=by have:=(au7.1 hx).1;omega
  rcases oJ with HF|adV
  ·rcases (g5 j _ x (avh hj) hx).2 with k|⟨e,rfl,_⟩
   ·exact .inl (k.lower HF)
   ·cases HF with
    | plain _ _ h=>cases h
    | full a k _ h hz=>exact .inl (.full a k e h hz)
  ·exact .inr adV
 ·have hc:x.bw H0.length=true:=by
   unfold kB at ho;cases hb:Nat.beq s.lo H0.length with
   | true=>have:=av5 hb;omega
   | false =>
    rw[hb,cond_false] at ho;have hm:bS.bZ cs∈(s.H.take H0.length).drop s.lo:=by
     refine avb (i:=l-s.lo) ?_
     grind
    grind
  rcases oJ with HF|⟨e,rfl,_⟩
  ·exact .inl (HF.bw hc)
  ·simp[AV.bw,AV.plain] at hc
def CR.bf{n:Nat}{x:AV}(h:CR gh n w p v x)(hx:bf loc x=true)(hl:loc<m):CR gh m w p v x:=by
 rcases h with h|h
 ·exact .inl (h.bf hx hl)
 ·exact .inr h
def a8.Ig(hW:a8 G base H gh w)(hm:m<=H.length)(hold:AE H m gh w):a8 G base (H.take m) gh w:=by
 have abh:(H.take m).length=m:=dq;refine⟨hW.size,hW.qa,hW.ry,hW.aY,fun loc ty cs hl=>?_,fun loc ty cs hl=>?_,hW.BA,hW.bytes,fun loc o hl=>?_,fun loc ty cs hl=>?_⟩
 rotate_left 2
 ·rw[avw] at hl
  split at hl
  ·rename_i aZ
   have h:=hW.more loc o hl;rw[abh];cases o with
   | map kz ka va es =>
    obtain⟨⟨h1,h2,E,ck,f,h3,h4,h5,h6⟩,h7⟩:=h;refine⟨⟨h1,h2,E,ck,f,h3,h4,h5,fun i j r x hi hj hl=>?_⟩,h7⟩
    have hc:=ava.1 (ava.1 h7 r (avb hi)) x (avb hj);obtain⟨k1,k2,k3⟩:=h6 i j r x hi hj hl;refine⟨k1,fun hv=>?_,k3.bf hc aZ⟩
    exact (k2 hv).bf hc aZ
   | je kz ka va es=>exact h
   | Ta cs=>exact h
   | bZ cs=>exact hold loc cs aZ hl
   | _=>trivial
  ·cases hl
 ·rw[avw] at hl
  split at hl
  ·exact hW.types loc ty cs hl
  ·cases hl
 ·rw[avw] at hl
  split at hl
  ·rename_i aZ
   obtain⟨h1,h2,C,RJ,h3,h4,h5⟩:=hW.boxes loc _ cs hl;refine⟨h1,h2,C,RJ,h3,h4,fun j v x hv hx=>⟨(h5 j v x hv hx).1,?_⟩⟩
   have hlen:(H.take m).length=m:=dq;rw[hlen];exact (h5 j v x hv hx).2.bf (ava.1 (hW.refs loc _ cs hl) x (avb hx)) aZ
  ·cases hl
 ·rw[avw] at hl
  split at hl
  ·exact hW.refs loc _ cs hl
  ·cases hl
theorem Il(hW:a8 G base s.H gh w)(hF:FR L nt gh w a s):∀ (l:List ResultVar) (rs:List iu) (xs:List AV),l.length=rs.length->(∀ (j:Nat) (r:ResultVar) (i:iu),l[j]?=some r->rs[j]?=some i ->
    (∃ t,r=.tmp t/\i=.tmp t/\t<nt)\/∃ t ty g sz,r=.cell t ty/\i=.cell t g sz/\t<nt/\n7 P ty=some g/\fC P ty=some sz)->lY s rs=some xs ->
    ∃ vs:List Value,l.length=vs.length/\vs.length=xs.length/\(∀ (j:Nat) (r:ResultVar) (v:Value),l[j]?=some r->vs[j]?=some v->(p8 a.tmps r).run P w=.ok v w)/\∀ (j:Nat) (v:Value) (x:AV),vs[j]?=some v->xs[j]?=some x->VR gh s.H.length w v x:=by
 intro l
 induction l with
 | nil =>
  intro rs xs hl _ h;have:=avl.1 (cY hl.symm)
  subst this;simp only[lY,au4] at h
  simp_all
 | cons rv l ih =>
  intro rs xs hl hc h;cases rs with
  | nil=>simp at hl
  | cons i rs =>
   simp only[lY,au3,au2] at h;obtain⟨z,hz,ys,Qw,rfl⟩:=h;obtain⟨v,h1,h2⟩:=DB (P:=P) hW hF (hc 0 rv i rfl rfl) hz;have hv:VR gh s.H.length w v z.dh:=by
    rcases h2 with ⟨t,_,_,_,_,oJ⟩|HF
    ·exact my oJ.dropped
    ·exact my HF.dropped
   obtain⟨vs,k1,k2,k3,k4⟩:=ih rs ys (cY hl) (fun j r i hr hi=>hc (j+1) r i (cY hr) (cY hi)) Qw
   refine⟨v :: vs,by simp[k1],by simp[k2],fun j r u hr hu=>?_,fun j u x hu hx=>?_⟩
   ·grind
   ·grind
theorem Nh{mo:Gh}(mA:clean mo)(hI:Inv G base nt L H mo w0 s gh w a)(hc:kC P nt fn.results.toList=some rs){r:AV}{c:Option fP}(hold:∀ br w',a8 G base s.H br w'->AE s.H H.length br w')(he:iQ H.length rs s=some (r,c)) :
  jN H c/\∃ v br,(results fn a.tmps).run P w=.ok v w/\pA G base H mo w0 r c v br w:=by
 simp only[iQ,au3] at he;obtain⟨r',hr,he⟩:=he;obtain⟨uc,he⟩:=al he;simp only[au4,au8] at he;obtain⟨rfl,xS⟩:=he;have hlen:=hI.lo.len;have kZ:qx H c=s.H.take H.length:=by
  cases hb:Nat.beq s.lo H.length with
  | false=>rw[hb] at xS;subst xS;rfl
  | true =>
   rw[hb] at xS;subst xS;have xT:=av5 hb
   show H=_
   refine awH fun l=>?_
   rw[avw];split
   ·rename_i hl;exact (hI.lo.same l ah).symm
   ·grind
 have uN:(qx H c).length=H.length:=by rw[kZ];simp;omega
 have Mf:jN H c:=by
  refine⟨awn uN.symm,fun c' BT=>?_⟩
  cases hb:Nat.beq s.lo H.length with
  | true=>rw[hb] at xS;rw[<- xS] at BT;cases BT
  | false =>
   rw[hb] at xS;rw[<- xS] at BT;simp only[cond_false,au4] at BT;subst BT;refine⟨hI.lo.lo,fun l hl=>?_⟩
   have:=hI.lo.lo
   rw[avw,if_pos (by simp only at hl;omega)]
   exact hI.lo.same l hl
 refine⟨Mf,?_⟩;have fin:∀ {v:Value} {br:Gh},(results fn a.tmps).run P w=.ok v w->a8 G base s.H br w->Ext s.H.length gh w br w->CR br s.H.length w .ret v r'->∃ v br,(results fn a.tmps).run P w=.ok v w/\pA G base H mo w0 r' c v br w:=by
  intro v br h1 h2 h3 h4;have hE:=hI.E.trans h3 hlen;refine⟨v,br,h1,awn uN.symm,by rw[kZ];exact h2.Ig hlen (hold _ _ h2),?_,hE.out,by rw[uN];exact h4.leaves uc⟩
  have st:=hE.step;refine⟨st.S,st.cell,st.size,st.os,st.tape,st.output,fun b hb hn=>st.oH b hb (fun ht=>hn ?_),st.fresh,st.ρ,st.len,st.mp⟩
  rcases mA b with h|h|h|h
  ·exact absurd h ht.1
  ·exact absurd h ht.2
  ·exact .inl h
  ·exact .inr h
 obtain⟨hl,rj⟩:=kT hc;have hrefl:Ext s.H.length gh w gh w:=Ext.refl _ _ _ (fun b hb=>hI.W.cB b hb)
 have one:∀ (rv:ResultVar) (v:Value),fn.results.toList=[rv]->(p8 a.tmps rv).run P w=.ok v w->(results fn a.tmps).run P w=.ok v w:=by
  intro rv v h1 h2;have:=lE (P:=P) (w:=w) (fn:=fn) (tmps:=a.tmps) (vs:=[v]) (by rw[h1];rfl) (fun j r' v' hr hv=>by
   rw[h1] at hr;cases j with
   | zero=>simp at hr hv;subst hr hv;exact h2
   | succ j=>simp at hr)
  simpa using this
 unfold mC at hr;split at hr
 ·rename_i i
  have Oo:([i]:List iu)=[i]:=rfl;rw[Oo] at hl;obtain⟨rv,Qr⟩:∃ rv,fn.results.toList=[rv]:=awo.1 (cY hl);have X2:=rj 0 rv i (by rw[Qr];rfl) (by rw[Oo];rfl)
  split at hr
  ·rename_i b bX
   rcases X2 with ⟨t,rfl,rfl,ht⟩|⟨t,ty,g,sz,rfl,rfl,_⟩
   ·simp only[oG] at bX
    have qv:=hI.F.slot t ht
    change SR gh s.H.length nt w s.T s.gen (gP a) t (gP a t) (s.T t) at qv
    split at bX
    ·rename_i g e hT
     injection bX with bX
     subst bX;rw[hT] at hr;obtain⟨ri,hr⟩:=al hr;injection hr with hr
     subst hr;obtain⟨br,h2,h3,h4⟩:=freeze hI.W hI.F ht hT ri;exact fin (one _ _ Qr rfl) h2 h3 h4
    ·rename_i b' g hT
     rw[hT] at qv;obtain⟨iR,_,hv⟩:=qv;split at bX
     ·rename_i g' e Fq
      obtain⟨h0,bX⟩:=al bX;injection bX with bX
      subst bX;rw[Fq] at hr;obtain⟨ri,hr⟩:=al hr;injection hr with hr
      subst hr;have JZ:g=g':=by simpa [iI] using h0
      have js:=hv (by rw[Fq,JZ];rfl)
      obtain⟨br,h2,h3,h4⟩:=freeze hI.W hI.F iR Fq ri;exact fin (one _ _ Qr rfl) h2 h3 (by show CR br s.H.length w .ret (gP a t) _;rw[js];exact h4)
     ·cases bX
    ·cases bX
   ·cases bX
  ·obtain⟨v,h1,h2⟩:=DB (P:=P) hI.W hI.F X2 hr
   rcases h2 with ⟨t,_,ht,rfl,hz,oJ⟩|HF
   ·rcases oJ with HF|⟨e,rfl,_⟩
    ·exact fin (one _ _ Qr h1) hI.W hrefl (.inl HF)
    ·obtain⟨br,h2,_,h3,_,h4⟩:=ze hI.W hI.F ht hz.symm .ret ag
     exact fin (one _ _ Qr h1) h2 h3 h4
   ·exact fin (one _ _ Qr h1) hI.W hrefl (.inl HF)
 ·rename_i dk
  simp only[au2] at hr;obtain⟨xs,hxs,rfl⟩:=hr;obtain⟨vs,k1,k2,k3,k4⟩:=Il (P:=P) hI.W hI.F _ _ xs hl rj hxs;have HM:vs.length≠1:=by
   intro h;rw[<- k1,hl] at h;obtain⟨i,hi⟩:=awo.1 h;exact dk i hi
  have dO:=lE (P:=P) (w:=w) (fn:=fn) (tmps:=a.tmps) k1 k3;rw[dif_neg (cY HM)] at dO;exact fin dO hI.W hrefl (.inl (.tuple vs.toArray xs (cY k2) (fun j v x hv hx=>k4 j v x (cY hv) hx)))
def JF(hI:iM H s){r:AV}{c:Option fP}(he:iQ H.length rs s=some (r,c)):jN H c:=by
 simp only[iQ,au3] at he;obtain⟨r',hr,he⟩:=he;obtain⟨uc,he⟩:=al he;simp only[au4,au8] at he;obtain⟨rfl,xS⟩:=he;have hlen:=hI.len;cases hb:Nat.beq s.lo H.length with
 | true=>rw[hb] at xS;subst xS;exact⟨Nat.le_refl _,fun c' h=>by cases h⟩
 | false =>
  rw[hb] at xS;subst xS;refine⟨by simp[qx];omega,fun c' BT=>?_⟩
  simp only[cond_false,au4] at BT;subst BT;refine⟨hI.lo,fun l hl=>?_⟩
  have:=hI.lo
  rw[avw,if_pos (by simp only at hl;omega)]
  exact hI.same l hl
def CN{r:AV}{c:Option fP}(he:qZ m rs s=some (r,c)):rs.length≠1/\∃ xs e,rr s m rs=some (xs,some e)/\r=.tuple xs/\c=some ⟨s.H.take m++[.box bD e.flatten],s.lo⟩:=by
 unfold qZ at he;cases hb:Nat.beq rs.length 1 with
 | true=>rw[hb] at he;cases he
 | false =>
  rw[hb] at he;simp only[cond_false,au3,au2,au8] at he;obtain⟨⟨xs,eo⟩,hq,e,rfl,rfl,rfl⟩:=he;exact⟨(fun h=>by rw[h] at hb;cases hb),xs,e,hq,rfl,rfl⟩
theorem CP{x:AV × Option fP}(he:ml m qw s=some x):kB m s=true/\(tj m qw.results s=some x\/iQ m qw.results s=some x\/qZ m qw.results s=some x\/tq m qw.results s=some x):=by
 unfold ml at he;obtain⟨h0,he⟩:=al he;refine⟨h0,?_⟩;unfold qI at he;split at he
 ·rename_i h
  unfold oR at h
  grind
 ·grind
theorem CL{r:AV}{c:Option fP}(he:tj m rs s=some (r,c)):∃ i l off n z ty cs,rs=[i]/\iW s i=some (.sref l off n z)/\s.H[l]?=some (.box ty cs)/\m<=l/\cs.all AV.plain=true/\r=.sref m off n z/\c=some ⟨s.H.take m++[.bZ cs],s.lo⟩:=by
 unfold tj at he;split at he
 ·rename_i i
  simp only[au3] at he;obtain⟨v,hv,he⟩:=he;split at he
  ·rename_i l off n z
   split at he
   ·rename_i ty cs hH
    obtain⟨h0,he⟩:=al he;simp only[au4,au8] at he;simp only[au6,avv] at h0
    grind
   ·cases he
  ·cases he
 ·cases he
theorem N6(hI:iM H s){c:Option fP}(xS:cond (Nat.beq s.lo H.length) none (some ⟨s.H.take H.length,s.lo⟩)=c):jN H c/\qx H c=s.H.take H.length:=by
 have hlen:=hI.len;cases hb:Nat.beq s.lo H.length with
 | true =>
  rw[hb] at xS;subst xS;have xT:=av5 hb;refine⟨⟨Nat.le_refl _,fun c' h=>by cases h⟩,?_⟩
  show H=_
  refine awH fun l=>?_
  rw[avw];split
  ·rename_i hl;exact (hI.same l ah).symm
  ·grind
 | false =>
  rw[hb] at xS;subst xS;refine⟨⟨by simp[qx];omega,fun c' BT=>?_⟩,rfl⟩
  simp only[cond_false,au4] at BT;subst BT;refine⟨hI.lo,fun l hl=>?_⟩
  have:=hI.lo
  rw[avw,if_pos (by simp only at hl;omega)]
  exact hI.same l hl
theorem CM{r:AV}{c:Option fP}(he:tq m rs s=some (r,c)):vQ m s rs=some r/\r.leaves m=true/\cond (Nat.beq s.lo m) none (some ⟨s.H.take m,s.lo⟩)=c:=by
 simp only[tq,au3] at he
 grind
theorem JJ(hI:iM H s)(o:bS):jN H (some ⟨s.H.take H.length++[o],s.lo⟩):=by
 have:=hI.len
 have h1:=hI.lo;refine⟨by simp[qx];omega,fun c' BT=>?_⟩
 injection BT with BT
 subst BT;refine⟨hI.lo,fun l hl=>?_⟩
 simp only at hl ⊢;rw[avd dq,avw,if_pos ah];exact hI.same l hl
def CJ{r:AV}{c:Option fP}(he:xf rs s=some (r,c)):rs.length≠1/\∃ xs,lY s rs=some xs/\r=.tuple xs/\c=some ⟨s.H,s.lo⟩:=by
 unfold xf at he;cases hb:Nat.beq rs.length 1 with
 | true=>rw[hb] at he;cases he
 | false =>
  rw[hb] at he;simp only[cond_false,au2,au8] at he;obtain⟨xs,h1,h2,h3⟩:=he;exact⟨fun h=>by (rw[h] at hb;cases hb),xs,h1,h2.symm,h3.symm⟩
def Xg(hI:iM H s):jN H (some ⟨s.H,s.lo⟩):=by
 refine⟨hI.len,fun c' BT=>?_⟩
 injection BT with BT
 subst BT;exact⟨hI.lo,hI.same⟩
theorem AQ{x:AV × Option fP}(he:finish m qw s=some x):(∃ r0,ml m qw s=some (r0,x.2)/\(x.1=r0\/x.1=nh r0))\/xf qw.results s=some x:=by
 unfold finish at he;split at he
 case h_2 =>
  unfold BM at he
  grind
 rename_i y hy;injection he with he
 subst he;refine .inl ?_;have he:=hy;simp only[au2] at he;obtain⟨⟨r0,c0⟩,h1,h2⟩:=he;unfold rZ at h2
 grind
theorem PR.n2{S:Nat->Nat->Prop}{w:World}{x:AV}(h:PR S w v x):PR S w v (n2 x):=by
 have one:∀ {v x},PR S w v x->PR S w v (n1 x):=by
  intro v x h;have h0:=h
  cases h<;>first|exact .dF|exact h0
 have h0:=h;cases h with
 | ar=>exact .dF
 | slice b o n cap sz e f hn kY bX di dr =>
  have gn:∀ (i:Nat) (r:List AV),(e.map fun r=>r.map n1)[i]?=some r->∃ r0,e[i]?=some r0/\r=r0.map n1:=by
   grind
  have Qg:∀ (r0:List AV) (j:Nat) (x:AV),(r0.map n1)[j]?=some x->∃ x0,r0[j]?=some x0/\x=n1 x0:=by
   grind
  refine .slice b o n cap sz _ f (by rw[List.length_map];exact hn) kY (fun i r hr=>?_) (fun i j r x hr hx=>?_) (fun i j r x hr hx=>?_)
  ·grind
  ·grind
  ·grind
 | dF=>exact .dF
 | any v ho=>exact h0
 | _=>exact h0
def VR.n2{gh:Gh}{n:Nat}{w:World}{x:AV}(h:VR gh n w v x):VR gh n w v (n2 x):=by
 have h0:=h;cases h with
 | plain _ _ h=>exact .plain _ _ h.n2
 | _=>exact h0
def VR.n3{gh:Gh}{n:Nat}{w:World}{x:AV}(h:VR gh n w v x):VR gh n w v (n3 x):=by
 have h0:=h;cases h with
 | agg cs xs hs iC h =>
  refine .agg cs _ (by rw[List.length_map];exact hs) iC (fun j v x hv hx=>?_)
  rw[List.getElem?_map] at hx;cases D8:xs[j]? with
  | none=>rw[D8] at hx;cases hx
  | some x0=>rw[D8] at hx;injection hx with hx;subst hx;exact (h j v x0 hv D8).n2
 | plain _ _ h =>
  cases x with
  | agg cs=>cases h
  | _=>exact h0.n2
 | _=>exact h0
def VR.nh{gh:Gh}{n:Nat}{w:World}{x:AV}(h:VR gh n w v x):VR gh n w v (nh x):=by
 have h0:=h;cases h with
 | tuple vs xs hs h =>
  refine .tuple vs _ (by rw[List.length_map];exact hs) (fun j v x hv hx=>?_)
  rw[List.getElem?_map] at hx;cases D8:xs[j]? with
  | none=>rw[D8] at hx;cases hx
  | some x0=>rw[D8] at hx;injection hx with hx;subst hx;exact (h j v x0 hv D8).n3
 | agg cs xs hs iC h=>exact h0.n3
 | plain _ _ h =>
  cases x with
  | tuple cs=>cases h
  | _=>exact h0.n3
 | _=>exact h0
def Y2{gh:Gh}{n:Nat}{w:World}{x:AV}(h:CR gh n w p v x):CR gh n w p v (nh x):=by
 rcases h with h|⟨e,rfl,h1,h2⟩
 ·exact .inl h.nh
 ·exact .inr ⟨e,rfl,h1,h2⟩
theorem CO(hI:iM H s){r:AV}{c:Option fP}(he:finish H.length qw s=some (r,c)):jN H c:=by
 rcases AQ he with ⟨r0,he,_⟩|he
 case inr =>
  obtain⟨_,xs,_,_,rfl⟩:=CJ he;exact Xg hI
 rcases (CP he).2 with he|he|he|he
 ·grind [CL,JJ]
 ·exact JF hI he
 ·obtain⟨_,xs,e,_,_,rfl⟩:=CN he
  exact JJ hI _
 ·exact (N6 hI (CM he).2.2).1
def xg{α:Type} : ∀ (e:List (List α)) (idx:Nat) (x:α),(∀ r∈e,r.length=sz)->e.flatten[idx]?=some x->∃ i j r,e[i]?=some r/\r[j]?=some x/\idx=i*sz+j
 | [],_,_,_,h=>by simp at h
 | r :: e,idx,x,hr,h=>by
  rw[avy] at h
  by_cases hl:idx<r.length
  ·rw[avd hl] at h;exact⟨0,idx,r,rfl,h,ag⟩
  ·rw[List.getElem?_append_right ah] at h
   obtain⟨i,j,r',h1,h2,h3⟩:=xg e _ x (fun r h=>hr r (zo h)) h
   have:=hr r ag
   exact⟨i+1,j,r',cY h1,h2,by rw[avV];omega⟩
theorem AR{α:Type} : ∀ (e:List (List α)),(∀ r∈e,r.length=sz)->e.flatten.length=e.length*sz
 | [],_=>ag
 | r :: e,hr=>by
  have:=hr r ag
  have ih:=AR e (fun r h=>hr r (zo h))
  grind
def Gh.mR(gh:Gh)(k n:Nat):Gh:={ gh.tZ k (.hb n) with ρ:=fun l=>if l=n then k else gh.ρ l }
def sL(hW:a8 G base H gh w){k:Nat}(hk:k<w.heap.size){n:Nat}(hn:m<=n):Step (fun r=>r=gh.κ k) m gh w (gh.mR k n) w:=by
 have h:=mI hW hk (.hb n) m;refine⟨h.S,h.cell,h.size,h.os,h.tape,h.output,h.oH,h.fresh,fun loc hl=>?_,h.len,h.mp⟩
 show (if loc=n then _ else _)=_
 rw[if_neg ah]
theorem a8.mR(hW:a8 G base H gh w){k:Nat}(hk:w.heap[k]?=some (.cells C ty (0,0)))(hS:∀ o,¬ gh.S k o)(h0:gh.κ k≠.none)(ht:∀ l,l<H.length->gh.κ k≠.hb l/\∀ j,gh.κ k≠.hs l j)
  {cs:List AV} (hlen:cs.length<=C.size) (iL:∀ (j:Nat) (u:Value) (x:AV),C[j]?=some u->cs[j]?=some x->u.oneCell'=true/\VR gh H.length w u x) (hr:cs.all (bf H.length)=true) :
  a8 G base (H++[.box bD cs]) (gh.mR k H.length) w:=by
 have aZ:=(avc.1 hk).1;have st:=sL hW aZ (Nat.le_refl H.length);have hn:∀ l,l<H.length->¬ (bM.hb l=gh.κ k)/\∀ j,¬ (bM.hs l j=gh.κ k):=fun l hl=>⟨fun h=>(ht l hl).1 h.symm,fun j h=>(ht l hl).2 j h.symm⟩
 have last:∀ {loc:Nat} {o:bS},(H++[bS.box bD cs])[loc]?=some o->¬ loc<H.length->loc=H.length/\o=.box bD cs:=by
  grind
 refine⟨hW.size,hW.qa,fun b hb=>?_,fun g j x hx=>?_,fun loc ox ds hl=>?_,fun loc ox ds hl=>?_,hW.BA,hW.bytes,fun loc o hl=>?_,fun loc ox ds hl hf=>?_⟩
 ·have kO:(if b=k then bM.hb H.length else gh.κ b)≠.none:=hb
  split at kO
  ·rename_i e;rw[e];exact hW.ry k h0
  ·exact hW.ry b kO
 ·obtain⟨v,h1,h2,h3⟩:=hW.aY g j x hx
  exact⟨v,h1,h2.mono st.S st.cell st.mp,h3⟩
 ·rw[List.length_append,avX]
  by_cases ko:loc<H.length
  ·rw[avd ko] at hl
   have h:=(hW.boxes loc ox ds hl).mono st (n':=H.length+1) (Nat.le_succ _) (hn loc ko).1 (hn loc ko).2;rw[st.ρ loc ko];exact h
  ·obtain⟨rfl,ho⟩:=last hl ko
   injection ho with ho1 ho2
   subst ho1 ho2;have hρ:(gh.mR k H.length).ρ H.length=k:=by simp[Gh.mR]
   rw[hρ];refine⟨by simp[Gh.mR,Gh.tZ],hS,C,ty,hk,hlen,fun j v x hv hx=>?_⟩
   obtain⟨h1,h2⟩:=iL j v x hv hx;exact⟨h1,.inl (h2.mono st (Nat.le_succ _))⟩
 ·by_cases ko:loc<H.length
  ·rw[avd ko] at hl
   exact hW.refs loc ox ds hl
  ·obtain⟨rfl,ho⟩:=last hl ko
   injection ho with ho1 ho2
   subst ho1 ho2;exact hr
 ·rw[List.length_append,avX]
  by_cases ko:loc<H.length
  ·rw[avd ko] at hl
   rw[st.ρ loc ko];exact (hW.more loc o hl).mono st (Nat.le_succ _) (hn loc ko).1 (hn loc ko).2
  ·obtain⟨rfl,rfl⟩:=last hl ko
   trivial
 ·by_cases ko:loc<H.length
  ·rw[avd ko] at hl
   rw[st.ρ loc ko];exact hW.types loc ox ds hl hf
  ·obtain⟨rfl,ho⟩:=last hl ko
   injection ho with ho1 ho2
   exact absurd ho1 hf
theorem a8.acs(hW:a8 G base H gh w){k:Nat}(hk:w.heap[k]?=some (.cells C ty (0,0)))(hS:∀ o,¬ gh.S k o)(h0:gh.κ k≠.none)(ht:∀ l,l<H.length->gh.κ k≠.hb l/\∀ j,gh.κ k≠.hs l j)
  {cs:List AV} (hlen:cs.length<=C.size) (iL:∀ (j:Nat) (u:Value) (x:AV),C[j]?=some u->cs[j]?=some x->u.oneCell'=true/\VR gh H.length w u x) :
  a8 G base (H++[.bZ cs]) (gh.mR k H.length) w:=by
 have aZ:=(avc.1 hk).1;have st:=sL hW aZ (Nat.le_refl H.length);have hn:∀ l,l<H.length->¬ (bM.hb l=gh.κ k)/\∀ j,¬ (bM.hs l j=gh.κ k):=fun l hl=>⟨fun h=>(ht l hl).1 h.symm,fun j h=>(ht l hl).2 j h.symm⟩
 have last:∀ {loc:Nat} {o:bS},(H++[bS.bZ cs])[loc]?=some o->¬ loc<H.length->loc=H.length/\o=.bZ cs:=by
  grind
 refine⟨hW.size,hW.qa,fun b hb=>?_,fun g j x hx=>?_,fun loc ox ds hl=>?_,fun loc ox ds hl=>?_,hW.BA,hW.bytes,fun loc o hl=>?_,fun loc ox ds hl hf=>?_⟩
 ·have kO:(if b=k then bM.hb H.length else gh.κ b)≠.none:=hb
  split at kO
  ·rename_i e;rw[e];exact hW.ry k h0
  ·exact hW.ry b kO
 ·obtain⟨v,h1,h2,h3⟩:=hW.aY g j x hx
  exact⟨v,h1,h2.mono st.S st.cell st.mp,h3⟩
 ·rw[List.length_append,avX]
  by_cases ko:loc<H.length
  ·rw[avd ko] at hl
   have h:=(hW.boxes loc ox ds hl).mono st (n':=H.length+1) (Nat.le_succ _) (hn loc ko).1 (hn loc ko).2;rw[st.ρ loc ko];exact h
  ·obtain⟨rfl,ho⟩:=last hl ko
   cases ho
 ·by_cases ko:loc<H.length
  ·rw[avd ko] at hl
   exact hW.refs loc ox ds hl
  ·obtain⟨rfl,ho⟩:=last hl ko
   cases ho
 ·rw[List.length_append,avX]
  by_cases ko:loc<H.length
  ·rw[avd ko] at hl
   rw[st.ρ loc ko];exact (hW.more loc o hl).mono st (Nat.le_succ _) (hn loc ko).1 (hn loc ko).2
  ·obtain⟨rfl,rfl⟩:=last hl ko
   have hρ:(gh.mR k H.length).ρ H.length=k:=by simp[Gh.mR]
   rw[hρ];refine⟨by simp[Gh.mR,Gh.tZ],hS,C,ty,hk,hlen,fun j v x hv hx=>?_⟩
   obtain⟨h1,h2⟩:=iL j v x hv hx;exact⟨h1,.inl (h2.mono st (Nat.le_succ _))⟩
 ·by_cases ko:loc<H.length
  ·rw[avd ko] at hl
   rw[st.ρ loc ko];exact hW.types loc ox ds hl hf
  ·obtain⟨rfl,ho⟩:=last hl ko
   cases ho
def PR.ady{S:Nat->Nat->Prop}{x:AV}(h:PR S w v x)(hp:x.plain=true)(m:Nat):bf m x=true:=by
 cases h<;>first|rfl|exact hp
def Zb{mo:Gh}(hI:Inv G base nt L H mo w0 s gh w a)(hm:m<=s.H.length):∀ (l:List ResultVar) (rs:List iu) (xs:List AV) (q:Option (List (List AV))),l.length=rs.length->(∀ (j:Nat) (r:ResultVar) (i:iu),l[j]?=some r->rs[j]?=some i ->
    (∃ t,r=.tmp t/\i=.tmp t/\t<nt)\/∃ t ty g sz,r=.cell t ty/\i=.cell t g sz/\t<nt/\n7 P ty=some g/\fC P ty=some sz)->rr s m rs=some (xs,q) ->
    ∃ vs:List Value,l.length=vs.length/\vs.length=xs.length/\(∀ (j:Nat) (r:ResultVar) (v:Value),l[j]?=some r->vs[j]?=some v->(p8 a.tmps r).run P w=.ok v w) /\
     (q=none->∀ (j:Nat) (v:Value) (x:AV),vs[j]?=some v->xs[j]?=some x->VR gh m w v x) /\
     ∀ e,q=some e->∃ b g,b<nt/\s.T b=.lsl g e/\e≠[]/\(e.all fun r=>r.all AV.plain)=true/\∀ (j:Nat) (v:Value) (x:AV),vs[j]?=some v->xs[j]?=some x->VR gh m w v x\/(x=.sref m 0 e.length (VX e)/\v=gP a b):=by
 intro l
 induction l with
 | nil =>
  intro rs xs q hl _ h;have:=avl.1 (cY hl.symm)
  subst this;simp only[rr,au4,au8] at h;obtain⟨rfl,rfl⟩:=h
  simp_all
 | cons rv l ih =>
  intro rs xs q hl hc h;cases rs with
  | nil=>simp at hl
  | cons i rs =>
   simp only[rr,au3] at h;obtain⟨⟨ys,q'⟩,Qw,h⟩:=h;obtain⟨vs,k1,k2,k3,k4,k5⟩:=ih rs ys q' (cY hl) (fun j r i hr hi=>hc (j+1) r i (cY hr) (cY hi)) Qw
   have X2:=hc 0 rv i rfl rfl;have runs:∀ v,(p8 a.tmps rv).run P w=.ok v w->∀ (j:Nat) (r:ResultVar) (u:Value),(rv :: l)[j]?=some r->(v :: vs)[j]?=some u->(p8 a.tmps r).run P w=.ok u w:=by
    intro v h1 j r u hr hu;cases j with
    | zero=>simp at hr hu;subst hr hu;exact h1
    | succ j=>exact k3 j r u (cY hr) (cY hu)
   split at h
   ·rename_i b bX
    split at h
    ·rename_i gg e hT
     obtain⟨h0,h⟩:=al h;simp only[au6,awP,avo,axb] at h0;simp only[au4,au8] at h;obtain⟨rfl,rfl⟩:=h;obtain⟨⟨hq',dk⟩,gW⟩:=h0
     rcases X2 with ⟨t,rfl,rfl,ht⟩|⟨t,ty,g,sz,rfl,rfl,_⟩
     ·have hb:b<nt/\gP a t=gP a b:=by
       simp only[oG] at bX;have qv:=hI.F.slot t ht
       change SR gh s.H.length nt w s.T s.gen (gP a) t (gP a t) (s.T t) at qv
       split at bX
       ·injection bX with bX;subst bX;exact⟨ht,rfl⟩
       ·rename_i b' g CT
        rw[CT] at qv;obtain⟨iR,_,hv⟩:=qv;split at bX
        ·rename_i g' e' Fq
         obtain⟨h0,bX⟩:=al bX;injection bX with bX
         subst bX;have JZ:g=g':=by simpa [iI] using h0
         exact⟨iR,hv (by rw[Fq,JZ];rfl)⟩
        ·cases bX
       ·cases bX
      refine⟨gP a t :: vs,by simp[k1],by simp[k2],runs _ rfl,(fun h=>by cases h),fun e' yI=>?_⟩
      injection yI with yI
      subst yI;refine⟨b,gg,hb.1,hT,dk,gW,fun j u x hu hx=>?_⟩
      cases j with
      | zero=>simp at hu hx;subst hu hx;exact .inr ⟨rfl,hb.2⟩
      | succ j=>exact .inl (k4 hq' j u x (cY hu) (cY hx))
     ·cases bX
    ·cases h
   ·simp only[au3] at h
    obtain⟨z,hz,h⟩:=h;obtain⟨h0,h⟩:=al h;simp only[au4,au8] at h;obtain⟨rfl,rfl⟩:=h;obtain⟨v,h1,h2⟩:=DB (P:=P) hI.W hI.F X2 hz;have hv:VR gh m w v z.dh:=by
     rcases h2 with ⟨t,_,_,_,_,oJ⟩|HF
     ·exact (my oJ.dropped).fu h0
     ·exact (my HF.dropped).fu h0
    refine⟨v :: vs,by simp[k1],by simp[k2],runs v h1,fun hq j u x hu hx=>?_,fun e he=>?_⟩
    ·cases j with
     | zero=>simp at hu hx;subst hu hx;exact hv
     | succ j=>exact k4 hq j u x (cY hu) (cY hx)
    ·obtain⟨b,g,c1,c2,c3,c4,c5⟩:=k5 e he
     refine⟨b,g,c1,c2,c3,c4,fun j u x hu hx=>?_⟩
     cases j with
     | zero=>simp at hu hx;subst hu hx;exact .inl hv
     | succ j=>exact c5 j u x (cY hu) (cY hx)
theorem ZN{mo:Gh}(mA:clean mo)(hI:Inv G base nt L H mo w0 s gh w a)(hc:kC P nt fn.results.toList=some rs){r:AV}{c:Option fP}(hold:∀ br w',a8 G base s.H br w'->AE s.H H.length br w')(he:qZ H.length rs s=some (r,c)) :
  ∃ v br,(results fn a.tmps).run P w=.ok v w/\pA G base H mo w0 r c v br w:=by
 obtain⟨am9,xs,e,hq,rfl,rfl⟩:=CN he;obtain⟨hl,rj⟩:=kT hc;have hlen:=hI.lo.len;obtain⟨vs,k1,k2,k3,_,k5⟩:=Zb (P:=P) hI hlen _ _ xs (some e) hl rj hq;obtain⟨b,g,hb,hT,dk,gW,js⟩:=k5 e rfl;have dO:=lE (P:=P) (w:=w) (fn:=fn) (tmps:=a.tmps) k1 k3;rw[dif_neg (by intro h;apply am9;rw[<- hl,k1];simpa using h)] at dO
 obtain⟨ad,cap,hV,⟨h0,_⟩|⟨k,C,ty,sz,_,rfl,hκ,hS,hk,hC,hle,hr,iL⟩⟩:=qe hI.F hb hT
 ·exact absurd h0 dk
 have adK:=(avc.1 hk).1;have hWp:=hI.W.Ig hlen (hold _ _ hI.W);have Ol:(s.H.take H.length).length=H.length:=dq;have bX:∀ r∈e,r.length=sz:=fun r hm=>by obtain⟨i,hi⟩:=avu hm;exact hr i r hi
 have h0:gh.κ k≠.none:=by rw[hκ];simp
 have h1:gh.κ k≠.outer:=by rw[hκ];simp
 have ht:∀ l,l<(s.H.take H.length).length->gh.κ k≠.hb l/\∀ j,gh.κ k≠.hs l j:=fun l _=>by rw[hκ];simp
 have nW:=hWp.mR hk hS h0 ht (cs:=e.flatten) (by rw[AR e bX,hC];exact avg _ hle)
  (fun j u x hu hx=>by
   obtain⟨i,j',r,e1,e2,rfl⟩:=xg e j x bX hx;obtain⟨u',HQ,hp⟩:=iL i j' r x e1 e2;rw[hu] at HQ;injection HQ with HQ
   subst HQ;exact⟨hp.gb,.plain _ _ hp⟩)
  (ava.2 fun x hx=>by
   obtain⟨j,hj⟩:=avu hx;obtain⟨i,j',r,e1,e2,_⟩:=xg e j x bX hj;obtain⟨u',_,hp⟩:=iL i j' r x e1 e2;exact hp.ady (ava.1 (ava.1 gW r (avb e1)) x (avb e2)) _)
 rw[Ol] at nW;have DQ:=sL hI.W adK (m:=H.length) (Nat.le_refl H.length);have hE:Ext H.length gh w (gh.mR k H.length) w:=⟨DQ.mono (fun r h=>by rw[h];exact⟨h0,h1⟩),fun b' iR=>by
  have kO:(if b'=k then bM.hb H.length else gh.κ b')=.outer:=iR
  split at kO
  ·cases kO
  ·exact kO⟩
 have AT:=hI.E.trans hE (Nat.le_refl _);have uQ:(qx H (some ⟨s.H.take H.length++[.box bD e.flatten],s.lo⟩)).length=H.length+1:=by simp[qx];omega
 refine⟨_,_,dO,by rw[uQ];omega,nW,?_,AT.out,?_⟩
 ·have st:=AT.step
  refine⟨st.S,st.cell,st.size,st.os,st.tape,st.output,fun b hb hn=>st.oH b hb (fun ht=>hn ?_),st.fresh,st.ρ,st.len,st.mp⟩
  rcases mA b with h|h|h|h
  ·exact absurd h ht.1
  ·exact absurd h ht.2
  ·exact .inl h
  ·exact .inr h
 ·rw[uQ]
  refine .inl (.tuple vs.toArray xs (cY k2) (fun j v x hv hx=>?_))
  rcases js j v x (cY hv) hx with h|⟨rfl,rfl⟩
  ·exact h.mono DQ (Nat.le_succ _)
  ·rw[hV]
   have hρ:(gh.mR k H.length).ρ H.length=k:=by simp[Gh.mR]
   have hrw:VX e=sz:=by
    cases e with
    | nil=>exact absurd rfl dk
    | cons r0 e=>simp[VX,bX r0 (List.mem_cons_self ..)]
   have:=VR.sref (gh:=gh.mR k H.length) (w:=w) (n:=H.length+1) H.length 0 e.length cap (VX e) ah hle (fun _=>⟨ty,by rw[hρ];exact⟨C,(0,0),hk,by rw[hC,hrw,avA]⟩⟩)
   rw[hρ] at this;exact this
theorem ZL{mo:Gh}(mA:clean mo)(hI:Inv G base nt L H mo w0 s gh w a)(hc:kC P nt fn.results.toList=some rs){r:AV}{c:Option fP}(hold:∀ br w',a8 G base s.H br w'->AE s.H H.length br w')(he:tj H.length rs s=some (r,c)) :
  ∃ v br,(results fn a.tmps).run P w=.ok v w/\pA G base H mo w0 r c v br w:=by
 obtain⟨i,l,off,n,z,W9,cs,Oq,aiH,hH,hml,gW,rfl,rfl⟩:=CL he;obtain⟨hl,rj⟩:=kT hc;have hlen:=hI.lo.len;rw[Oq] at hl;obtain⟨rv,Qr⟩:∃ rv,fn.results.toList=[rv]:=awo.1 (cY hl);have X2:=rj 0 rv i (by rw[Qr];rfl) (by rw[Oq];rfl)
 obtain⟨v,h1,h2⟩:=DB (P:=P) hI.W hI.F X2 aiH;have hv:VR gh s.H.length w v (.sref l off n z):=by
  rcases h2 with ⟨t,_,_,_,_,oJ⟩|HF
  ·exact oJ.dropped
  ·exact HF
 obtain⟨_,cap,hk,hz,rfl⟩:=hv.k9;have dO:=lE (P:=P) (w:=w) (fn:=fn) (tmps:=a.tmps) (vs:=[.slice (some ⟨gh.ρ l,off,none⟩) n cap]) (by rw[Qr];rfl) (fun j r' v' hr hv=>by
  rw[Qr] at hr;cases j with
  | zero=>simp at hr hv;subst hr hv;exact h1
  | succ j=>simp at hr)
 obtain⟨hκ,hS,C,ty,hb,hC,iL⟩:=hI.W.boxes l _ cs hH;have adK:=(avc.1 hb).1;have hWp:=hI.W.Ig hlen (hold _ _ hI.W);have Ol:(s.H.take H.length).length=H.length:=dq;have h0:gh.κ (gh.ρ l)≠.none:=by rw[hκ];simp
 have WV:gh.κ (gh.ρ l)≠.outer:=by rw[hκ];simp
 have nW:=hWp.acs hb hS h0 (fun l' Fv=>by rw[hκ];rw[Ol] at Fv;exact⟨by intro e;injection e with e;omega,ag⟩) (cs:=cs) hC (fun j u x hu hx=>by
  obtain⟨k1,k2⟩:=iL j u x hu hx;have hp:=ava.1 gW x (avb hx);have:=k2.dropped
  rw[wx hp] at this;exact⟨k1,.plain _ _ (this.mh hp)⟩)
 rw[Ol] at nW;have DQ:=sL hI.W adK (m:=H.length) (Nat.le_refl H.length);have hE:Ext H.length gh w (gh.mR (gh.ρ l) H.length) w:=⟨DQ.mono (fun r h=>by rw[h];exact⟨h0,WV⟩),fun b' iR=>by
  have kO:(if b'=gh.ρ l then bM.hb H.length else gh.κ b')=.outer:=iR
  split at kO
  ·cases kO
  ·exact kO⟩
 have AT:=hI.E.trans hE (Nat.le_refl _);have uQ:(qx H (some ⟨s.H.take H.length++[.bZ cs],s.lo⟩)).length=H.length+1:=by simp[qx];omega
 refine⟨_,_,cY dO,by rw[uQ];omega,nW,?_,AT.out,?_⟩
 ·have st:=AT.step
  refine⟨st.S,st.cell,st.size,st.os,st.tape,st.output,fun b hb hn=>st.oH b hb (fun ht=>hn ?_),st.fresh,st.ρ,st.len,st.mp⟩
  rcases mA b with h|h|h|h
  ·exact absurd h ht.1
  ·exact absurd h ht.2
  ·exact .inl h
  ·exact .inr h
 ·rw[uQ]
  have hρ:(gh.mR (gh.ρ l) H.length).ρ H.length=gh.ρ l:=by simp[Gh.mR]
  have:=VR.sref (gh:=gh.mR (gh.ρ l) H.length) (w:=w) (n:=H.length+1) H.length off n cap z ah hk (fun hz0=>by rw[hρ];exact hz hz0)
  rw[hρ] at this;exact .inl this
def rO(H:ae)(m k l:Nat):Option (List AV) :=
 ((H[l]?).bind pY).bind fun cs=>cond (cs.all fun x=>(gu H m k x.drop).plain&&kK x) (some (cs.map fun x=>gu H m k x.drop)) none
def al6(gh:Gh)(H:ae)(m:Nat)(b o:Nat):Prop:=gh.S b o\/∃ k l cs,m<=l/\rO H m k l=some cs/\gh.ρ l=b/\o<cs.length
def Gh.XW(gh:Gh)(H:ae)(m:Nat):Gh:={ gh with S:=al6 gh H m }
theorem aaD{k l:Nat}(h:rO H m k l=some cs):∃ o ds,H[l]?=some o/\pY o=some ds/\cs=ds.map (fun x=>gu H m k x.drop)/\∀ x,x∈ds->(gu H m k x.drop).plain=true/\kK x=true:=by
 unfold rO at h;simp only[au3] at h
 grind
def MY(hW:a8 G base H gh w){l:Nat}{o:bS}{ds:List AV}(ho:H[l]?=some o)(hd:pY o=some ds):iT gh H.length w (gh.ρ l) (.hb l) (fun j=>.hs l j) ds:=by
 cases o<;>simp only[pY,reduceCtorEq,au4] at hd
 ·subst hd;exact hW.boxes l _ _ ho
 ·subst hd;exact hW.more l _ ho
def yB(hW:a8 G base H gh w)(m n:Nat):Step (fun r=>∃ l,m<=l/\r=.hb l) n gh w (gh.XW H m) w:=by
 refine⟨fun b o h=>.inl h,fun _ _ _=>rfl,Nat.le_refl _,rfl,rfl,rfl,fun b hb hn=>⟨.inl rfl,rfl,fun o ho=>?_⟩,fun b hb=>hW.cB b hb,fun _ _=>rfl,fun _ _ _ h=>h,fun _ _ _ _ h=>h⟩
 rcases ho with ho|⟨k,l,cs,hl,hf,hρ,_⟩
 ·exact ho
 ·exfalso
  obtain⟨o',ds,Om,hd,_⟩:=aaD hf;exact hn ⟨l,hl,by rw[<- hρ];exact (MY hW Om hd).1⟩
theorem CS(hW:a8 G base H gh w){k l:Nat}(hV:∀ {v:Value} {x:AV},VR gh H.length w v x->VR (gh.XW H m) H.length w v (gu H m k x))(hm:m<=l)(hf:rO H m k l=some cs){x:AV}(hx:cs[j]?=some x) :
  ∃ v,w.cell? ⟨gh.ρ l,j,none⟩=some v/\PR (gh.XW H m).S w v x/\(gh.XW H m).S (gh.ρ l) j/\∀ n,v≠.int .u8 n:=by
 have hf0:=hf;obtain⟨o',ds,Om,hd,rfl,ft⟩:=aaD hf;obtain⟨hκ,hS,C,RJ,hb,hle,di⟩:=MY hW Om hd;have wz:=(au7.1 hx).1;simp only[List.getElem?_map,au2] at hx;obtain⟨y,hy,rfl⟩:=hx;have hj2:=(au7.1 hy).1;have hv:C[j]?=some C[j]:=avh ah;obtain⟨k1,k2⟩:=di j _ y hv hy;obtain⟨p1,p2⟩:=ft y (avb hy);refine⟨C[j],by rw[cell_of_row w _ j C RJ _ hb];exact hv,(hV k2.dropped).mh p1,.inr ⟨k,l,_,hm,hf0,rfl,wz⟩,fun n hn=>?_⟩
 have HF:=k2.dropped;rw[hn] at HF;cases HF with
 | plain _ _ h =>
  cases y<;>simp only[AV.drop] at h<;>cases h<;>simp[kK] at p2
def uD : ∀ {n:Nat} {l:List AV} {i:Nat} {r:List AV},(chunks z n l)[i]?=some r->i<n/\r=(l.drop (i*z)).take z
 | 0,l,i,r,h=>by simp[chunks] at h
 | n+1,l,0,r,h=>by simp[chunks] at h;exact⟨ah,by simp[h]⟩
 | n+1,l,i+1,r,h=>by
  simp only[chunks,avI] at h;obtain⟨h1,h2⟩:=uD h;refine⟨ah,?_⟩;rw[h2,av7,avV,axg,axA z]
def AI : ∀ {n:Nat} {l:List AV},(chunks z n l).length=n
 | 0,l=>rfl
 | n+1,l=>by simp[chunks,AI]
theorem BR(hW:a8 G base H gh w){m:Nat} : ∀ (k:Nat) {v:Value} {x:AV},VR gh H.length w v x->VR (gh.XW H m) H.length w v (gu H m k x)
 | 0,v,x,h=>h.mono (yB hW m _) (Nat.le_refl _)
 | d+1,v,x,h=>by
  have ih:=@BR hW m d;have h0:=h.mono (yB hW m _) (Nat.le_refl _);unfold gu;split
  ·rename_i l off k z
   cases hb:Nat.ble m l with
   | false=>exact h0
   | true =>
    rw[cond_true];split
    ·rename_i ds hds
     cases kO:(Nat.blt 0 z&&Nat.ble (off+k*z) ds.length&&ds.all fun x=>(gu H m d x.drop).plain&&kK x) with
     | false=>exact h0
     | true =>
      rw[cond_true];simp only[au6,avn,avv] at kO;obtain⟨⟨hz,hle⟩,ft⟩:=kO;have iL:rO H m d l=some (ds.map fun x=>gu H m d x.drop):=by
       unfold rO
       grind
      generalize hcc:ds.map (fun x=>gu H m d x.drop)=cs at *
      obtain⟨_,cap,hk,_,rfl⟩:=h.k9;have hml:m<=l:=by simpa [avv] using hb
      have cell:∀ {i j:Nat} {r:List AV} {y:AV},(chunks z k (cs.drop off))[i]?=some r->r[j]?=some y->i<k/\j<z/\cs[off+i*z+j]?=some y:=by
       intro i j r y hi hj;obtain⟨h1,rfl⟩:=uD hi
       grind
      have hlen:cs.length=ds.length:=by rw[<- hcc];simp
      refine .plain _ _ (.slice (gh.ρ l) off k cap z _ (fun i j=>(w.cell? ⟨gh.ρ l,off+i*z+j,none⟩).getD undef) AI hk (fun i r hi=>?_) (fun i j r y hi hj=>?_) (fun i j r y hi hj=>?_))
      ·obtain⟨h1,rfl⟩:=uD hi
       have:(i+1)*z<=k*z:=avg _ h1
       grind
      ·obtain⟨_,_,hc⟩:=cell hi hj
       obtain⟨u,k1,k2,k3,_⟩:=CS hW ih hml iL hc;exact⟨k3,by rw[k1];rfl,by rw[k1];exact k2.gb⟩
      ·grind [CS]
    ·exact h0
  ·exact h0
theorem Oa(hW:a8 G base H gh w){x:AV}(h:VR gh H.length w v x):VR (gh.XW H m) H.length w v (Ma H m x):=by
 unfold Ma;split
 ·rename_i cs
  obtain⟨C,rfl,hs,iC,hc⟩:=h.mq;refine .agg C _ (cY hs) iC (fun j v x hv hx=>?_)
  grind [BR]
 ·exact BR hW Fp h
theorem ahB(hW:a8 G base H gh w)(hm:m<=H.length)(hold:AE H m gh w):a8 G base (H.take m) (gh.XW H m) w:=by
 have Qf:=hW.Ig hm hold;have abh:(H.take m).length=m:=dq;have st:=yB hW m (H.take m).length;have ht:∀ l,l<m->¬ (∃ k,m<=k/\bM.hb l=.hb k)/\∀ j,¬ (∃ k,m<=k/\bM.hs l j=.hb k):=by
  grind
 have lt:∀ {l:Nat} {o:bS},(H.take m)[l]?=some o->l<m:=fun h=>by have:=(au7.1 h).1;omega
 refine⟨Qf.size,fun b o ho=>?_,Qf.ry,fun g j x hx=>?_,fun loc ty cs hl=>?_,Qf.refs,Qf.BA,Qf.mw st (fun b o n ho=>?_),fun loc o hl=>?_,fun loc ty cs hl=>Qf.types loc ty cs hl⟩
 ·rcases ho with ho|⟨k,l,cs,hl,hf,rfl,_⟩
  ·exact hW.qa b o ho
  ·obtain⟨o',ds,Om,hd,_⟩:=aaD hf
   obtain⟨_,_,C,RJ,hb,_⟩:=MY hW Om hd
   grind
 ·obtain⟨v,h1,h2,h3⟩:=Qf.aY g j x hx
  exact⟨v,h1,h2.mono st.S st.cell st.mp,st.S g j h3⟩
 ·exact (Qf.boxes loc ty cs hl).mono st (Nat.le_refl _) (ht loc (lt hl)).1 (ht loc (lt hl)).2
 ·rcases ho with ho|⟨k,l,cs,hl,hf,rfl,aZ⟩
  ·exact .inl ho
  ·refine .inr fun hc=>?_
   obtain⟨v,k1,_,_,k4⟩:=CS hW (BR hW k) hl hf (au5 aZ)
   grind
 ·exact (Qf.more loc o hl).mono st (Nat.le_refl _) (ht loc (lt hl)).1 (ht loc (lt hl)).2
theorem ZM{mo:Gh}(mA:clean mo)(hI:Inv G base nt L H mo w0 s gh w a)(hc:kC P nt fn.results.toList=some rs){r:AV}{c:Option fP}(hold:∀ br w',a8 G base s.H br w'->AE s.H H.length br w')(he:tq H.length rs s=some (r,c)) :
  ∃ v br,(results fn a.tmps).run P w=.ok v w/\pA G base H mo w0 r c v br w:=by
 obtain⟨hr,uc,xS⟩:=CM he;have hlen:=hI.lo.len;have kZ:=(N6 hI.lo xS).2;have uN:(qx H c).length=H.length:=by rw[kZ];simp;omega
 have DQ:=yB hI.W H.length H.length;have Od:Ext H.length gh w (gh.XW s.H H.length) w:=⟨DQ.mono (fun r h=>by obtain⟨l,_,rfl⟩:=h;exact⟨ag,ag⟩),fun b hb=>hb⟩
 have fin:∀ {v:Value},(results fn a.tmps).run P w=.ok v w->VR (gh.XW s.H H.length) s.H.length w v r->∃ v br,(results fn a.tmps).run P w=.ok v w/\pA G base H mo w0 r c v br w:=by
  intro v h1 h4;have hE:=hI.E.trans Od (Nat.le_refl _);refine⟨v,_,h1,awn uN.symm,by rw[kZ];exact ahB hI.W hlen (hold _ _ hI.W),?_,hE.out,by rw[uN];exact .inl (h4.leaves uc)⟩
  have st:=hE.step;refine⟨st.S,st.cell,st.size,st.os,st.tape,st.output,fun b hb hn=>st.oH b hb (fun ht=>hn ?_),st.fresh,st.ρ,st.len,st.mp⟩
  rcases mA b with h|h|h|h
  ·exact absurd h ht.1
  ·exact absurd h ht.2
  ·exact .inl h
  ·exact .inr h
 obtain⟨hl,rj⟩:=kT hc;have one:∀ (rv:ResultVar) (v:Value),fn.results.toList=[rv]->(p8 a.tmps rv).run P w=.ok v w->(results fn a.tmps).run P w=.ok v w:=by
  intro rv v h1 h2;have:=lE (P:=P) (w:=w) (fn:=fn) (tmps:=a.tmps) (vs:=[v]) (by rw[h1];rfl) (fun j r' v' hr hv=>by
   rw[h1] at hr;cases j with
   | zero=>simp at hr hv;subst hr hv;exact h2
   | succ j=>simp at hr)
  simpa using this
 unfold vQ at hr;split at hr
 ·rename_i i
  have Oo:([i]:List iu)=[i]:=rfl;rw[Oo] at hl;obtain⟨rv,Qr⟩:∃ rv,fn.results.toList=[rv]:=awo.1 (cY hl);have X2:=rj 0 rv i (by rw[Qr];rfl) (by rw[Oo];rfl)
  simp only[au2] at hr;obtain⟨z,hz,rfl⟩:=hr;obtain⟨v,h1,h2⟩:=DB (P:=P) hI.W hI.F X2 hz;have hv:VR gh s.H.length w v z.dh:=by
   rcases h2 with ⟨t,_,_,_,_,oJ⟩|HF
   ·exact my oJ.dropped
   ·exact my HF.dropped
  exact fin (one _ _ Qr h1) (Oa hI.W hv)
 ·rename_i dk
  simp only[au2] at hr;obtain⟨xs,hxs,rfl⟩:=hr;obtain⟨vs,k1,k2,k3,k4⟩:=Il (P:=P) hI.W hI.F _ _ xs hl rj hxs;have HM:vs.length≠1:=by
   intro h;rw[<- k1,hl] at h;obtain⟨i,hi⟩:=awo.1 h;exact dk i hi
  have dO:=lE (P:=P) (w:=w) (fn:=fn) (tmps:=a.tmps) k1 k3;rw[dif_neg (cY HM)] at dO;refine fin dO (.tuple vs.toArray _ (cY k2) (fun j v x hv hx=>?_))
  simp only[List.getElem?_map,au2] at hx;obtain⟨y,hy,rfl⟩:=hx;exact Oa hI.W (k4 j v y (cY hv) hy)
theorem ZK{mo:Gh}(mA:clean mo)(hI:Inv G base nt L H mo w0 s gh w a)(hc:kC P nt fn.results.toList=some rs){r:AV}{c:Option fP}(he:xf rs s=some (r,c)) :
  ∃ v br,(results fn a.tmps).run P w=.ok v w/\pA G base H mo w0 r c v br w:=by
 obtain⟨dk,xs,hxs,rfl,rfl⟩:=CJ he;obtain⟨hl,rj⟩:=kT hc;obtain⟨vs,k1,k2,k3,k4⟩:=Il (P:=P) hI.W hI.F _ _ xs hl rj hxs;have HM:vs.length≠1:=by
  grind
 have dO:=lE (P:=P) (w:=w) (fn:=fn) (tmps:=a.tmps) k1 k3;rw[dif_neg (cY HM)] at dO;refine⟨_,gh,dO,hI.lo.len,hI.W,?_,hI.E.out,.inl (.tuple vs.toArray xs (cY k2) (fun j v x hv hx=>k4 j v x (cY hv) hx))⟩
 have st:=hI.E.step;refine⟨st.S,st.cell,st.size,st.os,st.tape,st.output,fun b hb hn=>st.oH b hb (fun ht=>hn ?_),st.fresh,st.ρ,st.len,st.mp⟩
 rcases mA b with h|h|h|h
 ·exact absurd h ht.1
 ·exact absurd h ht.2
 ·exact .inl h
 ·exact .inr h
theorem Re{mo:Gh}(Qf:a8 G base H ghI wI)(mA:clean mo)(hI:Inv G base nt L H mo w0 s gh w a)(hc:kC P nt fn.results.toList=some qw.results){r:AV}{c:Option fP}(he:finish H.length qw s=some (r,c)) :
  jN H c/\∃ v br,(results fn a.tmps).run P w=.ok v w/\pA G base H mo w0 r c v br w:=by
 refine⟨CO hI.lo he,?_⟩
 rcases AQ he with ⟨r0,he,hr⟩|he
 case inr=>exact ZK mA hI hc he
 suffices hs:∃ v br,(results fn a.tmps).run P w=.ok v w/\pA G base H mo w0 r0 c v br w by
  obtain⟨v,br,k1,k2⟩:=hs
  rcases hr with rfl|rfl
  ·exact⟨v,br,k1,k2⟩
  ·exact⟨v,br,k1,{ k2 with val:=Y2 k2.val }⟩
 clear hr;obtain⟨ho,he⟩:=CP he;have hold:∀ br w',a8 G base s.H br w'->AE s.H H.length br w':=fun br w' h=>ae' Qf hI.lo ho h
 rcases he with he|he|he|he
 ·grind [ZL]
 ·exact (Nh mA hI hc hold he).2
 ·grind [ZN]
 ·grind [ZM]
section
variable {cf:gz}(ua:∀ f args H r c,cf f args H=some (r,c)->jN H c)
include ua
theorem SW{z:AV}{s:AS}(he:CE G cf s o=some (z,s1))(h:iM H s):iM H s1:=by
 have dO:((aR G cf s o.op).bind fun r=>match r.2 with
   | none=>some (r.1,s)
   | some s'=>some (r.1,s'))=some (z,s1)->iM H s1:=by
  intro h1;simp only[au3] at h1
  grind [NZ]
 unfold CE at he
 grind
theorem Ju:∀ (is:List aV) (s s' : AS),gO G cf is s=some s'->iM H s->iM H s'
 | [],s,s',he,h=>by simp only[gO,au4] at he;rw[<- he];exact h
 | o :: r,s,s',he,h=>by
  simp only[gO,au3,w9,au2] at he;obtain⟨s1,⟨⟨z,s2⟩,hz,rfl⟩,he⟩:=he;have h2:=SW ua hz h;exact Ju r _ s' he (h2.qR (nr _ _ _).1 (nr _ _ _).2.2)
theorem w6(n:Nat):∀ (c:aK) (s s' : AS) (ex:bH),kN G cf n c s=some (ex,s')->iM H s->iM H s'
 | .skip,s,s',ex,he,h=>by simp only[kN,au4,au8] at he;rw[<- he.2];exact h
 | .region ops,s,s',ex,he,h=>by
  simp only[kN,au2,au8] at he
  grind [Ju]
 | .seq a b,s,s',ex,he,h=>by
  simp only[kN,au3] at he;obtain⟨⟨e1,s1⟩,h1,he⟩:=he;have h2:=w6 n a s s1 e1 h1 h;cases e1 with
  | normal=>exact w6 n b s1 s' ex he h2
  | _=>simp only[au4,au8] at he;rw[<- he.2];exact h2
 | .cond c a b,s,s',ex,he,h=>by
  simp only[kN] at he;split at he
  ·rename_i t _
   cases t with
   | true=>exact w6 n a s s' ex he h
   | false=>exact w6 n b s s' ex he h
  ·cases he
 | .block id a,s,s',ex,he,h=>by
  simp only[kN,au2] at he;obtain⟨⟨e1,s1⟩,h1,he⟩:=he;have h2:=w6 n a s s1 e1 h1 h
  grind
 | .loop a,s,s',ex,he,h=>by
  simp only[kN] at he;have go:∀ (m:Nat) (s:AS),iter (kN G cf n a) m s=some (ex,s')->iM H s->iM H s':=by
   intro m
   induction m with
   | zero=>intro s h;cases h
   | succ m ih =>
    intro s h1 h;simp only[iter,au3] at h1;obtain⟨⟨e1,s1⟩,h1,h2⟩:=h1;have h3:=w6 n a s s1 e1 h1 h
    grind
  exact go n s he h
 | .exit id,s,s',ex,he,h=>by simp only[kN,au4,au8] at he;rw[<- he.2];exact h
 | .ret,s,s',ex,he,h=>by simp only[kN,au4,au8] at he;rw[<- he.2];exact h
 | .rD _ _,s,s',ex,he,h=>by simp[kN] at he
end
def Gh.taken(gh:Gh):Gh:={ gh with κ:=fun b=>match gh.κ b with|.par j=>.sl j|o=>o }
def ajg(p:bM):Prop:=∃ j,p=.par j
def xN(hW:a8 G base H gh w)(n:Nat):Step ajg n gh w gh.taken w:=by
 refine⟨fun _ _ h=>h,fun _ _ _=>rfl,Nat.le_refl _,rfl,rfl,rfl,fun b hb hn=>⟨.inl rfl,?_,fun _ h=>h⟩,fun b hb=>?_,fun _ _=>rfl,fun _ _ _ h=>h,fun _ _ _ _ h=>h⟩
 ·simp only[Gh.taken]
  cases h:gh.κ b<;>first|rfl|skip
  exact absurd ⟨_,h⟩ hn
 ·simp only[Gh.taken,hW.fresh b hb]
  simp
def aab(hW:a8 G base H gh w):a8 G base H gh.taken w:=by
 refine hW.step (xN hW H.length) (fun l=>⟨fun h=>(by obtain⟨j,h⟩:=h;cases h),fun k h=>(by obtain⟨j,h⟩:=h;cases h)⟩) hW.qa (fun b hb=>hW.ry b fun h=>hb ?_) (fun _ _ _ h=>.inl h)
 simp[Gh.taken,h]
theorem Ws(hW:a8 G base H gh w){n:Nat}{x:AV}(h:CR gh n w (.par j) v x):CR gh.taken n w (.sl j) v x:=by
 have st:=xN hW n
 rcases h with h|⟨e,rfl,h1,h2⟩
 ·exact .inl (h.mono st (Nat.le_refl _))
 ·refine .inr ⟨e,rfl,h1,?_⟩
  obtain⟨b,cap,C,ty,lo,hi,sz,k1,k2,k3,k4,k5⟩:=h2;exact⟨b,cap,C,ty,lo,hi,sz,k1,by simp[Gh.taken,k2],k3,k4,k5⟩
theorem Ud{H:ae}{locals muts:List Nat}{args:List AV}{gh:Gh}{w:World}{vs:Array Value}(hW:a8 G base H gh w)(Fz:vs.size=args.length)(kj:vs.size<=fn.ntmps)(dr:∀ (j:Nat) (v:Value) (x:AV),vs[j]?=some v->args[j]?=some x->CR gh H.length w (.par j) v x) :
  Inv G base fn.ntmps (locals++muts) H gh w ({ T:=fi args,H,lo:=H.length,gen:=0 } : AS) gh.taken w { tmps:=vs++Array.replicate (fn.ntmps-vs.size) undef,defers:=[] }:=by
 have gJ:∀ b,w.heap.size<=b->gh.κ b≠.outer:=fun b hb=>hW.cB b hb
 have hE:Ext H.length gh w gh.taken w:=⟨(xN hW H.length).mono (fun p hp=>by obtain⟨j,rfl⟩:=hp;simp[sw]),fun b hb=>by
  simp only[Gh.taken] at hb;cases h:gh.κ b<;>rw[h] at hb<;>first|exact hb|cases hb⟩
 refine⟨aab hW,⟨⟨rfl,dq,fun i hi=>?_⟩,fun i hi=>?_⟩,hE,⟨Nat.le_refl _,Nat.le_refl _,fun _ _=>rfl⟩⟩
 ·have oJ:CR gh.taken H.length w (.sl i) ((vs++Array.replicate (fn.ntmps-vs.size) undef).getD i undef) (fi args i):=by
   by_cases aZ:i<vs.size
   ·have h1:=avh aZ
    have h2:=au5 (show i<args.length by omega)
    have h3:=dr i _ _ h1 h2;have e1:(vs++Array.replicate (fn.ntmps-vs.size) undef).getD i undef=vs[i]:=by
     rw[Array.getD_eq_getD_getElem?,Array.getElem?_append_left aZ,h1];rfl
    have e2:fi args i=args[i]:=by simp only[fi,List.getD_eq_getElem?_getD,h2];rfl
    grind [Ws]
   ·have e1:(vs++Array.replicate (fn.ntmps-vs.size) undef).getD i undef=undef:=by
     simp_all
    have e2:fi args i=.undef:=by simp only[fi,List.getD_eq_getElem?_getD,List.getElem?_eq_none (show args.length<=i by omega)];rfl
    rw[e1,e2];exact .inl .undef
  exact qf oJ.aN oJ
 ·exfalso
  have hn:fz (fi args i)=none:=by
   by_cases aZ:i<args.length
   ·have h1:=avh (show i<vs.size by omega)
    have h2:=au5 aZ;have e2:fi args i=args[i]:=by simp only[fi,List.getD_eq_getElem?_getD,h2];rfl
    rw[e2];exact mn (dr i _ _ h1 h2).aN
   ·have e2:fi args i=.undef:=by simp only[fi,List.getD_eq_getElem?_getD,List.getElem?_eq_none (show args.length<=i by omega)];rfl
    rw[e2];rfl
  grind
def gQ(P:Program)(G:Nat->List AV)(f:FuncId)(g:List AV->ae->Option (AV × Option fP)):Prop :=
 ∀ args H r c,g args H=some (r,c)->(∃ fn,P.funcs[f]?=some fn/\fn.body.isSome=true/\fn.name≠ "runtime.NumGoroutine")/\jN H c /\
  ∀ (base:Nat) (gh:Gh) (w:World) (vs:Array Value),a8 G base H gh w->clean gh->vs.size=args.length->(∀ (j:Nat) (v:Value) (x:AV),vs[j]?=some v->args[j]?=some x->VR gh H.length w v x) ->
   Calls P f vs w fun e w'=>∃ v br,e=.returned v/\pA G base H gh w r c v br w'
end
end
end Go.Abs
end
