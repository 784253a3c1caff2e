/-
  A part of the proof of SyntaxLossless: AbsLoc, AbsCode.
-/
import Derived.Test.YtkoebdjmmgckdaaGreatDoorQ05
set_option linter.unusedSimpArgs false
set_option linter.unusedVariables false
set_option linter.defProp false
noncomputable section
namespace Go.Abs
variable {s1:AS}{r:AV}{C:Array Value}{pc:Bool}{fn:Func}{ghI:Gh}{cs:List AV}{is:List aQ}{rs:List gN}{j l loc m sz z:Nat}{E:Nat->rB}{ty:TypeId}{v v0:Value}{w0 wI:World}{qA:aD}{y:aI}{o:aQ}{H0:aa}{p:bF}{op:oH}
section
structure Te (e:rB) (s x:AS):Prop where
 T:∀ t,t∈e.rs->x.T t=s.T t
 H:e.rh=true\/e.wh=true->x.H=s.H/\x.lo=s.lo
 G:e.wg=true->x.gen=s.gen
structure fB (e:rB) (s1 x x1:AS):Prop where
 T:∀ t,t∈e.ws->x1.T t=s1.T t
 T' : ∀ t,t∉e.ws->x1.T t=x.T t
 H:e.wh=true->x1.H=s1.H/\x1.lo=s1.lo
 H' : e.wh=false->x1.H=x.H/\x1.lo=x.lo
 G:e.wg=true->x1.gen=s1.gen
 G' : e.wg=false->x1.gen=x.gen
def fB.stay{e:rB}{s x:AS}(h:Te e s x)(hw:∀ t,t∈e.ws->t∈e.rs):fB e s x x :=
 ⟨fun t ht=>h.T t (hw t ht),fun _ _=>rfl,fun hh=>h.H (.inr hh),fun _=>⟨rfl,rfl⟩,fun hg=>h.G hg,fun _=>rfl⟩
section
variable {G:Nat->List AV}{cf:fX}{s x:AS}{e:rB}
def Tv(h:∀ t,t∈e.rs->x.T t=s.T t)(hy:∀ t,t∈y.tmps->t∈e.rs):y.eval G x.T=y.eval G s.T:=by
 cases y<;>try rfl
 rename_i t;exact h t (hy t (by simp[aI.tmps]))
def CY(h:∀ t,t∈e.rs->x.T t=s.T t)(hy:∀ t,t∈y.tmps->t∈e.rs):y.addr G x.T=y.addr G s.T:=by
 cases y<;>try rfl
 rename_i t;simp only[aI.addr];rw[h t (hy t (by simp[aI.tmps]))]
def fz(pc:Bool):oH->oH
 | .call f xs=>cond pc (.Da f xs) (.call f xs)
 | o=>o
def BM(pc:Bool)(o:aQ):nF pc o=⟨o.dst,o.guard,fz pc o.op⟩:=by
 obtain⟨d,g,op⟩:=o;cases op<;>simp only[nF,fz]
 cases pc<;>rfl
def fi(s:AS)(t:Nat)(v:AV)(k:Nat):(s.cc t v).T k=if k=t then v else s.T k:=kZ s.T t v k
def DW{c:S0}{Y:AV}(h:cK s Y=true)(hc:fY c Y=true)(hT:∀ b,b∈gU c->x.T b=s.T b):cK x Y=true:=by
 cases Y<;>simp only[cK] at h ⊢<;>try (cases h;done)
 case lref b g off =>
  cases c with
  | frame b' =>
   simp only[fY,im,aw'] at hc;subst hc;rw[hT b' (axi.2 rfl)];exact h
  | _=>cases hc
 case eref=>cases c<;>cases hc
def aap{c:S0}(he:GQ pc c op=some e)(hc:∀ y,(∃ t a z,op=.load t a z y)\/(∃ z v,op=.store z y v)\/op=.nilCheck y\/(∃ f,op=.fieldAddr f y)\/(∃ n z i,op=.ixArr n z y i)->fY c (y.addr G s.T)=true)
  (gC:∀ y,(∃ z i,op=.ixSl z y i)\/(∃ k,op=.len k y)->fY .heap (y.addr G s.T)=true)
  {z:AV} {so:Option AS} (cE:br G cf s (fz pc op)=some (z,so)) (ha:Te e s x) :
  ∃ xo,br G cf x op=some (z,xo)/\fB e (so.getD s) x (xo.getD x)/\(∀ t,t∈e.ws->t∈e.rs):=by
 have stay:(∀ t,t∈e.ws->t∈e.rs)->so=none->br G cf x op=some (z,none)->∃ xo,br G cf x op=some (z,xo)/\fB e (so.getD s) x (xo.getD x)/\(∀ t,t∈e.ws->t∈e.rs):=by
  rintro hw rfl h
  exact⟨none,h,fB.stay ha hw,hw⟩
 have ev:∀ {y:aI},(∀ t,t∈y.tmps->t∈e.rs)->y.eval G x.T=y.eval G s.T:=fun hy=>Tv ha.T hy
 have ad:∀ {y:aI},(∀ t,t∈y.tmps->t∈e.rs)->y.addr G x.T=y.addr G s.T:=fun hy=>CY ha.T hy
 have LB:∀ {X:Option AV} {w:AV} {o:Option AS},X.map (fun v=>(v,(none:Option AS)))=some (w,o)->o=none:=by
  intro X w o h;cases X with
  | none=>cases h
  | some v=>simp at h;exact h.2.symm
 have pure' : (∀ t,t∈e.ws->t∈e.rs)->PP (fun _=>False) (br G cf s (fz pc op))->br G cf x op=br G cf s (fz pc op)->∃ xo,br G cf x op=some (z,xo)/\fB e (so.getD s) x (xo.getD x)/\(∀ t,t∈e.ws->t∈e.rs):=fun hw hp hx=>by
  cases so with
  | none=>exact stay hw rfl (hx.trans cE)
  | some s1=>exact (hp _ _ cE).elim
 cases op<;>simp only[GQ] at he<;>try (cases he;done)
 case bin|mm|un|Wz|conv|pick|index|rS|extract =>
  simp only[aw2] at he;subst he;refine pure' (fun t h=>by cases h) ?_ (by simp (disch:=(intro t h;simp[oH.tmps,h])) only[fz,br,ev,ad])
  simp only[fz,br]
  repeat' first
   | exact PP.none
   | exact PP.stay
   | refine PP.cond ?_ ?_
   | refine PP.bind fun _=>?_
   | refine PP.map fun _=>?_
   | split
 case look m k =>
  simp only[aw2] at he;subst he;refine pure' (fun t h=>by cases h) ?_ (by
   simp only[fz,br,ad (y:=m) fun t h=>aw9.2 (.inl h),ev (y:=k) fun t h=>aw9.2 (.inr h)]
   unfold xF zD;simp only[(ha.H (.inl rfl)).1])
  simp only[fz,br,xF]
  repeat' first
   | exact PP.none
   | exact PP.stay
   | refine PP.cond ?_ ?_
   | refine PP.bind fun _=>?_
   | refine PP.map fun _=>?_
   | split
 case mov take obj y =>
  cases obj with
  | true=>cases he
  | false =>
   simp only[cond_false,aw2] at he;subst he;have hw:∀ t,t∈(cond take y.tmps [])->t∈y.tmps:=by cases take<;>simp
   simp only[fz,br] at cE ⊢;cases y with
   | tmp t =>
    have ht:=ha.T t (by simp[aI.tmps])
    simp only[rO] at cE ⊢;rw[ht];generalize s.T t=X at cE ht;cases X
    case slice el own =>
     cases PM:(take&&own) with
     | false =>
      simp only[PM,cond_false,aw2,aw6] at cE;obtain⟨rfl,rfl⟩:=cE;exact⟨none,by simp only[PM,cond_false],fB.stay ha hw,hw⟩
     | true =>
      simp only[aw4] at PM;obtain⟨rfl,rfl⟩:=PM;simp only[Bool.and_self,cond_true,aw2,aw6] at cE;obtain⟨rfl,rfl⟩:=cE;refine⟨some (x.cc t (.slice el false)),rfl,⟨fun k hk=>?_,fun k hk=>?_,fun h=>(by cases h),fun _=>⟨rfl,rfl⟩,fun h=>(by cases h),fun _=>rfl⟩,hw⟩
      ·simp only[cond_true,aI.tmps,axi] at hk
       simp only[ax0,fi,hk,ayE]
      ·simp only[cond_true,aI.tmps,axi] at hk
       simp only[ax0,fi,if_neg hk]
    case lsl g el =>
     cases take with
     | true =>
      simp only[cond_true,cond_false,oX] at cE;obtain⟨h0,rfl,rfl⟩:=cE;refine⟨some (x.cc t (.slice el false)),by simp only[h0,cond_true,cond_false],⟨fun k hk=>?_,fun k hk=>?_,fun h=>(by cases h),fun _=>⟨rfl,rfl⟩,fun h=>(by cases h),fun _=>rfl⟩,hw⟩
      ·simp only[cond_true,aI.tmps,axi] at hk
       simp only[ax0,fi,hk,ayE]
      ·simp only[cond_true,aI.tmps,axi] at hk
       simp only[ax0,fi,if_neg hk]
     | false =>
      simp only[cond_false,aw2,aw6] at cE;obtain⟨rfl,rfl⟩:=cE;exact⟨none,rfl,fB.stay ha hw,hw⟩
    case iter=>cases cE
    all_goals
     simp only[aw2,aw6] at cE;obtain⟨rfl,rfl⟩:=cE;exact⟨none,rfl,fB.stay ha hw,hw⟩
   | _ =>
    simp only[rO,aw2,aw6] at cE;obtain⟨rfl,rfl⟩:=cE;exact⟨none,rfl,fB.stay ha hw,hw⟩
 case allocL zs =>
  simp only[aw2] at he;subst he;simp only[fz,br,aw2,aw6] at cE;obtain⟨rfl,rfl⟩:=cE;have hg:=ha.G rfl;refine⟨some { x with gen:=x.gen+1 },by simp only[br,hg],⟨fun k hk=>(by cases hk),fun _ _=>rfl,fun h=>(by cases h),fun _=>⟨rfl,rfl⟩,fun _=>?_,fun h=>(by cases h)⟩,fun k hk=>(by cases hk)⟩
  simp[hg]
 case boxL y =>
  simp only[aw2] at he;subst he;simp only[fz,br,aw0,aw6] at cE;obtain⟨cs,iz,rfl,rfl⟩:=cE;have hg:=ha.G rfl;refine⟨some { x with gen:=x.gen+1 },by simp only[br,hg,ev (y:=y) (fun t h=>h),iz,axa],⟨fun k hk=>(by cases hk),fun _ _=>rfl,fun h=>(by cases h),fun _=>⟨rfl,rfl⟩,fun _=>?_,fun h=>(by cases h)⟩,fun k hk=>(by cases hk)⟩
  simp[hg]
 case build zs ps =>
  simp only[aw2] at he;subst he;have e1:(ps.map fun p=>(p.1,p.2.1,(p.2.2.eval G x.T).drop))=ps.map fun p=>(p.1,p.2.1,(p.2.2.eval G s.T).drop):=List.map_congr_left fun p hp=>by
   rw[ev (y:=p.2.2) (fun t h=>by simp only[oH.tmps,ayz];exact⟨p,hp,h⟩)]
  simp only[fz,br,aw0,aw6] at cE;obtain⟨E,hE,rfl,rfl⟩:=cE;exact stay (fun t h=>by cases h) rfl (by simp only[br,e1,hE,axa])
 case mkslice b sz zs ps =>
  simp only[aw2] at he;subst he;have e1:(ps.map fun p=>(p.1,(p.2.eval G x.T).drop))=ps.map fun p=>(p.1,(p.2.eval G s.T).drop):=List.map_congr_left fun p hp=>by
   rw[ev (y:=p.2) (fun t h=>by simp only[oH.tmps,ayz];exact⟨p,hp,h⟩)]
  simp only[fz,br,oX] at cE;obtain⟨E,hE,h0,rfl,rfl⟩:=cE;exact stay (fun t h=>by cases h) rfl (by simp only[br,e1,hE,aw7,h0,cond_true])
 case slice k y lo hi mx =>
  simp only[aw2] at he;subst he;simp only[fz,br] at cE;have FZ:=LB cE;subst FZ;have opt:∀ o:Option aI,(∀ t,t∈o.toList.flatMap aI.tmps->t∈(oH.slice k y lo hi mx).tmps)->o.map (·.eval G x.T)=o.map (·.eval G s.T):=by
   intro o ho;cases o with
   | none=>rfl
   | some q=>simp only[axa];rw[ev (y:=q) (fun t hm=>ho t (yd hm))]
  exact stay (fun t h=>by cases h) rfl (by
   simp only[br];rw[ev (y:=y) (fun t hm=>by simp only[oH.tmps,aw9];exact .inl (.inl (.inl hm))),
    opt lo (fun t hm=>by simp only[oH.tmps,aw9];exact .inl (.inl (.inr hm))),
    opt hi (fun t hm=>by simp only[oH.tmps,aw9];exact .inl (.inr hm)),
    opt mx (fun t hm=>by simp only[oH.tmps,aw9];exact .inr hm)]
   exact cE)
 case mkfunc f a b =>
  simp only[aw2] at he;subst he;simp only[fz,br,oX] at cE;obtain⟨h0,rfl,rfl⟩:=cE;have ha:∀ y,y∈a->y.addr G x.T=y.addr G s.T:=fun y hy=>ad (y:=y) (fun t h=>by
   simp only[oH.tmps,aw9,ayz];exact .inl ⟨y,hy,h⟩)
  have hb:∀ y,y∈b->y.addr G x.T=y.addr G s.T:=fun y hy=>ad (y:=y) (fun t h=>by
   simp only[oH.tmps,aw9,ayz];exact .inr ⟨y,hy,h⟩)
  have e1:=List.map_congr_left ha;have e2:=List.map_congr_left hb;have e3:(a.map fun a=>(a.addr G x.T).drop)=a.map fun a=>(a.addr G s.T).drop:=List.map_congr_left fun y hy=>by rw[ha y hy]
  have e4:(b.map fun a=>(a.addr G x.T).drop)=b.map fun a=>(a.addr G s.T).drop:=List.map_congr_left fun y hy=>by rw[hb y hy]
  exact stay (fun t h=>by cases h) rfl (by simp only[br];rw[e1,e2,e3,e4,h0,cond_true])
 case load take agg sz y =>
  simp only[aw2] at he;subst he;have mB:=hc y (.inl ⟨take,agg,sz,rfl⟩);simp only[fz,br] at cE ⊢;rw[ad (y:=y) (fun t h=>aw9.2 (.inl h))]
  generalize y.addr G s.T=Y at cE mB;have hw:∀ t,t∈(cond (take&&!agg) (gU c) [])->t∈y.tmps++gU c:=by
   intro t ht;cases hb:(take&&!agg) with
   | false=>rw[hb] at ht;cases ht
   | true=>rw[hb] at ht;exact aw9.2 (.inr ht)
  cases Y<;>simp only[cH] at cE<;>try (cases cE;done)
  case eptr cs =>
   simp only[aw0,aw6] at cE;obtain⟨v,hv,rfl,rfl⟩:=cE;exact⟨none,by simp only[cH,hv,axa],fB.stay ha hw,hw⟩
  case ref loc off =>
   cases c with
   | frame b=>cases mB
   | heap =>
    obtain⟨hH,hl⟩:=ha.H (.inl rfl);split at cE
    ·rename_i ty cs Pu
     simp only[aw0,aw6] at cE;obtain⟨v,hv,rfl,rfl⟩:=cE
     by_cases hta:take=true/\agg=false
     ·obtain⟨rfl,rfl⟩:=hta
      refine⟨some (x.iw ⟨s.H.set loc (.box ty (cA off cs)),loc⟩),by simp only[cH,hH,Pu,hv,axa,ayb,Bool.and_self,cond_true],⟨fun k hk=>(by cases hk),fun k hk=>rfl,fun _=>⟨rfl,?_⟩,fun h=>(by cases h),fun h=>(by cases h),fun _=>rfl⟩,hw⟩
      simp only[ayb,Bool.and_self,cond_true,ax0,AS.iw,hl]
     ·have hb:(take&&!agg)=false:=by cases take<;>cases agg<;>simp_all
      have FZ:∀ A:AS,(cond (take&&!agg) (some A) none:Option AS)=none:=fun A=>by rw[hb];rfl
      rw[FZ];exact⟨none,by simp only[cH,hH,Pu,hv,axa,FZ],fB.stay ha hw,hw⟩
    ·rename_i cs Pu
     simp only[aw0,aw6] at cE;obtain⟨v,hv,rfl,rfl⟩:=cE;exact⟨none,by simp only[cH,hH,Pu,hv,axa],fB.stay ha hw,hw⟩
    ·rename_i cs Pu
     simp only[aw0,aw6] at cE;obtain⟨v,hv,rfl,rfl⟩:=cE;exact⟨none,by simp only[cH,hH,Pu,hv,axa],fB.stay ha hw,hw⟩
    ·cases cE
  case lref b g off =>
   cases c with
   | heap=>cases mB
   | frame b' =>
    simp only[fY,im,aw'] at mB;subst mB;have hTb:=ha.T b' (aw9.2 (.inr (axi.2 rfl)));split at cE
    ·rename_i g' cs hT
     simp only[oX] at cE;obtain⟨h0,v,hv,rfl,rfl⟩:=cE;rw[hT] at hTb
     by_cases hta:take=true/\agg=false
     ·obtain⟨rfl,rfl⟩:=hta
      refine⟨some (x.cc b' (.lbox g (cA off cs))),by simp only[cH,hTb,h0,cond_true,hv,axa,ayb,Bool.and_self],⟨fun k hk=>?_,fun k hk=>?_,fun h=>(by cases h),fun _=>⟨rfl,rfl⟩,fun h=>(by cases h),fun _=>rfl⟩,hw⟩
      ·simp only[ayb,Bool.and_self,cond_true,gU,axi] at hk
       simp only[ayb,Bool.and_self,cond_true,ax0,fi,hk,ayE]
      ·simp only[ayb,Bool.and_self,cond_true,gU,axi] at hk
       simp only[ax0,fi,if_neg hk]
     ·have hb:(take&&!agg)=false:=by cases take<;>cases agg<;>simp_all
      have FZ:∀ A:AS,(cond (take&&!agg) (some A) none:Option AS)=none:=fun A=>by rw[hb];rfl
      rw[FZ];exact⟨none,by simp only[cH,hTb,h0,cond_true,hv,axa,FZ],fB.stay ha hw,hw⟩
    ·cases cE
  case eref=>cases c<;>cases mB
 case nilCheck y =>
  simp only[aw2] at he;subst he;have mB:=hc y (.inr (.inr (.inl rfl)));simp only[fz,br] at cE ⊢;rw[ad (y:=y) (fun t h=>aw9.2 (.inl h))]
  generalize y.addr G s.T=Y at cE mB;simp only[oX] at cE;obtain⟨h0,rfl,rfl⟩:=cE;have h1:=DW h0 mB (fun b hb=>ha.T b (aw9.2 (.inr hb)))
  exact⟨none,by simp only[h1,cond_true],fB.stay ha (fun t h=>by cases h),fun t h=>by cases h⟩
 case fieldAddr off y =>
  simp only[aw2] at he;subst he;have mB:=hc y (.inr (.inr (.inr (.inl ⟨off,rfl⟩))));simp only[fz,br] at cE ⊢;rw[ad (y:=y) (fun t h=>aw9.2 (.inl h))]
  generalize y.addr G s.T=Y at cE mB;obtain⟨h0,cE⟩:=ay cE;have FZ:=LB cE;subst FZ;have h1:=DW h0 mB (fun b hb=>ha.T b (aw9.2 (.inr hb)))
  exact⟨none,by simp only[h1,cond_true];exact cE,fB.stay ha (fun t h=>by cases h),fun t h=>by cases h⟩
 case ixArr n sz y i =>
  simp only[aw2] at he;subst he;have mB:=hc y (.inr (.inr (.inr (.inr ⟨n,sz,i,rfl⟩))));simp only[fz,br,aw1] at cE ⊢;obtain⟨k,hk,cE⟩:=cE;rw[ad (y:=y) (fun t h=>by simp[h]),ev (y:=i) (fun t h=>by simp[h])]
  generalize y.addr G s.T=Y at cE mB;obtain⟨h0,cE⟩:=ay cE;simp only[aw4] at h0;have FZ:=LB cE;subst FZ;have h1:=DW h0.2 mB (fun b hb=>ha.T b (yd hb))
  exact⟨none,⟨k,hk,by simp only[h0.1,h1,Bool.and_self,cond_true];exact cE⟩,fB.stay ha (fun t h=>by cases h),fun t h=>by cases h⟩
 case ixSl sz y i =>
  simp only[aw2] at he;subst he;have mB:=gC y (.inl ⟨sz,i,rfl⟩);simp only[fz,br] at cE ⊢;rw[ad (y:=y) (fun t h=>aw9.2 (.inl h)),ev (y:=i) (fun t h=>aw9.2 (.inr h))]
  generalize y.addr G s.T=Y at cE mB;cases Y<;>try (cases cE;done)
  case slice el own =>
   simp only[oX] at cE;obtain⟨k,hk,r,hr,h0,rfl,rfl⟩:=cE;exact⟨none,by simp only[hk,aw7,hr,h0,cond_true],fB.stay ha (fun t h=>by cases h),fun t h=>by cases h⟩
  case sref l o m zz =>
   simp only[oX] at cE;obtain⟨k,hk,h0,rfl,rfl⟩:=cE;exact⟨none,by simp only[hk,aw7,h0,cond_true],fB.stay ha (fun t h=>by cases h),fun t h=>by cases h⟩
  case lsr=>cases mB
 case len k y =>
  simp only[aw2] at he;subst he;have mB:=gC y (.inr ⟨k,rfl⟩);simp only[fz,br] at cE ⊢;rw[ad (y:=y) (fun t h=>h)]
  generalize y.addr G s.T=Y at cE mB;cases Y
  case lsr=>cases mB
  all_goals
   have FZ:=LB cE;subst FZ;exact⟨none,cE,fB.stay ha (fun t h=>by cases h),fun t h=>by cases h⟩
 case store sz y v =>
  simp only[aw2] at he;subst he;have mB:=hc y (.inr (.inl ⟨sz,v,rfl⟩));have hw:∀ t,t∈v.tmps++gU c->t∈y.tmps++v.tmps++gU c:=fun t ht=>by
   rcases aw9.1 ht with h|h
   ·exact aw9.2 (.inl (aw9.2 (.inr h)))
   ·exact aw9.2 (.inr h)
  have hv:=ev (y:=v) (fun t h=>aw9.2 (.inl (aw9.2 (.inr h))))
  have hvT:∀ t,t∈v.tmps->x.T t=s.T t:=fun t h=>ha.T t (aw9.2 (.inl (aw9.2 (.inr h))))
  simp only[fz,br,aw0,aw6] at cE ⊢;obtain⟨s1,cE,rfl,rfl⟩:=cE;rw[ad (y:=y) (fun t h=>aw9.2 (.inl (aw9.2 (.inl h)))),hv]
  generalize y.addr G s.T=Y at cE mB;have sp:∀ (s1 x1:AS),(∀ t,t∈v.tmps->x1.T t=s1.T t)->(∀ t,t∈v.tmps->(x1.cN v).T t=(s1.cN v).T t)/\(∀ t,t∉v.tmps->(x1.cN v).T t=x1.T t)/\(∀ t,t∉v.tmps->(s1.cN v).T t=s1.T t):=by
   intro s1 x1 h;cases v with
   | tmp t0 =>
    have h0:=h t0 (by simp[aI.tmps])
    by_cases ho:∃ el,s1.T t0=.slice el true
    ·obtain⟨el,ho⟩:=ho
     rw[wx s1 t0 ho,wx x1 t0 (h0.trans ho)];refine⟨fun t ht=>?_,fun t ht=>?_,fun t ht=>?_⟩
     ·simp only[aI.tmps,axi] at ht
      rw[fi,fi,if_pos ht,if_pos ht]
     ·simp only[aI.tmps,axi] at ht
      rw[fi,if_neg ht]
     ·simp only[aI.tmps,axi] at ht
      rw[fi,if_neg ht]
    ·have PF:∀ el,s1.T t0≠.slice el true:=fun el h=>ho ⟨el,h⟩
     rw[sy s1 t0 PF,sy x1 t0 (fun el h=>PF el (h0.symm.trans h))]
     exact⟨h,fun _ _=>rfl,fun _ _=>rfl⟩
   | _=>exact⟨fun t ht=>by simp[aI.tmps] at ht,fun _ _=>rfl,fun _ _=>rfl⟩
  simp only[aW] at cE ⊢;split at cE
  ·cases cE
  rename_i vs Gk;obtain⟨h0,akw⟩:=ay cE;clear cE;have cE:=akw;clear akw;cases Y<;>(try dsimp only at cE ⊢)<;>try (cases cE;done)
  case ref loc off =>
   cases c with
   | frame b=>cases mB
   | heap =>
    obtain⟨hH,hl⟩:=ha.H (.inl rfl);split at cE
    ·rename_i ty cs Pu
     obtain⟨h1,cE⟩:=ay cE;injection cE with cE
     subst cE;obtain⟨k1,k2,k3⟩:=sp (s.iw ⟨s.H.set loc (.box ty (putAt cs off vs)),loc⟩) (x.iw ⟨x.H.set loc (.box ty (putAt cs off vs)),loc⟩) hvT;refine⟨some ((x.iw ⟨x.H.set loc (.box ty (putAt cs off vs)),loc⟩).cN v),⟨x.iw ⟨x.H.set loc (.box ty (putAt cs off vs)),loc⟩,by simp only[h0,cond_true,hH,Pu,h1],trivial,rfl⟩,⟨fun k hk=>?_,fun k hk=>?_,fun _=>?_,fun h=>(by cases h),fun h=>(by cases h),fun _=>?_⟩,hw⟩
     ·exact k1 k (by simpa [gU] using hk)
     ·exact k2 k (by simpa [gU] using hk)
     ·obtain⟨q1,_,q3⟩:=iZ (x.iw ⟨x.H.set loc (.box ty (putAt cs off vs)),loc⟩) v
      obtain⟨r1,_,r3⟩:=iZ (s.iw ⟨s.H.set loc (.box ty (putAt cs off vs)),loc⟩) v;exact⟨q1.trans (azI (by simp only[AS.iw,hH]) r1.symm),q3.trans (azI (by simp only[AS.iw,hl]) r3.symm)⟩
     ·obtain⟨_,q2,_⟩:=iZ (x.iw ⟨x.H.set loc (.box ty (putAt cs off vs)),loc⟩) v
      exact q2.trans rfl
    ·rename_i cs Pu
     obtain⟨h1,cE⟩:=ay cE;injection cE with cE
     subst cE;obtain⟨k1,k2,k3⟩:=sp (s.iw ⟨s.H.set loc (.bR (putAt cs off vs)),loc⟩) (x.iw ⟨x.H.set loc (.bR (putAt cs off vs)),loc⟩) hvT;refine⟨some ((x.iw ⟨x.H.set loc (.bR (putAt cs off vs)),loc⟩).cN v),⟨x.iw ⟨x.H.set loc (.bR (putAt cs off vs)),loc⟩,by simp only[h0,cond_true,hH,Pu,h1],trivial,rfl⟩,⟨fun k hk=>?_,fun k hk=>?_,fun _=>?_,fun h=>(by cases h),fun h=>(by cases h),fun _=>?_⟩,hw⟩
     ·exact k1 k (by simpa [gU] using hk)
     ·exact k2 k (by simpa [gU] using hk)
     ·obtain⟨q1,_,q3⟩:=iZ (x.iw ⟨x.H.set loc (.bR (putAt cs off vs)),loc⟩) v
      obtain⟨r1,_,r3⟩:=iZ (s.iw ⟨s.H.set loc (.bR (putAt cs off vs)),loc⟩) v;exact⟨q1.trans (azI (by simp only[AS.iw,hH]) r1.symm),q3.trans (azI (by simp only[AS.iw,hl]) r3.symm)⟩
     ·obtain⟨_,q2,_⟩:=iZ (x.iw ⟨x.H.set loc (.bR (putAt cs off vs)),loc⟩) v
      exact q2.trans rfl
    ·cases cE
  case lref b g off =>
   cases c with
   | heap=>cases mB
   | frame b' =>
    simp only[fY,im,aw'] at mB;subst mB;have hTb:=ha.T b' (aw9.2 (.inr (axi.2 rfl)));split at cE
    ·rename_i g' cs hT
     obtain⟨h1,cE⟩:=ay cE;injection cE with cE
     subst cE;rw[hT] at hTb;have aqt:∀ t,t∈v.tmps->(x.cc b' (.lbox g (putAt cs off vs))).T t=(s.cc b' (.lbox g (putAt cs off vs))).T t:=fun t ht=>by rw[fi,fi,hvT t ht]
     obtain⟨k1,k2,k3⟩:=sp _ _ aqt;refine⟨some ((x.cc b' (.lbox g (putAt cs off vs))).cN v),⟨x.cc b' (.lbox g (putAt cs off vs)),by simp only[h0,cond_true,hTb,h1],trivial,rfl⟩,⟨fun k hk=>?_,fun k hk=>?_,fun h=>(by cases h),fun _=>?_,fun h=>(by cases h),fun _=>?_⟩,hw⟩
     ·by_cases Yf:k∈v.tmps
      ·exact k1 k Yf
      ·have JL:k=b':=by
        rcases aw9.1 hk with h|h
        ·exact absurd h Yf
        ·exact axi.1 h
       show ((x.cc b' _).cN v).T k=((s.cc b' _).cN v).T k
       rw[k2 k Yf,k3 k Yf,fi,fi,if_pos JL,if_pos JL]
     ·have Yf:k∉v.tmps:=fun h=>hk (aw9.2 (.inl h))
      have JL:k≠b':=fun h=>hk (aw9.2 (.inr (axi.2 h)))
      show ((x.cc b' _).cN v).T k=x.T k
      rw[k2 k Yf,fi,if_neg JL]
     ·obtain⟨q1,_,q3⟩:=iZ (x.cc b' (.lbox g (putAt cs off vs))) v
      exact⟨q1.trans rfl,q3.trans rfl⟩
     ·obtain⟨_,q2,_⟩:=iZ (x.cc b' (.lbox g (putAt cs off vs))) v
      exact q2.trans rfl
    ·cases cE
  case eref=>cases c<;>cases mB
 case append isB wr sz bytes y1 y2 =>
  cases wr with
  | true=>cases he
  | false =>
   simp only[cond_false,aw2] at he;subst he;have hw:∀ t,t∈y1.tmps->t∈y1.tmps++y2.tmps:=fun t h=>aw9.2 (.inl h)
   have h2:=ev (y:=y2) (fun t h=>aw9.2 (.inr h))
   simp only[fz,br] at cE ⊢;cases y1 with
   | tmp t =>
    have ht:=ha.T t (by simp[aI.tmps])
    simp only[fO] at cE ⊢;rw[ht,h2];split at cE
    ·simp only[aw1] at cE
     obtain⟨f,_,cE⟩:=cE;simp at cE
    ·rename_i el own hT
     simp only[cond_false,aw0,aw6] at cE;obtain⟨z',hz,rfl,rfl⟩:=cE;refine⟨some (x.cc t (.slice el false)),by simp only[cond_false,hz,axa],⟨fun k hk=>?_,fun k hk=>?_,fun h=>(by cases h),fun _=>⟨rfl,rfl⟩,fun h=>(by cases h),fun _=>rfl⟩,hw⟩
     ·simp only[aI.tmps,axi] at hk
      simp only[ax0,fi,hk,ayE]
     ·simp only[aI.tmps,axi] at hk
      simp only[ax0,fi,if_neg hk]
    ·simp only[cond_false,aw0,aw6] at cE
     obtain⟨z',hz,rfl,rfl⟩:=cE;exact⟨some x,by simp only[cond_false,hz,axa],fB.stay ha hw,hw⟩
    ·cases cE
   | _ =>
    simp only[fO,cond_false] at cE ⊢;have FZ:=LB cE;subst FZ;rw[h2];exact⟨none,cE,fB.stay ha hw,hw⟩
 case appendO sz bytes y1 y2 =>
  simp only[aw2] at he;subst he;obtain⟨hH,hl⟩:=ha.H (.inl rfl);simp only[fz,br] at cE ⊢;rw[ad (y:=y1) (fun t h=>aw9.2 (.inl h)),ev (y:=y2) (fun t h=>aw9.2 (.inr h))]
  simp only[jv] at cE ⊢;split at cE
  ·rename_i v hn
   simp only[aw2,aw6] at cE;obtain⟨rfl,rfl⟩:=cE;exact⟨none,rfl,fB.stay ha (fun t h=>by cases h),fun t h=>by cases h⟩
  simp only[jP,aw1] at cE ⊢;obtain⟨f,hf,cE⟩:=cE;have fin:∀ (c0:fw),fB ⟨y1.tmps++y2.tmps,[],true,true,false⟩ (s.iw c0) x (x.iw c0):=fun c0=>⟨fun k hk=>(by cases hk),fun _ _=>rfl,fun _=>⟨rfl,by simp only[AS.iw,hl]⟩,fun h=>(by cases h),fun h=>(by cases h),fun _=>rfl⟩
  split at cE
  ·simp only[oX] at cE;obtain⟨h0,rfl,rfl⟩:=cE
   rename_i hY;exact⟨some (x.iw ⟨s.H++[bG.box bz f.flatten],s.H.length⟩),⟨f,hf,by simp only[h0,cond_true,hH]⟩,fin ⟨s.H++[bG.box bz f.flatten],s.H.length⟩,fun t h=>by cases h⟩
  ·simp only[oX] at cE;obtain⟨h0,rfl,rfl⟩:=cE
   rename_i hY;exact⟨some (x.iw ⟨s.H++[bG.box bz f.flatten],s.H.length⟩),⟨f,hf,by simp only[h0,cond_true,hH]⟩,fin ⟨s.H++[bG.box bz f.flatten],s.H.length⟩,fun t h=>by cases h⟩
  ·rename_i l o n zz hY
   split at cE
   ·rename_i ty cs Pu
    simp only[oX] at cE;obtain⟨h0,rfl,rfl⟩:=cE;exact⟨some (x.iw ⟨s.H.set l .dead++[bG.box bz (cs++f.flatten)],l⟩),⟨f,hf,by simp only[hH,Pu,h0,cond_true]⟩,fin ⟨s.H.set l .dead++[bG.box bz (cs++f.flatten)],l⟩,fun t h=>by cases h⟩
   ·cases cE
  ·cases cE
 case copyO y1 y2 =>
  simp only[aw2] at he;subst he;obtain⟨hH,hl⟩:=ha.H (.inl rfl);simp only[fz,br] at cE ⊢;rw[ad (y:=y1) (fun t h=>aw9.2 (.inl h)),ev (y:=y2) (fun t h=>aw9.2 (.inr h))]
  simp only[yP] at cE ⊢;have fin:∀ (c0:fw),fB ⟨y1.tmps++y2.tmps,[],true,true,false⟩ (s.iw c0) x (x.iw c0):=fun c0=>⟨fun k hk=>(by cases hk),fun _ _=>rfl,fun _=>⟨rfl,by simp only[AS.iw,hl]⟩,fun h=>(by cases h),fun h=>(by cases h),fun _=>rfl⟩
  split at cE
  ·rename_i l o n zz f own hY hZ
   split at cE
   ·rename_i cs Pu
    simp only[oX] at cE;obtain⟨h0,rfl,rfl⟩:=cE;exact⟨some (x.iw ⟨s.H.set l (.bR (putAt cs o (f.take (Nat.min f.length n)).flatten)),l⟩),by simp only[hH,Pu,h0,cond_true],fin ⟨s.H.set l (.bR (putAt cs o (f.take (Nat.min f.length n)).flatten)),l⟩,fun t h=>by cases h⟩
   ·cases cE
  ·simp only[aw2,aw6] at cE
   obtain⟨rfl,rfl⟩:=cE;exact⟨none,rfl,fB.stay ha (fun t h=>by cases h),fun t h=>by cases h⟩
  ·cases cE
 case call f args =>
  simp only[aw2] at he;subst he;obtain⟨hH,hl⟩:=ha.H (.inl rfl);have hf:=ev (y:=f) (fun t h=>by simp only[oH.tmps,aw9];exact .inl h)
  have had:∀ y,y∈args->y.addr G x.T=y.addr G s.T:=fun y hy=>ad (y:=y) (fun t h=>by simp only[oH.tmps,aw9,ayz];exact .inr ⟨y,hy,h⟩)
  have e1:=List.map_congr_left had;have e2:(args.map fun a=>(a.addr G x.T).cU)=args.map fun a=>(a.addr G s.T).cU:=List.map_congr_left fun y hy=>by rw[had y hy]
  have PJ:∀ t,t∈([]:List Nat)->t∈(oH.call f args).tmps:=fun t h=>by cases h
  cases pc with
  | true =>
   simp only[fz,cond_true,br] at cE ⊢;rw[hf,e1,e2,hH];split at cE
   ·simp only[oX] at cE;obtain⟨h0,r,hr,cE⟩:=cE
    split at cE
    ·rename_i h2
     simp only[aw2,aw6] at cE;obtain⟨rfl,rfl⟩:=cE;exact⟨none,by simp only[h0,cond_true,hr,axa,h2,ayd],fB.stay ha PJ,PJ⟩
    ·cases cE
   ·cases cE
  | false =>
   simp only[fz,cond_false,br] at cE ⊢;rw[hf,e1,e2,hH];split at cE
   ·simp only[oX] at cE;obtain⟨h0,r,hr,rfl,rfl⟩:=cE
    refine⟨r.2.map x.iw,by simp only[h0,cond_true,hr,axa],?_,PJ⟩
    cases h2:r.2 with
    | none=>exact fB.stay ha PJ
    | some c0=>exact⟨fun k hk=>(by cases hk),fun _ _=>rfl,fun _=>⟨rfl,by simp only[axa,ax0,AS.iw,hl]⟩,fun h=>(by cases h),fun h=>(by cases h),fun _=>rfl⟩
   ·cases cE
def Kn{c:S0}(he:GQ pc c op=some e):∀ t,t∈e.ws->t∈e.rs:=by
 intro t ht;cases op<;>simp only[GQ] at he<;>try (cases he;done)
 case mov take obj y =>
  cases obj with
  | true=>cases he
  | false =>
   simp only[cond_false,aw2] at he;subst he;cases take with
   | true=>exact ht
   | false=>cases ht
 case load take agg sz y =>
  simp only[aw2] at he;subst he;cases hb:(take&&!agg) with
  | true=>simp only[hb,cond_true] at ht;exact aw9.2 (.inr ht)
  | false=>simp only[hb,cond_false] at ht;cases ht
 case store sz y v =>
  simp only[aw2] at he;subst he
  rcases aw9.1 ht with h|h
  ·exact aw9.2 (.inl (aw9.2 (.inr h)))
  ·exact aw9.2 (.inr h)
 case append isB wr sz bytes y1 y2 =>
  cases wr with
  | true=>cases he
  | false =>
   simp only[cond_false,aw2] at he;subst he;exact aw9.2 (.inl ht)
 all_goals
  simp only[aw2] at he;subst he;cases ht
def DY{L:List Nat}(he:Km pc is L o=some e)
  (hc:∀ c y,wR is L o.op=some (c,y)->(∀ g w,o.guard=some (g,w)->s.T g=.bool w)->fY c (y.addr G s.T)=true) {s1:AS}
  (cE:bS G cf s (nF pc o)=some s1) (ha:Te e s x):∃ x1,bS G cf x o=some x1/\fB e s1 x x1/\(∀ t,t∈e.ws->t∈o.dst.toList\/t∈e.rs):=by
 simp only[Km,aw0] at he;obtain⟨e0,he0,rfl⟩:=he;rw[BM] at cE;have ha0:Te e0 s x:=⟨fun t ht=>ha.T t (aw9.2 (.inr ht)),ha.H,ha.G⟩
 have Jf:∀ (q:AS) (d:Option Nat) (v:AV) (k:Nat),(q.cR d v).T k=if k∈d.toList then v else q.T k:=by
  intro q d v k;cases d with
  | none=>simp[AS.cR]
  | some d=>simp only[AS.cR,fi,Option.toList_some,axi]
 have put:∀ (v:AV) (s2 x2:AS),fB e0 s2 x x2->(∀ t,t∈e0.ws->t∈e0.rs) ->
   fB ⟨(match o.guard with|some (g,_)=>[g]|none=>[])++e0.rs,o.dst.toList++e0.ws,e0.rh,e0.wh,e0.wg⟩ (s2.cR o.dst v) x (x2.cR o.dst v)/\(∀ t,t∈o.dst.toList++e0.ws->t∈o.dst.toList\/t∈(match o.guard with|some (g,_)=>[g]|none=>[])++e0.rs):=by
  intro v s2 x2 hM hw;refine⟨⟨fun t ht=>?_,fun t ht=>?_,fun h=>?_,fun h=>?_,fun h=>?_,fun h=>?_⟩,fun t ht=>?_⟩
  ·rw[Jf,Jf]
   by_cases hd:t∈o.dst.toList
   ·rw[if_pos hd,if_pos hd]
   ·rw[if_neg hd,if_neg hd]
    rcases aw9.1 ht with h|h
    ·exact absurd h hd
    ·exact hM.T t h
  ·rw[Jf,if_neg (fun h=>ht (aw9.2 (.inl h)))]
   exact hM.T' t (fun h=>ht (aw9.2 (.inr h)))
  ·rw[(nG s2 o.dst v).1,(nG s2 o.dst v).2.2,(nG x2 o.dst v).1,(nG x2 o.dst v).2.2];exact hM.H h
  ·rw[(nG x2 o.dst v).1,(nG x2 o.dst v).2.2];exact hM.H' h
  ·rw[(nG s2 o.dst v).2.1,(nG x2 o.dst v).2.1];exact hM.G h
  ·rw[(nG x2 o.dst v).2.1];exact hM.G' h
  ·rcases aw9.1 ht with h|h
   ·exact .inl h
   ·exact .inr (aw9.2 (.inr (hw t h)))
 have run:(∀ g w,o.guard=some (g,w)->s.T g=.bool w)->((br G cf s (fz pc o.op)).bind fun r=>match r.2 with
   | none=>some (s.cR o.dst r.1)
   | some s'=>some (s'.cR o.dst r.1))=some s1 ->
   ∃ x1,((br G cf x o.op).bind fun r=>match r.2 with
    | none=>some (x.cR o.dst r.1)
    | some s'=>some (s'.cR o.dst r.1))=some x1/\fB ⟨(match o.guard with|some (g,_)=>[g]|none=>[])++e0.rs,o.dst.toList++e0.ws,e0.rh,e0.wh,e0.wg⟩ s1 x x1 /\
    (∀ t,t∈o.dst.toList++e0.ws->t∈o.dst.toList\/t∈(match o.guard with|some (g,_)=>[g]|none=>[])++e0.rs):=by
  intro hg hr;simp only[aw1] at hr;obtain⟨⟨z,so⟩,hz,hr⟩:=hr;obtain⟨xo,h1,h2,h3⟩:=aap he0 (fun y hy=>by
    have key:∃ c,wR is L o.op=some (c,y):=by
     rcases hy with ⟨t,a,z,h⟩|⟨z,v,h⟩|h|⟨f,h⟩|⟨n,z,i,h⟩<;>rw[h]<;>exact⟨_,rfl⟩
    obtain⟨c,hk⟩:=key;rw[hk];exact hc c y hk hg)
   (fun y hy=>by
    have key:wR is L o.op=some (.heap,y):=by
     rcases hy with ⟨z,i,h⟩|⟨k,h⟩<;>rw[h]<;>rfl
    exact hc _ y key hg) hz ha0
  have pH:s1=(so.getD s).cR o.dst z:=by
   cases so with
   | none=>simp only[axt,cond_false,aw2] at hr;exact hr.symm
   | some s2=>simp only[cond_false,aw2] at hr;exact hr.symm
  subst pH;obtain⟨p1,p2⟩:=put z _ _ h2 h3;refine⟨(xo.getD x).cR o.dst z,?_,p1,p2⟩;rw[h1];cases xo with
  | none=>rfl
  | some x2=>rfl
 unfold bS at cE ⊢;cases IF:o.guard with
 | none =>
  rw[IF] at run;simp only[IF] at cE ⊢;exact run (fun g w h=>by cases h) cE
 | some gw =>
  obtain⟨g,w⟩:=gw;have hxg:=ha.T g (by rw[IF];exact aw9.2 (.inl (axi.2 rfl)))
  simp only[IF] at cE ⊢;rw[hxg];rw[IF] at run put;have skip:some (s.cR o.dst .undef)=some s1->∃ x1,some (x.cR o.dst .undef)=some x1/\fB ⟨[g]++e0.rs,o.dst.toList++e0.ws,e0.rh,e0.wh,e0.wg⟩ s1 x x1/\(∀ t,t∈o.dst.toList++e0.ws->t∈o.dst.toList\/t∈[g]++e0.rs):=by
   intro h;injection h with h
   subst h;obtain⟨p1,p2⟩:=put .undef s x (fB.stay ha0 (Kn he0)) (Kn he0);exact⟨_,rfl,p1,p2⟩
  generalize hX:s.T g=X at cE;cases X with
  | bool b =>
   simp only at cE ⊢;cases hb:(b==w) with
   | true =>
    rw[hb] at cE;simp only[cond_true] at cE ⊢;exact run (fun g' w' h=>by injection h with h;injection h with h1 h2;subst h1 h2;rw[hX];congr 1;simpa using hb) cE
   | false =>
    rw[hb] at cE;simp only[cond_false] at cE ⊢;exact skip cE
  | tuple vs =>
   cases vs with
   | nil=>exact skip cE
   | cons v vs=>cases cE
  | _=>cases cE
end
section
variable {α:Type}{S:Nat->AS}{f:AS->α}{w X:Nat->Prop}{n k:Nat}{x x1:AS}
def HW(S:Nat->AS)(f:AS->α)(w X:Nat->Prop)(x:AS):Prop :=
 (∃ i,X i/\w i/\(∀ j,X j->w j->j<=i)/\f x=f (S (i+1)))\/((∀ j,X j->¬ w j)/\f x=f (S 0))
def s9(hf:∀ j,j<n->¬ w j->f (S (j+1))=f (S j)){a:Nat} : ∀ (b:Nat),a<=b->b<=n->(∀ j,a<=j->j<b->¬ w j)->f (S b)=f (S a):=by
 intro b
 induction b with
 | zero=>intro h _ _;rw[show a=0 by omega]
 | succ b ih =>
  intro h1 h2 h3
  rcases azj b a with h|h
  ·rw[show a=b+1 by omega]
  ·rw[hf b af (h3 b h af),ih h af (fun j a1 a2=>h3 j a1 af)]
def vG(hf:∀ j,j<n->¬ w j->f (S (j+1))=f (S j))(hk:k<=n)(hC:HW S f w X x)(h1:∀ j,j<k->w j->X j)(h2:∀ j,X j->w j->j<k):f x=f (S k):=by
 rcases hC with ⟨i,hX,hw,hm,he⟩|⟨mS,he⟩
 ·rw[he]
  refine (s9 hf k (h2 i hX hw) hk (fun j a b RW=>?_)).symm
  have:=hm j (h1 j b RW) RW
  omega
 ·rw[he]
  exact (s9 hf k (axh _) hk (fun j a b RW=>mS j (h1 j b RW) RW)).symm
def xz(hw:w k)(hm:∀ j,X j->w j->j<=k)(he:f x1=f (S (k+1))):HW S f w (fun j=>X j\/j=k) x1 :=
 .inl ⟨k,.inr rfl,hw,fun j hj RW=>by rcases hj with h|h;exact hm j h RW;omega,he⟩
def At(hw:¬ w k)(hC:HW S f w X x)(he:f x1=f x):HW S f w (fun j=>X j\/j=k) x1:=by
 rcases hC with ⟨i,hX,RV,hm,h⟩|⟨mS,h⟩
 ·exact .inl ⟨i,.inl hX,RV,fun j hj RW=>by
   rcases hj with h'|h'
   ·exact hm j h' RW
   ·subst h';exact absurd RW hw,by rw[he,h]⟩
 ·exact .inr ⟨fun j hj RW=>by
   rcases hj with h'|h'
   ·exact mS j h' RW
   ·subst h';exact hw RW,by rw[he,h]⟩
def xy{Y:Nat->Prop}(h:∀ j,X j↔Y j)(hC:HW S f w X x):HW S f w Y x:=by
 rcases hC with ⟨i,hX,RV,hm,h'⟩|⟨mS,h'⟩
 ·exact .inl ⟨i,(h i).1 hX,RV,fun j hj=>hm j ((h j).2 hj),h'⟩
 ·exact .inr ⟨fun j hj=>mS j ((h j).2 hj),h'⟩
structure xp (S:Nat->AS) (E:Nat->rB) (X:Nat->Prop) (x:AS):Prop where
 T:∀ t,HW S (fun s=>s.T t) (fun j=>t∈(E j).ws) X x
 H:HW S (fun s=>(s.H,s.lo)) (fun j=>(E j).wh=true) X x
 G:HW S (fun s=>s.gen) (fun j=>(E j).wg=true) X x
structure Ti (S:Nat->AS) (E:Nat->rB) (n:Nat):Prop where
 T:∀ t j,j<n->¬ (t∈(E j).ws)->(S (j+1)).T t=(S j).T t
 H:∀ j,j<n->¬ ((E j).wh=true)->((S (j+1)).H,(S (j+1)).lo)=((S j).H,(S j).lo)
 G:∀ j,j<n->¬ ((E j).wg=true)->(S (j+1)).gen=(S j).gen
def vS{x y:List Nat}{t:Nat}(h1:t∈x)(h2:t∈y):meets x y=true:=by
 simp only[meets,List.any_eq_true];exact⟨t,h1,cJ h2⟩
def C5(hK:Ti S E n)(hk:k<n)(hB:xp S E X x)(hX:¬ X k)(h1:∀ j,j<k->conflict (E k) (E j)=true->X j)(h2:∀ j,k<j->conflict (E j) (E k)=true->¬ X j):Te (E k) (S k) x:=by
 have lt:∀ j,X j->j<k\/k<j:=fun j h=>by
  rcases azb j k with a|a|a
  ·exact .inl a
  ·subst a;exact absurd h hX
  ·exact .inr a
 refine⟨fun t ht=>?_,fun hh=>?_,fun hg=>?_⟩
 ·refine vG (fun j=>hK.T t j) (ayD hk) (hB.T t) (fun j hj hw=>h1 j hj ?_) (fun j hj hw=>?_)
  ·simp only[conflict,vS hw ht,Bool.or_true,azR]
  ·rcases lt j hj with a|a
   ·exact a
   ·exact absurd hj (h2 j a (by simp only[conflict,vS hw ht,azR]))
 ·have:=vG (fun j=>hK.H j) (ayD hk) hB.H (fun j hj hw=>h1 j hj (by
   rcases hh with h|h<;>simp[conflict,hw,h])) (fun j hj hw=>by
   rcases lt j hj with a|a
   ·exact a
   ·exact absurd hj (h2 j a (by rcases hh with h|h<;>simp[conflict,hw,h])))
  simp only[aw6] at this;exact this
 ·exact vG (fun j=>hK.G j) (ayD hk) hB.G (fun j hj hw=>h1 j hj (by simp[conflict,hw,hg])) (fun j hj hw=>by
   rcases lt j hj with a|a
   ·exact a
   ·exact absurd hj (h2 j a (by simp[conflict,hw,hg])))
def J8(hB:xp S E X x)(hX:¬ X k)(h2:∀ j,k<j->conflict (E j) (E k)=true->¬ X j)(hM:fB (E k) (S (k+1)) x x1):xp S E (fun j=>X j\/j=k) x1:=by
 have le:∀ j,X j->(k<j->conflict (E j) (E k)=true)->j<=k:=fun j h hc=>by
  rcases azj k j with a|a
  ·exact absurd h (h2 j a (hc a))
  ·exact a
 refine⟨fun t=>?_,?_,?_⟩
 ·by_cases ht:t∈(E k).ws
  ·exact xz ht (fun j hj hw=>le j hj fun _=>by simp only[conflict,vS hw ht,Bool.or_true,azR]) (hM.T t ht)
  ·exact At ht (hB.T t) (hM.T' t ht)
 ·by_cases hh:(E k).wh=true
  ·exact xz hh (fun j hj hw=>le j hj fun _=>by simp[conflict,hw,hh]) (by simp only[hM.H hh])
  ·have:=hM.H' (cJ hh)
   exact At hh hB.H (by simp only[this])
 ·by_cases hg:(E k).wg=true
  ·exact xz hg (fun j hj hw=>le j hj fun _=>by simp[conflict,hw,hg]) (hM.G hg)
  ·exact At hg hB.G (hM.G' (cJ hg))
def MO(hK:Ti S E n)(hB:xp S E X x)(hX:∀ j,X j↔j<n):x=S n:=by
 have hT:x.T=(S n).T:=funext fun t=>vG (fun j=>hK.T t j) (Nat.le_refl _) (hB.T t) (fun j hj _=>(hX j).2 hj) (fun j hj _=>(hX j).1 hj)
 have hH:=vG (fun j=>hK.H j) (Nat.le_refl _) hB.H (fun j hj _=>(hX j).2 hj) (fun j hj _=>(hX j).1 hj)
 have hG:=vG (fun j=>hK.G j) (Nat.le_refl _) hB.G (fun j hj _=>(hX j).2 hj) (fun j hj _=>(hX j).1 hj)
 simp only[aw6] at hH;obtain⟨h1,h2⟩:=hH;cases x;generalize S n=y at hT h1 h2 hG;cases y;simp only at hT h1 h2 hG;subst hT h1 h2 hG;rfl
def J7(hX:∀ j,¬ X j):xp S E X (S 0) :=
 ⟨fun _=>.inr ⟨fun j h=>absurd h (hX j),rfl⟩,.inr ⟨fun j h=>absurd h (hX j),rfl⟩,.inr ⟨fun j h=>absurd h (hX j),rfl⟩⟩
end
section
variable {G:Nat->List AV}{cf:fX}
def Ot{s:AS}{r:AV × Option AS}(h:br G cf s (fz pc op)=some r):br G cf s op=some r:=by
 cases op<;>try exact h
 rename_i f xs;cases pc with
 | false=>exact h
 | true =>
  simp only[fz,cond_true,br] at h ⊢;split at h
  ·simp only[oX] at h;obtain⟨h0,⟨v,c⟩,h1,h⟩:=h
   simp only[h0,cond_true,h1,axa];cases c with
   | none=>exact h
   | some c=>cases h
  ·cases h
def zI{s:AS}(h:bS G cf s (nF pc o)=some s1):bS G cf s o=some s1:=by
 rw[BM] at h;have run:((br G cf s (fz pc o.op)).bind fun r=>match r.2 with
   | none=>some (s.cR o.dst r.1)
   | some s'=>some (s'.cR o.dst r.1))=some s1->((br G cf s o.op).bind fun r=>match r.2 with
   | none=>some (s.cR o.dst r.1)
   | some s'=>some (s'.cR o.dst r.1))=some s1:=by
  intro h;simp only[aw1] at h;obtain⟨r,hr,h⟩:=h;rw[Ot hr];exact h
 unfold bS at h ⊢;cases IF:o.guard with
 | none=>simp only[IF] at h ⊢;exact run h
 | some gw =>
  obtain⟨g,w⟩:=gw;simp only[IF] at h ⊢;generalize s.T g=X at h ⊢;cases X with
  | bool b =>
   simp only at h ⊢;cases hb:(b==w) with
   | true=>rw[hb] at h;simp only[cond_true] at h ⊢;exact run h
   | false=>rw[hb] at h;exact h
  | tuple vs=>cases vs with
   | nil=>exact h
   | cons v vs=>cases h
  | _=>cases h
def R5{L:List Nat}{s s':AS}(h:gr G cf (inter pc is L o) s=some s') :
  (∀ c y,wR is L o.op=some (c,y)->(∀ g w,o.guard=some (g,w)->s.T g=.bool w)->fY c (y.addr G s.T)=true)/\bS G cf s (nF pc o)=some s':=by
 unfold inter at h;split at h
 ·rename_i c x hk
  simp only[gr,aw1,aw2] at h;obtain⟨s0,h0,s1,h1,rfl⟩:=h;have chk:s0=s/\((∀ g w,o.guard=some (g,w)->s.T g=.bool w)->fY c (x.addr G s.T)=true):=by
   have run:((br G cf s (.chk c x)).bind fun r=>match r.2 with
     | none=>some (s.cR none r.1)
     | some s'=>some (s'.cR none r.1))=some s0->s0=s/\fY c (x.addr G s.T)=true:=by
    intro h;simp only[br] at h;cases hc:fY c (x.addr G s.T) with
    | false=>rw[hc] at h;cases h
    | true=>rw[hc] at h;simp[AS.cR] at h;exact⟨h.symm,rfl⟩
   unfold bS at h0;cases IF:o.guard with
   | none=>simp only[IF] at h0;exact⟨(run h0).1,fun _=>(run h0).2⟩
   | some gw =>
    obtain⟨g,w⟩:=gw;simp only[IF] at h0;generalize hX:s.T g=X at h0;cases X with
    | bool b =>
     simp only at h0;cases hb:(b==w) with
     | true=>rw[hb] at h0;exact⟨(run h0).1,fun _=>(run h0).2⟩
     | false =>
      rw[hb] at h0;simp only[cond_false,AS.cR,aw2] at h0;refine⟨h0.symm,fun hg=>?_⟩
      have:=hg g w rfl
      rw[hX] at this;injection this with this
      subst this;simp at hb
    | tuple vs =>
     cases vs with
     | nil =>
      simp only[AS.cR,aw2] at h0;refine⟨h0.symm,fun hg=>?_⟩
      have:=hg g w rfl
      rw[hX] at this;cases this
     | cons v vs=>cases h0
    | _=>cases h0
  obtain⟨rfl,ao7⟩:=chk;refine⟨fun c' y ui=>?_,h1⟩
  rw[hk] at ui;injection ui with ui
  injection ui with e1 e2
  subst e1 e2;exact ao7
 ·rename_i hk
  simp only[gr,aw1,aw2] at h;obtain⟨s1,h1,rfl⟩:=h;exact⟨fun c' y ui=>(by rw[hk] at ui;cases ui),h1⟩
end
end
section
def bB.ajO:bB->Exit
 | .normal=>.normal
 | .exit id=>.exit id
 | .ret=>.ret
section
variable {P:Program}{G:Nat->List AV}{base nt:Nat}{gh:Gh}{w w' : World}{a:Act}{s:AS}{H:aa}{L:List Nat}
def Inv.drew{mn:Gh}(h:Inv G base nt L H0 mn w0 s gh w a):Inv G base nt L H0 mn w0 s gh { w with drawn:=w.drawn+1 } a:=by
 have st:Step (fun _=>False) s.H.length gh w gh { w with drawn:=w.drawn+1 }:=⟨fun _ _ h=>h,fun _ _ _=>rfl,Nat.le_refl _,rfl,rfl,rfl,fun _ _ _=>⟨.inl rfl,rfl,fun _ h=>h⟩,fun b hb=>h.W.cg b hb,fun _ _=>rfl,fun _ _ _ h=>h,fun _ _ _ _ h=>h⟩
 exact⟨h.W.step st (fun l=>⟨id,fun _=>id⟩) h.W.qj h.W.ru (fun _ _ _ h=>.inl h),h.F.grown (H':=s.H) (lo':=s.lo) st (fun i=>⟨id,id,fun _=>id⟩) (Nat.le_refl _),
  h.E.trans ⟨st.mono (fun _ h=>h.elim),fun _ h=>h⟩ h.lo.len,h.lo⟩
def qh(tmps:Array Value):ResultVar->Sem Value
 | .tmp t=>pure (tmps.getD t undef)
 | .cell a t=>do loadVar t (<- asAddr (tmps.getD a undef))
def xe{g:ResultVar->Sem Value} : ∀ (l:List ResultVar) (vs:List Value),l.length=vs.length->(∀ (j:Nat) (r:ResultVar) (v:Value),l[j]?=some r->vs[j]?=some v->(g r).run P w=.ok v w)->(l.mapM g).run P w=.ok vs w
 | [],[],_,_=>ae
 | r :: l,v :: vs,hl,h=>by
  have h1:=h 0 r v rfl rfl;have h2:=xe l vs (cJ hl) (fun j r v hr hv=>h (j+1) r v (cJ hr) (cJ hv))
  simp_all
 | [],_ :: _,hl,_=>by simp at hl
 | _ :: _,[],hl,_=>by simp at hl
def lg{tmps:Array Value}{vs:List Value}(hl:fn.results.toList.length=vs.length)(h:∀ (j:Nat) (r:ResultVar) (v:Value),fn.results.toList[j]?=some r->vs[j]?=some v->(qh tmps r).run P w=.ok v w) :
  (results fn tmps).run P w=.ok (if h:vs.toArray.size=1 then vs.toArray[0] else .tuple vs.toArray) w:=by
 have e:results fn tmps=(do let vs <- fn.results.mapM (qh tmps);pure (if h:vs.size=1 then vs[0] else .tuple vs)):=by
  unfold results
  congr 1
 rw[e,Sem.run_bind];have h2:(fn.results.mapM (qh tmps)).run P w=.ok vs.toArray w:=by
  rw[Array.mapM_eq_mapM_toList];have:=xe (P:=P) (w:=w) fn.results.toList vs hl h
  simp[this]
 rw[h2];rfl
def kK:∀ {l:List ResultVar} {rs:List gN},ki P nt l=some rs->l.length=rs.length/\∀ (j:Nat) (r:ResultVar) (i:gN),l[j]?=some r->rs[j]?=some i ->
  (∃ t,r=.tmp t/\i=.tmp t/\t<nt)\/∃ t ty g sz,r=.cell t ty/\i=.cell t g sz/\t<nt/\og P ty=some g/\fe P ty=some sz
 | [],rs,h=>by simp[ki] at h;subst h;exact⟨rfl,fun j r i h=>by simp at h⟩
 | .tmp t :: l,rs,h=>by
  simp only[ki,oX] at h;obtain⟨h0,rs',hr,rfl⟩:=h;obtain⟨h1,h2⟩:=kK hr;refine⟨by simp[h1],fun j r i hj hi=>?_⟩
  cases j with
  | zero=>simp at hj hi;subst hj hi;exact .inl ⟨t,rfl,rfl,by simpa [axp] using h0⟩
  | succ j=>exact h2 j r i (cJ hj) (cJ hi)
 | .cell t ty :: l,rs,h=>by
  simp only[ki,oX] at h;obtain⟨h0,g,hg,sz,hs,rs',hr,rfl⟩:=h;obtain⟨h1,h2⟩:=kK hr;refine⟨by simp[h1],fun j r i hj hi=>?_⟩
  cases j with
  | zero=>simp at hj hi;subst hj hi;exact .inr ⟨t,ty,g,sz,rfl,rfl,by simpa [axp] using h0,hg,hs⟩
  | succ j=>exact h2 j r i (cJ hj) (cJ hi)
def Fo(hW:aY G base s.H gh w)(hF:FR L nt gh w a s){r:ResultVar}{i:gN}(hc:(∃ t,r=.tmp t/\i=.tmp t/\t<nt)\/∃ t ty g sz,r=.cell t ty/\i=.cell t g sz/\t<nt/\og P ty=some g/\fe P ty=some sz)
  {z:AV} (hz:iP s i=some z):∃ v,(qh a.tmps r).run P w=.ok v w/\((∃ t,i=.tmp t/\t<nt/\v=gv a t/\z=s.T t/\CR gh s.H.length w (.sl t) v z)\/VR gh s.H.length w v z):=by
 rcases hc with ⟨t,rfl,rfl,ht⟩|⟨t,ty,g,sz,rfl,rfl,ht,hg,hs⟩
 ·refine⟨gv a t,rfl,.inl ⟨t,rfl,ht,rfl,?_⟩⟩
  simp only[iP] at hz;obtain⟨h0,hz⟩:=ay hz;injection hz with hz
  subst hz;have h:=hF.slot t ht
  change SR gh s.H.length nt w s.T s.gen (gv a) t (gv a t) (s.T t) at h
  refine⟨rfl,?_⟩;generalize s.T t=X at h h0
  cases X<;>first|exact h|(simp[aO] at h0)
 ·have h:=hF.slot t ht
  change SR gh s.H.length nt w s.T s.gen (gv a) t (gv a t) (s.T t) at h
  simp only[iP] at hz;have run:∀ {b:Nat} {f:Nat->Value} {cs:List AV},gv a t=.pointer (some ⟨b,0,none⟩)->ah false g sz 0 cs=some z->(∀ (j:Nat) (x:AV),cs[j]?=some x->w.cell? ⟨b,0+j,none⟩=some (f j)/\(f j).oneCell'=true/\VR gh s.H.length w (f j) x.drop) ->
    ∃ v,(qh a.tmps (.cell t ty)).run P w=.ok v w/\((∃ t',gN.cell t g sz=.tmp t'/\t' < nt/\v=gv a t'/\z=s.T t'/\CR gh s.H.length w (.sl t') v z)\/VR gh s.H.length w v z):=by
   intro b f cs hb hl hf;obtain⟨v,h1,h2⟩:=mF (P:=P) hl hg hs hf;refine⟨v,?_,.inr h2⟩;have iG:a.tmps.getD t undef=.pointer (some ⟨b,0,none⟩):=hb
   show (do loadVar ty (<- asAddr (a.tmps.getD t undef)):Sem Value).run P w=_
   rw[iG]
   simpa [asAddr] using h1
  split at hz
  ·rename_i gg cs hT
   rw[hT] at h;obtain⟨_,b,hb,hB⟩:=h;obtain⟨f,hf⟩:=rK hB;exact run hb hz hf
  ·rename_i loc hT
   rw[hT] at h;have hv:=CR.dropped (h:CR gh s.H.length w (.sl t) (gv a t) (.ref loc 0));obtain⟨aP,hp⟩:=VR.kq hv;split at hz
   ·rename_i Ys cs hH
    obtain⟨f,hf⟩:=rK (hW.boxes loc _ cs hH);exact run hp hz hf
   ·cases hz
  ·cases hz
theorem freeze(hW:aY G base s.H gh w)(hF:FR L nt gh w a s){b g:Nat}{e:List (List AV)}(hb:b<nt)(hT:s.T b=.lsl g e)(ri:nB e=true) :
  ∃ a8,aY G base s.H a8 w/\Ext s.H.length gh w a8 w/\CR a8 s.H.length w .ret (gv a b) (.slice e true):=by
 obtain⟨ad,cap,hV,⟨rfl,rfl,K9⟩|⟨k,C,ty,sz,da,rfl,hκ,hS,hk,hC,hl,hr,iz⟩⟩:=qm hF hb hT
 ·refine⟨gh,hW,Ext.refl _ _ _ (fun b hb=>hW.cg b hb),.inl ?_⟩
  rw[hV];refine .full ad 0 [] ?_ trivial;cases ad with
  | none=>exact .dr
  | some ad =>
   obtain⟨b',o',sp⟩:=ad;have:=(K9 _ rfl).1
   simp only at this;subst this;exact .slice b' o' 0 0 0 [] (fun _ _=>undef) rfl (Nat.le_refl _) (fun i r h=>by simp at h) (fun i j r x h=>by simp at h) (fun i j r x h=>by simp at h)
 ·have mS:∀ o,gh.S k o->C[o]?=C[o]?:=fun _ _=>rfl
  have hn:gh.κ k≠.none:=by rw[hκ];simp
  have DE:∀ j m,j<e.length*sz->C[j]?=some (.int .u8 m)->ty=je:=by
   intro j m hj hc;have dj:jq gh.S w sz (C.toList.take (e.length*sz)).toArray e:=by
    have hle:e.length*sz<=C.size:=by rw[hC];exact axg _ hl
    refine⟨df,hr,fun i j r x hi hj=>?_⟩
    grind [x4]
   refine qi (isB:=false) (m:=m) dj ri (fun h=>by cases h) hj ?_
   grind
  have hE:=CM hW hk rfl (fun o=>o<e.length*sz) mS (p:=.ret) ae hn (by rw[hκ];simp) s.H.length
  have n9:=Qp hW hk rfl (fun o=>o<e.length*sz) mS DE .ret hn (by rw[hκ];simp)
  have Vy:=setRow_self w k C ty (0,0) hk;rw[Vy] at hE n9;refine⟨_,n9,hE,.inr ⟨e,rfl,?_,k,cap,C,ty,0,0,sz,hV,ae,da,hk,hC,hr,hl,axh _,?_⟩⟩
  ·rw[hV]
   have key:∀ (i j:Nat) (r:List AV) (x:AV),e[i]?=some r->r[j]?=some x->C[i*sz+j]?=some (C.getD (i*sz+j) undef)/\PR gh.S w (C.getD (i*sz+j) undef) x/\i*sz+j<e.length*sz:=by
    intro i j r x hi hj;obtain⟨u,hu,hp⟩:=iz i j r x hi hj;have aP:=(axb.1 hu).1;have:C.getD (i*sz+j) undef=u:=by
     simp_all
    rw[this];exact⟨hu,hp,x4 (aw5.1 hi).1 (by rw[<- hr i r hi];exact (aw5.1 hj).1)⟩
   refine .slice k 0 e.length cap sz e (fun i j=>C.getD (i*sz+j) undef) rfl hl hr (fun i j r x hi hj=>?_) (fun i j r x hi hj=>?_)
   ·obtain⟨h1,h2,h3⟩:=key i j r x hi hj
    refine⟨.inr ⟨rfl,cJ h3⟩,?_,h2.fJ⟩;rw[axC,cell_of_row w k _ C ty _ hk];exact h1
   ·exact (key i j r x hi hj).2.1.mono (fun b o h=>.inl h) (fun _ _ _=>rfl) (fun _ _ _ _ h=>h)
  ·grind
def VR.bp{n:Nat}{x:AV}(h:VR gh n w v x)(hx:x.bp m=true):VR gh m w v x:=by
 cases x
 case ref loc off =>
  obtain⟨_,rfl⟩:=h.kq;exact .ref loc off (by simpa [AV.bp,axp] using hx)
 case sref loc off k z =>
  obtain⟨_,cap,hk,hz,rfl⟩:=h.kS;exact .sref loc off k cap z (by simpa [AV.bp,axp] using hx) hk hz
 case mref loc =>
  obtain⟨_,rfl⟩:=h.p8;exact .mref loc (by simpa [AV.bp,axp] using hx)
 all_goals exact .plain _ _ (h.me hx)
def VR.dU{n:Nat}{x:AV}(h:VR gh n w v x)(hx:x.dU m=true):VR gh m w v x:=by
 cases x
 case agg cs =>
  obtain⟨C,rfl,hs,gV,hc⟩:=h.mo;exact .agg C cs hs gV (fun j v x hv uA=>(hc j v x hv uA).bp (aw8.1 hx x (axc uA)))
 all_goals exact h.bp hx
def VR.leaves{n:Nat}{x:AV}(h:VR gh n w v x)(hx:x.leaves m=true):VR gh m w v x:=by
 cases x
 case func f fs cs =>
  simp only[AV.leaves,aw4] at hx;obtain⟨us,ts,rfl,h1,h2,h3,h4⟩:=h.vd;exact .func f us ts fs cs h1 h2 (fun j v x hv uA=>(h3 j v x hv uA).bp (aw8.1 hx.1 x (axc uA))) (fun j v x hv uA=>(h4 j v x hv uA).bp (aw8.1 hx.2 x (axc uA)))
 case iface t y =>
  cases h with
  | plain _ _ h=>exact .plain _ _ h
  | iface _ u _ h=>exact .iface t u y (h.bp hx)
 case tuple vs =>
  obtain⟨us,rfl,hs,h1⟩:=h.vM;exact .tuple us vs hs (fun j v x hv uA=>(h1 j v x hv uA).dU (aw8.1 hx x (axc uA)))
 case slice e own =>
  cases h with
  | plain _ _ h=>exact .plain _ _ h
  | full a k _ h hz=>exact .full a k e h hz
 all_goals exact h.dU hx
def CR.leaves{n:Nat}{x:AV}(h:CR gh n w p v x)(hx:x.leaves m=true):CR gh m w p v x:=by
 rcases h with h|h
 ·exact .inl (h.leaves hx)
 ·exact .inr h
def VR.il{n:Nat}{x:AV}(h:VR gh n w v x)(hx:il loc x=true)(hl:loc<m):VR gh m w v x:=by
 cases x
 case ref l off =>
  obtain⟨_,rfl⟩:=h.kq;have:l<=loc:=by simpa [Abs.il,axv] using hx
  exact .ref l off af
 case sref l off k z =>
  obtain⟨_,cap,hk,hz,rfl⟩:=h.kS;have:l<=loc:=by simpa [Abs.il,axv] using hx
  exact .sref l off k cap z af hk hz
 case mref l =>
  obtain⟨_,rfl⟩:=h.p8;have:l<=loc:=by simpa [Abs.il,axv] using hx
  exact .mref l af
 case slice e own =>
  cases h with
  | plain _ _ h=>exact .plain _ _ h
  | full a k _ h hz=>exact .full a k e h hz
 all_goals exact .plain _ _ (h.me hx)
def VR.lX{n:Nat}{x:AV}(h:VR gh n w v x)(hx:lX loc x=true)(hl:loc<m):VR gh m w v x:=by
 cases x
 case agg cs =>
  obtain⟨C,rfl,hs,gV,hc⟩:=h.mo;exact .agg C cs hs gV (fun j v x hv uA=>(hc j v x hv uA).il (aw8.1 hx x (axc uA)) hl)
 all_goals exact h.il hx hl
def VR.aV{n:Nat}{x:AV}(h:VR gh n w v x)(hx:aV loc x=true)(hl:loc<m):VR gh m w v x:=by
 cases x
 case ref l off =>
  obtain⟨_,rfl⟩:=h.kq;have:l<=loc:=by simpa [Abs.aV,axv] using hx
  exact .ref l off af
 case sref l off k z =>
  obtain⟨_,cap,hk,hz,rfl⟩:=h.kS;have:l<=loc:=by simpa [Abs.aV,axv] using hx
  exact .sref l off k cap z af hk hz
 case mref l =>
  obtain⟨_,rfl⟩:=h.p8;have:l<=loc:=by simpa [Abs.aV,axv] using hx
  exact .mref l af
 case slice e own =>
  cases h with
  | plain _ _ h=>exact .plain _ _ h
  | full a k _ h hz=>exact .full a k e h hz
 case func f fs cs =>
  simp only[Abs.aV,aw4] at hx;obtain⟨us,ts,rfl,h1,h2,h3,h4⟩:=h.vd;exact .func f us ts fs cs h1 h2 (fun j v x hv uA=>(h3 j v x hv uA).lX (aw8.1 hx.1 x (axc uA)) hl) (fun j v x hv uA=>(h4 j v x hv uA).lX (aw8.1 hx.2 x (axc uA)) hl)
 all_goals exact .plain _ _ (h.me hx)
def PR.lower{S:Nat->Nat->Prop}{x:AV}(h:PR S w0 v0 x){n:Nat} : ∀ {v:Value},VR gh n w v x->VR gh m w v x:=by
 induction h with
 | iface t v0 x h ih =>
  intro v hv;cases hv with
  | plain _ _ h=>exact .plain _ _ h
  | iface _ u _ h=>exact .iface t u x (ih h)
 | func f =>
  intro v hv;cases hv with
  | plain _ _ h=>exact .plain _ _ h
  | func _ fs cs _ _ h1 h2 h3 h4=>exact .func f fs cs [] [] h1 h2 (fun j v x _ hx=>by simp at hx) (fun j v x _ hx=>by simp at hx)
 | _ =>
  intro v hv;cases hv<;>exact .plain _ _ ‹_›
theorem VR.lower{mn:Gh}{x:AV}(h:VR mn m w0 v0 x){n:Nat} : ∀ {v:Value},VR gh n w v x->VR gh m w v x:=by
 induction h with
 | plain v0 x h=>intro v hv;exact h.lower hv
 | full a k e h hz =>
  intro v hv;cases hv with
  | plain _ _ h=>cases h
  | full a k _ h hz=>exact .full a k e h hz
 | ref loc off h=>intro v hv;obtain⟨_,rfl⟩:=hv.kq;exact .ref loc off h
 | sref loc off k cap z h hk hz=>intro v hv;obtain⟨_,cap,hk,hz,rfl⟩:=hv.kS;exact .sref loc off k cap z h hk hz
 | mref loc h=>intro v hv;obtain⟨_,rfl⟩:=hv.p8;exact .mref loc h
 | func f fs cs xs ys hf hc _ _ ih1 ih2 =>
  intro v hv;obtain⟨us,ts,rfl,h1,h2,h3,h4⟩:=hv.vd;refine .func f us ts xs ys h1 h2 (fun j v x hv hx=>?_) (fun j v x hv hx=>?_)
  ·grind
  ·grind
 | iface t v0 x h ih =>
  intro v hv;cases hv with
  | plain _ _ h=>exact .plain _ _ h
  | iface _ u _ h=>exact .iface t u x (ih h)
 | agg cs xs hs gV _ ih =>
  intro v hv;obtain⟨C,rfl,wY,Vl,hc⟩:=hv.mo;refine .agg C xs wY Vl (fun j v x hv hx=>?_)
  grind
 | tuple vs xs hs _ ih =>
  intro v hv;obtain⟨us,rfl,wY,h1⟩:=hv.vM;refine .tuple us xs wY (fun j v x hv hx=>?_)
  grind
def Bi(H:aa)(m:Nat)(gh:Gh)(w:World):Prop:=∀ (l:Nat) (cs:List AV),l<m->H[l]?=some (.bR cs)->iL gh m w (gh.ρ l) (.hb l) (fun j=>.hs l j) cs
theorem ahd(RE:aY G base H0 ghI wI)(yp:iB H0 s)(ho:kg H0.length s=true)(hW:aY G base s.H gh w):Bi s.H H0.length gh w:=by
 intro l cs hl hH;obtain⟨h1,h2,C,Td,h3,h4,h5⟩:=(hW.more l _ hH:iL gh s.H.length w (gh.ρ l) (.hb l) (fun j=>.hs l j) cs)
 refine⟨h1,h2,C,Td,h3,h4,fun j v x hv hx=>⟨(h5 j v x hv hx).1,?_⟩⟩
 have oT:=(h5 j v x hv hx).2
 by_cases oc:l<s.lo
 ·have hH0:H0[l]?=some (.bR cs):=by rw[<- yp.same l oc];exact hH
  obtain⟨_,_,C0,Ys,g3,g4,g5⟩:=(RE.more l _ hH0:iL ghI H0.length wI (ghI.ρ l) (.hb l) (fun j=>.hs l j) cs)
  have hj:j<C0.size:=by have:=(aw5.1 hx).1;omega
  rcases oT with IA|afG
  ·rcases (g5 j _ x (axj hj) hx).2 with k|⟨e,rfl,_⟩
   ·exact .inl (k.lower IA)
   ·cases IA with
    | plain _ _ h=>cases h
    | full a k _ h hz=>exact .inl (.full a k e h hz)
  ·exact .inr afG
 ·have hc:x.bp H0.length=true:=by
   unfold kg at ho;cases hb:Nat.beq s.lo H0.length with
   | true=>have:=ax4 hb;omega
   | false =>
    rw[hb,cond_false] at ho;have hm:bG.bR cs∈(s.H.take H0.length).drop s.lo:=by
     refine axc (i:=l-s.lo) ?_
     grind
    grind
  rcases oT with IA|⟨e,rfl,_⟩
  ·exact .inl (IA.bp hc)
  ·simp[AV.bp,AV.plain] at hc
def CR.aV{n:Nat}{x:AV}(h:CR gh n w p v x)(hx:aV loc x=true)(hl:loc<m):CR gh m w p v x:=by
 rcases h with h|h
 ·exact .inl (h.aV hx hl)
 ·exact .inr h
def aY.Jc(hW:aY G base H gh w)(hm:m<=H.length)(hold:Bi H m gh w):aY G base (H.take m) gh w:=by
 have ac0:(H.take m).length=m:=df;refine⟨hW.size,hW.qj,hW.ru,hW.aX,fun loc ty cs hl=>?_,fun loc ty cs hl=>?_,hW.Cg,hW.bytes,fun loc o hl=>?_,fun loc ty cs hl=>?_⟩
 rotate_left 2
 ·rw[List.getElem?_take] at hl
  split at hl
  ·rename_i aP
   have h:=hW.more loc o hl;rw[ac0];cases o with
   | map kz ka va es =>
    obtain⟨⟨h1,h2,E,ck,f,h3,h4,h5,h6⟩,h7⟩:=h;refine⟨⟨h1,h2,E,ck,f,h3,h4,h5,fun i j r x hi hj hl=>?_⟩,h7⟩
    have hc:=aw8.1 (aw8.1 h7 r (axc hi)) x (axc hj);obtain⟨k1,k2,k3⟩:=h6 i j r x hi hj hl;refine⟨k1,fun hv=>?_,k3.aV hc aP⟩
    exact (k2 hv).aV hc aP
   | iW kz ka va es=>exact h
   | UG cs=>exact h
   | bR cs=>exact hold loc cs aP hl
   | _=>trivial
  ·cases hl
 ·rw[List.getElem?_take] at hl
  split at hl
  ·exact hW.types loc ty cs hl
  ·cases hl
 ·rw[List.getElem?_take] at hl
  split at hl
  ·rename_i aP
   obtain⟨h1,h2,C,Td,h3,h4,h5⟩:=hW.boxes loc _ cs hl;refine⟨h1,h2,C,Td,h3,h4,fun j v x hv hx=>⟨(h5 j v x hv hx).1,?_⟩⟩
   have hlen:(H.take m).length=m:=df;rw[hlen];exact (h5 j v x hv hx).2.aV (aw8.1 (hW.refs loc _ cs hl) x (axc hx)) aP
  ·cases hl
 ·rw[List.getElem?_take] at hl
  split at hl
  ·exact hW.refs loc _ cs hl
  ·cases hl
theorem Jh(hW:aY G base s.H gh w)(hF:FR L nt gh w a s):∀ (l:List ResultVar) (rs:List gN) (xs:List AV),l.length=rs.length->(∀ (j:Nat) (r:ResultVar) (i:gN),l[j]?=some r->rs[j]?=some i ->
    (∃ t,r=.tmp t/\i=.tmp t/\t<nt)\/∃ t ty g sz,r=.cell t ty/\i=.cell t g sz/\t<nt/\og P ty=some g/\fe P ty=some sz)->lS s rs=some xs ->
    ∃ vs:List Value,l.length=vs.length/\vs.length=xs.length/\(∀ (j:Nat) (r:ResultVar) (v:Value),l[j]?=some r->vs[j]?=some v->(qh a.tmps r).run P w=.ok v w)/\∀ (j:Nat) (v:Value) (x:AV),vs[j]?=some v->xs[j]?=some x->VR gh s.H.length w v x:=by
 intro l
 induction l with
 | nil =>
  intro rs xs hl _ h;have:=axm.1 (cJ hl.symm)
  subst this;simp only[lS,aw2] at h
  simp_all
 | cons rv l ih =>
  intro rs xs hl hc h;cases rs with
  | nil=>simp at hl
  | cons i rs =>
   simp only[lS,aw1,aw0] at h;obtain⟨z,hz,ys,RZ,rfl⟩:=h;obtain⟨v,h1,h2⟩:=Fo (P:=P) hW hF (hc 0 rv i rfl rfl) hz;have hv:VR gh s.H.length w v z.cU:=by
    rcases h2 with ⟨t,_,_,_,_,oT⟩|IA
    ·exact my oT.dropped
    ·exact my IA.dropped
   obtain⟨vs,k1,k2,k3,k4⟩:=ih rs ys (cJ hl) (fun j r i hr hi=>hc (j+1) r i (cJ hr) (cJ hi)) RZ
   refine⟨v :: vs,by simp[k1],by simp[k2],fun j r u hr hu=>?_,fun j u x hu hx=>?_⟩
   ·grind
   ·grind
theorem OB{mn:Gh}(mB:clean mn)(hI:Inv G base nt L H mn w0 s gh w a)(hc:ki P nt fn.results.toList=some rs){c:Option fw}(hold:∀ a8 w',aY G base s.H a8 w'->Bi s.H H.length a8 w')(he:iF H.length rs s=some (r,c)) :
  jH H c/\∃ v a8,(results fn a.tmps).run P w=.ok v w/\pM G base H mn w0 r c v a8 w:=by
 simp only[iF,oX] at he;obtain⟨r',hr,uu,rfl,yo⟩:=he;have hlen:=hI.lo.len;have jm:qC H c=s.H.take H.length:=by
  cases hb:Nat.beq s.lo H.length with
  | false=>rw[hb] at yo;subst yo;rfl
  | true =>
   rw[hb] at yo;subst yo;have yp:=ax4 hb
   show H=_
   refine ayq fun l=>?_
   rw[List.getElem?_take];split
   ·rename_i hl;exact (hI.lo.same l af).symm
   ·grind
 have uZ:(qC H c).length=H.length:=by rw[jm];simp;omega
 have Nq:jH H c:=by
  refine⟨Nat.le_of_eq uZ.symm,fun c' Cx=>?_⟩
  cases hb:Nat.beq s.lo H.length with
  | true=>rw[hb] at yo;rw[<- yo] at Cx;cases Cx
  | false =>
   rw[hb] at yo;rw[<- yo] at Cx;simp only[cond_false,aw2] at Cx;subst Cx;refine⟨hI.lo.lo,fun l hl=>?_⟩
   have:=hI.lo.lo
   rw[List.getElem?_take,if_pos (by simp only at hl;omega)]
   exact hI.lo.same l hl
 refine⟨Nq,?_⟩;have fin:∀ {v:Value} {a8:Gh},(results fn a.tmps).run P w=.ok v w->aY G base s.H a8 w->Ext s.H.length gh w a8 w->CR a8 s.H.length w .ret v r'->∃ v a8,(results fn a.tmps).run P w=.ok v w/\pM G base H mn w0 r' c v a8 w:=by
  intro v a8 h1 h2 h3 h4;have hE:=hI.E.trans h3 hlen;refine⟨v,a8,h1,Nat.le_of_eq uZ.symm,by rw[jm];exact h2.Jc hlen (hold _ _ h2),?_,hE.out,by rw[uZ];exact h4.leaves uu⟩
  have st:=hE.step;refine⟨st.S,st.cell,st.size,st.os,st.tape,st.output,fun b hb hn=>st.oo b hb (fun ht=>hn ?_),st.fresh,st.ρ,st.len,st.mp⟩
  rcases mB b with h|h|h|h
  ·exact absurd h ht.1
  ·exact absurd h ht.2
  ·exact .inl h
  ·exact .inr h
 obtain⟨hl,rj⟩:=kK hc;have hrefl:Ext s.H.length gh w gh w:=Ext.refl _ _ _ (fun b hb=>hI.W.cg b hb)
 have one:∀ (rv:ResultVar) (v:Value),fn.results.toList=[rv]->(qh a.tmps rv).run P w=.ok v w->(results fn a.tmps).run P w=.ok v w:=by
  intro rv v h1 h2;have:=lg (P:=P) (w:=w) (fn:=fn) (tmps:=a.tmps) (vs:=[v]) (by rw[h1];rfl) (fun j r' v' hr hv=>by
   rw[h1] at hr;cases j with
   | zero=>simp at hr hv;subst hr hv;exact h2
   | succ j=>simp at hr)
  simpa using this
 unfold mJ at hr;split at hr
 ·rename_i i
  have NF:([i]:List gN)=[i]:=rfl;rw[NF] at hl;obtain⟨rv,RS⟩:∃ rv,fn.results.toList=[rv]:=ayl.1 (cJ hl);have Zz:=rj 0 rv i (by rw[RS];rfl) (by rw[NF];rfl)
  split at hr
  ·rename_i b bQ
   rcases Zz with ⟨t,rfl,rfl,ht⟩|⟨t,ty,g,sz,rfl,rfl,_⟩
   ·simp only[oR] at bQ
    have qu:=hI.F.slot t ht
    change SR gh s.H.length nt w s.T s.gen (gv a) t (gv a t) (s.T t) at qu
    split at bQ
    ·rename_i g e hT
     injection bQ with bQ
     subst bQ;rw[hT] at hr;obtain⟨ri,hr⟩:=ay hr;injection hr with hr
     subst hr;obtain⟨a8,h2,h3,h4⟩:=freeze hI.W hI.F ht hT ri;exact fin (one _ _ RS rfl) h2 h3 h4
    ·rename_i b' g hT
     rw[hT] at qu;obtain⟨iG,_,hv⟩:=qu;split at bQ
     ·rename_i g' e Ge
      obtain⟨h0,bQ⟩:=ay bQ;injection bQ with bQ
      subst bQ;rw[Ge] at hr;obtain⟨ri,hr⟩:=ay hr;injection hr with hr
      subst hr;have KZ:g=g':=by simpa [im] using h0
      have jn:=hv (by rw[Ge,KZ];rfl)
      obtain⟨a8,h2,h3,h4⟩:=freeze hI.W hI.F iG Ge ri;exact fin (one _ _ RS rfl) h2 h3 (by show CR a8 s.H.length w .ret (gv a t) _;rw[jn];exact h4)
     ·cases bQ
    ·cases bQ
   ·cases bQ
  ·obtain⟨v,h1,h2⟩:=Fo (P:=P) hI.W hI.F Zz hr
   rcases h2 with ⟨t,_,ht,rfl,hz,oT⟩|IA
   ·rcases oT with IA|⟨e,rfl,_⟩
    ·exact fin (one _ _ RS h1) hI.W hrefl (.inl IA)
    ·obtain⟨a8,h2,_,h3,_,h4⟩:=zF hI.W hI.F ht hz.symm .ret ae
     exact fin (one _ _ RS h1) h2 h3 h4
   ·exact fin (one _ _ RS h1) hI.W hrefl (.inl IA)
 ·rename_i da
  simp only[aw0] at hr;obtain⟨xs,hxs,rfl⟩:=hr;obtain⟨vs,k1,k2,k3,k4⟩:=Jh (P:=P) hI.W hI.F _ _ xs hl rj hxs;have II:vs.length≠1:=by
   intro h;rw[<- k1,hl] at h;obtain⟨i,hi⟩:=ayl.1 h;exact da i hi
  have dI:=lg (P:=P) (w:=w) (fn:=fn) (tmps:=a.tmps) k1 k3;rw[dif_neg (cJ II)] at dI;exact fin dI hI.W hrefl (.inl (.tuple vs.toArray xs (cJ k2) (fun j v x hv hx=>k4 j v x (cJ hv) hx)))
def KF(hI:iB H s){c:Option fw}(he:iF H.length rs s=some (r,c)):jH H c:=by
 simp only[iF,oX] at he;obtain⟨r',hr,uu,rfl,yo⟩:=he;have hlen:=hI.len;cases hb:Nat.beq s.lo H.length with
 | true=>rw[hb] at yo;subst yo;exact⟨Nat.le_refl _,fun c' h=>by cases h⟩
 | false =>
  rw[hb] at yo;subst yo;refine⟨by simp[qC];omega,fun c' Cx=>?_⟩
  simp only[cond_false,aw2] at Cx;subst Cx;refine⟨hI.lo,fun l hl=>?_⟩
  have:=hI.lo
  rw[List.getElem?_take,if_pos (by simp only at hl;omega)]
  exact hI.same l hl
def Du{c:Option fw}(he:qZ m rs s=some (r,c)):rs.length≠1/\∃ xs e,rr s m rs=some (xs,some e)/\r=.tuple xs/\c=some ⟨s.H.take m++[.box bz e.flatten],s.lo⟩:=by
 unfold qZ at he;cases hb:Nat.beq rs.length 1 with
 | true=>rw[hb] at he;cases he
 | false =>
  rw[hb] at he;simp only[cond_false,aw1,aw0,aw6] at he;obtain⟨⟨xs,eo⟩,hq,e,rfl,rfl,rfl⟩:=he;exact⟨(fun h=>by rw[h] at hb;cases hb),xs,e,hq,rfl,rfl⟩
theorem Dw{x:AV × Option fw}(he:mj m qA s=some x):kg m s=true/\(tz m qA.results s=some x\/iF m qA.results s=some x\/qZ m qA.results s=some x\/tA m qA.results s=some x):=by
 unfold mj at he;obtain⟨h0,he⟩:=ay he;refine⟨h0,?_⟩;unfold qM at he;split at he
 ·rename_i h
  unfold o7 at h
  grind
 ·grind
theorem Ds{c:Option fw}(he:tz m rs s=some (r,c)):∃ i l off n z ty cs,rs=[i]/\iP s i=some (.sref l off n z)/\s.H[l]?=some (.box ty cs)/\m<=l/\cs.all AV.plain=true/\r=.sref m off n z/\c=some ⟨s.H.take m++[.bR cs],s.lo⟩:=by
 unfold tz at he;split at he
 ·rename_i i
  simp only[aw1] at he;obtain⟨v,hv,he⟩:=he;split at he
  ·rename_i l off n z
   split at he
   ·rename_i ty cs hH
    obtain⟨h0,he⟩:=ay he;simp only[aw2,aw6] at he;simp only[aw4,axv] at h0
    grind
   ·cases he
  ·cases he
 ·cases he
theorem Pm(hI:iB H s){c:Option fw}(yo:cond (Nat.beq s.lo H.length) none (some ⟨s.H.take H.length,s.lo⟩)=c):jH H c/\qC H c=s.H.take H.length:=by
 have hlen:=hI.len;cases hb:Nat.beq s.lo H.length with
 | true =>
  rw[hb] at yo;subst yo;have yp:=ax4 hb;refine⟨⟨Nat.le_refl _,fun c' h=>by cases h⟩,?_⟩
  show H=_
  refine ayq fun l=>?_
  rw[List.getElem?_take];split
  ·rename_i hl;exact (hI.same l af).symm
  ·grind
 | false =>
  rw[hb] at yo;subst yo;refine⟨⟨by simp[qC];omega,fun c' Cx=>?_⟩,rfl⟩
  simp only[cond_false,aw2] at Cx;subst Cx;refine⟨hI.lo,fun l hl=>?_⟩
  have:=hI.lo
  rw[List.getElem?_take,if_pos (by simp only at hl;omega)]
  exact hI.same l hl
theorem Dt{c:Option fw}(he:tA m rs s=some (r,c)):wq m s rs=some r/\r.leaves m=true/\cond (Nat.beq s.lo m) none (some ⟨s.H.take m,s.lo⟩)=c:=by
 simp only[tA,aw1] at he
 grind
theorem KK(hI:iB H s)(o:bG):jH H (some ⟨s.H.take H.length++[o],s.lo⟩):=by
 have:=hI.len
 have h1:=hI.lo;refine⟨by simp[qC];omega,fun c' Cx=>?_⟩
 injection Cx with Cx
 subst Cx;refine⟨hI.lo,fun l hl=>?_⟩
 simp only at hl ⊢;rw[axd df,List.getElem?_take,if_pos af];exact hI.same l hl
def Dr{c:Option fw}(he:xJ rs s=some (r,c)):rs.length≠1/\∃ xs,lS s rs=some xs/\r=.tuple xs/\c=some ⟨s.H,s.lo⟩:=by
 unfold xJ at he;cases hb:Nat.beq rs.length 1 with
 | true=>rw[hb] at he;cases he
 | false =>
  rw[hb] at he;simp only[cond_false,aw0,aw6] at he;obtain⟨xs,h1,h2,h3⟩:=he;exact⟨fun h=>by (rw[h] at hb;cases hb),xs,h1,h2.symm,h3.symm⟩
def YA(hI:iB H s):jH H (some ⟨s.H,s.lo⟩):=by
 refine⟨hI.len,fun c' Cx=>?_⟩
 injection Cx with Cx
 subst Cx;exact⟨hI.lo,hI.same⟩
theorem Bx{x:AV × Option fw}(he:finish m qA s=some x):(∃ r0,mj m qA s=some (r0,x.2)/\(x.1=r0\/x.1=nC r0))\/xJ qA.results s=some x:=by
 unfold finish at he;split at he
 case h_2 =>
  unfold Cq at he
  grind
 rename_i y hy;injection he with he
 subst he;refine .inl ?_;have he:=hy;simp only[aw0] at he;obtain⟨⟨r0,c0⟩,h1,h2⟩:=he;unfold sf at h2
 grind
theorem PR.n2{S:Nat->Nat->Prop}{w:World}{x:AV}(h:PR S w v x):PR S w v (n2 x):=by
 have one:∀ {v x},PR S w v x->PR S w v (n1 x):=by
  intro v x h;have h0:=h
  cases h<;>first|exact .dr|exact h0
 have h0:=h;cases h with
 | al=>exact .dr
 | slice b o n cap sz e f hn kQ bQ cZ dh =>
  have ft:∀ (i:Nat) (r:List AV),(e.map fun r=>r.map n1)[i]?=some r->∃ r0,e[i]?=some r0/\r=r0.map n1:=by
   grind
  have RF:∀ (r0:List AV) (j:Nat) (x:AV),(r0.map n1)[j]?=some x->∃ x0,r0[j]?=some x0/\x=n1 x0:=by
   grind
  refine .slice b o n cap sz _ f (by rw[List.length_map];exact hn) kQ (fun i r hr=>?_) (fun i j r x hr hx=>?_) (fun i j r x hr hx=>?_)
  ·grind
  ·grind
  ·grind
 | dr=>exact .dr
 | any v ho=>exact h0
 | _=>exact h0
def VR.n2{gh:Gh}{n:Nat}{w:World}{x:AV}(h:VR gh n w v x):VR gh n w v (n2 x):=by
 have h0:=h;cases h with
 | plain _ _ h=>exact .plain _ _ h.n2
 | _=>exact h0
def VR.n3{gh:Gh}{n:Nat}{w:World}{x:AV}(h:VR gh n w v x):VR gh n w v (n3 x):=by
 have h0:=h;cases h with
 | agg cs xs hs gV h =>
  refine .agg cs _ (by rw[List.length_map];exact hs) gV (fun j v x hv hx=>?_)
  rw[List.getElem?_map] at hx;cases CC:xs[j]? with
  | none=>rw[CC] at hx;cases hx
  | some x0=>rw[CC] at hx;injection hx with hx;subst hx;exact (h j v x0 hv CC).n2
 | plain _ _ h =>
  cases x with
  | agg cs=>cases h
  | _=>exact h0.n2
 | _=>exact h0
def VR.nC{gh:Gh}{n:Nat}{w:World}{x:AV}(h:VR gh n w v x):VR gh n w v (nC x):=by
 have h0:=h;cases h with
 | tuple vs xs hs h =>
  refine .tuple vs _ (by rw[List.length_map];exact hs) (fun j v x hv hx=>?_)
  rw[List.getElem?_map] at hx;cases CC:xs[j]? with
  | none=>rw[CC] at hx;cases hx
  | some x0=>rw[CC] at hx;injection hx with hx;subst hx;exact (h j v x0 hv CC).n3
 | agg cs xs hs gV h=>exact h0.n3
 | plain _ _ h =>
  cases x with
  | tuple cs=>cases h
  | _=>exact h0.n3
 | _=>exact h0
def aaF{gh:Gh}{n:Nat}{w:World}{x:AV}(h:CR gh n w p v x):CR gh n w p v (nC x):=by
 rcases h with h|⟨e,rfl,h1,h2⟩
 ·exact .inl h.nC
 ·exact .inr ⟨e,rfl,h1,h2⟩
theorem Dv(hI:iB H s){c:Option fw}(he:finish H.length qA s=some (r,c)):jH H c:=by
 rcases Bx he with ⟨r0,he,_⟩|he
 case inr =>
  obtain⟨_,xs,_,_,rfl⟩:=Dr he;exact YA hI
 rcases (Dw he).2 with he|he|he|he
 ·grind [Ds,KK]
 ·exact KF hI he
 ·obtain⟨_,xs,e,_,_,rfl⟩:=Du he
  exact KK hI _
 ·exact (Pm hI (Dt he).2.2).1
def xK{α:Type} : ∀ (e:List (List α)) (idx:Nat) (x:α),(∀ r∈e,r.length=sz)->e.flatten[idx]?=some x->∃ i j r,e[i]?=some r/\r[j]?=some x/\idx=i*sz+j
 | [],_,_,_,h=>by simp at h
 | r :: e,idx,x,hr,h=>by
  rw[axw] at h
  by_cases hl:idx<r.length
  ·rw[axd hl] at h;exact⟨0,idx,r,rfl,h,ae⟩
  ·rw[List.getElem?_append_right af] at h
   obtain⟨i,j,r',h1,h2,h3⟩:=xK e _ x (fun r h=>hr r (yd h)) h
   have:=hr r ae
   exact⟨i+1,j,r',cJ h1,h2,by rw[axT];omega⟩
theorem By{α:Type} : ∀ (e:List (List α)),(∀ r∈e,r.length=sz)->e.flatten.length=e.length*sz
 | [],_=>ae
 | r :: e,hr=>by
  have:=hr r ae
  have ih:=By e (fun r h=>hr r (yd h))
  grind
def Gh.nh(gh:Gh)(k n:Nat):Gh:={ gh.uo k (.hb n) with ρ:=fun l=>if l=n then k else gh.ρ l }
def sR(hW:aY G base H gh w){k:Nat}(hk:k<w.heap.size){n:Nat}(hn:m<=n):Step (fun r=>r=gh.κ k) m gh w (gh.nh k n) w:=by
 have h:=mQ hW hk (.hb n) m;refine⟨h.S,h.cell,h.size,h.os,h.tape,h.output,h.oo,h.fresh,fun loc hl=>?_,h.len,h.mp⟩
 show (if loc=n then _ else _)=_
 rw[if_neg af]
theorem aY.nh(hW:aY G base H gh w){k:Nat}(hk:w.heap[k]?=some (.cells C ty (0,0)))(hS:∀ o,¬ gh.S k o)(h0:gh.κ k≠.none)(ht:∀ l,l<H.length->gh.κ k≠.hb l/\∀ j,gh.κ k≠.hs l j)
  {cs:List AV} (hlen:cs.length<=C.size) (iz:∀ (j:Nat) (u:Value) (x:AV),C[j]?=some u->cs[j]?=some x->u.oneCell'=true/\VR gh H.length w u x) (hr:cs.all (aV H.length)=true) :
  aY G base (H++[.box bz cs]) (gh.nh k H.length) w:=by
 have aP:=(axb.1 hk).1;have st:=sR hW aP (Nat.le_refl H.length);have hn:∀ l,l<H.length->¬ (bF.hb l=gh.κ k)/\∀ j,¬ (bF.hs l j=gh.κ k):=fun l hl=>⟨fun h=>(ht l hl).1 h.symm,fun j h=>(ht l hl).2 j h.symm⟩
 have last:∀ {loc:Nat} {o:bG},(H++[bG.box bz cs])[loc]?=some o->¬ loc<H.length->loc=H.length/\o=.box bz cs:=by
  grind
 refine⟨hW.size,hW.qj,fun b hb=>?_,fun g j x hx=>?_,fun loc oI ds hl=>?_,fun loc oI ds hl=>?_,hW.Cg,hW.bytes,fun loc o hl=>?_,fun loc oI ds hl hf=>?_⟩
 ·have kG:(if b=k then bF.hb H.length else gh.κ b)≠.none:=hb
  split at kG
  ·rename_i e;rw[e];exact hW.ru k h0
  ·exact hW.ru b kG
 ·obtain⟨v,h1,h2,h3⟩:=hW.aX g j x hx
  exact⟨v,h1,h2.mono st.S st.cell st.mp,h3⟩
 ·rw[List.length_append,aya]
  by_cases j9:loc<H.length
  ·rw[axd j9] at hl
   have h:=(hW.boxes loc oI ds hl).mono st (n':=H.length+1) (Nat.le_succ _) (hn loc j9).1 (hn loc j9).2;rw[st.ρ loc j9];exact h
  ·obtain⟨rfl,ho⟩:=last hl j9
   injection ho with ho1 ho2
   subst ho1 ho2;have hρ:(gh.nh k H.length).ρ H.length=k:=by simp[Gh.nh]
   rw[hρ];refine⟨by simp[Gh.nh,Gh.uo],hS,C,ty,hk,hlen,fun j v x hv hx=>?_⟩
   obtain⟨h1,h2⟩:=iz j v x hv hx;exact⟨h1,.inl (h2.mono st (Nat.le_succ _))⟩
 ·by_cases j9:loc<H.length
  ·rw[axd j9] at hl
   exact hW.refs loc oI ds hl
  ·obtain⟨rfl,ho⟩:=last hl j9
   injection ho with ho1 ho2
   subst ho1 ho2;exact hr
 ·rw[List.length_append,aya]
  by_cases j9:loc<H.length
  ·rw[axd j9] at hl
   rw[st.ρ loc j9];exact (hW.more loc o hl).mono st (Nat.le_succ _) (hn loc j9).1 (hn loc j9).2
  ·obtain⟨rfl,rfl⟩:=last hl j9
   trivial
 ·by_cases j9:loc<H.length
  ·rw[axd j9] at hl
   rw[st.ρ loc j9];exact hW.types loc oI ds hl hf
  ·obtain⟨rfl,ho⟩:=last hl j9
   injection ho with ho1 ho2
   exact absurd ho1 hf
theorem aY.aef(hW:aY G base H gh w){k:Nat}(hk:w.heap[k]?=some (.cells C ty (0,0)))(hS:∀ o,¬ gh.S k o)(h0:gh.κ k≠.none)(ht:∀ l,l<H.length->gh.κ k≠.hb l/\∀ j,gh.κ k≠.hs l j)
  {cs:List AV} (hlen:cs.length<=C.size) (iz:∀ (j:Nat) (u:Value) (x:AV),C[j]?=some u->cs[j]?=some x->u.oneCell'=true/\VR gh H.length w u x) :
  aY G base (H++[.bR cs]) (gh.nh k H.length) w:=by
 have aP:=(axb.1 hk).1;have st:=sR hW aP (Nat.le_refl H.length);have hn:∀ l,l<H.length->¬ (bF.hb l=gh.κ k)/\∀ j,¬ (bF.hs l j=gh.κ k):=fun l hl=>⟨fun h=>(ht l hl).1 h.symm,fun j h=>(ht l hl).2 j h.symm⟩
 have last:∀ {loc:Nat} {o:bG},(H++[bG.bR cs])[loc]?=some o->¬ loc<H.length->loc=H.length/\o=.bR cs:=by
  grind
 refine⟨hW.size,hW.qj,fun b hb=>?_,fun g j x hx=>?_,fun loc oI ds hl=>?_,fun loc oI ds hl=>?_,hW.Cg,hW.bytes,fun loc o hl=>?_,fun loc oI ds hl hf=>?_⟩
 ·have kG:(if b=k then bF.hb H.length else gh.κ b)≠.none:=hb
  split at kG
  ·rename_i e;rw[e];exact hW.ru k h0
  ·exact hW.ru b kG
 ·obtain⟨v,h1,h2,h3⟩:=hW.aX g j x hx
  exact⟨v,h1,h2.mono st.S st.cell st.mp,h3⟩
 ·rw[List.length_append,aya]
  by_cases j9:loc<H.length
  ·rw[axd j9] at hl
   have h:=(hW.boxes loc oI ds hl).mono st (n':=H.length+1) (Nat.le_succ _) (hn loc j9).1 (hn loc j9).2;rw[st.ρ loc j9];exact h
  ·obtain⟨rfl,ho⟩:=last hl j9
   cases ho
 ·by_cases j9:loc<H.length
  ·rw[axd j9] at hl
   exact hW.refs loc oI ds hl
  ·obtain⟨rfl,ho⟩:=last hl j9
   cases ho
 ·rw[List.length_append,aya]
  by_cases j9:loc<H.length
  ·rw[axd j9] at hl
   rw[st.ρ loc j9];exact (hW.more loc o hl).mono st (Nat.le_succ _) (hn loc j9).1 (hn loc j9).2
  ·obtain⟨rfl,rfl⟩:=last hl j9
   have hρ:(gh.nh k H.length).ρ H.length=k:=by simp[Gh.nh]
   rw[hρ];refine⟨by simp[Gh.nh,Gh.uo],hS,C,ty,hk,hlen,fun j v x hv hx=>?_⟩
   obtain⟨h1,h2⟩:=iz j v x hv hx;exact⟨h1,.inl (h2.mono st (Nat.le_succ _))⟩
 ·by_cases j9:loc<H.length
  ·rw[axd j9] at hl
   rw[st.ρ loc j9];exact hW.types loc oI ds hl hf
  ·obtain⟨rfl,ho⟩:=last hl j9
   cases ho
def PR.afk{S:Nat->Nat->Prop}{x:AV}(h:PR S w v x)(hp:x.plain=true)(m:Nat):aV m x=true:=by
 cases h<;>first|rfl|exact hp
def aaP{mn:Gh}(hI:Inv G base nt L H mn w0 s gh w a)(hm:m<=s.H.length):∀ (l:List ResultVar) (rs:List gN) (xs:List AV) (q:Option (List (List AV))),l.length=rs.length->(∀ (j:Nat) (r:ResultVar) (i:gN),l[j]?=some r->rs[j]?=some i ->
    (∃ t,r=.tmp t/\i=.tmp t/\t<nt)\/∃ t ty g sz,r=.cell t ty/\i=.cell t g sz/\t<nt/\og P ty=some g/\fe P ty=some sz)->rr s m rs=some (xs,q) ->
    ∃ vs:List Value,l.length=vs.length/\vs.length=xs.length/\(∀ (j:Nat) (r:ResultVar) (v:Value),l[j]?=some r->vs[j]?=some v->(qh a.tmps r).run P w=.ok v w) /\
     (q=none->∀ (j:Nat) (v:Value) (x:AV),vs[j]?=some v->xs[j]?=some x->VR gh m w v x) /\
     ∀ e,q=some e->∃ b g,b<nt/\s.T b=.lsl g e/\e≠[]/\(e.all fun r=>r.all AV.plain)=true/\∀ (j:Nat) (v:Value) (x:AV),vs[j]?=some v->xs[j]?=some x->VR gh m w v x\/(x=.sref m 0 e.length (Xi e)/\v=gv a b):=by
 intro l
 induction l with
 | nil =>
  intro rs xs q hl _ h;have:=axm.1 (cJ hl.symm)
  subst this;simp only[rr,aw2,aw6] at h;obtain⟨rfl,rfl⟩:=h
  simp_all
 | cons rv l ih =>
  intro rs xs q hl hc h;cases rs with
  | nil=>simp at hl
  | cons i rs =>
   simp only[rr,aw1] at h;obtain⟨⟨ys,q'⟩,RZ,h⟩:=h;obtain⟨vs,k1,k2,k3,k4,k5⟩:=ih rs ys q' (cJ hl) (fun j r i hr hi=>hc (j+1) r i (cJ hr) (cJ hi)) RZ
   have Zz:=hc 0 rv i rfl rfl;have runs:∀ v,(qh a.tmps rv).run P w=.ok v w->∀ (j:Nat) (r:ResultVar) (u:Value),(rv :: l)[j]?=some r->(v :: vs)[j]?=some u->(qh a.tmps r).run P w=.ok u w:=by
    intro v h1 j r u hr hu;cases j with
    | zero=>simp at hr hu;subst hr hu;exact h1
    | succ j=>exact k3 j r u (cJ hr) (cJ hu)
   split at h
   ·rename_i b bQ
    split at h
    ·rename_i gg e hT
     obtain⟨h0,h⟩:=ay h;simp only[aw4,ayN,axq,ay8] at h0;simp only[aw2,aw6] at h;obtain⟨rfl,rfl⟩:=h;obtain⟨⟨hq',da⟩,gI⟩:=h0
     rcases Zz with ⟨t,rfl,rfl,ht⟩|⟨t,ty,g,sz,rfl,rfl,_⟩
     ·have hb:b<nt/\gv a t=gv a b:=by
       simp only[oR] at bQ;have qu:=hI.F.slot t ht
       change SR gh s.H.length nt w s.T s.gen (gv a) t (gv a t) (s.T t) at qu
       split at bQ
       ·injection bQ with bQ;subst bQ;exact⟨ht,rfl⟩
       ·rename_i b' g Dz
        rw[Dz] at qu;obtain⟨iG,_,hv⟩:=qu;split at bQ
        ·rename_i g' e' Ge
         obtain⟨h0,bQ⟩:=ay bQ;injection bQ with bQ
         subst bQ;have KZ:g=g':=by simpa [im] using h0
         exact⟨iG,hv (by rw[Ge,KZ];rfl)⟩
        ·cases bQ
       ·cases bQ
      refine⟨gv a t :: vs,by simp[k1],by simp[k2],runs _ rfl,(fun h=>by cases h),fun e' y3=>?_⟩
      injection y3 with y3
      subst y3;refine⟨b,gg,hb.1,hT,da,gI,fun j u x hu hx=>?_⟩
      cases j with
      | zero=>simp at hu hx;subst hu hx;exact .inr ⟨rfl,hb.2⟩
      | succ j=>exact .inl (k4 hq' j u x (cJ hu) (cJ hx))
     ·cases bQ
    ·cases h
   ·simp only[oX] at h;obtain⟨z,hz,h0,rfl,rfl⟩:=h
    obtain⟨v,h1,h2⟩:=Fo (P:=P) hI.W hI.F Zz hz;have hv:VR gh m w v z.cU:=by
     rcases h2 with ⟨t,_,_,_,_,oT⟩|IA
     ·exact (my oT.dropped).dU h0
     ·exact (my IA.dropped).dU h0
    refine⟨v :: vs,by simp[k1],by simp[k2],runs v h1,fun hq j u x hu hx=>?_,fun e he=>?_⟩
    ·cases j with
     | zero=>simp at hu hx;subst hu hx;exact hv
     | succ j=>exact k4 hq j u x (cJ hu) (cJ hx)
    ·obtain⟨b,g,c1,c2,c3,c4,c5⟩:=k5 e he
     refine⟨b,g,c1,c2,c3,c4,fun j u x hu hx=>?_⟩
     cases j with
     | zero=>simp at hu hx;subst hu hx;exact .inl hv
     | succ j=>exact c5 j u x (cJ hu) (cJ hx)
theorem abq{mn:Gh}(mB:clean mn)(hI:Inv G base nt L H mn w0 s gh w a)(hc:ki P nt fn.results.toList=some rs){c:Option fw}(hold:∀ a8 w',aY G base s.H a8 w'->Bi s.H H.length a8 w')(he:qZ H.length rs s=some (r,c)) :
  ∃ v a8,(results fn a.tmps).run P w=.ok v w/\pM G base H mn w0 r c v a8 w:=by
 obtain⟨apU,xs,e,hq,rfl,rfl⟩:=Du he;obtain⟨hl,rj⟩:=kK hc;have hlen:=hI.lo.len;obtain⟨vs,k1,k2,k3,_,k5⟩:=aaP (P:=P) hI hlen _ _ xs (some e) hl rj hq;obtain⟨b,g,hb,hT,da,gI,jn⟩:=k5 e rfl;have dI:=lg (P:=P) (w:=w) (fn:=fn) (tmps:=a.tmps) k1 k3;rw[dif_neg (by intro h;apply apU;rw[<- hl,k1];simpa using h)] at dI
 obtain⟨ad,cap,hV,⟨h0,_⟩|⟨k,C,ty,sz,_,rfl,hκ,hS,hk,hC,hle,hr,iz⟩⟩:=qm hI.F hb hT
 ·exact absurd h0 da
 have afw:=(axb.1 hk).1;have hWp:=hI.W.Jc hlen (hold _ _ hI.W);have PE:(s.H.take H.length).length=H.length:=df;have bQ:∀ r∈e,r.length=sz:=fun r hm=>by obtain⟨i,hi⟩:=axu hm;exact hr i r hi
 have h0:gh.κ k≠.none:=by rw[hκ];simp
 have h1:gh.κ k≠.outer:=by rw[hκ];simp
 have ht:∀ l,l<(s.H.take H.length).length->gh.κ k≠.hb l/\∀ j,gh.κ k≠.hs l j:=fun l _=>by rw[hκ];simp
 have n9:=hWp.nh hk hS h0 ht (cs:=e.flatten) (by rw[By e bQ,hC];exact axg _ hle)
  (fun j u x hu hx=>by
   obtain⟨i,j',r,e1,e2,rfl⟩:=xK e j x bQ hx;obtain⟨u',IM,hp⟩:=iz i j' r x e1 e2;rw[hu] at IM;injection IM with IM
   subst IM;exact⟨hp.fJ,.plain _ _ hp⟩)
  (aw8.2 fun x hx=>by
   obtain⟨j,hj⟩:=axu hx;obtain⟨i,j',r,e1,e2,_⟩:=xK e j x bQ hj;obtain⟨u',_,hp⟩:=iz i j' r x e1 e2;exact hp.afk (aw8.1 (aw8.1 gI r (axc e1)) x (axc e2)) _)
 rw[PE] at n9;have FF:=sR hI.W afw (m:=H.length) (Nat.le_refl H.length);have hE:Ext H.length gh w (gh.nh k H.length) w:=⟨FF.mono (fun r h=>by rw[h];exact⟨h0,h1⟩),fun b' iG=>by
  have kG:(if b'=k then bF.hb H.length else gh.κ b')=.outer:=iG
  split at kG
  ·cases kG
  ·exact kG⟩
 have Bz:=hI.E.trans hE (Nat.le_refl _);have u9:(qC H (some ⟨s.H.take H.length++[.box bz e.flatten],s.lo⟩)).length=H.length+1:=by simp[qC];omega
 refine⟨_,_,dI,by rw[u9];omega,n9,?_,Bz.out,?_⟩
 ·have st:=Bz.step
  refine⟨st.S,st.cell,st.size,st.os,st.tape,st.output,fun b hb hn=>st.oo b hb (fun ht=>hn ?_),st.fresh,st.ρ,st.len,st.mp⟩
  rcases mB b with h|h|h|h
  ·exact absurd h ht.1
  ·exact absurd h ht.2
  ·exact .inl h
  ·exact .inr h
 ·rw[u9]
  refine .inl (.tuple vs.toArray xs (cJ k2) (fun j v x hv hx=>?_))
  rcases jn j v x (cJ hv) hx with h|⟨rfl,rfl⟩
  ·exact h.mono FF (Nat.le_succ _)
  ·rw[hV]
   have hρ:(gh.nh k H.length).ρ H.length=k:=by simp[Gh.nh]
   have hrw:Xi e=sz:=by
    cases e with
    | nil=>exact absurd rfl da
    | cons r0 e=>simp[Xi,bQ r0 (List.mem_cons_self ..)]
   have:=VR.sref (gh:=gh.nh k H.length) (w:=w) (n:=H.length+1) H.length 0 e.length cap (Xi e) af hle (fun _=>⟨ty,by rw[hρ];exact⟨C,(0,0),hk,by rw[hC,hrw,axC]⟩⟩)
   rw[hρ] at this;exact this
theorem abo{mn:Gh}(mB:clean mn)(hI:Inv G base nt L H mn w0 s gh w a)(hc:ki P nt fn.results.toList=some rs){c:Option fw}(hold:∀ a8 w',aY G base s.H a8 w'->Bi s.H H.length a8 w')(he:tz H.length rs s=some (r,c)) :
  ∃ v a8,(results fn a.tmps).run P w=.ok v w/\pM G base H mn w0 r c v a8 w:=by
 obtain⟨i,l,off,n,z,Ys,cs,PH,ak0,hH,hml,gI,rfl,rfl⟩:=Ds he;obtain⟨hl,rj⟩:=kK hc;have hlen:=hI.lo.len;rw[PH] at hl;obtain⟨rv,RS⟩:∃ rv,fn.results.toList=[rv]:=ayl.1 (cJ hl);have Zz:=rj 0 rv i (by rw[RS];rfl) (by rw[PH];rfl)
 obtain⟨v,h1,h2⟩:=Fo (P:=P) hI.W hI.F Zz ak0;have hv:VR gh s.H.length w v (.sref l off n z):=by
  rcases h2 with ⟨t,_,_,_,_,oT⟩|IA
  ·exact oT.dropped
  ·exact IA
 obtain⟨_,cap,hk,hz,rfl⟩:=hv.kS;have dI:=lg (P:=P) (w:=w) (fn:=fn) (tmps:=a.tmps) (vs:=[.slice (some ⟨gh.ρ l,off,none⟩) n cap]) (by rw[RS];rfl) (fun j r' v' hr hv=>by
  rw[RS] at hr;cases j with
  | zero=>simp at hr hv;subst hr hv;exact h1
  | succ j=>simp at hr)
 obtain⟨hκ,hS,C,ty,hb,hC,iz⟩:=hI.W.boxes l _ cs hH;have afw:=(axb.1 hb).1;have hWp:=hI.W.Jc hlen (hold _ _ hI.W);have PE:(s.H.take H.length).length=H.length:=df;have h0:gh.κ (gh.ρ l)≠.none:=by rw[hκ];simp
 have Yc:gh.κ (gh.ρ l)≠.outer:=by rw[hκ];simp
 have n9:=hWp.aef hb hS h0 (fun l' Gg=>by rw[hκ];rw[PE] at Gg;exact⟨by intro e;injection e with e;omega,ae⟩) (cs:=cs) hC (fun j u x hu hx=>by
  obtain⟨k1,k2⟩:=iz j u x hu hx;have hp:=aw8.1 gI x (axc hx);have:=k2.dropped
  rw[wU hp] at this;exact⟨k1,.plain _ _ (this.me hp)⟩)
 rw[PE] at n9;have FF:=sR hI.W afw (m:=H.length) (Nat.le_refl H.length);have hE:Ext H.length gh w (gh.nh (gh.ρ l) H.length) w:=⟨FF.mono (fun r h=>by rw[h];exact⟨h0,Yc⟩),fun b' iG=>by
  have kG:(if b'=gh.ρ l then bF.hb H.length else gh.κ b')=.outer:=iG
  split at kG
  ·cases kG
  ·exact kG⟩
 have Bz:=hI.E.trans hE (Nat.le_refl _);have u9:(qC H (some ⟨s.H.take H.length++[.bR cs],s.lo⟩)).length=H.length+1:=by simp[qC];omega
 refine⟨_,_,cJ dI,by rw[u9];omega,n9,?_,Bz.out,?_⟩
 ·have st:=Bz.step
  refine⟨st.S,st.cell,st.size,st.os,st.tape,st.output,fun b hb hn=>st.oo b hb (fun ht=>hn ?_),st.fresh,st.ρ,st.len,st.mp⟩
  rcases mB b with h|h|h|h
  ·exact absurd h ht.1
  ·exact absurd h ht.2
  ·exact .inl h
  ·exact .inr h
 ·rw[u9]
  have hρ:(gh.nh (gh.ρ l) H.length).ρ H.length=gh.ρ l:=by simp[Gh.nh]
  have:=VR.sref (gh:=gh.nh (gh.ρ l) H.length) (w:=w) (n:=H.length+1) H.length off n cap z af hk (fun hz0=>by rw[hρ];exact hz hz0)
  rw[hρ] at this;exact .inl this
def rP(H:aa)(m k l:Nat):Option (List AV) :=
 ((H[l]?).bind qe).bind fun cs=>cond (cs.all fun x=>(fP H m k x.drop).plain&&kD x) (some (cs.map fun x=>fP H m k x.drop)) none
def aoH(gh:Gh)(H:aa)(m:Nat)(b o:Nat):Prop:=gh.S b o\/∃ k l cs,m<=l/\rP H m k l=some cs/\gh.ρ l=b/\o<cs.length
def Gh.Zs(gh:Gh)(H:aa)(m:Nat):Gh:={ gh with S:=aoH gh H m }
theorem tC{k:Nat}(h:rP H m k l=some cs):∃ o ds,H[l]?=some o/\qe o=some ds/\cs=ds.map (fun x=>fP H m k x.drop)/\∀ x,x∈ds->(fP H m k x.drop).plain=true/\kD x=true:=by
 unfold rP at h;simp only[aw1] at h
 grind
def Og(hW:aY G base H gh w){o:bG}{ds:List AV}(ho:H[l]?=some o)(hd:qe o=some ds):iL gh H.length w (gh.ρ l) (.hb l) (fun j=>.hs l j) ds:=by
 cases o<;>simp only[qe,reduceCtorEq,aw2] at hd
 ·subst hd;exact hW.boxes l _ _ ho
 ·subst hd;exact hW.more l _ ho
def yT(hW:aY G base H gh w)(m n:Nat):Step (fun r=>∃ l,m<=l/\r=.hb l) n gh w (gh.Zs H m) w:=by
 refine⟨fun b o h=>.inl h,fun _ _ _=>rfl,Nat.le_refl _,rfl,rfl,rfl,fun b hb hn=>⟨.inl rfl,rfl,fun o ho=>?_⟩,fun b hb=>hW.cg b hb,fun _ _=>rfl,fun _ _ _ h=>h,fun _ _ _ _ h=>h⟩
 rcases ho with ho|⟨k,l,cs,hl,hf,hρ,_⟩
 ·exact ho
 ·exfalso
  obtain⟨o',ds,PF,hd,_⟩:=tC hf;exact hn ⟨l,hl,by rw[<- hρ];exact (Og hW PF hd).1⟩
theorem Dy(hW:aY G base H gh w){k:Nat}(hV:∀ {v:Value} {x:AV},VR gh H.length w v x->VR (gh.Zs H m) H.length w v (fP H m k x))(hm:m<=l)(hf:rP H m k l=some cs){x:AV}(hx:cs[j]?=some x) :
  ∃ v,w.cell? ⟨gh.ρ l,j,none⟩=some v/\PR (gh.Zs H m).S w v x/\(gh.Zs H m).S (gh.ρ l) j/\∀ n,v≠.int .u8 n:=by
 have hf0:=hf;obtain⟨o',ds,PF,hd,rfl,dQ⟩:=tC hf;obtain⟨hκ,hS,C,Td,hb,hle,cZ⟩:=Og hW PF hd;have uY:=(aw5.1 hx).1;simp only[List.getElem?_map,aw0] at hx;obtain⟨y,hy,rfl⟩:=hx;have hj2:=(aw5.1 hy).1;have hv:C[j]?=some C[j]:=axj af;obtain⟨k1,k2⟩:=cZ j _ y hv hy;obtain⟨p1,p2⟩:=dQ y (axc hy);refine⟨C[j],by rw[cell_of_row w _ j C Td _ hb];exact hv,(hV k2.dropped).me p1,.inr ⟨k,l,_,hm,hf0,rfl,uY⟩,fun n hn=>?_⟩
 have IA:=k2.dropped;rw[hn] at IA;cases IA with
 | plain _ _ h =>
  cases y<;>simp only[AV.drop] at h<;>cases h<;>simp[kD] at p2
def uN : ∀ {n:Nat} {l:List AV} {i:Nat} {r:List AV},(chunks z n l)[i]?=some r->i<n/\r=(l.drop (i*z)).take z
 | 0,l,i,r,h=>by simp[chunks] at h
 | n+1,l,0,r,h=>by simp[chunks] at h;exact⟨af,by simp[h]⟩
 | n+1,l,i+1,r,h=>by
  simp only[chunks,axK] at h;obtain⟨h1,h2⟩:=uN h;refine⟨af,?_⟩;rw[h2,ax6,axT,azc,azw z]
def Bp : ∀ {n:Nat} {l:List AV},(chunks z n l).length=n
 | 0,l=>rfl
 | n+1,l=>by simp[chunks,Bp]
theorem Cv(hW:aY G base H gh w){m:Nat} : ∀ (k:Nat) {v:Value} {x:AV},VR gh H.length w v x->VR (gh.Zs H m) H.length w v (fP H m k x)
 | 0,v,x,h=>h.mono (yT hW m _) (Nat.le_refl _)
 | d+1,v,x,h=>by
  have ih:=@Cv hW m d;have h0:=h.mono (yT hW m _) (Nat.le_refl _);unfold fP;split
  ·rename_i l off k z
   cases hb:Nat.ble m l with
   | false=>exact h0
   | true =>
    rw[cond_true];split
    ·rename_i ds hds
     cases kG:(Nat.blt 0 z&&Nat.ble (off+k*z) ds.length&&ds.all fun x=>(fP H m d x.drop).plain&&kD x) with
     | false=>exact h0
     | true =>
      rw[cond_true];simp only[aw4,axp,axv] at kG;obtain⟨⟨hz,hle⟩,dQ⟩:=kG;have iz:rP H m d l=some (ds.map fun x=>fP H m d x.drop):=by
       unfold rP
       grind
      generalize hcc:ds.map (fun x=>fP H m d x.drop)=cs at *
      obtain⟨_,cap,hk,_,rfl⟩:=h.kS;have hml:m<=l:=by simpa [axv] using hb
      have cell:∀ {i j:Nat} {r:List AV} {y:AV},(chunks z k (cs.drop off))[i]?=some r->r[j]?=some y->i<k/\j<z/\cs[off+i*z+j]?=some y:=by
       intro i j r y hi hj;obtain⟨h1,rfl⟩:=uN hi
       grind
      have hlen:cs.length=ds.length:=by rw[<- hcc];simp
      refine .plain _ _ (.slice (gh.ρ l) off k cap z _ (fun i j=>(w.cell? ⟨gh.ρ l,off+i*z+j,none⟩).getD undef) Bp hk (fun i r hi=>?_) (fun i j r y hi hj=>?_) (fun i j r y hi hj=>?_))
      ·obtain⟨h1,rfl⟩:=uN hi
       have:(i+1)*z<=k*z:=axg _ h1
       grind
      ·obtain⟨_,_,hc⟩:=cell hi hj
       obtain⟨u,k1,k2,k3,_⟩:=Dy hW ih hml iz hc;exact⟨k3,by rw[k1];rfl,by rw[k1];exact k2.fJ⟩
      ·grind [Dy]
    ·exact h0
  ·exact h0
theorem Pr(hW:aY G base H gh w){x:AV}(h:VR gh H.length w v x):VR (gh.Zs H m) H.length w v (Nj H m x):=by
 unfold Nj;split
 ·rename_i cs
  obtain⟨C,rfl,hs,gV,hc⟩:=h.mo;refine .agg C _ (cJ hs) gV (fun j v x hv hx=>?_)
  grind [Cv]
 ·exact Cv hW Gd h
theorem ajW(hW:aY G base H gh w)(hm:m<=H.length)(hold:Bi H m gh w):aY G base (H.take m) (gh.Zs H m) w:=by
 have RE:=hW.Jc hm hold;have ac0:(H.take m).length=m:=df;have st:=yT hW m (H.take m).length;have ht:∀ l,l<m->¬ (∃ k,m<=k/\bF.hb l=.hb k)/\∀ j,¬ (∃ k,m<=k/\bF.hs l j=.hb k):=by
  grind
 have lt:∀ {l:Nat} {o:bG},(H.take m)[l]?=some o->l<m:=fun h=>by have:=(aw5.1 h).1;omega
 refine⟨RE.size,fun b o ho=>?_,RE.ru,fun g j x hx=>?_,fun loc ty cs hl=>?_,RE.refs,RE.Cg,RE.mw st (fun b o n ho=>?_),fun loc o hl=>?_,fun loc ty cs hl=>RE.types loc ty cs hl⟩
 ·rcases ho with ho|⟨k,l,cs,hl,hf,rfl,_⟩
  ·exact hW.qj b o ho
  ·obtain⟨o',ds,PF,hd,_⟩:=tC hf
   obtain⟨_,_,C,Td,hb,_⟩:=Og hW PF hd
   grind
 ·obtain⟨v,h1,h2,h3⟩:=RE.aX g j x hx
  exact⟨v,h1,h2.mono st.S st.cell st.mp,st.S g j h3⟩
 ·exact (RE.boxes loc ty cs hl).mono st (Nat.le_refl _) (ht loc (lt hl)).1 (ht loc (lt hl)).2
 ·rcases ho with ho|⟨k,l,cs,hl,hf,rfl,aP⟩
  ·exact .inl ho
  ·refine .inr fun hc=>?_
   obtain⟨v,k1,_,_,k4⟩:=Dy hW (Cv hW k) hl hf (aw3 aP)
   grind
 ·exact (RE.more loc o hl).mono st (Nat.le_refl _) (ht loc (lt hl)).1 (ht loc (lt hl)).2
theorem abp{mn:Gh}(mB:clean mn)(hI:Inv G base nt L H mn w0 s gh w a)(hc:ki P nt fn.results.toList=some rs){c:Option fw}(hold:∀ a8 w',aY G base s.H a8 w'->Bi s.H H.length a8 w')(he:tA H.length rs s=some (r,c)) :
  ∃ v a8,(results fn a.tmps).run P w=.ok v w/\pM G base H mn w0 r c v a8 w:=by
 obtain⟨hr,uu,yo⟩:=Dt he;have hlen:=hI.lo.len;have jm:=(Pm hI.lo yo).2;have uZ:(qC H c).length=H.length:=by rw[jm];simp;omega
 have FF:=yT hI.W H.length H.length;have Mq:Ext H.length gh w (gh.Zs s.H H.length) w:=⟨FF.mono (fun r h=>by obtain⟨l,_,rfl⟩:=h;exact⟨ae,ae⟩),fun b hb=>hb⟩
 have fin:∀ {v:Value},(results fn a.tmps).run P w=.ok v w->VR (gh.Zs s.H H.length) s.H.length w v r->∃ v a8,(results fn a.tmps).run P w=.ok v w/\pM G base H mn w0 r c v a8 w:=by
  intro v h1 h4;have hE:=hI.E.trans Mq (Nat.le_refl _);refine⟨v,_,h1,Nat.le_of_eq uZ.symm,by rw[jm];exact ajW hI.W hlen (hold _ _ hI.W),?_,hE.out,by rw[uZ];exact .inl (h4.leaves uu)⟩
  have st:=hE.step;refine⟨st.S,st.cell,st.size,st.os,st.tape,st.output,fun b hb hn=>st.oo b hb (fun ht=>hn ?_),st.fresh,st.ρ,st.len,st.mp⟩
  rcases mB b with h|h|h|h
  ·exact absurd h ht.1
  ·exact absurd h ht.2
  ·exact .inl h
  ·exact .inr h
 obtain⟨hl,rj⟩:=kK hc;have one:∀ (rv:ResultVar) (v:Value),fn.results.toList=[rv]->(qh a.tmps rv).run P w=.ok v w->(results fn a.tmps).run P w=.ok v w:=by
  intro rv v h1 h2;have:=lg (P:=P) (w:=w) (fn:=fn) (tmps:=a.tmps) (vs:=[v]) (by rw[h1];rfl) (fun j r' v' hr hv=>by
   rw[h1] at hr;cases j with
   | zero=>simp at hr hv;subst hr hv;exact h2
   | succ j=>simp at hr)
  simpa using this
 unfold wq at hr;split at hr
 ·rename_i i
  have NF:([i]:List gN)=[i]:=rfl;rw[NF] at hl;obtain⟨rv,RS⟩:∃ rv,fn.results.toList=[rv]:=ayl.1 (cJ hl);have Zz:=rj 0 rv i (by rw[RS];rfl) (by rw[NF];rfl)
  simp only[aw0] at hr;obtain⟨z,hz,rfl⟩:=hr;obtain⟨v,h1,h2⟩:=Fo (P:=P) hI.W hI.F Zz hz;have hv:VR gh s.H.length w v z.cU:=by
   rcases h2 with ⟨t,_,_,_,_,oT⟩|IA
   ·exact my oT.dropped
   ·exact my IA.dropped
  exact fin (one _ _ RS h1) (Pr hI.W hv)
 ·rename_i da
  simp only[aw0] at hr;obtain⟨xs,hxs,rfl⟩:=hr;obtain⟨vs,k1,k2,k3,k4⟩:=Jh (P:=P) hI.W hI.F _ _ xs hl rj hxs;have II:vs.length≠1:=by
   intro h;rw[<- k1,hl] at h;obtain⟨i,hi⟩:=ayl.1 h;exact da i hi
  have dI:=lg (P:=P) (w:=w) (fn:=fn) (tmps:=a.tmps) k1 k3;rw[dif_neg (cJ II)] at dI;refine fin dI (.tuple vs.toArray _ (cJ k2) (fun j v x hv hx=>?_))
  simp only[List.getElem?_map,aw0] at hx;obtain⟨y,hy,rfl⟩:=hx;exact Pr hI.W (k4 j v y (cJ hv) hy)
theorem abn{mn:Gh}(mB:clean mn)(hI:Inv G base nt L H mn w0 s gh w a)(hc:ki P nt fn.results.toList=some rs){c:Option fw}(he:xJ rs s=some (r,c)) :
  ∃ v a8,(results fn a.tmps).run P w=.ok v w/\pM G base H mn w0 r c v a8 w:=by
 obtain⟨da,xs,hxs,rfl,rfl⟩:=Dr he;obtain⟨hl,rj⟩:=kK hc;obtain⟨vs,k1,k2,k3,k4⟩:=Jh (P:=P) hI.W hI.F _ _ xs hl rj hxs;have II:vs.length≠1:=by
  grind
 have dI:=lg (P:=P) (w:=w) (fn:=fn) (tmps:=a.tmps) k1 k3;rw[dif_neg (cJ II)] at dI;refine⟨_,gh,dI,hI.lo.len,hI.W,?_,hI.E.out,.inl (.tuple vs.toArray xs (cJ k2) (fun j v x hv hx=>k4 j v x (cJ hv) hx))⟩
 have st:=hI.E.step;refine⟨st.S,st.cell,st.size,st.os,st.tape,st.output,fun b hb hn=>st.oo b hb (fun ht=>hn ?_),st.fresh,st.ρ,st.len,st.mp⟩
 rcases mB b with h|h|h|h
 ·exact absurd h ht.1
 ·exact absurd h ht.2
 ·exact .inl h
 ·exact .inr h
theorem SI{mn:Gh}(RE:aY G base H ghI wI)(mB:clean mn)(hI:Inv G base nt L H mn w0 s gh w a)(hc:ki P nt fn.results.toList=some qA.results){c:Option fw}(he:finish H.length qA s=some (r,c)) :
  jH H c/\∃ v a8,(results fn a.tmps).run P w=.ok v w/\pM G base H mn w0 r c v a8 w:=by
 refine⟨Dv hI.lo he,?_⟩
 rcases Bx he with ⟨r0,he,hr⟩|he
 case inr=>exact abn mB hI hc he
 suffices hs:∃ v a8,(results fn a.tmps).run P w=.ok v w/\pM G base H mn w0 r0 c v a8 w by
  obtain⟨v,a8,k1,k2⟩:=hs
  rcases hr with rfl|rfl
  ·exact⟨v,a8,k1,k2⟩
  ·exact⟨v,a8,k1,{ k2 with val:=aaF k2.val }⟩
 clear hr;obtain⟨ho,he⟩:=Dw he;have hold:∀ a8 w',aY G base s.H a8 w'->Bi s.H H.length a8 w':=fun a8 w' h=>ahd RE hI.lo ho h
 rcases he with he|he|he|he
 ·grind [abo]
 ·exact (OB mB hI hc hold he).2
 ·grind [abq]
 ·grind [abp]
section
variable {cf:fX}(uq:∀ f args H r c,cf f args H=some (r,c)->jH H c)
include uq
theorem Ur{z:AV}{s:AS}(he:Dm G cf s o=some (z,s1))(h:iB H s):iB H s1:=by
 have dI:((br G cf s o.op).bind fun r=>match r.2 with
   | none=>some (r.1,s)
   | some s'=>some (r.1,s'))=some (z,s1)->iB H s1:=by
  intro h1;simp only[aw1] at h1
  grind [Pe]
 unfold Dm at he
 grind
theorem Ku:∀ (is:List aQ) (s s' : AS),gr G cf is s=some s'->iB H s->iB H s'
 | [],s,s',he,h=>by simp only[gr,aw2] at he;rw[<- he];exact h
 | o :: r,s,s',he,h=>by
  simp only[gr,aw1,xG,aw0] at he;obtain⟨s1,⟨⟨z,s2⟩,hz,rfl⟩,he⟩:=he;have h2:=Ur uq hz h;exact Ku r _ s' he (h2.qT (nG _ _ _).1 (nG _ _ _).2.2)
theorem xE(n:Nat):∀ (c:aG) (s s' : AS) (ex:bB),kF G cf n c s=some (ex,s')->iB H s->iB H s'
 | .skip,s,s',ex,he,h=>by simp only[kF,aw2,aw6] at he;rw[<- he.2];exact h
 | .region ops,s,s',ex,he,h=>by
  simp only[kF,aw0,aw6] at he
  grind [Ku]
 | .seq a b,s,s',ex,he,h=>by
  simp only[kF,aw1] at he;obtain⟨⟨e1,s1⟩,h1,he⟩:=he;have h2:=xE n a s s1 e1 h1 h;cases e1 with
  | normal=>exact xE n b s1 s' ex he h2
  | _=>simp only[aw2,aw6] at he;rw[<- he.2];exact h2
 | .cond c a b,s,s',ex,he,h=>by
  simp only[kF] at he;split at he
  ·rename_i t _
   cases t with
   | true=>exact xE n a s s' ex he h
   | false=>exact xE n b s s' ex he h
  ·cases he
 | .block id a,s,s',ex,he,h=>by
  simp only[kF,aw0] at he;obtain⟨⟨e1,s1⟩,h1,he⟩:=he;have h2:=xE n a s s1 e1 h1 h
  grind
 | .loop a,s,s',ex,he,h=>by
  simp only[kF] at he;have go:∀ (m:Nat) (s:AS),iter (kF G cf n a) m s=some (ex,s')->iB H s->iB H s':=by
   intro m
   induction m with
   | zero=>intro s h;cases h
   | succ m ih =>
    intro s h1 h;simp only[iter,aw1] at h1;obtain⟨⟨e1,s1⟩,h1,h2⟩:=h1;have h3:=xE n a s s1 e1 h1 h
    grind
  exact go n s he h
 | .exit id,s,s',ex,he,h=>by simp only[kF,aw2,aw6] at he;rw[<- he.2];exact h
 | .ret,s,s',ex,he,h=>by simp only[kF,aw2,aw6] at he;rw[<- he.2];exact h
 | .rD _ _,s,s',ex,he,h=>by simp[kF] at he
end
def Gh.taken(gh:Gh):Gh:={ gh with κ:=fun b=>match gh.κ b with|.par j=>.sl j|o=>o }
def alQ(p:bF):Prop:=∃ j,p=.par j
def yh(hW:aY G base H gh w)(n:Nat):Step alQ n gh w gh.taken w:=by
 refine⟨fun _ _ h=>h,fun _ _ _=>rfl,Nat.le_refl _,rfl,rfl,rfl,fun b hb hn=>⟨.inl rfl,?_,fun _ h=>h⟩,fun b hb=>?_,fun _ _=>rfl,fun _ _ _ h=>h,fun _ _ _ _ h=>h⟩
 ·simp only[Gh.taken]
  cases h:gh.κ b<;>first|rfl|skip
  exact absurd ⟨_,h⟩ hn
 ·simp only[Gh.taken,hW.fresh b hb]
  simp
def abQ(hW:aY G base H gh w):aY G base H gh.taken w:=by
 refine hW.step (yh hW H.length) (fun l=>⟨fun h=>(by obtain⟨j,h⟩:=h;cases h),fun k h=>(by obtain⟨j,h⟩:=h;cases h)⟩) hW.qj (fun b hb=>hW.ru b fun h=>hb ?_) (fun _ _ _ h=>.inl h)
 simp[Gh.taken,h]
theorem XM(hW:aY G base H gh w){n:Nat}{x:AV}(h:CR gh n w (.par j) v x):CR gh.taken n w (.sl j) v x:=by
 have st:=yh hW n
 rcases h with h|⟨e,rfl,h1,h2⟩
 ·exact .inl (h.mono st (Nat.le_refl _))
 ·refine .inr ⟨e,rfl,h1,?_⟩
  obtain⟨b,cap,C,ty,lo,hi,sz,k1,k2,k3,k4,k5⟩:=h2;exact⟨b,cap,C,ty,lo,hi,sz,k1,by simp[Gh.taken,k2],k3,k4,k5⟩
theorem VD{H:aa}{locals muts:List Nat}{args:List AV}{gh:Gh}{w:World}{vs:Array Value}(hW:aY G base H gh w)(Gk:vs.size=args.length)(j7:vs.size<=fn.ntmps)(dh:∀ (j:Nat) (v:Value) (x:AV),vs[j]?=some v->args[j]?=some x->CR gh H.length w (.par j) v x) :
  Inv G base fn.ntmps (locals++muts) H gh w ({ T:=dO args,H,lo:=H.length,gen:=0 } : AS) gh.taken w { tmps:=vs++Array.replicate (fn.ntmps-vs.size) undef,defers:=[] }:=by
 have gl:∀ b,w.heap.size<=b->gh.κ b≠.outer:=fun b hb=>hW.cg b hb
 have hE:Ext H.length gh w gh.taken w:=⟨(yh hW H.length).mono (fun p hp=>by obtain⟨j,rfl⟩:=hp;simp[sG]),fun b hb=>by
  simp only[Gh.taken] at hb;cases h:gh.κ b<;>rw[h] at hb<;>first|exact hb|cases hb⟩
 refine⟨abQ hW,⟨⟨rfl,df,fun i hi=>?_⟩,fun i hi=>?_⟩,hE,⟨Nat.le_refl _,Nat.le_refl _,fun _ _=>rfl⟩⟩
 ·have oT:CR gh.taken H.length w (.sl i) ((vs++Array.replicate (fn.ntmps-vs.size) undef).getD i undef) (dO args i):=by
   by_cases aP:i<vs.size
   ·have h1:=axj aP
    have h2:=aw3 (show i<args.length by omega)
    have h3:=dh i _ _ h1 h2;have e1:(vs++Array.replicate (fn.ntmps-vs.size) undef).getD i undef=vs[i]:=by
     rw[Array.getD_eq_getD_getElem?,Array.getElem?_append_left aP,h1];rfl
    have e2:dO args i=args[i]:=by simp only[dO,List.getD_eq_getElem?_getD,h2];rfl
    grind [XM]
   ·have e1:(vs++Array.replicate (fn.ntmps-vs.size) undef).getD i undef=undef:=by
     simp_all
    have e2:dO args i=.undef:=by simp only[dO,List.getD_eq_getElem?_getD,List.getElem?_eq_none (show args.length<=i by omega)];rfl
    rw[e1,e2];exact .inl .undef
  exact qo oT.aO oT
 ·exfalso
  have hn:dY (dO args i)=none:=by
   by_cases aP:i<args.length
   ·have h1:=axj (show i<vs.size by omega)
    have h2:=aw3 aP;have e2:dO args i=args[i]:=by simp only[dO,List.getD_eq_getElem?_getD,h2];rfl
    rw[e2];exact ml (dh i _ _ h1 h2).aO
   ·have e2:dO args i=.undef:=by simp only[dO,List.getD_eq_getElem?_getD,List.getElem?_eq_none (show args.length<=i by omega)];rfl
    rw[e2];rfl
  grind
def gx(P:Program)(G:Nat->List AV)(f:FuncId)(g:List AV->aa->Option (AV × Option fw)):Prop :=
 ∀ args H r c,g args H=some (r,c)->(∃ fn,P.funcs[f]?=some fn/\fn.body.isSome=true/\fn.name≠ "runtime.NumGoroutine")/\jH H c /\
  ∀ (base:Nat) (gh:Gh) (w:World) (vs:Array Value),aY G base H gh w->clean gh->vs.size=args.length->(∀ (j:Nat) (v:Value) (x:AV),vs[j]?=some v->args[j]?=some x->VR gh H.length w v x) ->
   Calls P f vs w fun e w'=>∃ v a8,e=.returned v/\pM G base H gh w r c v a8 w'
end
end
end Go.Abs
end
