/-
  A part of the proof of PrintKept: AbsDraw6.
-/
import Derived.Test.YtaedakihpnghjaaGreatDoorP09
set_option linter.unusedSimpArgs false
set_option linter.unusedVariables false
section
namespace Go.Abs
set_option linter.unusedSimpArgs false
set_option linter.unusedVariables false
structure Agr (e:Eff) (s x:AS):Prop where
 T:∀ t,t∈e.rs→x.T t=s.T t
 H:e.rh=true∨e.wh=true→x.H=s.H∧x.lo=s.lo
 G:e.wg=true→x.gen=s.gen
structure Moved (e:Eff) (s1 x x1:AS):Prop where
 T:∀ t,t∈e.ws→x1.T t=s1.T t
 T' : ∀ t,t∉e.ws→x1.T t=x.T t
 H:e.wh=true→x1.H=s1.H∧x1.lo=s1.lo
 H' : e.wh=false→x1.H=x.H∧x1.lo=x.lo
 G:e.wg=true→x1.gen=s1.gen
 G' : e.wg=false→x1.gen=x.gen
theorem Moved.stay {e:Eff} {s x:AS} (h:Agr e s x) (hw:∀ t,t∈e.ws→t∈e.rs):Moved e s x x :=
 ⟨fun t ht=>h.T t (hw t ht),fun _ _=>rfl,fun hh=>h.H (.inr hh),fun _=>⟨rfl,rfl⟩,fun hg=>h.G hg,fun _=>rfl⟩
section
variable {G:Nat→List AV} {cf:CallF} {s x:AS} {e:Eff}
theorem agr_eval (h:∀ t,t∈e.rs→x.T t=s.T t) {y:IArg} (hy:∀ t,t∈y.tmps→t∈e.rs):y.eval G x.T=y.eval G s.T:=by
 cases y<;>try rfl
 rename_i t
 exact h t (hy t (by simp[IArg.tmps]))
theorem agr_addr (h:∀ t,t∈e.rs→x.T t=s.T t) {y:IArg} (hy:∀ t,t∈y.tmps→t∈e.rs):y.addr G x.T=y.addr G s.T:=by
 cases y<;>try rfl
 rename_i t
 simp only[IArg.addr]
 rw[h t (hy t (by simp[IArg.tmps]))]
def pureOp (pc:Bool):IOp→IOp
 | .call f xs=>cond pc (.callP f xs) (.call f xs)
 | o=>o
theorem pureCall_eq (pc:Bool) (o:IOper):pureCall pc o=⟨o.dst,o.guard,pureOp pc o.op⟩:=by
 obtain⟨d,g,op⟩:=o
 cases op<;>simp only[pureCall,pureOp]
 cases pc<;>rfl
theorem setT_get (s:AS) (t:Nat) (v:AV) (k:Nat):(s.setT t v).T k=if k=t then v else s.T k:=put_T s.T t v k
theorem live_agr {c:Cls} {Y:AV} (h:liveAddr s Y=true) (hc:clsOk c Y=true) (hT:∀ b,b∈frameOf c→x.T b=s.T b):liveAddr x Y=true:=by
 cases Y<;>simp only[liveAddr] at h ⊢<;>try (cases h;done)
 case lref b g off =>
  cases c with
  | frame b' =>
   simp only[clsOk,nbeq,decide_eq_true_eq] at hc
   subst hc
   rw[hT b' (List.mem_singleton.2 rfl)];exact h
  | _=>cases hc
 case eref=>cases c<;>cases hc
theorem localOp {pc:Bool} {c:Cls} {op:IOp} (he:effOp pc c op=some e) (hc:∀ y,(∃ t a z,op=.load t a z y)∨(∃ z v,op=.store z y v)∨op=.nilCheck y∨(∃ f,op=.fieldAddr f y)∨(∃ n z i,op=.ixArr n z y i)→clsOk c (y.addr G s.T)=true)
  (hc2:∀ y,(∃ z i,op=.ixSl z y i)∨(∃ k,op=.len k y)→clsOk .heap (y.addr G s.T)=true)
  {z:AV} {so:Option AS} (hev:evOp G cf s (pureOp pc op)=some (z,so)) (ha:Agr e s x) :
  ∃ xo,evOp G cf x op=some (z,xo)∧Moved e (so.getD s) x (xo.getD x)∧(∀ t,t∈e.ws→t∈e.rs):=by
 have stay:(∀ t,t∈e.ws→t∈e.rs)→so=none→evOp G cf x op=some (z,none)→∃ xo,evOp G cf x op=some (z,xo)∧Moved e (so.getD s) x (xo.getD x)∧(∀ t,t∈e.ws→t∈e.rs):=by
  rintro hw rfl h
  exact⟨none,h,Moved.stay ha hw,hw⟩
 have ev:∀ {y:IArg},(∀ t,t∈y.tmps→t∈e.rs)→y.eval G x.T=y.eval G s.T:=fun hy=>agr_eval ha.T hy
 have ad:∀ {y:IArg},(∀ t,t∈y.tmps→t∈e.rs)→y.addr G x.T=y.addr G s.T:=fun hy=>agr_addr ha.T hy
 have none1:∀ {X:Option AV} {w:AV} {o:Option AS},X.map (fun v=>(v,(none:Option AS)))=some (w,o)→o=none:=by
  intro X w o h
  cases X with
  | none=>cases h
  | some v=>simp at h;exact h.2.symm
 cases op<;>simp only[effOp] at he<;>try (cases he;done)
 case mov take obj y =>
  cases obj with
  | true=>cases he
  | false =>
   simp only[cond_false,Option.some.injEq] at he
   subst he
   have hw:∀ t,t∈(cond take y.tmps [])→t∈y.tmps:=by cases take<;>simp
   simp only[pureOp,evOp] at hev ⊢
   cases y with
   | tmp t =>
    have ht:=ha.T t (by simp[IArg.tmps])
    simp only[evMov] at hev ⊢
    rw[ht]
    generalize s.T t=X at hev ht
    cases X
    case slice el own =>
     cases hto:(take&&own) with
     | false =>
      simp only[hto,cond_false,Option.some.injEq,Prod.mk.injEq] at hev
      obtain⟨rfl,rfl⟩:=hev
      exact⟨none,by simp only[hto,cond_false],Moved.stay ha hw,hw⟩
     | true =>
      simp only[Bool.and_eq_true] at hto
      obtain⟨rfl,rfl⟩:=hto
      simp only[Bool.and_self,cond_true,Option.some.injEq,Prod.mk.injEq] at hev
      obtain⟨rfl,rfl⟩:=hev
      refine⟨some (x.setT t (.slice el false)),rfl,⟨fun k hk=>?_,fun k hk=>?_,fun h=>(by cases h),fun _=>⟨rfl,rfl⟩,fun h=>(by cases h),fun _=>rfl⟩,hw⟩
      ·simp only[cond_true,IArg.tmps,List.mem_singleton] at hk
       simp only[Option.getD_some,setT_get,hk,if_true]
      ·simp only[cond_true,IArg.tmps,List.mem_singleton] at hk
       simp only[Option.getD_some,setT_get,if_neg hk]
    case lsl g el =>
     cases take with
     | true =>
      simp only[cond_true,cond_false] at hev
      obtain⟨h0,hev⟩:=cond_some hev
      simp only[Option.some.injEq,Prod.mk.injEq] at hev
      obtain⟨rfl,rfl⟩:=hev
      refine⟨some (x.setT t .any),by simp only[h0,cond_true,cond_false],⟨fun k hk=>?_,fun k hk=>?_,fun h=>(by cases h),fun _=>⟨rfl,rfl⟩,fun h=>(by cases h),fun _=>rfl⟩,hw⟩
      ·simp only[cond_true,IArg.tmps,List.mem_singleton] at hk
       simp only[Option.getD_some,setT_get,hk,if_true]
      ·simp only[cond_true,IArg.tmps,List.mem_singleton] at hk
       simp only[Option.getD_some,setT_get,if_neg hk]
     | false =>
      simp only[cond_false,Option.some.injEq,Prod.mk.injEq] at hev
      obtain⟨rfl,rfl⟩:=hev
      exact⟨none,rfl,Moved.stay ha hw,hw⟩
    case iter=>cases hev
    all_goals
     simp only[Option.some.injEq,Prod.mk.injEq] at hev
     obtain⟨rfl,rfl⟩:=hev
     exact⟨none,rfl,Moved.stay ha hw,hw⟩
   | _ =>
    simp only[evMov,Option.some.injEq,Prod.mk.injEq] at hev
    obtain⟨rfl,rfl⟩:=hev
    exact⟨none,rfl,Moved.stay ha hw,hw⟩
 case allocL zs =>
  simp only[Option.some.injEq] at he
  subst he
  simp only[pureOp,evOp,Option.some.injEq,Prod.mk.injEq] at hev
  obtain⟨rfl,rfl⟩:=hev
  have hg:=ha.G rfl
  refine⟨some { x with gen:=x.gen+1 },by simp only[evOp,hg],⟨fun k hk=>(by cases hk),fun _ _=>rfl,fun h=>(by cases h),fun _=>⟨rfl,rfl⟩,fun _=>?_,fun h=>(by cases h)⟩,fun k hk=>(by cases hk)⟩
  simp[hg]
 case boxL y =>
  simp only[Option.some.injEq] at he
  subst he
  simp only[pureOp,evOp,Option.map_eq_some_iff,Prod.mk.injEq] at hev
  obtain⟨cs,hcs,rfl,rfl⟩:=hev
  have hg:=ha.G rfl
  refine⟨some { x with gen:=x.gen+1 },by simp only[evOp,hg,ev (y:=y) (fun t h=>h),hcs,Option.map_some],⟨fun k hk=>(by cases hk),fun _ _=>rfl,fun h=>(by cases h),fun _=>⟨rfl,rfl⟩,fun _=>?_,fun h=>(by cases h)⟩,fun k hk=>(by cases hk)⟩
  simp[hg]
 case build zs ps =>
  simp only[Option.some.injEq] at he
  subst he
  have e1:(ps.map fun p=>(p.1,p.2.1,(p.2.2.eval G x.T).drop))=ps.map fun p=>(p.1,p.2.1,(p.2.2.eval G s.T).drop):=List.map_congr_left fun p hp=>by
   rw[ev (y:=p.2.2) (fun t h=>by simp only[IOp.tmps,List.mem_flatMap];exact⟨p,hp,h⟩)]
  simp only[pureOp,evOp,Option.map_eq_some_iff,Prod.mk.injEq] at hev
  obtain⟨E,hE,rfl,rfl⟩:=hev
  exact stay (fun t h=>by cases h) rfl (by simp only[evOp,e1,hE,Option.map_some])
 case mkslice b sz zs ps =>
  simp only[Option.some.injEq] at he
  subst he
  have e1:(ps.map fun p=>(p.1,(p.2.eval G x.T).drop))=ps.map fun p=>(p.1,(p.2.eval G s.T).drop):=List.map_congr_left fun p hp=>by
   rw[ev (y:=p.2) (fun t h=>by simp only[IOp.tmps,List.mem_flatMap];exact⟨p,hp,h⟩)]
  simp only[pureOp,evOp,Option.bind_eq_some_iff] at hev
  obtain⟨E,hE,hev⟩:=hev
  obtain⟨h0,hev⟩:=cond_some hev
  simp only[Option.some.injEq,Prod.mk.injEq] at hev
  obtain⟨rfl,rfl⟩:=hev
  exact stay (fun t h=>by cases h) rfl (by simp only[evOp,e1,hE,Option.bind_some,h0,cond_true])
 case bin o q y1 y2 =>
  simp only[Option.some.injEq] at he
  subst he
  simp only[pureOp,evOp] at hev
  have hso:=none1 hev
  subst hso
  exact stay (fun t h=>by cases h) rfl (by simp only[evOp];rw[ev (y:=y1) (fun t h=>List.mem_append.2 (.inl h)),ev (y:=y2) (fun t h=>List.mem_append.2 (.inr h))];exact hev)
 case mm o y1 y2 =>
  simp only[Option.some.injEq] at he
  subst he
  simp only[pureOp,evOp] at hev
  have hso:=none1 hev
  subst hso
  exact stay (fun t h=>by cases h) rfl (by simp only[evOp];rw[ev (y:=y1) (fun t h=>List.mem_append.2 (.inl h)),ev (y:=y2) (fun t h=>List.mem_append.2 (.inr h))];exact hev)
 case un o y =>
  simp only[Option.some.injEq] at he
  subst he
  simp only[pureOp,evOp] at hev
  have hso:=none1 hev
  subst hso
  exact stay (fun t h=>by cases h) rfl (by simp only[evOp];rw[ev (y:=y) (fun t h=>h)];exact hev)
 case nilS o y =>
  simp only[Option.some.injEq] at he
  subst he
  simp only[pureOp,evOp] at hev
  have hso:so=none:=by
   simp only[Option.map_eq_some_iff,Prod.mk.injEq] at hev
   obtain⟨_,_,_,h⟩:=hev
   exact h.symm
  subst hso
  exact stay (fun t h=>by cases h) rfl (by simp only[evOp];rw[ev (y:=y) (fun t h=>h)];exact hev)
 case slice k y lo hi mx =>
  simp only[Option.some.injEq] at he
  subst he
  simp only[pureOp,evOp] at hev
  have hso:=none1 hev
  subst hso
  have opt:∀ o:Option IArg,(∀ t,t∈o.toList.flatMap IArg.tmps→t∈(IOp.slice k y lo hi mx).tmps)→o.map (·.eval G x.T)=o.map (·.eval G s.T):=by
   intro o ho
   cases o with
   | none=>rfl
   | some q=>simp only[Option.map_some];rw[ev (y:=q) (fun t hm=>ho t (by simp[hm]))]
  exact stay (fun t h=>by cases h) rfl (by
   simp only[evOp]
   rw[ev (y:=y) (fun t hm=>by simp only[IOp.tmps,List.mem_append];exact .inl (.inl (.inl hm))),
    opt lo (fun t hm=>by simp only[IOp.tmps,List.mem_append];exact .inl (.inl (.inr hm))),
    opt hi (fun t hm=>by simp only[IOp.tmps,List.mem_append];exact .inl (.inr hm)),
    opt mx (fun t hm=>by simp only[IOp.tmps,List.mem_append];exact .inr hm)]
   exact hev)
 case conv o y =>
  simp only[Option.some.injEq] at he
  subst he
  simp only[pureOp,evOp] at hev
  have hso:=none1 hev
  subst hso
  exact stay (fun t h=>by cases h) rfl (by simp only[evOp];rw[ev (y:=y) (fun t h=>h)];exact hev)
 case pick c0 a0 b0 =>
  simp only[Option.some.injEq] at he
  subst he
  simp only[pureOp,evOp] at hev
  have h1:=ev (y:=c0) (fun t h=>by simp[h])
  have h2:=ad (y:=a0) (fun t h=>by simp[h])
  have h3:=ad (y:=b0) (fun t h=>by simp[h])
  split at hev
  ·rename_i hb
   simp only[Option.some.injEq,Prod.mk.injEq] at hev
   obtain⟨rfl,rfl⟩:=hev
   exact stay (fun t h=>by cases h) rfl (by simp only[evOp,h1,h2,h3,hb])
  ·cases hev
 case field agg off sz y =>
  simp only[Option.some.injEq] at he
  subst he
  simp only[pureOp,evOp] at hev
  have h1:=ev (y:=y) (fun t h=>h)
  split at hev
  ·rename_i hb
   have hso:=none1 hev
   subst hso
   exact stay (fun t h=>by cases h) rfl (by simp only[evOp,h1,hb];exact hev)
  ·cases hev
 case index agg n sz y i =>
  simp only[Option.some.injEq] at he
  subst he
  simp only[pureOp,evOp,Option.bind_eq_some_iff] at hev
  obtain⟨k,hk,hev⟩:=hev
  obtain⟨h0,hev⟩:=cond_some hev
  have h1:=ev (y:=y) (fun t h=>by simp[h])
  have h2:=ev (y:=i) (fun t h=>by simp[h])
  split at hev
  ·rename_i hb
   have hso:=none1 hev
   subst hso
   exact stay (fun t h=>by cases h) rfl (by simp only[evOp,h1,h2,hk,Option.bind_some,h0,cond_true,hb];exact hev)
  ·cases hev
 case indexStr y i =>
  simp only[Option.some.injEq] at he
  subst he
  simp only[pureOp,evOp] at hev
  have h1:=ev (y:=y) (fun t h=>by simp[h])
  have h2:=ev (y:=i) (fun t h=>by simp[h])
  split at hev
  ·rename_i l hb
   simp only[Option.bind_eq_some_iff,Option.map_eq_some_iff,Prod.mk.injEq] at hev
   obtain⟨k,hk,b,hbb,rfl,rfl⟩:=hev
   exact stay (fun t h=>by cases h) rfl (by simp only[evOp,h1,h2,hb,hk,Option.bind_some,hbb,Option.map_some])
  ·cases hev
 case extract y i =>
  simp only[Option.some.injEq] at he
  subst he
  simp only[pureOp,evOp] at hev
  have h1:=ev (y:=y) (fun t h=>h)
  split at hev
  ·rename_i vs hb
   simp only[Option.map_eq_some_iff,Prod.mk.injEq] at hev
   obtain⟨v,hv,rfl,rfl⟩:=hev
   exact stay (fun t h=>by cases h) rfl (by simp only[evOp,h1,hb,hv,Option.map_some])
  ·cases hev
 case load take agg sz y =>
  simp only[Option.some.injEq] at he
  subst he
  have hcl:=hc y (.inl ⟨take,agg,sz,rfl⟩)
  simp only[pureOp,evOp] at hev ⊢
  rw[ad (y:=y) (fun t h=>List.mem_append.2 (.inl h))]
  generalize y.addr G s.T=Y at hev hcl
  have hw:∀ t,t∈(cond (take&&!agg) (frameOf c) [])→t∈y.tmps++frameOf c:=by
   intro t ht
   cases hb:(take&&!agg) with
   | false=>rw[hb] at ht;cases ht
   | true=>rw[hb] at ht;exact List.mem_append.2 (.inr ht)
  cases Y<;>simp only[loadAV] at hev<;>try (cases hev;done)
  case eptr cs =>
   simp only[Option.map_eq_some_iff,Prod.mk.injEq] at hev
   obtain⟨v,hv,rfl,rfl⟩:=hev
   exact⟨none,by simp only[loadAV,hv,Option.map_some],Moved.stay ha hw,hw⟩
  case ref loc off =>
   cases c with
   | frame b=>cases hcl
   | imm=>cases hcl
   | heap =>
    obtain⟨hH,hl⟩:=ha.H (.inl rfl)
    split at hev
    ·rename_i ty cs hHl
     simp only[Option.map_eq_some_iff,Prod.mk.injEq] at hev
     obtain⟨v,hv,rfl,rfl⟩:=hev
     by_cases hta:take=true∧agg=false
     ·obtain⟨rfl,rfl⟩:=hta
      refine⟨some (x.chg ⟨s.H.set loc (.box ty (takenAt off cs)),loc⟩),by simp only[loadAV,hH,hHl,hv,Option.map_some,Bool.not_false,Bool.and_self,cond_true],⟨fun k hk=>(by cases hk),fun k hk=>rfl,fun _=>⟨rfl,?_⟩,fun h=>(by cases h),fun h=>(by cases h),fun _=>rfl⟩,hw⟩
      simp only[Bool.not_false,Bool.and_self,cond_true,Option.getD_some,AS.chg,hl]
     ·have hb:(take&&!agg)=false:=by cases take<;>cases agg<;>simp_all
      have hso:∀ A:AS,(cond (take&&!agg) (some A) none:Option AS)=none:=fun A=>by rw[hb];rfl
      rw[hso]
      exact⟨none,by simp only[loadAV,hH,hHl,hv,Option.map_some,hso],Moved.stay ha hw,hw⟩
    ·rename_i cs hHl
     simp only[Option.map_eq_some_iff,Prod.mk.injEq] at hev
     obtain⟨v,hv,rfl,rfl⟩:=hev
     exact⟨none,by simp only[loadAV,hH,hHl,hv,Option.map_some],Moved.stay ha hw,hw⟩
    ·rename_i cs hHl
     simp only[Option.map_eq_some_iff,Prod.mk.injEq] at hev
     obtain⟨v,hv,rfl,rfl⟩:=hev
     exact⟨none,by simp only[loadAV,hH,hHl,hv,Option.map_some],Moved.stay ha hw,hw⟩
    ·cases hev
  case lref b g off =>
   cases c with
   | imm=>cases hcl
   | heap=>cases hcl
   | frame b' =>
    simp only[clsOk,nbeq,decide_eq_true_eq] at hcl
    subst hcl
    have hTb:=ha.T b' (List.mem_append.2 (.inr (List.mem_singleton.2 rfl)))
    split at hev
    ·rename_i g' cs hT
     obtain⟨h0,hev⟩:=cond_some hev
     simp only[Option.map_eq_some_iff,Prod.mk.injEq] at hev
     obtain⟨v,hv,rfl,rfl⟩:=hev
     rw[hT] at hTb
     by_cases hta:take=true∧agg=false
     ·obtain⟨rfl,rfl⟩:=hta
      refine⟨some (x.setT b' (.lbox g (takenAt off cs))),by simp only[loadAV,hTb,h0,cond_true,hv,Option.map_some,Bool.not_false,Bool.and_self],⟨fun k hk=>?_,fun k hk=>?_,fun h=>(by cases h),fun _=>⟨rfl,rfl⟩,fun h=>(by cases h),fun _=>rfl⟩,hw⟩
      ·simp only[Bool.not_false,Bool.and_self,cond_true,frameOf,List.mem_singleton] at hk
       simp only[Bool.not_false,Bool.and_self,cond_true,Option.getD_some,setT_get,hk,if_true]
      ·simp only[Bool.not_false,Bool.and_self,cond_true,frameOf,List.mem_singleton] at hk
       simp only[Option.getD_some,setT_get,if_neg hk]
     ·have hb:(take&&!agg)=false:=by cases take<;>cases agg<;>simp_all
      have hso:∀ A:AS,(cond (take&&!agg) (some A) none:Option AS)=none:=fun A=>by rw[hb];rfl
      rw[hso]
      exact⟨none,by simp only[loadAV,hTb,h0,cond_true,hv,Option.map_some,hso],Moved.stay ha hw,hw⟩
    ·cases hev
  case eref=>cases c<;>cases hcl
 case nilCheck y =>
  simp only[Option.some.injEq] at he
  subst he
  have hcl:=hc y (.inr (.inr (.inl rfl)))
  simp only[pureOp,evOp] at hev ⊢
  rw[ad (y:=y) (fun t h=>List.mem_append.2 (.inl h))]
  generalize y.addr G s.T=Y at hev hcl
  obtain⟨h0,hev⟩:=cond_some hev
  simp only[Option.some.injEq,Prod.mk.injEq] at hev
  obtain⟨rfl,rfl⟩:=hev
  have h1:=live_agr h0 hcl (fun b hb=>ha.T b (List.mem_append.2 (.inr hb)))
  exact⟨none,by simp only[h1,cond_true],Moved.stay ha (fun t h=>by cases h),fun t h=>by cases h⟩
 case fieldAddr off y =>
  simp only[Option.some.injEq] at he
  subst he
  have hcl:=hc y (.inr (.inr (.inr (.inl ⟨off,rfl⟩))))
  simp only[pureOp,evOp] at hev ⊢
  rw[ad (y:=y) (fun t h=>List.mem_append.2 (.inl h))]
  generalize y.addr G s.T=Y at hev hcl
  obtain⟨h0,hev⟩:=cond_some hev
  have hso:=none1 hev
  subst hso
  have h1:=live_agr h0 hcl (fun b hb=>ha.T b (List.mem_append.2 (.inr hb)))
  exact⟨none,by simp only[h1,cond_true];exact hev,Moved.stay ha (fun t h=>by cases h),fun t h=>by cases h⟩
 case ixArr n sz y i =>
  simp only[Option.some.injEq] at he
  subst he
  have hcl:=hc y (.inr (.inr (.inr (.inr ⟨n,sz,i,rfl⟩))))
  simp only[pureOp,evOp,Option.bind_eq_some_iff] at hev ⊢
  obtain⟨k,hk,hev⟩:=hev
  rw[ad (y:=y) (fun t h=>by simp[h]),ev (y:=i) (fun t h=>by simp[h])]
  generalize y.addr G s.T=Y at hev hcl
  obtain⟨h0,hev⟩:=cond_some hev
  simp only[Bool.and_eq_true] at h0
  have hso:=none1 hev
  subst hso
  have h1:=live_agr h0.2 hcl (fun b hb=>ha.T b (by simp[hb]))
  exact⟨none,⟨k,hk,by simp only[h0.1,h1,Bool.and_self,cond_true];exact hev⟩,Moved.stay ha (fun t h=>by cases h),fun t h=>by cases h⟩
 case ixSl sz y i =>
  simp only[Option.some.injEq] at he
  subst he
  have hcl:=hc2 y (.inl ⟨sz,i,rfl⟩)
  simp only[pureOp,evOp] at hev ⊢
  rw[ad (y:=y) (fun t h=>List.mem_append.2 (.inl h)),ev (y:=i) (fun t h=>List.mem_append.2 (.inr h))]
  generalize y.addr G s.T=Y at hev hcl
  cases Y<;>try (cases hev;done)
  case slice el own =>
   simp only[Option.bind_eq_some_iff] at hev
   obtain⟨k,hk,r,hr,hev⟩:=hev
   obtain⟨h0,hev⟩:=cond_some hev
   simp only[Option.some.injEq,Prod.mk.injEq] at hev
   obtain⟨rfl,rfl⟩:=hev
   exact⟨none,by simp only[hk,Option.bind_some,hr,h0,cond_true],Moved.stay ha (fun t h=>by cases h),fun t h=>by cases h⟩
  case sref l o m zz =>
   simp only[Option.bind_eq_some_iff] at hev
   obtain⟨k,hk,hev⟩:=hev
   obtain⟨h0,hev⟩:=cond_some hev
   simp only[Option.some.injEq,Prod.mk.injEq] at hev
   obtain⟨rfl,rfl⟩:=hev
   exact⟨none,by simp only[hk,Option.bind_some,h0,cond_true],Moved.stay ha (fun t h=>by cases h),fun t h=>by cases h⟩
  case lsr=>cases hcl
 case len k y =>
  simp only[Option.some.injEq] at he
  subst he
  have hcl:=hc2 y (.inr ⟨k,rfl⟩)
  simp only[pureOp,evOp] at hev ⊢
  rw[ad (y:=y) (fun t h=>h)]
  generalize y.addr G s.T=Y at hev hcl
  cases Y
  case lsr=>cases hcl
  all_goals
   have hso:=none1 hev
   subst hso
   exact⟨none,hev,Moved.stay ha (fun t h=>by cases h),fun t h=>by cases h⟩
 case store sz y v =>
  simp only[Option.some.injEq] at he
  subst he
  have hcl:=hc y (.inr (.inl ⟨sz,v,rfl⟩))
  have hw:∀ t,t∈v.tmps++frameOf c→t∈y.tmps++v.tmps++frameOf c:=fun t ht=>by
   rcases List.mem_append.1 ht with h|h
   ·exact List.mem_append.2 (.inl (List.mem_append.2 (.inr h)))
   ·exact List.mem_append.2 (.inr h)
  have hv:=ev (y:=v) (fun t h=>List.mem_append.2 (.inl (List.mem_append.2 (.inr h))))
  have hvT:∀ t,t∈v.tmps→x.T t=s.T t:=fun t h=>ha.T t (List.mem_append.2 (.inl (List.mem_append.2 (.inr h))))
  simp only[pureOp,evOp,Option.map_eq_some_iff,Prod.mk.injEq] at hev ⊢
  obtain⟨s1,hev,rfl,rfl⟩:=hev
  rw[ad (y:=y) (fun t h=>List.mem_append.2 (.inl (List.mem_append.2 (.inl h)))),hv]
  generalize y.addr G s.T=Y at hev hcl
  have sp:∀ (s1 x1:AS),(∀ t,t∈v.tmps→x1.T t=s1.T t)→(∀ t,t∈v.tmps→(x1.spent v).T t=(s1.spent v).T t)∧(∀ t,t∉v.tmps→(x1.spent v).T t=x1.T t)∧(∀ t,t∉v.tmps→(s1.spent v).T t=s1.T t):=by
   intro s1 x1 h
   cases v with
   | tmp t0 =>
    have h0:=h t0 (by simp[IArg.tmps])
    by_cases ho:∃ el,s1.T t0=.slice el true
    ·obtain⟨el,ho⟩:=ho
     rw[spent_own s1 t0 ho,spent_own x1 t0 (h0.trans ho)]
     refine⟨fun t ht=>?_,fun t ht=>?_,fun t ht=>?_⟩
     ·simp only[IArg.tmps,List.mem_singleton] at ht
      rw[setT_get,setT_get,if_pos ht,if_pos ht]
     ·simp only[IArg.tmps,List.mem_singleton] at ht
      rw[setT_get,if_neg ht]
     ·simp only[IArg.tmps,List.mem_singleton] at ht
      rw[setT_get,if_neg ht]
    ·have ho' : ∀ el,s1.T t0≠.slice el true:=fun el h=>ho ⟨el,h⟩
     rw[spent_not s1 t0 ho',spent_not x1 t0 (fun el h=>ho' el (h0.symm.trans h))]
     exact⟨h,fun _ _=>rfl,fun _ _=>rfl⟩
   | _=>exact⟨fun t ht=>by simp[IArg.tmps] at ht,fun _ _=>rfl,fun _ _=>rfl⟩
  simp only[storeAV] at hev ⊢
  split at hev
  ·cases hev
  rename_i vs hvs
  obtain⟨h0,hev1⟩:=cond_some hev
  clear hev
  have hev:=hev1
  clear hev1
  cases Y<;>(try dsimp only at hev ⊢)<;>try (cases hev;done)
  case ref loc off =>
   cases c with
   | frame b=>cases hcl
   | imm=>cases hcl
   | heap =>
    obtain⟨hH,hl⟩:=ha.H (.inl rfl)
    split at hev
    ·rename_i ty cs hHl
     obtain⟨h1,hev⟩:=cond_some hev
     injection hev with hev
     subst hev
     obtain⟨k1,k2,k3⟩:=sp (s.chg ⟨s.H.set loc (.box ty (putAt cs off vs)),loc⟩) (x.chg ⟨x.H.set loc (.box ty (putAt cs off vs)),loc⟩) hvT
     refine⟨some ((x.chg ⟨x.H.set loc (.box ty (putAt cs off vs)),loc⟩).spent v),⟨x.chg ⟨x.H.set loc (.box ty (putAt cs off vs)),loc⟩,by simp only[hvs,h0,cond_true,hH,hHl,h1],trivial,rfl⟩,⟨fun k hk=>?_,fun k hk=>?_,fun _=>?_,fun h=>(by cases h),fun h=>(by cases h),fun _=>?_⟩,hw⟩
     ·exact k1 k (by simpa [frameOf] using hk)
     ·exact k2 k (by simpa [frameOf] using hk)
     ·obtain⟨q1,_,q3⟩:=spent_H (x.chg ⟨x.H.set loc (.box ty (putAt cs off vs)),loc⟩) v
      obtain⟨r1,_,r3⟩:=spent_H (s.chg ⟨s.H.set loc (.box ty (putAt cs off vs)),loc⟩) v
      exact⟨q1.trans (Eq.trans (by simp only[AS.chg,hH]) r1.symm),q3.trans (Eq.trans (by simp only[AS.chg,hl]) r3.symm)⟩
     ·obtain⟨_,q2,_⟩:=spent_H (x.chg ⟨x.H.set loc (.box ty (putAt cs off vs)),loc⟩) v
      exact q2.trans rfl
    ·rename_i cs hHl
     obtain⟨h1,hev⟩:=cond_some hev
     injection hev with hev
     subst hev
     obtain⟨k1,k2,k3⟩:=sp (s.chg ⟨s.H.set loc (.obox (putAt cs off vs)),loc⟩) (x.chg ⟨x.H.set loc (.obox (putAt cs off vs)),loc⟩) hvT
     refine⟨some ((x.chg ⟨x.H.set loc (.obox (putAt cs off vs)),loc⟩).spent v),⟨x.chg ⟨x.H.set loc (.obox (putAt cs off vs)),loc⟩,by simp only[hvs,h0,cond_true,hH,hHl,h1],trivial,rfl⟩,⟨fun k hk=>?_,fun k hk=>?_,fun _=>?_,fun h=>(by cases h),fun h=>(by cases h),fun _=>?_⟩,hw⟩
     ·exact k1 k (by simpa [frameOf] using hk)
     ·exact k2 k (by simpa [frameOf] using hk)
     ·obtain⟨q1,_,q3⟩:=spent_H (x.chg ⟨x.H.set loc (.obox (putAt cs off vs)),loc⟩) v
      obtain⟨r1,_,r3⟩:=spent_H (s.chg ⟨s.H.set loc (.obox (putAt cs off vs)),loc⟩) v
      exact⟨q1.trans (Eq.trans (by simp only[AS.chg,hH]) r1.symm),q3.trans (Eq.trans (by simp only[AS.chg,hl]) r3.symm)⟩
     ·obtain⟨_,q2,_⟩:=spent_H (x.chg ⟨x.H.set loc (.obox (putAt cs off vs)),loc⟩) v
      exact q2.trans rfl
    ·cases hev
  case lref b g off =>
   cases c with
   | imm=>cases hcl
   | heap=>cases hcl
   | frame b' =>
    simp only[clsOk,nbeq,decide_eq_true_eq] at hcl
    subst hcl
    have hTb:=ha.T b' (List.mem_append.2 (.inr (List.mem_singleton.2 rfl)))
    split at hev
    ·rename_i g' cs hT
     obtain⟨h1,hev⟩:=cond_some hev
     injection hev with hev
     subst hev
     rw[hT] at hTb
     have hvT' : ∀ t,t∈v.tmps→(x.setT b' (.lbox g (putAt cs off vs))).T t=(s.setT b' (.lbox g (putAt cs off vs))).T t:=fun t ht=>by rw[setT_get,setT_get,hvT t ht]
     obtain⟨k1,k2,k3⟩:=sp _ _ hvT'
     refine⟨some ((x.setT b' (.lbox g (putAt cs off vs))).spent v),⟨x.setT b' (.lbox g (putAt cs off vs)),by simp only[hvs,h0,cond_true,hTb,h1],trivial,rfl⟩,⟨fun k hk=>?_,fun k hk=>?_,fun h=>(by cases h),fun _=>?_,fun h=>(by cases h),fun _=>?_⟩,hw⟩
     ·by_cases hkv:k∈v.tmps
      ·exact k1 k hkv
      ·have hkb:k=b':=by
        rcases List.mem_append.1 hk with h|h
        ·exact absurd h hkv
        ·exact List.mem_singleton.1 h
       show ((x.setT b' _).spent v).T k=((s.setT b' _).spent v).T k
       rw[k2 k hkv,k3 k hkv,setT_get,setT_get,if_pos hkb,if_pos hkb]
     ·have hkv:k∉v.tmps:=fun h=>hk (List.mem_append.2 (.inl h))
      have hkb:k≠b':=fun h=>hk (List.mem_append.2 (.inr (List.mem_singleton.2 h)))
      show ((x.setT b' _).spent v).T k=x.T k
      rw[k2 k hkv,setT_get,if_neg hkb]
     ·obtain⟨q1,_,q3⟩:=spent_H (x.setT b' (.lbox g (putAt cs off vs))) v
      exact⟨q1.trans rfl,q3.trans rfl⟩
     ·obtain⟨_,q2,_⟩:=spent_H (x.setT b' (.lbox g (putAt cs off vs))) v
      exact q2.trans rfl
    ·cases hev
  case eref=>cases c<;>cases hcl
 case append isB wr sz bytes y1 y2 =>
  cases wr with
  | true=>cases he
  | false =>
   simp only[cond_false,Option.some.injEq] at he
   subst he
   have hw:∀ t,t∈y1.tmps→t∈y1.tmps++y2.tmps:=fun t h=>List.mem_append.2 (.inl h)
   have h2:=ev (y:=y2) (fun t h=>List.mem_append.2 (.inr h))
   simp only[pureOp,evOp] at hev ⊢
   cases y1 with
   | tmp t =>
    have ht:=ha.T t (by simp[IArg.tmps])
    simp only[evAppend] at hev ⊢
    rw[ht,h2]
    split at hev
    ·simp only[Option.bind_eq_some_iff] at hev
     obtain⟨f,_,hev⟩:=hev
     simp at hev
    ·rename_i el own hT
     simp only[cond_false,Option.map_eq_some_iff,Prod.mk.injEq] at hev
     obtain⟨z',hz,rfl,rfl⟩:=hev
     refine⟨some (x.setT t (.slice el false)),by simp only[cond_false,hz,Option.map_some],⟨fun k hk=>?_,fun k hk=>?_,fun h=>(by cases h),fun _=>⟨rfl,rfl⟩,fun h=>(by cases h),fun _=>rfl⟩,hw⟩
     ·simp only[IArg.tmps,List.mem_singleton] at hk
      simp only[Option.getD_some,setT_get,hk,if_true]
     ·simp only[IArg.tmps,List.mem_singleton] at hk
      simp only[Option.getD_some,setT_get,if_neg hk]
    ·simp only[cond_false,Option.map_eq_some_iff,Prod.mk.injEq] at hev
     obtain⟨z',hz,rfl,rfl⟩:=hev
     exact⟨some x,by simp only[cond_false,hz,Option.map_some],Moved.stay ha hw,hw⟩
    ·cases hev
   | _ =>
    simp only[evAppend,cond_false] at hev ⊢
    have hso:=none1 hev
    subst hso
    rw[h2]
    exact⟨none,hev,Moved.stay ha hw,hw⟩
 case appendO sz bytes y1 y2 =>
  simp only[Option.some.injEq] at he
  subst he
  obtain⟨hH,hl⟩:=ha.H (.inl rfl)
  simp only[pureOp,evOp] at hev ⊢
  rw[ad (y:=y1) (fun t h=>List.mem_append.2 (.inl h)),ev (y:=y2) (fun t h=>List.mem_append.2 (.inr h))]
  simp only[evAppendO,Option.bind_eq_some_iff] at hev ⊢
  obtain⟨f,hf,hev⟩:=hev
  have fin:∀ (c0:Chg),Moved ⟨y1.tmps++y2.tmps,[],true,true,false⟩ (s.chg c0) x (x.chg c0):=fun c0=>⟨fun k hk=>(by cases hk),fun _ _=>rfl,fun _=>⟨rfl,by simp only[AS.chg,hl]⟩,fun h=>(by cases h),fun h=>(by cases h),fun _=>rfl⟩
  split at hev
  ·obtain⟨h0,hev⟩:=cond_some hev
   simp only[Option.some.injEq,Prod.mk.injEq] at hev
   obtain⟨rfl,rfl⟩:=hev
   rename_i hY
   exact⟨some (x.chg ⟨s.H++[AObj.box freeTy f.flatten],s.H.length⟩),⟨f,hf,by simp only[h0,cond_true,hH]⟩,fin ⟨s.H++[AObj.box freeTy f.flatten],s.H.length⟩,fun t h=>by cases h⟩
  ·obtain⟨h0,hev⟩:=cond_some hev
   simp only[Option.some.injEq,Prod.mk.injEq] at hev
   obtain⟨rfl,rfl⟩:=hev
   rename_i hY
   exact⟨some (x.chg ⟨s.H++[AObj.box freeTy f.flatten],s.H.length⟩),⟨f,hf,by simp only[h0,cond_true,hH]⟩,fin ⟨s.H++[AObj.box freeTy f.flatten],s.H.length⟩,fun t h=>by cases h⟩
  ·rename_i l o n zz hY
   split at hev
   ·rename_i ty cs hHl
    obtain⟨h0,hev⟩:=cond_some hev
    simp only[Option.some.injEq,Prod.mk.injEq] at hev
    obtain⟨rfl,rfl⟩:=hev
    exact⟨some (x.chg ⟨s.H.set l .dead++[AObj.box freeTy (cs++f.flatten)],l⟩),⟨f,hf,by simp only[hH,hHl,h0,cond_true]⟩,fin ⟨s.H.set l .dead++[AObj.box freeTy (cs++f.flatten)],l⟩,fun t h=>by cases h⟩
   ·cases hev
  ·cases hev
 case copyO y1 y2 =>
  simp only[Option.some.injEq] at he
  subst he
  obtain⟨hH,hl⟩:=ha.H (.inl rfl)
  simp only[pureOp,evOp] at hev ⊢
  rw[ad (y:=y1) (fun t h=>List.mem_append.2 (.inl h)),ev (y:=y2) (fun t h=>List.mem_append.2 (.inr h))]
  simp only[evCopyO] at hev ⊢
  have fin:∀ (c0:Chg),Moved ⟨y1.tmps++y2.tmps,[],true,true,false⟩ (s.chg c0) x (x.chg c0):=fun c0=>⟨fun k hk=>(by cases hk),fun _ _=>rfl,fun _=>⟨rfl,by simp only[AS.chg,hl]⟩,fun h=>(by cases h),fun h=>(by cases h),fun _=>rfl⟩
  split at hev
  ·rename_i l o n zz f own hY hZ
   split at hev
   ·rename_i cs hHl
    obtain⟨h0,hev⟩:=cond_some hev
    simp only[Option.some.injEq,Prod.mk.injEq] at hev
    obtain⟨rfl,rfl⟩:=hev
    exact⟨some (x.chg ⟨s.H.set l (.obox (putAt cs o (f.take (Nat.min f.length n)).flatten)),l⟩),by simp only[hH,hHl,h0,cond_true],fin ⟨s.H.set l (.obox (putAt cs o (f.take (Nat.min f.length n)).flatten)),l⟩,fun t h=>by cases h⟩
   ·cases hev
  ·simp only[Option.some.injEq,Prod.mk.injEq] at hev
   obtain⟨rfl,rfl⟩:=hev
   exact⟨none,rfl,Moved.stay ha (fun t h=>by cases h),fun t h=>by cases h⟩
  ·cases hev
 case call f args =>
  simp only[Option.some.injEq] at he
  subst he
  obtain⟨hH,hl⟩:=ha.H (.inl rfl)
  have hf:=ev (y:=f) (fun t h=>by simp only[IOp.tmps,List.mem_append];exact .inl h)
  have had:∀ y,y∈args→y.addr G x.T=y.addr G s.T:=fun y hy=>ad (y:=y) (fun t h=>by simp only[IOp.tmps,List.mem_append,List.mem_flatMap];exact .inr ⟨y,hy,h⟩)
  have e1:(args.map fun a=>a.addr G x.T)=args.map fun a=>a.addr G s.T:=List.map_congr_left had
  have e2:(args.map fun a=>(a.addr G x.T).dropAll)=args.map fun a=>(a.addr G s.T).dropAll:=List.map_congr_left fun y hy=>by rw[had y hy]
  have hstay:∀ t,t∈([]:List Nat)→t∈(IOp.call f args).tmps:=fun t h=>by cases h
  cases pc with
  | true =>
   simp only[pureOp,cond_true,evOp] at hev ⊢
   rw[hf,e1,e2,hH]
   split at hev
   ·obtain⟨h0,hev⟩:=cond_some hev
    simp only[Option.bind_eq_some_iff] at hev
    obtain⟨r,hr,hev⟩:=hev
    split at hev
    ·rename_i h2
     simp only[Option.some.injEq,Prod.mk.injEq] at hev
     obtain⟨rfl,rfl⟩:=hev
     exact⟨none,by simp only[h0,cond_true,hr,Option.map_some,h2,Option.map_none],Moved.stay ha hstay,hstay⟩
    ·cases hev
   ·cases hev
  | false =>
   simp only[pureOp,cond_false,evOp] at hev ⊢
   rw[hf,e1,e2,hH]
   split at hev
   ·obtain⟨h0,hev⟩:=cond_some hev
    simp only[Option.map_eq_some_iff,Prod.mk.injEq] at hev
    obtain⟨r,hr,rfl,rfl⟩:=hev
    refine⟨r.2.map x.chg,by simp only[h0,cond_true,hr,Option.map_some],?_,hstay⟩
    cases h2:r.2 with
    | none=>exact Moved.stay ha hstay
    | some c0=>exact⟨fun k hk=>(by cases hk),fun _ _=>rfl,fun _=>⟨rfl,by simp only[Option.map_some,Option.getD_some,AS.chg,hl]⟩,fun h=>(by cases h),fun h=>(by cases h),fun _=>rfl⟩
   ·cases hev
theorem effOp_ws {pc:Bool} {c:Cls} {op:IOp} (he:effOp pc c op=some e):∀ t,t∈e.ws→t∈e.rs:=by
 intro t ht
 cases op<;>simp only[effOp] at he<;>try (cases he;done)
 case mov take obj y =>
  cases obj with
  | true=>cases he
  | false =>
   simp only[cond_false,Option.some.injEq] at he
   subst he
   cases take with
   | true=>exact ht
   | false=>cases ht
 case load take agg sz y =>
  simp only[Option.some.injEq] at he
  subst he
  cases hb:(take&&!agg) with
  | true=>simp only[hb,cond_true] at ht;exact List.mem_append.2 (.inr ht)
  | false=>simp only[hb,cond_false] at ht;cases ht
 case store sz y v =>
  simp only[Option.some.injEq] at he
  subst he
  rcases List.mem_append.1 ht with h|h
  ·exact List.mem_append.2 (.inl (List.mem_append.2 (.inr h)))
  ·exact List.mem_append.2 (.inr h)
 case append isB wr sz bytes y1 y2 =>
  cases wr with
  | true=>cases he
  | false =>
   simp only[cond_false,Option.some.injEq] at he
   subst he
   exact List.mem_append.2 (.inl ht)
 all_goals
  simp only[Option.some.injEq] at he
  subst he
  cases ht
theorem local_oper {mode pc:Bool} {is:List IOper} {L:List Nat} {o:IOper} (he:effOf mode pc is L o=some e)
  (hc:∀ c y,chkOf mode is L o.op=some (c,y)→(∀ g w,o.guard=some (g,w)→s.T g=.bool w)→clsOk c (y.addr G s.T)=true) {s1:AS}
  (hev:evOper G cf false s (pureCall pc o)=some s1) (ha:Agr e s x):∃ x1,evOper G cf false x o=some x1∧Moved e s1 x x1∧(∀ t,t∈e.ws→t∈o.dst.toList∨t∈e.rs):=by
 simp only[effOf,Option.map_eq_some_iff] at he
 obtain⟨e0,he0,rfl⟩:=he
 rw[pureCall_eq] at hev
 have ha0:Agr e0 s x:=⟨fun t ht=>ha.T t (List.mem_append.2 (.inr ht)),ha.H,ha.G⟩
 have putD_eq:∀ (q:AS) (d:Option Nat) (v:AV) (k:Nat),(q.putD d v).T k=if k∈d.toList then v else q.T k:=by
  intro q d v k
  cases d with
  | none=>simp[AS.putD]
  | some d=>simp only[AS.putD,setT_get,Option.toList_some,List.mem_singleton]
 have put:∀ (v:AV) (s2 x2:AS),Moved e0 s2 x x2→(∀ t,t∈e0.ws→t∈e0.rs) →
   Moved ⟨(match o.guard with|some (g,_)=>[g]|none=>[])++e0.rs,o.dst.toList++e0.ws,e0.rh,e0.wh,e0.wg⟩ (s2.putD o.dst v) x (x2.putD o.dst v)∧(∀ t,t∈o.dst.toList++e0.ws→t∈o.dst.toList∨t∈(match o.guard with|some (g,_)=>[g]|none=>[])++e0.rs):=by
  intro v s2 x2 hM hw
  refine⟨⟨fun t ht=>?_,fun t ht=>?_,fun h=>?_,fun h=>?_,fun h=>?_,fun h=>?_⟩,fun t ht=>?_⟩
  ·rw[putD_eq,putD_eq]
   by_cases hd:t∈o.dst.toList
   ·rw[if_pos hd,if_pos hd]
   ·rw[if_neg hd,if_neg hd]
    rcases List.mem_append.1 ht with h|h
    ·exact absurd h hd
    ·exact hM.T t h
  ·rw[putD_eq,if_neg (fun h=>ht (List.mem_append.2 (.inl h)))]
   exact hM.T' t (fun h=>ht (List.mem_append.2 (.inr h)))
  ·rw[(putD_T s2 o.dst v).1,(putD_T s2 o.dst v).2.2,(putD_T x2 o.dst v).1,(putD_T x2 o.dst v).2.2];exact hM.H h
  ·rw[(putD_T x2 o.dst v).1,(putD_T x2 o.dst v).2.2];exact hM.H' h
  ·rw[(putD_T s2 o.dst v).2.1,(putD_T x2 o.dst v).2.1];exact hM.G h
  ·rw[(putD_T x2 o.dst v).2.1];exact hM.G' h
  ·rcases List.mem_append.1 ht with h|h
   ·exact .inl h
   ·exact .inr (List.mem_append.2 (.inr (hw t h)))
 have run:(∀ g w,o.guard=some (g,w)→s.T g=.bool w)→((evOp G cf s (pureOp pc o.op)).bind fun r=>match r.2 with
   | none=>cond (false&&(genOf r.1).isSome) none (some (s.putD o.dst r.1))
   | some s'=>cond false none (some (s'.putD o.dst r.1)))=some s1 →
   ∃ x1,((evOp G cf x o.op).bind fun r=>match r.2 with
    | none=>cond (false&&(genOf r.1).isSome) none (some (x.putD o.dst r.1))
    | some s'=>cond false none (some (s'.putD o.dst r.1)))=some x1∧Moved ⟨(match o.guard with|some (g,_)=>[g]|none=>[])++e0.rs,o.dst.toList++e0.ws,e0.rh,e0.wh,e0.wg⟩ s1 x x1 ∧
    (∀ t,t∈o.dst.toList++e0.ws→t∈o.dst.toList∨t∈(match o.guard with|some (g,_)=>[g]|none=>[])++e0.rs):=by
  intro hg hr
  simp only[Option.bind_eq_some_iff] at hr
  obtain⟨⟨z,so⟩,hz,hr⟩:=hr
  obtain⟨xo,h1,h2,h3⟩:=localOp he0 (fun y hy=>by
    have key:∃ c,chkOf mode is L o.op=some (c,y):=by
     rcases hy with ⟨t,a,z,h⟩|⟨z,v,h⟩|h|⟨f,h⟩|⟨n,z,i,h⟩<;>rw[h]<;>exact⟨_,rfl⟩
    obtain⟨c,hk⟩:=key
    rw[hk]
    exact hc c y hk hg)
   (fun y hy=>by
    have key:chkOf mode is L o.op=some (.heap,y):=by
     rcases hy with ⟨z,i,h⟩|⟨k,h⟩<;>rw[h]<;>rfl
    exact hc _ y key hg) hz ha0
  have hs1:s1=(so.getD s).putD o.dst z:=by
   cases so with
   | none=>simp only[Bool.false_and,cond_false,Option.some.injEq] at hr;exact hr.symm
   | some s2=>simp only[cond_false,Option.some.injEq] at hr;exact hr.symm
  subst hs1
  obtain⟨p1,p2⟩:=put z _ _ h2 h3
  refine⟨(xo.getD x).putD o.dst z,?_,p1,p2⟩
  rw[h1]
  cases xo with
  | none=>rfl
  | some x2=>rfl
 unfold evOper at hev ⊢
 cases hgd:o.guard with
 | none =>
  rw[hgd] at run
  simp only[hgd] at hev ⊢
  exact run (fun g w h=>by cases h) hev
 | some gw =>
  obtain⟨g,w⟩:=gw
  have hxg:x.T g=s.T g:=ha.T g (by rw[hgd];exact List.mem_append.2 (.inl (List.mem_singleton.2 rfl)))
  simp only[hgd] at hev ⊢
  rw[hxg]
  rw[hgd] at run put
  have skip:some (s.putD o.dst .undef)=some s1→∃ x1,some (x.putD o.dst .undef)=some x1∧Moved ⟨[g]++e0.rs,o.dst.toList++e0.ws,e0.rh,e0.wh,e0.wg⟩ s1 x x1∧(∀ t,t∈o.dst.toList++e0.ws→t∈o.dst.toList∨t∈[g]++e0.rs):=by
   intro h
   injection h with h
   subst h
   obtain⟨p1,p2⟩:=put .undef s x (Moved.stay ha0 (effOp_ws he0)) (effOp_ws he0)
   exact⟨_,rfl,p1,p2⟩
  generalize hX:s.T g=X at hev
  cases X with
  | bool b =>
   simp only at hev ⊢
   cases hb:(b==w) with
   | true =>
    rw[hb] at hev
    simp only[cond_true] at hev ⊢
    exact run (fun g' w' h=>by injection h with h;injection h with h1 h2;subst h1 h2;rw[hX];congr 1;simpa using hb) hev
   | false =>
    rw[hb] at hev
    simp only[cond_false] at hev ⊢
    exact skip hev
  | tuple vs =>
   cases vs with
   | nil=>exact skip hev
   | cons v vs=>cases hev
  | _=>cases hev
end
section
variable {α:Type} {S:Nat→AS} {f:AS→α} {w X:Nat→Prop} {n k:Nat} {x x1:AS}
def Comp (S:Nat→AS) (f:AS→α) (w X:Nat→Prop) (x:AS):Prop :=
 (∃ i,X i∧w i∧(∀ j,X j→w j→j≤i)∧f x=f (S (i+1)))∨((∀ j,X j→¬ w j)∧f x=f (S 0))
theorem comp_frame (hf:∀ j,j<n→¬ w j→f (S (j+1))=f (S j)) {a:Nat} : ∀ (b:Nat),a≤b→b≤n→(∀ j,a≤j→j<b→¬ w j)→f (S b)=f (S a):=by
 intro b
 induction b with
 | zero=>intro h _ _;rw[show a=0 by omega]
 | succ b ih =>
  intro h1 h2 h3
  rcases Nat.lt_or_ge b a with h|h
  ·rw[show a=b+1 by omega]
  ·rw[hf b (by omega) (h3 b h (by omega)),ih h (by omega) (fun j a1 a2=>h3 j a1 (by omega))]
theorem comp_at (hf:∀ j,j<n→¬ w j→f (S (j+1))=f (S j)) (hk:k≤n) (hC:Comp S f w X x) (h1:∀ j,j<k→w j→X j) (h2:∀ j,X j→w j→j<k):f x=f (S k):=by
 rcases hC with ⟨i,hX,hw,hm,he⟩|⟨hno,he⟩
 ·rw[he]
  refine (comp_frame hf k (h2 i hX hw) hk (fun j a b hwj=>?_)).symm
  have:=hm j (h1 j b hwj) hwj
  omega
 ·rw[he]
  exact (comp_frame hf k (Nat.zero_le _) hk (fun j a b hwj=>hno j (h1 j b hwj) hwj)).symm
theorem comp_write (hw:w k) (hm:∀ j,X j→w j→j≤k) (he:f x1=f (S (k+1))):Comp S f w (fun j=>X j∨j=k) x1 :=
 .inl ⟨k,.inr rfl,hw,fun j hj hwj=>by rcases hj with h|h;exact hm j h hwj;omega,he⟩
theorem comp_keep (hw:¬ w k) (hC:Comp S f w X x) (he:f x1=f x):Comp S f w (fun j=>X j∨j=k) x1:=by
 rcases hC with ⟨i,hX,hwi,hm,h⟩|⟨hno,h⟩
 ·exact .inl ⟨i,.inl hX,hwi,fun j hj hwj=>by
   rcases hj with h'|h'
   ·exact hm j h' hwj
   ·subst h';exact absurd hwj hw,by rw[he,h]⟩
 ·exact .inr ⟨fun j hj hwj=>by
   rcases hj with h'|h'
   ·exact hno j h' hwj
   ·subst h';exact hw hwj,by rw[he,h]⟩
theorem comp_congr {Y:Nat→Prop} (h:∀ j,X j↔Y j) (hC:Comp S f w X x):Comp S f w Y x:=by
 rcases hC with ⟨i,hX,hwi,hm,h'⟩|⟨hno,h'⟩
 ·exact .inl ⟨i,(h i).1 hX,hwi,fun j hj=>hm j ((h j).2 hj),h'⟩
 ·exact .inr ⟨fun j hj=>hno j ((h j).2 hj),h'⟩
structure Behind (S:Nat→AS) (E:Nat→Eff) (X:Nat→Prop) (x:AS):Prop where
 T:∀ t,Comp S (fun s=>s.T t) (fun j=>t∈(E j).ws) X x
 H:Comp S (fun s=>(s.H,s.lo)) (fun j=>(E j).wh=true) X x
 G:Comp S (fun s=>s.gen) (fun j=>(E j).wg=true) X x
structure Keeps (S:Nat→AS) (E:Nat→Eff) (n:Nat):Prop where
 T:∀ t j,j<n→¬ (t∈(E j).ws)→(S (j+1)).T t=(S j).T t
 H:∀ j,j<n→¬ ((E j).wh=true)→((S (j+1)).H,(S (j+1)).lo)=((S j).H,(S j).lo)
 G:∀ j,j<n→¬ ((E j).wg=true)→(S (j+1)).gen=(S j).gen
theorem meets_mem {x y:List Nat} {t:Nat} (h1:t∈x) (h2:t∈y):meets x y=true:=by
 simp only[meets,List.any_eq_true]
 exact⟨t,h1,by simpa using h2⟩
theorem behind_agr {E:Nat→Eff} (hK:Keeps S E n) (hk:k<n) (hB:Behind S E X x) (hX:¬ X k) (h1:∀ j,j<k→conflict (E k) (E j)=true→X j) (h2:∀ j,k<j→conflict (E j) (E k)=true→¬ X j):Agr (E k) (S k) x:=by
 have lt:∀ j,X j→j<k∨k<j:=fun j h=>by
  rcases Nat.lt_trichotomy j k with a|a|a
  ·exact .inl a
  ·subst a;exact absurd h hX
  ·exact .inr a
 refine⟨fun t ht=>?_,fun hh=>?_,fun hg=>?_⟩
 ·refine comp_at (fun j=>hK.T t j) (Nat.le_of_lt hk) (hB.T t) (fun j hj hw=>h1 j hj ?_) (fun j hj hw=>?_)
  ·simp only[conflict,meets_mem hw ht,Bool.or_true,Bool.true_or]
  ·rcases lt j hj with a|a
   ·exact a
   ·exact absurd hj (h2 j a (by simp only[conflict,meets_mem hw ht,Bool.or_true,Bool.true_or]))
 ·have:=comp_at (fun j=>hK.H j) (Nat.le_of_lt hk) hB.H (fun j hj hw=>h1 j hj (by
   rcases hh with h|h<;>simp[conflict,hw,h])) (fun j hj hw=>by
   rcases lt j hj with a|a
   ·exact a
   ·exact absurd hj (h2 j a (by rcases hh with h|h<;>simp[conflict,hw,h])))
  simp only[Prod.mk.injEq] at this
  exact this
 ·exact comp_at (fun j=>hK.G j) (Nat.le_of_lt hk) hB.G (fun j hj hw=>h1 j hj (by simp[conflict,hw,hg])) (fun j hj hw=>by
   rcases lt j hj with a|a
   ·exact a
   ·exact absurd hj (h2 j a (by simp[conflict,hw,hg])))
theorem behind_step {E:Nat→Eff} (hB:Behind S E X x) (hX:¬ X k) (h2:∀ j,k<j→conflict (E j) (E k)=true→¬ X j) (hM:Moved (E k) (S (k+1)) x x1):Behind S E (fun j=>X j∨j=k) x1:=by
 have le:∀ j,X j→(k<j→conflict (E j) (E k)=true)→j≤k:=fun j h hc=>by
  rcases Nat.lt_or_ge k j with a|a
  ·exact absurd h (h2 j a (hc a))
  ·exact a
 refine⟨fun t=>?_,?_,?_⟩
 ·by_cases ht:t∈(E k).ws
  ·exact comp_write ht (fun j hj hw=>le j hj fun _=>by simp only[conflict,meets_mem hw ht,Bool.or_true,Bool.true_or]) (hM.T t ht)
  ·exact comp_keep ht (hB.T t) (hM.T' t ht)
 ·by_cases hh:(E k).wh=true
  ·exact comp_write hh (fun j hj hw=>le j hj fun _=>by simp[conflict,hw,hh]) (by simp only[hM.H hh])
  ·have:=hM.H' (by simpa using hh)
   exact comp_keep hh hB.H (by simp only[this])
 ·by_cases hg:(E k).wg=true
  ·exact comp_write hg (fun j hj hw=>le j hj fun _=>by simp[conflict,hw,hg]) (hM.G hg)
  ·exact comp_keep hg hB.G (hM.G' (by simpa using hg))
theorem behind_all {E:Nat→Eff} (hK:Keeps S E n) (hB:Behind S E X x) (hX:∀ j,X j↔j<n):x=S n:=by
 have hT:x.T=(S n).T:=funext fun t=>comp_at (fun j=>hK.T t j) (Nat.le_refl _) (hB.T t) (fun j hj _=>(hX j).2 hj) (fun j hj _=>(hX j).1 hj)
 have hH:=comp_at (fun j=>hK.H j) (Nat.le_refl _) hB.H (fun j hj _=>(hX j).2 hj) (fun j hj _=>(hX j).1 hj)
 have hG:=comp_at (fun j=>hK.G j) (Nat.le_refl _) hB.G (fun j hj _=>(hX j).2 hj) (fun j hj _=>(hX j).1 hj)
 simp only[Prod.mk.injEq] at hH
 obtain⟨h1,h2⟩:=hH
 cases x
 generalize S n=y at hT h1 h2 hG
 cases y
 simp only at hT h1 h2 hG
 subst hT h1 h2 hG
 rfl
theorem behind_none {E:Nat→Eff} (hX:∀ j,¬ X j):Behind S E X (S 0) :=
 ⟨fun _=>.inr ⟨fun j h=>absurd h (hX j),rfl⟩,.inr ⟨fun j h=>absurd h (hX j),rfl⟩,.inr ⟨fun j h=>absurd h (hX j),rfl⟩⟩
end
theorem predsT_inv (ops:List Oper):∀ (k:Nat) (o:Oper),ops[k]?=some o→∀ p,p∈(predsT ops).getD k []→∃ e,e∈o.after.toList∧Region.binds .any e=true∧(p=e.on∨p∈(predsT ops).getD e.on []):=by
 have key:∀ (l r:List Oper) (t:List (List Nat)),t.length=l.length→(∀ (k:Nat) (o:Oper),l[k]?=some o→∀ p,p∈t.getD k []→∃ e,e∈o.after.toList∧Region.binds .any e=true∧(p=e.on∨p∈t.getD e.on [])) →
   let t':=r.foldl (fun t o=>t++[(o.after.toList.flatMap fun e=>cond (Region.binds .any e) (e.on :: t.getD e.on []) []).eraseDups]) t
   ∀ (k:Nat) (o:Oper),(l++r)[k]?=some o→∀ p,p∈t'.getD k []→∃ e,e∈o.after.toList∧Region.binds .any e=true∧(p=e.on∨p∈t'.getD e.on []):=by
  intro l r
  induction r generalizing l with
  | nil=>intro t hl h;simpa using h
  | cons o r ih =>
   intro t hl h
   have:=ih (l++[o]) (t++[(o.after.toList.flatMap fun e=>cond (Region.binds .any e) (e.on :: t.getD e.on []) []).eraseDups]) (by simp[hl]) (fun k o' hk p hp=>?_)
   ·simpa using this
   ·have grow:∀ (v:List Nat) (i q:Nat),q∈t.getD i []→q∈(t++[v]).getD i []:=by
     intro v i q hq
     have:i<t.length:=by
      rcases Nat.lt_or_ge i t.length with h|h
      ·exact h
      ·rw[List.getD_eq_getElem?_getD,List.getElem?_eq_none h] at hq;cases hq
     rw[List.getD_eq_getElem?_getD,List.getElem?_append_left this,← List.getD_eq_getElem?_getD];exact hq
    rcases Nat.lt_trichotomy k l.length with a|a|a
    ·rw[List.getElem?_append_left a] at hk
     rw[List.getD_eq_getElem?_getD,List.getElem?_append_left (by omega),← List.getD_eq_getElem?_getD] at hp
     obtain⟨e,h1,h2,h3⟩:=h k o' hk p hp
     exact⟨e,h1,h2,h3.imp id (grow _ _ _)⟩
    ·subst a
     simp only[List.getElem?_append_right (Nat.le_refl _),Nat.sub_self,List.getElem?_cons_zero,Option.some.injEq] at hk
     subst hk
     rw[List.getD_eq_getElem?_getD,List.getElem?_append_right (by omega),hl,Nat.sub_self] at hp
     simp only[List.getElem?_cons_zero,Option.getD_some,List.mem_eraseDups,List.mem_flatMap] at hp
     obtain⟨e,h1,hp⟩:=hp
     cases hb:Region.binds .any e with
     | false=>rw[hb] at hp;cases hp
     | true =>
      rw[hb] at hp
      simp only[cond_true,List.mem_cons] at hp
      exact⟨e,h1,hb,hp.imp id (grow _ _ _)⟩
    ·rw[List.getElem?_append_right (by omega)] at hk
     have:k-l.length≠0:=by omega
     obtain⟨m,hm⟩:=Nat.exists_eq_succ_of_ne_zero this
     rw[hm] at hk
     simp at hk
 have:=key [] ops [] rfl (fun k o hk=>by simp at hk)
 simpa [predsT] using this
theorem preds_closed {ops:List Oper} {X:Nat→Prop} (hback:∀ (i:Nat) (o:Oper),ops[i]?=some o→∀ e,e∈o.after.toList→Region.binds .any e=true→e.on<i)
  (hX:∀ (i:Nat) (o:Oper),ops[i]?=some o→X i→∀ e,e∈o.after.toList→Region.binds .any e=true→X e.on) :
  ∀ (k:Nat),X k→∀ p,p∈(predsT ops).getD k []→X p:=by
 intro k
 induction k using Nat.strongRecOn with
 | _ k ih =>
  intro hk p hp
  cases ho:ops[k]? with
  | none =>
   exfalso
   have hlen:∀ (r:List Oper) (t:List (List Nat)),(r.foldl (fun t o=>t++[(o.after.toList.flatMap fun e=>cond (Region.binds .any e) (e.on :: t.getD e.on []) []).eraseDups]) t).length=t.length+r.length:=by
    intro r
    induction r with
    | nil=>intro t;simp
    | cons o r ih=>intro t;rw[List.foldl_cons,ih];simp;omega
   have h1:(predsT ops).length=ops.length:=by rw[predsT,hlen];simp
   rw[List.getD_eq_getElem?_getD,List.getElem?_eq_none (by rw[h1];exact List.getElem?_eq_none_iff.1 ho)] at hp
   cases hp
  | some o =>
   obtain⟨e,h1,h2,h3⟩:=predsT_inv ops k o ho p hp
   have h4:=hX k o ho hk e h1 h2
   rcases h3 with h3|h3
   ·rw[h3];exact h4
   ·exact ih e.on (hback k o ho e h1 h2) h4 p h3
theorem preds_ready {ops:List Oper} {X:Nat→Prop} (hback:∀ (i:Nat) (o:Oper),ops[i]?=some o→∀ e,e∈o.after.toList→Region.binds .any e=true→e.on<i)
  (hX:∀ (i:Nat) (o:Oper),ops[i]?=some o→X i→∀ e,e∈o.after.toList→Region.binds .any e=true→X e.on)
  {k:Nat} {o:Oper} (ho:ops[k]?=some o) (hr:∀ e,e∈o.after.toList→Region.binds .any e=true→X e.on):∀ p,p∈(predsT ops).getD k []→X p:=by
 intro p hp
 obtain⟨e,h1,h2,h3⟩:=predsT_inv ops k o ho p hp
 rcases h3 with h3|h3
 ·rw[h3];exact hr e h1 h2
 ·exact preds_closed hback hX e.on (hr e h1 h2) p h3
section
variable {G:Nat→List AV} {cf:CallF}
theorem pureOp_run {pc:Bool} {op:IOp} {s:AS} {r:AV × Option AS} (h:evOp G cf s (pureOp pc op)=some r):evOp G cf s op=some r:=by
 cases op<;>try exact h
 rename_i f xs
 cases pc with
 | false=>exact h
 | true =>
  simp only[pureOp,cond_true,evOp] at h ⊢
  split at h
  ·obtain⟨h0,h⟩:=cond_some h
   simp only[Option.bind_eq_some_iff] at h
   obtain⟨⟨v,c⟩,h1,h⟩:=h
   simp only[h0,cond_true,h1,Option.map_some]
   cases c with
   | none=>exact h
   | some c=>cases h
  ·cases h
theorem pureCall_run {pc:Bool} {o:IOper} {s s1:AS} (h:evOper G cf false s (pureCall pc o)=some s1):evOper G cf false s o=some s1:=by
 rw[pureCall_eq] at h
 have run:((evOp G cf s (pureOp pc o.op)).bind fun r=>match r.2 with
   | none=>cond (false&&(genOf r.1).isSome) none (some (s.putD o.dst r.1))
   | some s'=>cond false none (some (s'.putD o.dst r.1)))=some s1→((evOp G cf s o.op).bind fun r=>match r.2 with
   | none=>cond (false&&(genOf r.1).isSome) none (some (s.putD o.dst r.1))
   | some s'=>cond false none (some (s'.putD o.dst r.1)))=some s1:=by
  intro h
  simp only[Option.bind_eq_some_iff] at h
  obtain⟨r,hr,h⟩:=h
  rw[pureOp_run hr]
  exact h
 unfold evOper at h ⊢
 cases hgd:o.guard with
 | none=>simp only[hgd] at h ⊢;exact run h
 | some gw =>
  obtain⟨g,w⟩:=gw
  simp only[hgd] at h ⊢
  generalize s.T g=X at h ⊢
  cases X with
  | bool b =>
   simp only at h ⊢
   cases hb:(b==w) with
   | true=>rw[hb] at h;simp only[cond_true] at h ⊢;exact run h
   | false=>rw[hb] at h;exact h
  | tuple vs=>cases vs with
   | nil=>exact h
   | cons v vs=>cases h
  | _=>cases h
theorem inter_states {mode pc:Bool} {is:List IOper} {L:List Nat} : ∀ (l:List IOper) (s s' : AS),evOps G cf false (inter mode pc is L l) s=some s' →
  ∃ S:Nat→AS,S 0=s∧S l.length=s'∧∀ (i:Nat) (o:IOper),l[i]?=some o→(∀ c y,chkOf mode is L o.op=some (c,y)→(∀ g w,o.guard=some (g,w)→(S i).T g=.bool w)→clsOk c (y.addr G (S i).T)=true) ∧
   evOper G cf false (S i) (pureCall pc o)=some (S (i+1)):=by
 intro l
 induction l with
 | nil =>
  intro s s' h
  simp only[inter,evOps,Option.some.injEq] at h
  exact⟨fun _=>s,rfl,h,fun i o hi=>by simp at hi⟩
 | cons o l ih =>
  intro s s' h
  have body:∀ s1,evOper G cf false s (pureCall pc o)=some s1→evOps G cf false (inter mode pc is L l) s1=some s'→(∀ c y,chkOf mode is L o.op=some (c,y)→(∀ g w,o.guard=some (g,w)→s.T g=.bool w)→clsOk c (y.addr G s.T)=true) →
    ∃ S:Nat→AS,S 0=s∧S (o :: l).length=s'∧∀ (i:Nat) (o' : IOper),(o :: l)[i]?=some o'→(∀ c y,chkOf mode is L o'.op=some (c,y)→(∀ g w,o'.guard=some (g,w)→(S i).T g=.bool w)→clsOk c (y.addr G (S i).T)=true) ∧
     evOper G cf false (S i) (pureCall pc o')=some (S (i+1)):=by
   intro s1 h1 h2 h3
   obtain⟨S,a,b,c⟩:=ih s1 s' h2
   refine⟨fun i=>match i with|0=>s|i+1=>S i,rfl,b,fun i o' hi=>?_⟩
   cases i with
   | zero =>
    simp only[List.getElem?_cons_zero,Option.some.injEq] at hi
    subst hi
    exact⟨h3,by rw[h1];exact congrArg some a.symm⟩
   | succ i=>exact c i o' (by simpa using hi)
  simp only[inter] at h
  split at h
  ·rename_i c x hk
   simp only[evOps,Option.bind_eq_some_iff] at h
   obtain⟨s0,h0,s1,h1,h2⟩:=h
   have chk:s0=s∧((∀ g w,o.guard=some (g,w)→s.T g=.bool w)→clsOk c (x.addr G s.T)=true):=by
    have run:((evOp G cf s (.chk c x)).bind fun r=>match r.2 with
      | none=>cond (false&&(genOf r.1).isSome) none (some (s.putD none r.1))
      | some s'=>cond false none (some (s'.putD none r.1)))=some s0→s0=s∧clsOk c (x.addr G s.T)=true:=by
     intro h
     simp only[evOp] at h
     cases hc:clsOk c (x.addr G s.T) with
     | false=>rw[hc] at h;cases h
     | true=>rw[hc] at h;simp[AS.putD] at h;exact⟨h.symm,rfl⟩
    unfold evOper at h0
    cases hgd:o.guard with
    | none=>simp only[hgd] at h0;exact⟨(run h0).1,fun _=>(run h0).2⟩
    | some gw =>
     obtain⟨g,w⟩:=gw
     simp only[hgd] at h0
     generalize hX:s.T g=X at h0
     cases X with
     | bool b =>
      simp only at h0
      cases hb:(b==w) with
      | true=>rw[hb] at h0;exact⟨(run h0).1,fun _=>(run h0).2⟩
      | false =>
       rw[hb] at h0
       simp only[cond_false,AS.putD,Option.some.injEq] at h0
       refine⟨h0.symm,fun hg=>?_⟩
       have:=hg g w rfl
       rw[hX] at this
       injection this with this
       subst this
       simp at hb
     | tuple vs =>
      cases vs with
      | nil =>
       simp only[AS.putD,Option.some.injEq] at h0
       refine⟨h0.symm,fun hg=>?_⟩
       have:=hg g w rfl
       rw[hX] at this
       cases this
      | cons v vs=>cases h0
     | _=>cases h0
   obtain⟨rfl,hchk⟩:=chk
   refine body s1 h1 h2 (fun c' y hk'=>?_)
   rw[hk] at hk'
   injection hk' with hk'
   injection hk' with e1 e2
   subst e1 e2
   exact hchk
  ·rename_i hk
   simp only[evOps,Option.bind_eq_some_iff] at h
   obtain⟨s1,h1,h2⟩:=h
   exact body s1 h1 h2 (fun c' y hk'=>by rw[hk] at hk';cases hk')
theorem effsOf_inv {mode pc:Bool} {is:List IOper} {L:List Nat} : ∀ {l:List IOper} {es:List Eff},effsOf mode pc is L l=some es→es.length=l.length∧∀ (i:Nat) (o:IOper),l[i]?=some o→effOf mode pc is L o=some (es.getD i default)
 | [],es,h=>by simp[effsOf] at h;subst h;exact⟨rfl,fun i o hi=>by simp at hi⟩
 | o :: l,es,h=>by
  simp only[effsOf,Option.bind_eq_some_iff,Option.map_eq_some_iff] at h
  obtain⟨e,he,es',h',rfl⟩:=h
  obtain⟨h1,h2⟩:=effsOf_inv h'
  refine⟨by simp[h1],fun i o' hi=>?_⟩
  cases i with
  | zero=>simp only[List.getElem?_cons_zero,Option.some.injEq] at hi;subst hi;simpa using he
  | succ i=>simpa using h2 i o' (by simpa using hi)
theorem evOper_valI {s s1:AS} {o:IOper} (h:evOper G cf false s o=some s1):∃ z s2,evVal G cf false s o=some (z,s2)∧s1=s2.putD o.dst z:=by
 have run:((evOp G cf s o.op).bind fun r=>match r.2 with
   | none=>cond (false&&(genOf r.1).isSome) none (some (s.putD o.dst r.1))
   | some s'=>cond false none (some (s'.putD o.dst r.1)))=some s1→∃ z s2,((evOp G cf s o.op).bind fun r=>match r.2 with
   | none=>cond (false&&(genOf r.1).isSome) none (some (r.1,s))
   | some s'=>cond false none (some (r.1,s')))=some (z,s2)∧s1=s2.putD o.dst z:=by
  intro h
  simp only[Option.bind_eq_some_iff] at h
  obtain⟨⟨z,so⟩,hr,h⟩:=h
  rw[hr]
  cases so with
  | none=>simp at h;exact⟨z,s,rfl,h.symm⟩
  | some s2=>simp at h;exact⟨z,s2,rfl,h.symm⟩
 unfold evOper at h
 unfold evVal
 cases hgd:o.guard with
 | none=>simp only[hgd] at h ⊢;exact run h
 | some gw =>
  obtain⟨g,w⟩:=gw
  simp only[hgd] at h ⊢
  generalize s.T g=X at h ⊢
  cases X with
  | bool b =>
   simp only at h ⊢
   cases hb:(b==w) with
   | true=>rw[hb] at h;simp only[cond_true] at h ⊢;exact run h
   | false=>rw[hb] at h;simp only[cond_false,Option.some.injEq] at h ⊢;exact⟨_,_,rfl,h.symm⟩
  | tuple vs=>cases vs with
   | nil=>simp only[Option.some.injEq] at h ⊢;exact⟨_,_,rfl,h.symm⟩
   | cons v vs=>cases h
  | _=>cases h
end
section
variable {P:Program} {G:Nat→List AV} {base nt:Nat} {L:List Nat} {gh:Gh} {w w' : World} {a:Act} {s:AS} {H:AHeap}
theorem draw3_sound {cf:CallF} (hcf:CallsSound P G cf) {H0:AHeap} {gh0:Gh} {w0:World} {takes locals muts:List Nat} {ops:Array Oper} (hLl:∀ x,x∈locals→x∈L) (hLm:∀ x,x∈muts→x∈L) (Q:Exit→Act→World→Prop)
  {is:List IOper} {mode pc:Bool} {M:List Nat} {es:List Eff} (hI:Inv G base nt L H0 gh0 w0 s gh w a) (hc:compOpers P takes locals muts nt ops ops.toList=some is) (hes:effsOf mode pc is M is=some es) (hord:orderOk3 ops.toList es=true)
  {s' : AS} (he:evOps G cf false (inter mode pc is M is) s=some s')
  (hQ:∀ a' gh' w',Inv G base nt L H0 gh0 w0 s' gh' w' a'→Q .normal a' w'):wpAny P .any ops Q ops.size (Array.replicate ops.size false) a w:=by
 obtain⟨S,h0,hn,hS⟩:=inter_states is s s' he
 obtain⟨hlen,hcomp⟩:=compOpers_inv hc
 obtain⟨helen,heff⟩:=effsOf_inv hes
 have hsz:ops.size=is.length:=by simpa using hlen
 let E:Nat→Eff:=fun i=>es.getD i default
 simp only[orderOk3,Bool.and_eq_true,List.all_eq_true] at hord
 obtain⟨hb0,hord⟩:=hord
 have hback:∀ (i:Nat) (o:Oper),ops.toList[i]?=some o→∀ e,e∈o.after.toList→Region.binds .any e=true→e.on<i:=by
  intro i o hi e he hb
  have:=hb0 (o,i) (by rw[List.mem_iff_getElem?];exact⟨i,by rw[List.getElem?_zipIdx,hi];simp⟩)
  rw[Array.all_eq_true_iff_forall_mem] at this
  have:=this e (by simpa using he)
  simpa [hb,Nat.blt_eq] using this
 have hconf:∀ i j,j<i→i<is.length→conflict (E i) (E j)=true→j∈(predsT ops.toList).getD i []:=by
  intro i j hji hi hcf
  have gi:es[i]?=some (E i):=by
   have:i<es.length:=by omega
   simp[E,this]
  have gj:es[j]?=some (E j):=by
   have:j<es.length:=by omega
   simp[E,this]
  have:=hord (E i,i) (by rw[List.mem_iff_getElem?];exact⟨i,by rw[List.getElem?_zipIdx,gi];simp⟩) (E j,j) (by rw[List.mem_iff_getElem?];exact⟨j,by rw[List.getElem?_zipIdx,gj];simp⟩)
  simp only[hcf,show Nat.blt j i=true by simpa [Nat.blt_eq] using hji,Bool.not_true,Bool.false_or,Bool.or_false] at this
  simpa using this
 have hio:∀ i,i<is.length→∃ io,is[i]?=some io:=fun i hi=>⟨_,List.getElem?_eq_getElem hi⟩
 have agr_refl:∀ (e:Eff) (q:AS),Agr e q q:=fun e q=>⟨fun _ _=>rfl,fun _=>⟨rfl,rfl⟩,fun _=>rfl⟩
 have hK:Keeps S E is.length:=by
  have mv:∀ j,j<is.length→Moved (E j) (S (j+1)) (S j) (S (j+1)):=by
   intro j hj
   obtain⟨io,hi⟩:=hio j hj
   obtain⟨x1,h1,h2,_⟩:=local_oper (heff j io hi) (hS j io hi).1 (hS j io hi).2 (agr_refl _ (S j))
   rw[pureCall_run (hS j io hi).2] at h1
   injection h1 with h1
   rw[← h1] at h2
   exact h2
  refine⟨fun t j hj hw=>(mv j hj).T' t hw,fun j hj hw=>?_,fun j hj hw=>(mv j hj).G' (by simpa using hw)⟩
  have:=(mv j hj).H' (by simpa using hw)
  simp only[this]
 have fin:∀ (listed:Array Bool) (x:AS),listed.size=ops.size→(∀ i,i<ops.size→listed.getD i false=true)→Behind S E (fun i=>listed.getD i false=true) x→x=s':=by
  intro listed x hls hall hB
  rw[← hn]
  refine behind_all hK hB (fun i=>⟨fun h=>?_,fun h=>hall i (by omega)⟩)
  have hlt:i<listed.size:=by
   rcases Nat.lt_or_ge i listed.size with h'|h'
   ·exact h'
   ·simp[Array.getElem?_eq_none h'] at h
  omega
 have main:∀ (n:Nat) (listed:Array Bool) (x:AS) (gh:Gh) (w:World) (a:Act),listed.size=ops.size→(∀ l:List Nat,l.Nodup→(∀ i,i∈l→i<ops.size∧listed.getD i true=false)→l.length≤n) →
   (∀ j o,ops[j]?=some o→listed.getD j false=true→∀ e,e∈o.after→Region.binds .any e=true→listed.getD e.on false=true) →
   Behind S E (fun i=>listed.getD i false=true) x→Inv G base nt L H0 gh0 w0 x gh w a→wpAny P .any ops Q n listed a w:=by
  intro n
  induction n with
  | zero =>
   intro listed x gh w a hls hfew hclosed hB hI
   have hall:∀ i,i<ops.size→listed.getD i false=true:=by
    intro i hi
    cases hb:listed.getD i true with
    | true =>
     have:i<listed.size:=by omega
     simpa [this] using hb
    | false =>
     have:=hfew [i] (by simp) (fun j hj=>by simp at hj;subst hj;exact⟨hi,hb⟩)
     simp at this
   have hready:Region.ready .any ops listed=[]:=by
    cases hr:Region.ready .any ops listed with
    | nil=>rfl
    | cons i r =>
     have hm:i∈Region.ready .any ops listed:=by rw[hr];exact List.mem_cons_self
     obtain⟨h1,o,h2,_⟩:=mem_ready.1 hm
     have hlt:=(Array.getElem?_eq_some_iff.1 h2).1
     have:=hall i hlt
     have hlt' : i<listed.size:=by omega
     simp[hlt'] at this h1
     rw[this] at h1
     cases h1
   refine⟨hready,?_⟩
   rw[fin listed x hls hall hB] at hI
   exact hQ a gh w hI
  | succ n ih =>
   intro listed x gh w a hls hfew hclosed hB hI
   refine⟨fun hready=>?_,fun i hi=>?_⟩
   ·have hall:∀ i,i<ops.size→listed.getD i false=true:=by
     intro i
     induction i using Nat.strongRecOn with
     | _ i ihi =>
      intro hlt
      have hlt' : i<listed.size:=by omega
      cases hb:listed.getD i true with
      | true=>simpa [hlt'] using hb
      | false =>
       exfalso
       have ho:=Array.getElem?_eq_getElem hlt
       have:i∈Region.ready .any ops listed:=mem_ready.2 ⟨hb,_,ho,fun e he hbind=>by
        have hlt2:=hback i _ (by rw[Array.getElem?_toList];exact ho) e (by simpa using he) hbind
        exact ihi e.on hlt2 (by omega)⟩
       rw[hready] at this
       cases this
    rw[fin listed x hls hall hB] at hI
    exact hQ a gh w hI
   ·obtain⟨hun,o,ho,hafter⟩:=mem_ready.1 hi
    have hlt:=(Array.getElem?_eq_some_iff.1 ho).1
    have hlt' : i<listed.size:=by omega
    obtain⟨io,hio,hco⟩:=hcomp i o (by simpa using ho)
    have hunA:¬ (listed.getD i false=true):=by
     simp[hlt'] at hun ⊢
     exact hun
    have hclosed' : ∀ (j:Nat) (o:Oper),ops.toList[j]?=some o→listed.getD j false=true→∀ e,e∈o.after.toList→Region.binds .any e=true→listed.getD e.on false=true :=
     fun j o ho h e he hb=>hclosed j o (by simpa using ho) h e (by simpa using he) hb
    have ready:=preds_ready (X:=fun i=>listed.getD i false=true) hback hclosed' (k:=i) (o:=o) (by simpa using ho) (fun e he hb=>hafter e (by simpa using he) hb)
    have later:∀ j,i<j→conflict (E j) (E i)=true→¬ (listed.getD j false=true):=by
     intro j hij hcj hj
     have hjs:j<is.length:=by
      rcases Nat.lt_or_ge j listed.size with h'|h'
      ·omega
      ·simp[Array.getElem?_eq_none h'] at hj
     exact hunA (preds_closed (X:=fun i=>listed.getD i false=true) hback hclosed' j hj i (hconf j i hij hjs hcj))
    have hA:Agr (E i) (S i) x:=behind_agr hK (by omega) hB hunA (fun j hj hcj=>ready j (hconf i j hj (by omega) hcj)) later
    obtain⟨x1,hx1,hM,_⟩:=local_oper (heff i io hio) (hS i io hio).1 (hS i io hio).2 hA
    obtain⟨z,s2,hev,rfl⟩:=evOper_valI hx1
    unfold wpOp
    rw[ho]
    refine oper_step hcf hI hco hLl hLm hev _ Q (fun a' gh' w' hI'=>?_)
    rw[← (compOper_inv hco).2.2.1] at hI'
    have hset:∀ j,(listed.setIfInBounds i true).getD j false=true↔(listed.getD j false=true∨j=i):=by
     intro j
     by_cases hji:i=j
     ·subst hji
      simp[hlt']
     ·rw[getD_set_ne false hji]
      simp[Ne.symm hji]
    have hB':=behind_step hB hunA later hM
    refine ih (listed.setIfInBounds i true) _ gh' w' a' (by simpa using hls) (fun l hnd hl=>?_) (fun j o' ho' hj e he hbind=>?_) ?_ hI'
    ·have hil:i∉l:=by
      intro hm
      have:=(hl i hm).2
      simp[hlt'] at this
     have:=hfew (i :: l) (List.nodup_cons.2 ⟨hil,hnd⟩) (fun j hj=>by
      rcases List.mem_cons.1 hj with rfl|hj
      ·exact⟨hlt,hun⟩
      ·have h1:=hl j hj
       have hji:i≠j:=by rintro rfl;exact hil hj
       rw[getD_set_ne true hji] at h1
       exact h1)
     simp at this
     omega
    ·rcases (hset j).1 hj with h|rfl
     ·exact (hset _).2 (.inl (hclosed j o' ho' h e he hbind))
     ·rw[ho] at ho'
      injection ho' with ho'
      subst ho'
      exact (hset _).2 (.inl (hafter e he hbind))
    ·have hiff:∀ j,(listed.getD j false=true∨j=i)↔(listed.setIfInBounds i true).getD j false=true:=fun j=>(hset j).symm
     exact⟨fun t=>comp_congr hiff (hB'.T t),comp_congr hiff hB'.H,comp_congr hiff hB'.G⟩
 refine main ops.size _ s gh w a (by simp) (fun l hnd hl=>?_) (fun j o hj h=>?_) ?_ hI
 ·exact nodup_len ops.size l hnd (fun i hi=>(hl i hi).1)
 ·exfalso
  have:(Array.replicate ops.size false).getD j false=false:=by
   by_cases h:j<ops.size<;>simp[h]
  rw[this] at h
  cases h
 ·have hno:∀ i,¬ ((Array.replicate ops.size false).getD i false=true):=by
   intro i h
   have:(Array.replicate ops.size false).getD i false=false:=by
    by_cases h:i<ops.size<;>simp[h]
   rw[this] at h
   cases h
  rw[← h0]
  exact behind_none hno
end
theorem drawn3_inv {draw:Bool} {L:List Nat} {ops:List Oper} {is:List IOper} {c:ICode} (h:cond draw (drawn3 L ops is) none=some c) :
  draw=true∧∃ mode pc es,effsOf mode pc is L is=some es∧orderOk3 ops es=true∧c=.region false (inter mode pc is L is):=by
 cases draw with
 | false=>cases h
 | true =>
  refine⟨rfl,?_⟩
  simp only[cond_true,drawn3] at h
  obtain⟨_,h⟩:=cond_some h
  have one:∀ mode pc,seq3 mode pc L ops is=some c→∃ mode pc es,effsOf mode pc is L is=some es∧orderOk3 ops es=true∧c=.region false (inter mode pc is L is):=by
   intro mode pc h
   simp only[seq3,Option.bind_eq_some_iff] at h
   obtain⟨es,h1,h⟩:=h
   obtain⟨h2,h⟩:=cond_some h
   injection h with h
   exact⟨mode,pc,es,h1,h2,h.symm⟩
  split at h
  ·rename_i c' hc;injection h with h;subst h;exact one _ _ hc
  ·split at h
   ·rename_i c' hc;injection h with h;subst h;exact one _ _ hc
   ·cases hb:L.elem 999999 with
    | true=>rw[hb] at h;cases h
    | false=>rw[hb] at h;exact one _ _ h
end Go.Abs
end
