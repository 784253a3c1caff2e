/-
  A part of the proof of RulesConcern: D7, D8, D9.
-/
import Derived.Test.YtemfofdaemgjgaaGreatDoorP20
set_option linter.unusedSimpArgs false
set_option linter.unusedVariables false
section
set_option linter.unusedSimpArgs false
set_option linter.unusedVariables false
set_option maxRecDepth 100000
set_option maxHeartbeats 4000000
namespace Go.Proofs.YtemfofdaemgjgaaGreatDoor
open Go Go.Abs Go.Proofs
theorem Post.trans_node {b:Int} {m m1 m2:Mk} {l j:Int} (hb:1≤b) (h1:Post (2*b) m m1) (hj:0≤j∧j≤2) (h2:Post b { m1 with temp:=m1.temp+1,left:=l,name:=m1.name+j } m2):Post (5*b) m m2:=by
 obtain⟨a1,a2,a3,a4,a5,a6⟩:=h1
 obtain⟨p1,p2,p3,p4,p5,p6⟩:=h2
 simp only at p1 p2 p3 p4 p5 p6
 exact⟨by omega,by omega,p3.trans a3,p4.trans a4,p5,by omega⟩
theorem Post.two {b:Int} {m m1 m2:Mk} (h1:Post b m m1) (h2:Post b m1 m2):Post (2*b) m m2:=by
 obtain⟨a1,a2,a3,a4,a5,a6⟩:=h1
 obtain⟨p1,p2,p3,p4,p5,p6⟩:=h2
 exact⟨by omega,by omega,p3.trans a3,p4.trans a4,p5,by omega⟩
theorem Post.up {b b' : Int} {m m1:Mk} (h:Post b m m1) (hb:b≤b'):Post b' m m1:=by
 obtain⟨a1,a2,a3,a4,a5,a6⟩:=h
 exact⟨by omega,by omega,a3,a4,a5,a6⟩
theorem exprS_D {c:Cx} {mu:Nat} (hc:CxOK c) (hS:SpecE c mu):SpecE c (mu+1):=by
 have hL:=lit_D hc hS
 have hO:=op_D hc hS hL
 have hM':=match_D hc hS hO
 have hF:=field_D hc hS hO
 have hC:=call_D hc hS hO
 intro t env d m H hM ht ht5 hp
 refine specF_of (t:=t) (env:=env) (x:=0) (d:=d) ?_
 have hb:=bud_pos mu
 have hlt:=hM.lt
 obtain⟨x,p,hx0,hx1,hnum⟩:=num_D hM 65536 (by omega)
 obtain⟨m0,hm0⟩:∃ m0:Mk,m0={ m with pos:=p }:=⟨_,rfl⟩
 rw[← hm0] at hnum
 have hM0:MH c m0 (setM c m0 H):=hM.set
 have q0:=hM0.h0
 rw[encMk] at q0
 have el0:=hp.el
 obtain⟨f,hf,hf1,hf2⟩:=fitting_D env t (setM c m0 H) (by omega) (fun b hb=>(hp.ev.ty b hb).len)
 rw[encTy_eq] at hf
 refine callD_WP (fn:=ir19) rfl rfl rfl ?_
 unfold ir19;dsimp only[oQ,oP,iR,oM,oT,oL,oG,oH,oI,oF,oX,oA,oN,oS,oB,oR,oK,oC,iT,iC,iZ,iE]
 refine W_cutN 3 (fun s=>∃ T g d',s=⟨T,setM c m0 H,c.mm,g⟩∧T 0=.ref c.mm 0∧T 2=.slice (encBds env) false∧T 3=.int .i64 d'∧T 5=.lbox 0 [.int .i64 t.kind,.int .i64 t.d.shop,.int .i64 t.d.seq,.int .i64 t.d.index,.slice (encTys t.kids) false] ∧
   T 8=exBox 1∧T 9=.int .i64 x∧T 10=.slice (encBds f) false∧(d'=d∨d'≤0∧(d'=0∨d'=d))) ?_ ?_
 ·simp only[ICode.pre]
  by_cases hl:m0.left≤0
  ·by_cases hd:0<d
   ·simp (disch:=omega) only[evX,↓reduceIte,Nat.reduceEqDiff,Nat.reduceBEq,Nat.reduceAdd,Nat.reduceMul,reduceCtorEq,Nat.reduceLeDiff,Int.reduceEq,Int.reduceLT,Int.reduceLE,Int.reduceBEq,Int.reduceBNe,Int.reduceAdd,Int.reduceNeg,Int.reduceSub,Int.reduceMul,hnum,hf,q0]
    exact⟨_,_,0,rfl,by simp (disch:=omega) only[evX,↓reduceIte,Nat.reduceEqDiff,Nat.reduceBEq,Nat.reduceAdd,Nat.reduceMul,reduceCtorEq,Nat.reduceLeDiff,Int.reduceEq,Int.reduceLT,Int.reduceLE,Int.reduceBEq,Int.reduceBNe,Int.reduceAdd,Int.reduceNeg,Int.reduceSub,Int.reduceMul,exBox];simp[hd]⟩
   ·simp (disch:=omega) only[evX,↓reduceIte,Nat.reduceEqDiff,Nat.reduceBEq,Nat.reduceAdd,Nat.reduceMul,reduceCtorEq,Nat.reduceLeDiff,Int.reduceEq,Int.reduceLT,Int.reduceLE,Int.reduceBEq,Int.reduceBNe,Int.reduceAdd,Int.reduceNeg,Int.reduceSub,Int.reduceMul,hnum,hf,q0]
    exact⟨_,_,d,rfl,by simp (disch:=omega) only[evX,↓reduceIte,Nat.reduceEqDiff,Nat.reduceBEq,Nat.reduceAdd,Nat.reduceMul,reduceCtorEq,Nat.reduceLeDiff,Int.reduceEq,Int.reduceLT,Int.reduceLE,Int.reduceBEq,Int.reduceBNe,Int.reduceAdd,Int.reduceNeg,Int.reduceSub,Int.reduceMul,exBox];simp[hd]⟩
  ·simp (disch:=omega) only[evX,↓reduceIte,Nat.reduceEqDiff,Nat.reduceBEq,Nat.reduceAdd,Nat.reduceMul,reduceCtorEq,Nat.reduceLeDiff,Int.reduceEq,Int.reduceLT,Int.reduceLE,Int.reduceBEq,Int.reduceBNe,Int.reduceAdd,Int.reduceNeg,Int.reduceSub,Int.reduceMul,hnum,hf,q0]
   exact⟨_,_,d,rfl,by simp (disch:=omega) only[evX,↓reduceIte,Nat.reduceEqDiff,Nat.reduceBEq,Nat.reduceAdd,Nat.reduceMul,reduceCtorEq,Nat.reduceLeDiff,Int.reduceEq,Int.reduceLT,Int.reduceLE,Int.reduceBEq,Int.reduceBNe,Int.reduceAdd,Int.reduceNeg,Int.reduceSub,Int.reduceMul,exBox];simp⟩
 ·rintro s ⟨T,g,d',rfl,e0,e2,e3,e5,e8,e9,e10,hd'⟩
  simp only[ICode.post]
  have hpo:=hp
  simp only[bud] at hp ⊢
  have hpd:Pre c (5*bud mu) (mu+1) m0 env d':=by
   obtain⟨t0,t1,n0,n1,ev,el,d1,d2,d3⟩:=hp
   subst hm0
   exact⟨t0,t1,n0,n1,ev,el,fun h=>by have:=d1 (by omega);omega,by omega,by omega⟩
  have hpdo:Pre c (bud (mu+1)) (mu+1) m0 env d':=hpd
  obtain⟨t0,t1,n0,n1,ev,el,d1,d2,d3⟩:=hpd
  have hpd:Pre c (5*bud mu) (mu+1) m0 env d':=hpdo
  have resP:∀ (e:Ex) (m' : Mk),Post (5*bud mu) m0 m'→GoodE m'.temp (mu+1) e→IsRes c H m mu (.agg (encEx e),some ⟨setM c m' H,c.mm⟩):=by
   intro e m' h1 h2
   subst hm0
   exact isRes_ex ⟨h1.lt,h1.le,h1.own,h1.home,h1.nm0,h1.nm⟩ h2
  have resG:∀ (F:FuncId) (x' : Int),SpecG c F mu→0<d'→0≤x'→x' < 65536→∃ e m',callD A F (genArgs c t env x' d') (setM c m0 H)=some (.agg (encEx e),some ⟨setM c m' H,c.mm⟩)∧Post (5*bud mu) m0 m'∧GoodE m'.temp (mu+1) e:=by
   intro F x' hG hd0 h0 h1
   obtain⟨e,m',h1,h2,h3⟩:=hG t env x' d' m0 (setM c m0 H) hM0 ht ht5 hpdo h0 h1 hd0
   rw[setM_setM] at h1
   exact⟨e,m',h1,h2,h3⟩
  rw[exBox] at e8
  by_cases hv:0<f.length∧(d'≤0∨x % 3=0)
  ·
   obtain⟨hv1,hv2⟩:=hv
   have hfz:(f.length:Int)≠0:=by omega
   have hfn:decide ((f.length:Int)=0)=false:=decide_eq_false hfz
   obtain⟨j,hj⟩:∃ j:Nat,x / 3 % (f.length:Int)=j:=⟨(x / 3 % (f.length:Int)).toNat,by rw[Int.toNat_of_nonneg (Int.emod_nonneg _ hfz)]⟩
   have hjl:j<f.length:=by have h7:=Int.emod_lt_of_pos (x / 3) (show (0:Int)<f.length by omega);rw[hj] at h7;omega
   obtain⟨b0,hb0⟩:∃ b,f[j]?=some b:=⟨_,List.getElem?_eq_getElem hjl⟩
   have hbe:=hf2 _ (List.mem_of_getElem? hb0)
   have qb:=bds_at hb0
   rw[encBd] at qb
   have hvar:=variable_D hM0 b0 ⟨t0,by omega⟩
   rw[setM_setM,encBd] at hvar
   have hfin:=resP _ _ (post_leaf (l:=IntKind.i64.wrap (m0.left-1)) hb n0) (good_leaf (k:=2) (n:=b0.n) (r:=b0.id) (tk:=0) (td:=⟨0,0,0⟩) (tks:=none) (ns:=none) ⟨t0,by simp only;omega⟩ (fun _ hs=>by have:=ev.id _ hbe hs;simp only;omega))
   by_cases hd0:d'≤0
   ·simp (disch:=omega) only[evX,↓reduceIte,Nat.reduceEqDiff,Nat.reduceBEq,Nat.reduceAdd,Nat.reduceMul,reduceCtorEq,Nat.reduceLeDiff,Int.reduceEq,Int.reduceLT,Int.reduceLE,Int.reduceBEq,Int.reduceBNe,Int.reduceAdd,Int.reduceNeg,Int.reduceSub,Int.reduceMul,e0,e2,e3,e5,e8,e9,e10,bds_len,hfn,hj,qb,hvar]
    exact hfin
   ·have h3:x % 3=0:=by omega
    simp (disch:=omega) only[evX,↓reduceIte,Nat.reduceEqDiff,Nat.reduceBEq,Nat.reduceAdd,Nat.reduceMul,reduceCtorEq,Nat.reduceLeDiff,Int.reduceEq,Int.reduceLT,Int.reduceLE,Int.reduceBEq,Int.reduceBNe,Int.reduceAdd,Int.reduceNeg,Int.reduceSub,Int.reduceMul,e0,e2,e3,e5,e8,e9,e10,bds_len,h3,hfn,hj,qb,hvar]
    exact hfin
  ·
   have guard:∀ (K:Prop),(0<f.length→0<d'→x % 3≠0→K)→(f.length=0→K)→K:=by
    intro K h1 h2
    by_cases hf0:f.length=0
    ·exact h2 hf0
    ·exact h1 (by omega) (by omega) (by omega)
   by_cases hd0:d'≤0
   ·have hf0:f.length=0:=by omega
    obtain⟨el,ml,hlit,hlp,hlg⟩:=hL t env (x / 3) d' m0 (setM c m0 H) hM0 ht ht5 hpdo (by omega) (by omega)
    rw[setM_setM] at hlit
    simp only[genArgs] at hlit
    simp (disch:=omega) only[evX,↓reduceIte,Nat.reduceEqDiff,Nat.reduceBEq,Nat.reduceAdd,Nat.reduceMul,reduceCtorEq,Nat.reduceLeDiff,Int.reduceEq,Int.reduceLT,Int.reduceLE,Int.reduceBEq,Int.reduceBNe,Int.reduceAdd,Int.reduceNeg,Int.reduceSub,Int.reduceMul,e0,e2,e3,e5,e8,e9,e10,bds_len,hf0,hlit]
    exact resP _ _ hlp hlg
   have h5:5≤mu:=by have:=d1 (by omega);omega
   have hx36:0≤x / 36∧x / 36<65536:=by omega
   have hk12:0≤x / 3 % 12∧x / 3 % 12<12:=by omega
   obtain⟨y,hy⟩:∃ y,y=x / 36:=⟨_,rfl⟩
   obtain⟨k,hk⟩:∃ k,k=x / 3 % 12:=⟨_,rfl⟩
   have callA:∀ u (env' : List Bd) m1,TyOK c.ds 5 u→m0.temp≤m1.temp→m1.temp+bud mu≤m0.temp+5*bud mu→0≤m1.name→m1.name≤m0.name+4*(m1.temp-m0.temp)→EnvOK c m1.temp env'→env'.length≤env.length+2 →
     ∃ e m2,callD A 19 (exprArgs c u env' (d' - 1)) (setM c m1 H)=some (.agg (encEx e),some ⟨setM c m2 H,c.mm⟩)∧Post (bud mu) m1 m2∧GoodE m2.temp mu e:=by
    intro u env' m1 hu h1 h2 h3 h4 h6 h7
    obtain⟨e,m2,a1,a2,a3⟩:=hS u env' (d' - 1) m1 (setM c m1 H) hM.set (hu.mono h5) hu (hpd.sub h1 h2 h3 h4 h6 h7 (.inl rfl))
    rw[setM_setM] at a1
    exact⟨e,m2,a1,a2,a3⟩
   by_cases hc0:k=0∨k=1
   ·obtain⟨a,m1,c1,p1,g1⟩:=callA tBool env m0 (ok_bool (by omega)) (by omega) (by omega) n0 (by omega) ev (by omega)
    obtain⟨b,m2,c2,p2,g2⟩:=callA t env m1 ht5 (by have:=p1.lt;omega) (by have:=p1.le;omega) p1.nm0 p1.nm (ev.mono (by have:=p1.lt;omega)) (by omega)
    have p12:=p1.two p2
    obtain⟨e,m3,c3,p3,g3⟩:=callA t env m2 ht5 (by have:=p12.lt;omega) (by have:=p12.le;omega) p12.nm0 p12.nm (ev.mono (by have:=p12.lt;omega)) (by omega)
    have hmid:=((((Mid.zero (mu:=mu) n0).step p1 g1).step p2 g2).step p3 g3).le hb (show 3≤4 by omega)
    have hn:=node_D (hM.set (m':=m3)) 5 0 [a,b,e] ⟨by have:=hmid.lo;omega,by have:=hmid.hi4;omega⟩
    rw[setM_setM,exs3] at hn
    simp only[exprArgs,tBool,Ty.kind,Ty.d,Ty.kids,encTys] at c1
    simp only[exprArgs] at c2 c3
    have hfin:=resP _ _ (hmid.post hb (l:=IntKind.i64.wrap (m3.left-1))) (hmid.node t0 (k:=5) (n:=0) (r:=⟨0,0,0⟩) (tk:=0) (td:=⟨0,0,0⟩) (tks:=none) (ns:=none) (by decide))
    rcases hc0 with hk'|hk'
    ·rw[hk] at hk'
     refine guard _ (fun f1 f2 f3=>?_) (fun f1=>?_)
     ·simp (disch:=omega) only[evX,↓reduceIte,Nat.reduceEqDiff,Nat.reduceBEq,Nat.reduceAdd,Nat.reduceMul,reduceCtorEq,Nat.reduceLeDiff,Int.reduceEq,Int.reduceLT,Int.reduceLE,Int.reduceBEq,Int.reduceBNe,Int.reduceAdd,Int.reduceNeg,Int.reduceSub,Int.reduceMul,e0,e2,e3,e5,e8,e9,e10,bds_len,hk',c1,c2,c3,hn];exact hfin
     ·simp (disch:=omega) only[evX,↓reduceIte,Nat.reduceEqDiff,Nat.reduceBEq,Nat.reduceAdd,Nat.reduceMul,reduceCtorEq,Nat.reduceLeDiff,Int.reduceEq,Int.reduceLT,Int.reduceLE,Int.reduceBEq,Int.reduceBNe,Int.reduceAdd,Int.reduceNeg,Int.reduceSub,Int.reduceMul,e0,e2,e3,e5,e8,e9,e10,bds_len,f1,hk',c1,c2,c3,hn];exact hfin
    ·rw[hk] at hk'
     refine guard _ (fun f1 f2 f3=>?_) (fun f1=>?_)
     ·simp (disch:=omega) only[evX,↓reduceIte,Nat.reduceEqDiff,Nat.reduceBEq,Nat.reduceAdd,Nat.reduceMul,reduceCtorEq,Nat.reduceLeDiff,Int.reduceEq,Int.reduceLT,Int.reduceLE,Int.reduceBEq,Int.reduceBNe,Int.reduceAdd,Int.reduceNeg,Int.reduceSub,Int.reduceMul,e0,e2,e3,e5,e8,e9,e10,bds_len,hk',c1,c2,c3,hn];exact hfin
     ·simp (disch:=omega) only[evX,↓reduceIte,Nat.reduceEqDiff,Nat.reduceBEq,Nat.reduceAdd,Nat.reduceMul,reduceCtorEq,Nat.reduceLeDiff,Int.reduceEq,Int.reduceLT,Int.reduceLE,Int.reduceBEq,Int.reduceBNe,Int.reduceAdd,Int.reduceNeg,Int.reduceSub,Int.reduceMul,e0,e2,e3,e5,e8,e9,e10,bds_len,f1,hk',c1,c2,c3,hn];exact hfin
   by_cases hc2:k=2
   ·have hez:(env.length:Int)≠0:=by have:=List.length_pos_iff.2 ev.ne;omega
    have hen:decide ((env.length:Int)=0)=false:=decide_eq_false hez
    obtain⟨j,hj⟩:∃ j:Nat,x / 36 % (env.length:Int)=j:=⟨(x / 36 % (env.length:Int)).toNat,by rw[Int.toNat_of_nonneg (Int.emod_nonneg _ hez)]⟩
    have hjl:j<env.length:=by have h7:=Int.emod_lt_of_pos (x / 36) (show (0:Int)<env.length by omega);rw[hj] at h7;omega
    obtain⟨b0,hb0⟩:∃ b,env[j]?=some b:=⟨_,List.getElem?_eq_getElem hjl⟩
    have hty:=ev.ty _ (List.mem_of_getElem? hb0)
    have qb:=bds_at hb0
    rw[encBd] at qb
    obtain⟨a,m1,c1,p1,g1⟩:=callA b0.ty env m0 hty (by omega) (by omega) n0 (by omega) ev (by omega)
    have l1:=p1.lt
    have l2:=p1.le
    have l3:=p1.nm0
    have l4:=p1.nm
    have hn:=node_D (hM.set (m':=m1)) 6 0 [] ⟨by omega,by omega⟩
    rw[setM_setM,encEx,exs0] at hn
    obtain⟨s1,hs1⟩:=name_D (hM.set (m':={ m1 with temp:=m1.temp+1,left:=IntKind.i64.wrap (m1.left-1) })) ⟨by simp only;omega,by simp only;omega⟩
    rw[setM_setM] at hs1
    have hw:=with_D env ⟨⟨0,0,m1.temp⟩,0,b0.ty⟩ (setM c { m1 with temp:=m1.temp+1,left:=IntKind.i64.wrap (m1.left-1),name:=m1.name+1 } H) (by omega)
    rw[encBd] at hw
    have hev2:EnvOK c (m1.temp+1) (env++[⟨⟨0,0,m1.temp⟩,0,b0.ty⟩]):=(ev.mono (by omega)).snoc hty (fun _=>⟨by simp only;omega,by simp only;omega⟩)
    obtain⟨e,m4,c4,p4,g4⟩:=callA t (env++[⟨⟨0,0,m1.temp⟩,0,b0.ty⟩]) { m1 with temp:=m1.temp+1,left:=IntKind.i64.wrap (m1.left-1),name:=m1.name+1 } ht5 (by simp only;omega) (by simp only;omega) (by simp only;omega) (by simp only;omega) hev2 (by simp)
    simp only[exprArgs] at c1 c4
    have p5:=Post.trans_node hb (p1.up (show bud mu≤2*bud mu by omega)) (by omega) p4
    have p4lt:=p4.lt
    simp only at p4lt
    have g5:GoodE m4.temp (mu+1) (.mk ⟨0,0,m1.temp⟩ 6 0 ⟨0,0,0⟩ 0 ⟨0,0,0⟩ none [a,e] (some [s1])):=good_node ⟨by omega,by omega⟩ (by decide) (by simp) (fun z hz=>by
     rcases List.mem_cons.1 hz with rfl|hz
     ·exact g1.mono (by omega)
     ·rw[List.mem_singleton.1 hz];exact g4)
    have hfin:=resP _ _ p5 g5
    rw[encEx,exs2] at hfin
    rw[hk] at hc2
    refine guard _ (fun f1 f2 f3=>?_) (fun f1=>?_)
    ·simp (disch:=omega) only[evX,↓reduceIte,Nat.reduceEqDiff,Nat.reduceBEq,Nat.reduceAdd,Nat.reduceMul,reduceCtorEq,Nat.reduceLeDiff,Int.reduceEq,Int.reduceLT,Int.reduceLE,Int.reduceBEq,Int.reduceBNe,Int.reduceAdd,Int.reduceNeg,Int.reduceSub,Int.reduceMul,e0,e2,e3,e5,e8,e9,e10,bds_len,hc2,hen,hj,qb,c1,hn,hs1,hw,c4];exact hfin
    ·simp (disch:=omega) only[evX,↓reduceIte,Nat.reduceEqDiff,Nat.reduceBEq,Nat.reduceAdd,Nat.reduceMul,reduceCtorEq,Nat.reduceLeDiff,Int.reduceEq,Int.reduceLT,Int.reduceLE,Int.reduceBEq,Int.reduceBNe,Int.reduceAdd,Int.reduceNeg,Int.reduceSub,Int.reduceMul,e0,e2,e3,e5,e8,e9,e10,bds_len,f1,hc2,hen,hj,qb,c1,hn,hs1,hw,c4];exact hfin
   by_cases hc3:k=3∨k=4
   ·obtain⟨e,m1,q,q1,q2⟩:=resG 43 (x / 36) hM' (by omega) hx36.1 hx36.2
    simp only[genArgs] at q
    have hfin:=resP _ _ q1 q2
    rcases hc3 with hk'|hk'
    ·rw[hk] at hk'
     refine guard _ (fun f1 f2 f3=>?_) (fun f1=>?_)
     ·simp (disch:=omega) only[evX,↓reduceIte,Nat.reduceEqDiff,Nat.reduceBEq,Nat.reduceAdd,Nat.reduceMul,reduceCtorEq,Nat.reduceLeDiff,Int.reduceEq,Int.reduceLT,Int.reduceLE,Int.reduceBEq,Int.reduceBNe,Int.reduceAdd,Int.reduceNeg,Int.reduceSub,Int.reduceMul,e0,e2,e3,e5,e8,e9,e10,bds_len,hk',q];exact hfin
     ·simp (disch:=omega) only[evX,↓reduceIte,Nat.reduceEqDiff,Nat.reduceBEq,Nat.reduceAdd,Nat.reduceMul,reduceCtorEq,Nat.reduceLeDiff,Int.reduceEq,Int.reduceLT,Int.reduceLE,Int.reduceBEq,Int.reduceBNe,Int.reduceAdd,Int.reduceNeg,Int.reduceSub,Int.reduceMul,e0,e2,e3,e5,e8,e9,e10,bds_len,f1,hk',q];exact hfin
    ·rw[hk] at hk'
     refine guard _ (fun f1 f2 f3=>?_) (fun f1=>?_)
     ·simp (disch:=omega) only[evX,↓reduceIte,Nat.reduceEqDiff,Nat.reduceBEq,Nat.reduceAdd,Nat.reduceMul,reduceCtorEq,Nat.reduceLeDiff,Int.reduceEq,Int.reduceLT,Int.reduceLE,Int.reduceBEq,Int.reduceBNe,Int.reduceAdd,Int.reduceNeg,Int.reduceSub,Int.reduceMul,e0,e2,e3,e5,e8,e9,e10,bds_len,hk',q];exact hfin
     ·simp (disch:=omega) only[evX,↓reduceIte,Nat.reduceEqDiff,Nat.reduceBEq,Nat.reduceAdd,Nat.reduceMul,reduceCtorEq,Nat.reduceLeDiff,Int.reduceEq,Int.reduceLT,Int.reduceLE,Int.reduceBEq,Int.reduceBNe,Int.reduceAdd,Int.reduceNeg,Int.reduceSub,Int.reduceMul,e0,e2,e3,e5,e8,e9,e10,bds_len,f1,hk',q];exact hfin
   by_cases hc5:k=5
   ·obtain⟨e,m1,q,q1,q2⟩:=resG 44 (x / 36) hF (by omega) hx36.1 hx36.2
    simp only[genArgs] at q
    have hfin:=resP _ _ q1 q2
    rw[hk] at hc5
    refine guard _ (fun f1 f2 f3=>?_) (fun f1=>?_)
    ·simp (disch:=omega) only[evX,↓reduceIte,Nat.reduceEqDiff,Nat.reduceBEq,Nat.reduceAdd,Nat.reduceMul,reduceCtorEq,Nat.reduceLeDiff,Int.reduceEq,Int.reduceLT,Int.reduceLE,Int.reduceBEq,Int.reduceBNe,Int.reduceAdd,Int.reduceNeg,Int.reduceSub,Int.reduceMul,e0,e2,e3,e5,e8,e9,e10,bds_len,hc5,q];exact hfin
    ·simp (disch:=omega) only[evX,↓reduceIte,Nat.reduceEqDiff,Nat.reduceBEq,Nat.reduceAdd,Nat.reduceMul,reduceCtorEq,Nat.reduceLeDiff,Int.reduceEq,Int.reduceLT,Int.reduceLE,Int.reduceBEq,Int.reduceBNe,Int.reduceAdd,Int.reduceNeg,Int.reduceSub,Int.reduceMul,e0,e2,e3,e5,e8,e9,e10,bds_len,f1,hc5,q];exact hfin
   by_cases hc6:k=6∨k=7
   ·obtain⟨e,m1,q,q1,q2⟩:=resG 45 (x / 36) hC (by omega) hx36.1 hx36.2
    simp only[genArgs] at q
    have hfin:=resP _ _ q1 q2
    rcases hc6 with hk'|hk'
    ·rw[hk] at hk'
     refine guard _ (fun f1 f2 f3=>?_) (fun f1=>?_)
     ·simp (disch:=omega) only[evX,↓reduceIte,Nat.reduceEqDiff,Nat.reduceBEq,Nat.reduceAdd,Nat.reduceMul,reduceCtorEq,Nat.reduceLeDiff,Int.reduceEq,Int.reduceLT,Int.reduceLE,Int.reduceBEq,Int.reduceBNe,Int.reduceAdd,Int.reduceNeg,Int.reduceSub,Int.reduceMul,e0,e2,e3,e5,e8,e9,e10,bds_len,hk',q];exact hfin
     ·simp (disch:=omega) only[evX,↓reduceIte,Nat.reduceEqDiff,Nat.reduceBEq,Nat.reduceAdd,Nat.reduceMul,reduceCtorEq,Nat.reduceLeDiff,Int.reduceEq,Int.reduceLT,Int.reduceLE,Int.reduceBEq,Int.reduceBNe,Int.reduceAdd,Int.reduceNeg,Int.reduceSub,Int.reduceMul,e0,e2,e3,e5,e8,e9,e10,bds_len,f1,hk',q];exact hfin
    ·rw[hk] at hk'
     refine guard _ (fun f1 f2 f3=>?_) (fun f1=>?_)
     ·simp (disch:=omega) only[evX,↓reduceIte,Nat.reduceEqDiff,Nat.reduceBEq,Nat.reduceAdd,Nat.reduceMul,reduceCtorEq,Nat.reduceLeDiff,Int.reduceEq,Int.reduceLT,Int.reduceLE,Int.reduceBEq,Int.reduceBNe,Int.reduceAdd,Int.reduceNeg,Int.reduceSub,Int.reduceMul,e0,e2,e3,e5,e8,e9,e10,bds_len,hk',q];exact hfin
     ·simp (disch:=omega) only[evX,↓reduceIte,Nat.reduceEqDiff,Nat.reduceBEq,Nat.reduceAdd,Nat.reduceMul,reduceCtorEq,Nat.reduceLeDiff,Int.reduceEq,Int.reduceLT,Int.reduceLE,Int.reduceBEq,Int.reduceBNe,Int.reduceAdd,Int.reduceNeg,Int.reduceSub,Int.reduceMul,e0,e2,e3,e5,e8,e9,e10,bds_len,f1,hk',q];exact hfin
   by_cases hc8:k=8
   ·have hlist:=list_D tInt (setM c m0 H)
    obtain⟨a,m1,c1,p1,g1⟩:=callA (tList tInt) env m0 (ok_list (r:=4) (ok_int (by omega))) (by omega) (by omega) n0 (by omega) ev (by omega)
    obtain⟨b,m2,c2,p2,g2⟩:=callA t env m1 ht5 (by have:=p1.lt;omega) (by have:=p1.le;omega) p1.nm0 p1.nm (ev.mono (by have:=p1.lt;omega)) (by omega)
    have p12:=p1.two p2
    have l1:=p12.lt
    have l2:=p12.le
    have l3:=p12.nm0
    have l4:=p12.nm
    have l5:=p2.lt
    have hn:=node_D (hM.set (m':=m2)) 12 0 [] ⟨by omega,by omega⟩
    rw[setM_setM,encEx,exs0] at hn
    obtain⟨s1,hs1⟩:=name_D (hM.set (m':={ m2 with temp:=m2.temp+1,left:=IntKind.i64.wrap (m2.left-1) })) ⟨by simp only;omega,by simp only;omega⟩
    rw[setM_setM] at hs1
    obtain⟨s2,hs2⟩:=name_D (hM.set (m':={ m2 with temp:=m2.temp+1,left:=IntKind.i64.wrap (m2.left-1),name:=m2.name+1 })) ⟨by simp only;omega,by simp only;omega⟩
    rw[setM_setM] at hs2
    have hw:=with_D env ⟨⟨0,0,m2.temp⟩,0,tInt⟩ (setM c { m2 with temp:=m2.temp+1,left:=IntKind.i64.wrap (m2.left-1),name:=m2.name+1+1 } H) (by omega)
    have hw2:=with_D (env++[⟨⟨0,0,m2.temp⟩,0,tInt⟩]) ⟨⟨0,0,m2.temp⟩,1,t⟩ (setM c { m2 with temp:=m2.temp+1,left:=IntKind.i64.wrap (m2.left-1),name:=m2.name+1+1 } H) (by simp;omega)
    rw[encBd] at hw hw2
    have hev1:EnvOK c (m2.temp+1) (env++[⟨⟨0,0,m2.temp⟩,0,tInt⟩]):=(ev.mono (by omega)).snoc (ok_int (by omega)) (fun _=>⟨by simp only;omega,by simp only;omega⟩)
    have hev2:EnvOK c (m2.temp+1) (env++[⟨⟨0,0,m2.temp⟩,0,tInt⟩]++[⟨⟨0,0,m2.temp⟩,1,t⟩]):=hev1.snoc ht5 (fun _=>⟨by simp only;omega,by simp only;omega⟩)
    obtain⟨e,m4,c4,p4,g4⟩:=callA t (env++[⟨⟨0,0,m2.temp⟩,0,tInt⟩]++[⟨⟨0,0,m2.temp⟩,1,t⟩]) { m2 with temp:=m2.temp+1,left:=IntKind.i64.wrap (m2.left-1),name:=m2.name+1+1 } ht5 (by simp only;omega) (by simp only;omega) (by simp only;omega) (by simp only;omega) hev2 (by simp)
    simp only[exprArgs,tList,tInt,Ty.kind,Ty.d,Ty.kids,encTys,encTy] at c1 hlist
    simp only[exprArgs] at c2
    simp only[exprArgs,tInt] at c4
    simp only[tInt] at hw2
    simp only[tInt,Ty.kind,Ty.d,Ty.kids,encTys] at hw
    have e11:m2.name+1+1=m2.name+2:=by omega
    have p5:=Post.trans_node (j:=2) hb p12 (by omega) (by rw[← e11];exact p4)
    have p4lt:=p4.lt
    simp only at p4lt
    have g5:GoodE m4.temp (mu+1) (.mk ⟨0,0,m2.temp⟩ 12 0 ⟨0,0,0⟩ 0 ⟨0,0,0⟩ none [a,b,e] (some [s1,s2])):=good_node ⟨by omega,by omega⟩ (by decide) (by simp) (fun z hz=>by
     rcases List.mem_cons.1 hz with rfl|hz
     ·exact g1.mono (by omega)
     ·rcases List.mem_cons.1 hz with rfl|hz
      ·exact g2.mono (by omega)
      ·rw[List.mem_singleton.1 hz];exact g4)
    have hfin:=resP _ _ p5 g5
    rw[encEx,exs3] at hfin
    rw[hk] at hc8
    refine guard _ (fun f1 f2 f3=>?_) (fun f1=>?_)
    ·simp (disch:=omega) only[evX,↓reduceIte,Nat.reduceEqDiff,Nat.reduceBEq,Nat.reduceAdd,Nat.reduceMul,reduceCtorEq,Nat.reduceLeDiff,Int.reduceEq,Int.reduceLT,Int.reduceLE,Int.reduceBEq,Int.reduceBNe,Int.reduceAdd,Int.reduceNeg,Int.reduceSub,Int.reduceMul,e0,e2,e3,e5,e8,e9,e10,bds_len,hc8,hlist,c1,c2,hn,hs1,hs2,hw,hw2,c4];exact hfin
    ·simp (disch:=omega) only[evX,↓reduceIte,Nat.reduceEqDiff,Nat.reduceBEq,Nat.reduceAdd,Nat.reduceMul,reduceCtorEq,Nat.reduceLeDiff,Int.reduceEq,Int.reduceLT,Int.reduceLE,Int.reduceBEq,Int.reduceBNe,Int.reduceAdd,Int.reduceNeg,Int.reduceSub,Int.reduceMul,e0,e2,e3,e5,e8,e9,e10,bds_len,f1,hc8,hlist,c1,c2,hn,hs1,hs2,hw,hw2,c4];exact hfin
   ·obtain⟨e,m1,q,q1,q2⟩:=resG 46 (x / 36) hO (by omega) hx36.1 hx36.2
    simp only[genArgs] at q
    have hfin:=resP _ _ q1 q2
    rw[hk] at hc0 hc2 hc3 hc5 hc6 hc8
    obtain⟨kk,hkk,hkr⟩:∃ kk:Int,x / 3 % 12=kk∧9≤kk:=⟨_,rfl,by omega⟩
    refine guard _ (fun f1 f2 f3=>?_) (fun f1=>?_)
    ·simp (disch:=omega) only[evX,↓reduceIte,Nat.reduceEqDiff,Nat.reduceBEq,Nat.reduceAdd,Nat.reduceMul,reduceCtorEq,Nat.reduceLeDiff,Int.reduceEq,Int.reduceLT,Int.reduceLE,Int.reduceBEq,Int.reduceBNe,Int.reduceAdd,Int.reduceNeg,Int.reduceSub,Int.reduceMul,e0,e2,e3,e5,e8,e9,e10,bds_len,hkk,q];exact hfin
    ·simp (disch:=omega) only[evX,↓reduceIte,Nat.reduceEqDiff,Nat.reduceBEq,Nat.reduceAdd,Nat.reduceMul,reduceCtorEq,Nat.reduceLeDiff,Int.reduceEq,Int.reduceLT,Int.reduceLE,Int.reduceBEq,Int.reduceBNe,Int.reduceAdd,Int.reduceNeg,Int.reduceSub,Int.reduceMul,e0,e2,e3,e5,e8,e9,e10,bds_len,f1,hkk,q];exact hfin
end Go.Proofs.YtemfofdaemgjgaaGreatDoor
end
section
set_option linter.unusedSimpArgs false
set_option linter.unusedVariables false
set_option maxRecDepth 100000
set_option maxHeartbeats 1000000
namespace Go.Proofs.YtemfofdaemgjgaaGreatDoor
open Go Go.Abs Go.Proofs
theorem specE_all {c:Cx} (hc:CxOK c):∀ mu,SpecE c mu
 | 0=>fun t env d m H hM ht ht5 hp=>ht.elim
 | mu+1=>exprS_D hc (specE_all hc mu)
mutual
def numE:Ex→List Int
 | .mk i _ _ _ _ _ _ ks _=>numEs ks++[i.index]
def numEs:List Ex→List Int
 | []=>[]
 | e :: r=>numE e++numEs r
end
theorem numEs_append:∀ (l:List Ex) (e:Ex),numEs (l++[e])=numEs l++numE e
 | [],e=>by simp[numEs]
 | a :: l,e=>by simp only[List.cons_append,numEs,numEs_append l e,List.append_assoc]
theorem numE_eq (e:Ex):numE e=numEs e.kids++[e.id.index]:=by cases e;simp only[numE,Ex.kids,Ex.id]
theorem numEs_mem:∀ {l:List Ex} {n:Int},n∈numEs l→∃ e∈l,n∈numE e
 | [],n,h=>by simp[numEs] at h
 | a :: l,n,h=>by
  simp only[numEs,List.mem_append] at h
  rcases h with h|h
  ·exact⟨a,by simp,h⟩
  ·obtain⟨e,h1,h2⟩:=numEs_mem h
   exact⟨e,by simp[h1],h2⟩
theorem numE_range {T:Int} {h:Nat} {e:Ex} (hg:GoodE T h e):∀ n∈numE e,0≤n∧n<T:=by
 induction hg with
 | mk h i k n r tk td tks ks ns h1 h2 h3 h4 ih =>
  intro m hm
  simp only[numE,List.mem_append,List.mem_singleton] at hm
  rcases hm with hm|rfl
  ·obtain⟨e,he,hm⟩:=numEs_mem hm
   exact ih e he m hm
  ·exact h1
theorem numEs_len {b:Nat} : ∀ {l:List Ex},(∀ e∈l,(numE e).length≤b)→(numEs l).length≤l.length*b
 | [],_=>by simp[numEs]
 | a :: l,h=>by
  have h1:=h a (by simp)
  have h2:=numEs_len (b:=b) (l:=l) fun e he=>h e (by simp[he])
  simp only[numEs,List.length_append,List.length_cons,Nat.add_mul];omega
theorem numE_len {T:Int} {h:Nat} {e:Ex} (hg:GoodE T h e):(numE e).length≤5 ^ h:=by
 induction hg with
 | mk h i k n r tk td tks ks ns h1 h2 h3 h4 ih =>
  have:=numEs_len (b:=5 ^ h) ih
  have h5:ks.length*5 ^ h≤4*5 ^ h:=Nat.mul_le_mul_right _ h3
  have h6:1≤5 ^ h:=Nat.one_le_pow _ _ (by omega)
  simp only[numE,List.length_append,List.length_singleton,Nat.pow_succ];omega
theorem GoodE.kid {T:Int} {h:Nat} {e k:Ex} (hg:GoodE T h e) (hk:k∈e.kids):∃ h',h=h' + 1∧GoodE T h' k:=by
 cases hg with
 | mk h i k n r tk td tks ks ns h1 h2 h3 h4=>exact⟨h,rfl,h4 _ hk⟩
theorem GoodE.kl {T:Int} {h:Nat} {e:Ex} (hg:GoodE T h e):e.kids.length≤4:=by
 cases hg with
 | mk h i k n r tk td tks ks ns h1 h2 h3 h4=>exact h3
theorem GoodE.ix {T:Int} {h:Nat} {e:Ex} (hg:GoodE T h e):0≤e.id.index∧e.id.index<T:=by
 cases hg with
 | mk h i k n r tk td tks ks ns h1 h2 h3 h4=>exact h1
theorem GoodE.rx {T:Int} {h:Nat} {e:Ex} (hg:GoodE T h e):e.kind=2→e.ref.seq=0→0≤e.ref.index∧e.ref.index<T:=by
 cases hg with
 | mk h i k n r tk td tks ks ns h1 h2 h3 h4=>exact h2
theorem nodes_D (T:Int):∀ (h:Nat) (e:Ex) (H:AHeap),GoodE T h e→∃ n:Int,callD A 20 [.agg (encEx e)] H=some (.int .i64 n,none)
 | 0,e,H,hg=>by cases hg
 | h+1,e,H,hg=>by
  have key:∃ r,callD A 20 [.agg (encEx e)] H=some r∧∃ n:Int,r=(.int .i64 n,none):=by
   refine callD_WP (fn:=ir20) rfl rfl rfl ?_
   unfold ir20;dsimp only[oQ,oP,iR,oM,oT,oL,oG,oH,oI,oF,oX,oA,oN,oS,oB,oR,oK,oC,iT,iC,iZ,iE]
   have hk:=hg.kl
   obtain⟨E,hE⟩:∃ E,E=encEx e:=⟨_,rfl⟩
   have hE':=hE
   rw[encEx_eq] at hE'
   rw[← hE]
   rw[hE']
   simp (disch:=omega) only[evX,↓reduceIte,Nat.reduceEqDiff,Nat.reduceBEq,Nat.reduceAdd,Nat.reduceMul,reduceCtorEq,Nat.reduceLeDiff,Int.reduceEq,Int.reduceLT,Int.reduceLE,Int.reduceBEq,Int.reduceBNe,Int.reduceAdd,Int.reduceNeg,Int.reduceSub,Int.reduceMul]
   refine W_countx e.kids.length 0 (fun i=>Hd (fun T=>T 1=.lbox 0 E∧(∃ n:Int,T 3=.int .i64 n)∧T 4=.int .i64 i) H H.length 1)
    (Hd (fun T=>∃ n:Int,T 3=.int .i64 n) H H.length 1) (fun _=>False) ?_ ?_ (fun _ h=>h.elim) 0 _ (by omega) ?_
   ·rintro i s hi hs
    obtain⟨T,rfl,e1,⟨n,e3⟩,e4⟩:=hs.out
    rw[hE'] at e1
    by_cases c:i<e.kids.length
    ·have hq:=exs_at (List.getElem?_eq_getElem c)
     obtain⟨h',e5,hgk⟩:=hg.kid (List.getElem_mem c)
     have e5' : h'=h:=by omega
     subst e5'
     obtain⟨q,hn⟩:=nodes_D _ h' e.kids[i] H hgk
     generalize e.kids[i]=k at hq hn
     simp (disch:=omega) only[evX,↓reduceIte,Nat.reduceEqDiff,Nat.reduceBEq,Nat.reduceAdd,Nat.reduceMul,reduceCtorEq,Nat.reduceLeDiff,Int.reduceEq,Int.reduceLT,Int.reduceLE,Int.reduceBEq,Int.reduceBNe,Int.reduceAdd,Int.reduceNeg,Int.reduceSub,Int.reduceMul,e1,e3,e4,exs_len,hq,hn]
     exact⟨c,by rw[hE'],_,rfl⟩
    ·have:i=e.kids.length:=by omega
     subst this
     simp (disch:=omega) only[evX,↓reduceIte,Nat.reduceEqDiff,Nat.reduceBEq,Nat.reduceAdd,Nat.reduceMul,reduceCtorEq,Nat.reduceLeDiff,Int.reduceEq,Int.reduceLT,Int.reduceLE,Int.reduceBEq,Int.reduceBNe,Int.reduceAdd,Int.reduceNeg,Int.reduceSub,Int.reduceMul,e1,e3,e4,exs_len]
     exact⟨_,rfl⟩
   ·rintro s hs
    obtain⟨T,rfl,n,e3⟩:=hs.out
    simp (disch:=omega) only[evX,↓reduceIte,Nat.reduceEqDiff,Nat.reduceBEq,Nat.reduceAdd,Nat.reduceMul,reduceCtorEq,Nat.reduceLeDiff,Int.reduceEq,Int.reduceLT,Int.reduceLE,Int.reduceBEq,Int.reduceBNe,Int.reduceAdd,Int.reduceNeg,Int.reduceSub,Int.reduceMul,e3]
    exact⟨_,rfl⟩
   ·simp (disch:=omega) only[evX,↓reduceIte,Nat.reduceEqDiff,Nat.reduceBEq,Nat.reduceAdd,Nat.reduceMul,reduceCtorEq,Nat.reduceLeDiff,Int.reduceEq,Int.reduceLT,Int.reduceLE,Int.reduceBEq,Int.reduceBNe,Int.reduceAdd,Int.reduceNeg,Int.reduceSub,Int.reduceMul,Int.natCast_zero,hE']
    exact⟨_,rfl⟩
  obtain⟨r,h1,n,rfl⟩:=key
  exact⟨n,h1⟩
theorem number_D (T:Int):∀ (h:Nat) (e:Ex) (l:List Int) (H:AHeap),GoodE T h e→l.length+5 ^ h≤100000000000→callD A 21 [.agg (encEx e),.slice (ints l) true] H=some (.slice (ints (l++numE e)) true,none)
 | 0,e,l,H,hg,_=>by cases hg
 | h+1,e,l,H,hg,hl=>by
  refine callD_W (fn:=ir21) rfl rfl rfl ?_
  unfold ir21;dsimp only[oQ,oP,iR,oM,oT,oL,oG,oH,oI,oF,oX,oA,oN,oS,oB,oR,oK,oC,iT,iC,iZ,iE]
  have hk:=hg.kl
  have hp:5 ^ (h+1)=5*5 ^ h:=by rw[Nat.pow_succ];omega
  obtain⟨E,hE⟩:∃ E,E=encEx e:=⟨_,rfl⟩
  have hE':=hE
  rw[encEx_eq] at hE'
  rw[← hE]
  rw[hE']
  have hlen:∀ i,(numEs (e.kids.take i)).length≤4*5 ^ h:=by
   intro i
   have h1:=numEs_len (b:=5 ^ h) (l:=e.kids.take i) (fun x hx=>by
    obtain⟨h',e5,hgk⟩:=hg.kid (List.mem_of_mem_take hx)
    have:h'=h:=by omega
    subst this
    exact numE_len hgk)
   have h2:(e.kids.take i).length*5 ^ h≤4*5 ^ h:=Nat.mul_le_mul_right _ (by rw[List.length_take];omega)
   omega
  simp (disch:=omega) only[evX,↓reduceIte,Nat.reduceEqDiff,Nat.reduceBEq,Nat.reduceAdd,Nat.reduceMul,reduceCtorEq,Nat.reduceLeDiff,Int.reduceEq,Int.reduceLT,Int.reduceLE,Int.reduceBEq,Int.reduceBNe,Int.reduceAdd,Int.reduceNeg,Int.reduceSub,Int.reduceMul]
  refine W_countx e.kids.length 0 (fun i=>Hd (fun T=>T 1=.slice (ints (l++numEs (e.kids.take i))) true∧T 2=.lbox 0 E∧T 5=.int .i64 i) H H.length 1)
   (Hd (fun T=>T 1=.slice (ints (l++numEs e.kids)) true∧T 2=.lbox 0 E) H H.length 1) (fun _=>False) ?_ ?_ (fun _ h=>h.elim) 0 _ (by omega) ?_
  ·rintro i s hi hs
   obtain⟨T,rfl,e1,e2,e5⟩:=hs.out
   rw[hE'] at e2
   by_cases c:i<e.kids.length
   ·have hq:=exs_at (List.getElem?_eq_getElem c)
    obtain⟨h',e5',hgk⟩:=hg.kid (List.getElem_mem c)
    have e5'' : h'=h:=by omega
    subst e5''
    have hli:=hlen i
    have hn:=number_D _ h' e.kids[i] (l++numEs (e.kids.take i)) H hgk (by rw[List.length_append];omega)
    rw[List.append_assoc,← numEs_append,← take_snoc c] at hn
    generalize e.kids[i]=k at hq hn
    simp (disch:=omega) only[evX,↓reduceIte,Nat.reduceEqDiff,Nat.reduceBEq,Nat.reduceAdd,Nat.reduceMul,reduceCtorEq,Nat.reduceLeDiff,Int.reduceEq,Int.reduceLT,Int.reduceLE,Int.reduceBEq,Int.reduceBNe,Int.reduceAdd,Int.reduceNeg,Int.reduceSub,Int.reduceMul,e1,e2,e5,exs_len,hq,hn]
    exact⟨c,by rw[hE']⟩
   ·have:i=e.kids.length:=by omega
    subst this
    simp (disch:=omega) only[evX,↓reduceIte,Nat.reduceEqDiff,Nat.reduceBEq,Nat.reduceAdd,Nat.reduceMul,reduceCtorEq,Nat.reduceLeDiff,Int.reduceEq,Int.reduceLT,Int.reduceLE,Int.reduceBEq,Int.reduceBNe,Int.reduceAdd,Int.reduceNeg,Int.reduceSub,Int.reduceMul,e1,e2,e5,exs_len,List.take_length,hE']
  ·rintro s hs
   obtain⟨T,rfl,e1,e2⟩:=hs.out
   rw[hE'] at e2
   have hli:=hlen e.kids.length
   rw[List.take_length] at hli
   have hll:(l++numEs e.kids).length≤1099511627775:=by rw[List.length_append];omega
   simp (disch:=omega) only[evX,↓reduceIte,Nat.reduceEqDiff,Nat.reduceBEq,Nat.reduceAdd,Nat.reduceMul,reduceCtorEq,Nat.reduceLeDiff,Int.reduceEq,Int.reduceLT,Int.reduceLE,Int.reduceBEq,Int.reduceBNe,Int.reduceAdd,Int.reduceNeg,Int.reduceSub,Int.reduceMul,e1,e2]
   rw[numE_eq,← List.append_assoc]
  ·simp (disch:=omega) only[evX,↓reduceIte,Nat.reduceEqDiff,Nat.reduceBEq,Nat.reduceAdd,Nat.reduceMul,reduceCtorEq,Nat.reduceLeDiff,Int.reduceEq,Int.reduceLT,Int.reduceLE,Int.reduceBEq,Int.reduceBNe,Int.reduceAdd,Int.reduceNeg,Int.reduceSub,Int.reduceMul,Int.natCast_zero,List.take_zero,numEs,List.append_nil,hE']
theorem renamed_D (ids:List Id) (li:Nat) (ty:TypeId) (H:AHeap) (hH:H[li]?=some (.box ty (encIds ids).flatten)):∀ (h:Nat) (e:Ex),GoodE (ids.length:Int) h e →
  ∃ e' : Ex,callD A 22 [.agg (encEx e),.sref li 0 ids.length 3] H=some (.agg (encEx e'),none)∧ExLen e'
 | 0,e,hg=>by cases hg
 | h+1,e,hg=>by
  have key:∃ r,callD A 22 [.agg (encEx e),.sref li 0 ids.length 3] H=some r∧∃ e' : Ex,r=(.agg (encEx e'),none)∧ExLen e':=by
   refine callD_WP (fn:=ir22) rfl rfl rfl ?_
   unfold ir22;dsimp only[oQ,oP,iR,oM,oT,oL,oG,oH,oI,oF,oX,oA,oN,oS,oB,oR,oK,oC,iT,iC,iZ,iE]
   have hk:=hg.kl
   obtain⟨i0,hi0⟩:∃ i:Nat,e.id.index=i:=⟨e.id.index.toNat,by rw[Int.toNat_of_nonneg hg.ix.1]⟩
   have hi1:i0<ids.length:=by have:=hg.ix.2;omega
   obtain⟨d,hd⟩:∃ d,ids[i0]?=some d:=⟨_,List.getElem?_eq_getElem hi1⟩
   have qd:=ids_load hd
   rw[encId] at qd
   obtain⟨rf,hrf⟩:∃ rf:Id,∀ (b:Bool),b=(e.kind==2&&e.ref.seq==0)→(b=true→∃ j:Nat,e.ref.index=j∧ids[j]?=some rf)∧(b=false→rf=e.ref):=by
    by_cases hb:e.kind=2∧e.ref.seq=0
    ·obtain⟨r1,r2⟩:=hg.rx hb.1 hb.2
     obtain⟨j,hj⟩:∃ j:Nat,e.ref.index=j:=⟨e.ref.index.toNat,by rw[Int.toNat_of_nonneg r1]⟩
     have hj1:j<ids.length:=by omega
     exact⟨ids[j],fun b hbb=>⟨fun _=>⟨j,hj,List.getElem?_eq_getElem hj1⟩,fun h=>by rw[hbb,hb.1,hb.2] at h;simp at h⟩⟩
    ·refine⟨e.ref,fun b hbb=>⟨fun h=>?_,fun _=>rfl⟩⟩
     rw[hbb] at h
     simp only[Bool.and_eq_true,beq_iff_eq] at h
     exact absurd h hb
   obtain⟨E,hE⟩:∃ E,E=encEx e:=⟨_,rfl⟩
   have hE':=hE
   rw[encEx_eq] at hE'
   rw[← hE]
   rw[hE']
   refine W_cutN 4 (Hd (fun T=>T 1=.sref li 0 ids.length 3∧T 2=.lbox 0 E∧T 4=exBox 1∧T 5=.lbox 2 [.int .i64 d.shop,.int .i64 d.seq,.int .i64 d.index,.int .i64 e.kind,.int .i64 e.n,.int .i64 rf.shop,.int .i64 rf.seq,.int .i64 rf.index,
    .int .i64 e.tk,.int .i64 e.td.shop,.int .i64 e.td.seq,.int .i64 e.td.index,encNil (e.tks.map encTys),.slice (encExs []) true,encNil (e.names.map strs)]) H H.length 3) ?_ ?_
   ·simp only[ICode.pre]
    cases hb:(e.kind==2&&e.ref.seq==0) with
    | true =>
     obtain⟨j,hj,hjd⟩:=(hrf _ hb.symm).1 rfl
     have hj1:=(List.getElem?_eq_some_iff.1 hjd).1
     have qr:=ids_load hjd
     rw[encId] at qr
     simp only[Bool.and_eq_true,beq_iff_eq] at hb
     simp (disch:=omega) only[evX,↓reduceIte,Nat.reduceEqDiff,Nat.reduceBEq,Nat.reduceAdd,Nat.reduceMul,reduceCtorEq,Nat.reduceLeDiff,Int.reduceEq,Int.reduceLT,Int.reduceLE,Int.reduceBEq,Int.reduceBNe,Int.reduceAdd,Int.reduceNeg,Int.reduceSub,Int.reduceMul,hH,hi0,qd,hj,qr,hb.1,hb.2,exs0,hE',exBox]
    | false =>
     have e1:=(hrf _ hb.symm).2 rfl
     subst e1
     by_cases h2:e.kind=2
     ·have h3:e.ref.seq≠0:=by rw[h2] at hb;simpa using hb
      simp (disch:=omega) only[evX,↓reduceIte,Nat.reduceEqDiff,Nat.reduceBEq,Nat.reduceAdd,Nat.reduceMul,reduceCtorEq,Nat.reduceLeDiff,Int.reduceEq,Int.reduceLT,Int.reduceLE,Int.reduceBEq,Int.reduceBNe,Int.reduceAdd,Int.reduceNeg,Int.reduceSub,Int.reduceMul,hH,hi0,qd,h2,exs0,hE',exBox]
     ·simp (disch:=omega) only[evX,↓reduceIte,Nat.reduceEqDiff,Nat.reduceBEq,Nat.reduceAdd,Nat.reduceMul,reduceCtorEq,Nat.reduceLeDiff,Int.reduceEq,Int.reduceLT,Int.reduceLE,Int.reduceBEq,Int.reduceBNe,Int.reduceAdd,Int.reduceNeg,Int.reduceSub,Int.reduceMul,hH,hi0,qd,exs0,hE',exBox]
   ·rintro s hs
    obtain⟨T,rfl,e1,e2,e4,e5⟩:=hs.out
    simp only[ICode.post]
    have e2':=e2
    rw[hE'] at e2'
    simp (disch:=omega) only[evX,↓reduceIte,Nat.reduceEqDiff,Nat.reduceBEq,Nat.reduceAdd,Nat.reduceMul,reduceCtorEq,Nat.reduceLeDiff,Int.reduceEq,Int.reduceLT,Int.reduceLE,Int.reduceBEq,Int.reduceBNe,Int.reduceAdd,Int.reduceNeg,Int.reduceSub,Int.reduceMul]
    refine W_countx e.kids.length 0 (fun i s=>∃ acc,Hd (fun T=>T 1=.sref li 0 ids.length 3∧T 2=.lbox 0 E∧T 4=exBox 1∧T 5=.lbox 2 [.int .i64 d.shop,.int .i64 d.seq,.int .i64 d.index,.int .i64 e.kind,.int .i64 e.n,.int .i64 rf.shop,.int .i64 rf.seq,.int .i64 rf.index,
      .int .i64 e.tk,.int .i64 e.td.shop,.int .i64 e.td.seq,.int .i64 e.td.index,encNil (e.tks.map encTys),.slice (encExs acc) true,encNil (e.names.map strs)]∧T 6=.int .i64 i) H H.length 3 s∧acc.length=i∧∀ x∈acc,ExLen x)
     (fun s=>∃ acc,Hd (fun T=>T 4=exBox 1∧T 5=.lbox 2 [.int .i64 d.shop,.int .i64 d.seq,.int .i64 d.index,.int .i64 e.kind,.int .i64 e.n,.int .i64 rf.shop,.int .i64 rf.seq,.int .i64 rf.index,
      .int .i64 e.tk,.int .i64 e.td.shop,.int .i64 e.td.seq,.int .i64 e.td.index,encNil (e.tks.map encTys),.slice (encExs acc) true,encNil (e.names.map strs)]) H H.length 3 s∧acc.length≤4∧∀ x∈acc,ExLen x)
     (fun _=>False) ?_ ?_ (fun _ h=>h.elim) 0 _ (by omega) ?_
    ·rintro i s hi ⟨acc,hs,hal,hax⟩
     obtain⟨T,rfl,e1,e2,e4,e5,e6⟩:=hs.out
     have e2':=e2
     rw[hE'] at e2'
     by_cases c:i<e.kids.length
     ·have hq:=exs_at (List.getElem?_eq_getElem c)
      obtain⟨h',e5',hgk⟩:=hg.kid (List.getElem_mem c)
      have e5'' : h'=h:=by omega
      subst e5''
      obtain⟨q,hn,hql⟩:=renamed_D ids li ty H hH h' e.kids[i] hgk
      generalize e.kids[i]=k at hq hn
      simp (disch:=omega) only[evX,↓reduceIte,Nat.reduceEqDiff,Nat.reduceBEq,Nat.reduceAdd,Nat.reduceMul,reduceCtorEq,Nat.reduceLeDiff,Int.reduceEq,Int.reduceLT,Int.reduceLE,Int.reduceBEq,Int.reduceBNe,Int.reduceAdd,Int.reduceNeg,Int.reduceSub,Int.reduceMul,e1,e2',e4,e5,e6,exs_len,hq,hn,app_ex,loadAV,takenAt,List.modify_succ_cons,List.modify_zero_cons,loadCellsAV]
      exact⟨c,acc++[q],⟨by rw[hE'],rfl⟩,by simp[hal],fun x hx=>by rcases List.mem_append.1 hx with h|h;exact hax x h;rw[List.mem_singleton.1 h];exact hql⟩
     ·simp (disch:=omega) only[evX,↓reduceIte,Nat.reduceEqDiff,Nat.reduceBEq,Nat.reduceAdd,Nat.reduceMul,reduceCtorEq,Nat.reduceLeDiff,Int.reduceEq,Int.reduceLT,Int.reduceLE,Int.reduceBEq,Int.reduceBNe,Int.reduceAdd,Int.reduceNeg,Int.reduceSub,Int.reduceMul,e1,e2',e4,e5,e6,exs_len]
      exact⟨acc,rfl,by omega,hax⟩
    ·rintro s ⟨acc,hs,hal,hax⟩
     obtain⟨T,rfl,e4,e5⟩:=hs.out
     rw[exBox] at e4
     simp (disch:=omega) only[evX,↓reduceIte,Nat.reduceEqDiff,Nat.reduceBEq,Nat.reduceAdd,Nat.reduceMul,reduceCtorEq,Nat.reduceLeDiff,Int.reduceEq,Int.reduceLT,Int.reduceLE,Int.reduceBEq,Int.reduceBNe,Int.reduceAdd,Int.reduceNeg,Int.reduceSub,Int.reduceMul,e4,e5]
     exact⟨.mk d e.kind e.n rf e.tk e.td e.tks acc e.names,by rw[encEx],.mk _ _ _ _ _ _ _ _ _ (by omega) hax⟩
    ·simp (disch:=omega) only[evX,↓reduceIte,Nat.reduceEqDiff,Nat.reduceBEq,Nat.reduceAdd,Nat.reduceMul,reduceCtorEq,Nat.reduceLeDiff,Int.reduceEq,Int.reduceLT,Int.reduceLE,Int.reduceBEq,Int.reduceBNe,Int.reduceAdd,Int.reduceNeg,Int.reduceSub,Int.reduceMul,e1,e2,e4,e5,Int.natCast_zero]
     exact⟨[],rfl,rfl,by simp⟩
  obtain⟨r,h1,e',rfl,h2⟩:=key
  exact⟨e',h1,h2⟩
end Go.Proofs.YtemfofdaemgjgaaGreatDoor
end
section
set_option linter.unusedSimpArgs false
set_option linter.unusedVariables false
set_option maxRecDepth 100000
set_option maxHeartbeats 1000000
namespace Go.Proofs.YtemfofdaemgjgaaGreatDoor
open Go Go.Abs Go.Proofs
def TS (h:Bool) (mods:Int) (r:Nat) (t:Ty):Prop :=
 (1≤r∧(t=tInt∨t=tBool))∨(2≤r∧t=tList tInt)∨(3≤r∧t=tOf (idN mods))∨(4≤r∧t=tOf (idN (mods+1)))∨(4≤r∧h=true∧t=tOf (idN (mods+2)))∨(5≤r∧h=true∧t=tOf (idN (mods+3)))
theorem TS.mono {h:Bool} {mods:Int} {r r' : Nat} {t:Ty} (hr:r≤r') (ht:TS h mods r t):TS h mods r' t:=by
 rcases ht with ⟨a,b⟩|⟨a,b⟩|⟨a,b⟩|⟨a,b⟩|⟨a,b⟩|⟨a,b⟩
 ·exact .inl ⟨by omega,b⟩
 ·exact .inr (.inl ⟨by omega,b⟩)
 ·exact .inr (.inr (.inl ⟨by omega,b⟩))
 ·exact .inr (.inr (.inr (.inl ⟨by omega,b⟩)))
 ·exact .inr (.inr (.inr (.inr (.inl ⟨by omega,b⟩))))
 ·exact .inr (.inr (.inr (.inr (.inr ⟨by omega,b⟩))))
theorem around6 {x:Int} (h:0≤x∧x<6):around x 6=x:=by
 unfold around
 rw[if_neg (by omega),tmod_nn h.1]
 omega
theorem simple_D (x:Int) (one two:Ty) (H:AHeap) (hx:0≤x∧x<6) :
  ∃ t,callD A 33 [.int .i64 x,.agg (encTy one),.agg (encTy two)] H=some (.agg (encTy t),none)∧((t=tInt∨t=tBool∨t=tList tInt)∨(3≤x∧t=one)∨(4≤x∧t=two)):=by
 have har:=around_D x 6 H ⟨by omega,by omega⟩ (by omega)
 rw[around6 hx] at har
 have hli:=list_D tInt H
 have key:∀ t,([encTy tInt,encTy tBool,encTy (tList tInt),encTy one,encTy two,encTy tInt]:List (List AV))[x.toNat]?=some (encTy t)→callD A 33 [.int .i64 x,.agg (encTy one),.agg (encTy two)] H=some (.agg (encTy t),none):=by
  intro t ht
  refine callD_W (fn:=ir33) rfl rfl rfl ?_
  unfold ir33;dsimp only[oQ,oP,iR,oM,oT,oL,oG,oH,oI,oF,oX,oA,oN,oS,oB,oR,oK,oC,iT,iC,iZ,iE]
  simp only[tInt,tBool,tList,encTy,encTys] at hli ht
  rw[encTy_eq,encTy_eq,encTy_eq] at *
  simp (disch:=omega) only[evX,↓reduceIte,Nat.reduceEqDiff,Nat.reduceBEq,Nat.reduceAdd,Nat.reduceMul,reduceCtorEq,Nat.reduceLeDiff,Int.reduceEq,Int.reduceLT,Int.reduceLE,Int.reduceBEq,Int.reduceBNe,Int.reduceAdd,Int.reduceNeg,Int.reduceSub,Int.reduceMul,hli,har,ht]
 have h6:x=0∨x=1∨x=2∨x=3∨x=4∨x=5:=by omega
 rcases h6 with rfl|rfl|rfl|rfl|rfl|rfl
 ·exact⟨tInt,key _ rfl,.inl (.inl rfl)⟩
 ·exact⟨tBool,key _ rfl,.inl (.inr (.inl rfl))⟩
 ·exact⟨tList tInt,key _ rfl,.inl (.inr (.inr rfl))⟩
 ·exact⟨one,key _ rfl,.inr (.inl ⟨by omega,rfl⟩)⟩
 ·exact⟨two,key _ rfl,.inr (.inr ⟨by omega,rfl⟩)⟩
 ·exact⟨tInt,key _ rfl,.inl (.inl rfl)⟩
def frzRows (rows:List (List AV)):List (List AV):=rows.map fun r=>r.map fun x=>x.drop.norm
theorem chunks_rows {z:Nat} : ∀ {rows:List (List AV)},(∀ r∈rows,r.length=z)→chunks z rows.length rows.flatten=rows
 | [],_=>rfl
 | r :: rows,h=>by
  have hr:=h r (by simp)
  rw[List.length_cons,chunks,List.flatten_cons,← hr,List.take_left' rfl,List.drop_left' rfl,hr,chunks_rows fun r hr=>h r (by simp[hr])]
theorem frzC_rows {H:AHeap} {base l z:Nat} {ty:TypeId} {rows:List (List AV)} (hb:base≤l) (hl:H[l]?=some (.box ty rows.flatten)) (hw:∀ r∈rows,r.length=z) (hz:0<z)
  (hp:∀ r∈rows,(r.all fun x=>x.drop.plain&&noByteV x)=true):frzC H base (.sref l 0 rows.length z)=.slice (frzRows rows) false:=by
 have h1:(rows.flatten.all fun x=>x.drop.plain&&noByteV x)=true:=by
  rw[List.all_eq_true]
  intro x hx
  obtain⟨r,hr,hx⟩:=List.mem_flatten.1 hx
  exact List.all_eq_true.1 (hp r hr) x hx
 have h2:rows.flatten.map (fun x=>x.drop.norm)=(frzRows rows).flatten:=by rw[frzRows,List.map_flatten]
 have hw2:∀ r∈frzRows rows,r.length=z:=by
  intro r hr
  rw[frzRows] at hr
  obtain⟨q,hq,rfl⟩:=List.mem_map.1 hr
  rw[List.length_map];exact hw q hq
 have h3:(frzRows rows).length=rows.length:=by rw[frzRows,List.length_map]
 have h4:(frzRows rows).flatten.length=rows.length*z:=by rw[flat_length hw2,h3]
 simp only[frzC,Nat.ble_eq_true_of_le hb,cond_true,hl,Option.bind_some,frzObj,h1,h2,h4,Nat.zero_add,List.drop_zero,Nat.ble_eq_true_of_le (Nat.le_refl _),Bool.and_true]
 rw[show Nat.blt 0 z=true by simpa [Nat.blt_eq] using hz,cond_true]
 have h5:=chunks_rows hw2
 rw[h3] at h5
 rw[h5]
def doneFrz (base:Nat) (rs:List IRes) (P:AV × Option Chg→Prop):IExit→AS→Prop
 | .exit _,_=>False
 | _,s=>finish0 base rs s=none∧finPub base rs s=none∧∃ r,finFrz base rs s=some r∧P r
theorem callD_Frz {f:FuncId} {fn:IFunc} (ho:A.ov f=none) (hf:A.fns f=some fn) {args:List AV} {H:AHeap} {P:AV × Option Chg→Prop} (hn:Nat.beq args.length fn.np=true)
  (h:W A fn.body { T:=initT args,H,lo:=H.length,gen:=0 } (doneFrz H.length fn.results P)):∃ r,callD A f args H=some r∧P r:=by
 refine callD_Pub ho hf hn (W_mono h fun e s hs=>?_)
 have key:(finish0 H.length fn.results s=none∧finPub H.length fn.results s=none∧∃ r,finFrz H.length fn.results s=some r∧P r)→∃ r,finish H.length fn s=some r∧P r:=by
  rintro ⟨h1,h2,r,h3,hP⟩
  exact⟨r,by unfold finish;rw[h1];simp only[h2,h3],hP⟩
 cases e with
 | exit i=>exact hs
 | normal=>exact key hs
 | ret=>exact key hs
theorem frz_two {base t u l1 l2 z1 z2 gen:Nat} {ty1 ty2:TypeId} {T:AFrame} {H:AHeap} {P:AV × Option Chg→Prop} {rows1 rows2:List (List AV)} (h1:T t=.sref l1 0 rows1.length z1) (h2:T u=.sref l2 0 rows2.length z2)
  (b1:base≤l1) (b2:base≤l2) (k1:H[l1]?=some (.box ty1 rows1.flatten)) (k2:H[l2]?=some (.box ty2 rows2.flatten)) (w1:∀ r∈rows1,r.length=z1) (w2:∀ r∈rows2,r.length=z2) (z10:0<z1) (z20:0<z2)
  (p1:∀ r∈rows1,(r.all fun x=>x.drop.plain&&noByteV x)=true) (p2:∀ r∈rows2,(r.all fun x=>x.drop.plain&&noByteV x)=true)
  (hP:P (.tuple [.slice (frzRows rows1) false,.slice (frzRows rows2) false],none)):doneFrz base [.tmp t,.tmp u] P .ret ⟨T,H,base,gen⟩:=by
 have n1:Nat.blt l1 base=false:=by rw[blt_dec];exact decide_eq_false (by omega)
 have n2:Nat.blt l2 base=false:=by rw[blt_dec];exact decide_eq_false (by omega)
 refine⟨?_,?_,(.tuple [.slice (frzRows rows1) false,.slice (frzRows rows2) false],none),?_,hP⟩
 ·simp only[finish0,resVal,resAll,resOf,h1,h2,fc_sref,cond_true,Option.bind_some,Option.map_some,dropAll_sref,leaves_tuple,List.all_cons,List.all_nil,partOut_sref,cellOut_sref,n1,n2,Bool.false_and,cond_false]
 ·simp only[finPub,resPub,resRow,resOf,h1,h2,fc_sref,cond_true,Option.bind_some,Option.map_some,dropAll_sref,partOut_sref,cellOut_sref,n1,n2,cond_false,Option.bind_none]
  rfl
 ·simp only[finFrz,resVal2,resAll,resOf,h1,h2,fc_sref,cond_true,Option.bind_some,Option.map_some,dropAll_sref,List.map_cons,List.map_nil,frzP,frzC_rows b1 k1 w1 z10 p1,frzC_rows b2 k2 w2 z20 p2,leaves_tuple,List.all_cons,List.all_nil,partOut_slice,cellOut_slice,plain_slice,Bool.not_false,Bool.and_self,Nat.beq_refl]
theorem tys_wide {l:List Ty} : ∀ r∈encTys l,r.length=5:=fun r hr=>by
 rw[encTys_map] at hr
 simp only[List.mem_map] at hr
 obtain⟨i,_,rfl⟩:=hr
 rw[encTy_eq];rfl
def IsIn (point:Ty) (r:AV × Option Chg):Prop:=∃ (ts:List Ty) (ms:List Int),r=(.tuple [.slice (encTys ts) false,.slice (ints ms) false],none)∧1≤ts.length∧ts.length≤2∧ms.length=ts.length∧∀ t∈ts,t=tInt∨t=tBool∨t=tList tInt∨t=point
theorem frz_tys:∀ (l:List Ty),frzRows (encTys l)=encTys l:=fun l=>by
 rw[frzRows,encTys_map,List.map_map]
 refine List.map_congr_left fun t _=>?_
 simp only[Function.comp,encTy_eq,List.map_cons,List.map_nil,drop_int,drop_slice,AV.norm]
theorem frz_ints:∀ (l:List Int),frzRows (ints l)=ints l:=fun l=>by
 rw[frzRows,ints,List.map_map]
 exact List.map_congr_left fun t _=>rfl
theorem ints_wide {l:List Int} : ∀ r∈ints l,r.length=1:=fun r hr=>by
 simp only[ints,List.mem_map] at hr;obtain⟨i,_,rfl⟩:=hr;rfl
theorem in_fin {point:Ty} {base l1 l2 gen:Nat} {ty1 ty2:TypeId} {T:AFrame} {H:AHeap} (ts:List Ty) (ms:List Int) (h1:T 6=.sref l1 0 ts.length 5) (h2:T 7=.sref l2 0 ms.length 1)
  (b1:base≤l1) (b2:base≤l2) (k1:H[l1]?=some (.box ty1 (encTys ts).flatten)) (k2:H[l2]?=some (.box ty2 (ints ms).flatten)) (a1:1≤ts.length) (a2:ts.length≤2) (a3:ms.length=ts.length) (a4:∀ t∈ts,t=tInt∨t=tBool∨t=tList tInt∨t=point) :
  doneFrz base [.tmp 6,.tmp 7] (IsIn point) .ret ⟨T,H,base,gen⟩:=by
 refine frz_two (rows1:=encTys ts) (rows2:=ints ms) (by rw[tys_len];exact h1) (by rw[ints_len];exact h2) b1 b2 k1 k2 tys_wide ints_wide (by omega) (by omega) (fun r hr=>?_) (fun r hr=>?_) ?_
 ·rw[encTys_map] at hr
  obtain⟨t,_,rfl⟩:=List.mem_map.1 hr
  rw[encTy_eq]
  rfl
 ·simp only[ints,List.mem_map] at hr
  obtain⟨t,_,rfl⟩:=hr
  rfl
 ·rw[frz_tys,frz_ints]
  exact⟨ts,ms,rfl,a1,a2,a3,a4⟩
theorem in_fin2 {point:Ty} {base l1 l2 gen:Nat} {ty1 ty2:TypeId} {T:AFrame} {H:AHeap} (ts:List Ty) (ms:List Int) (h1:T 6=.sref l1 0 (ts.length+1) 5) (h2:T 7=.sref l2 0 ms.length 1)
  (b1:base≤l1) (b2:base≤l2) (k1:H[l1]?=some (.box ty1 ([.int .i64 1,.int .i64 0,.int .i64 0,.int .i64 0,.slice [] true]++(encTys ts).flatten))) (k2:H[l2]?=some (.box ty2 (ints ms).flatten)) (a2:ts.length+1≤2) (a3:ms.length=ts.length+1) (a4:∀ t∈ts,t=tInt∨t=tBool∨t=tList tInt∨t=point) :
  doneFrz base [.tmp 6,.tmp 7] (IsIn point) .ret ⟨T,H,base,gen⟩:=by
 refine frz_two (rows1:=[.int .i64 1,.int .i64 0,.int .i64 0,.int .i64 0,.slice [] true] :: encTys ts) (rows2:=ints ms) (by rw[List.length_cons,tys_len];exact h1) (by rw[ints_len];exact h2) b1 b2 k1 k2 ?_ ints_wide (by omega) (by omega) (fun r hr=>?_) (fun r hr=>?_) ?_
 ·intro r hr
  rcases List.mem_cons.1 hr with rfl|hr
  ·rfl
  ·exact tys_wide r hr
 ·rcases List.mem_cons.1 hr with rfl|hr
  ·rfl
  ·rw[encTys_map] at hr
   obtain⟨t,_,rfl⟩:=List.mem_map.1 hr
   rw[encTy_eq]
   rfl
 ·simp only[ints,List.mem_map] at hr
  obtain⟨t,_,rfl⟩:=hr
  rfl
 ·have e:frzRows ([.int .i64 1,.int .i64 0,.int .i64 0,.int .i64 0,.slice [] true] :: encTys ts)=encTys (tBool :: ts):=by
   have:=frz_tys ts
   simp only[frzRows] at this
   simp only[frzRows,List.map_cons,this,List.map_nil,encTys,tBool,encTy]
   rfl
  rw[e,frz_ints]
  refine⟨tBool :: ts,ms,rfl,by simp,by simpa using a2,by simpa using a3,fun t ht=>?_⟩
  rcases List.mem_cons.1 ht with rfl|ht
  ·exact .inr (.inl rfl)
  ·exact a4 t ht
theorem inputs_D (l:List Int) (pos:Int) (point:Ty) (H:AHeap) (hl:∀ n∈l,I64 n) (hp:0≤pos∧pos≤1000) :
  ∃ r,callD A 35 [.slice (ints l) false,.int .i64 pos,.agg (encTy point)] H=some r∧IsIn point r:=by
 refine callD_Frz (fn:=ir35) rfl rfl rfl ?_
 unfold ir35;dsimp only[oQ,oP,iR,oM,oT,oL,oG,oH,oI,oF,oX,oA,oN,oS,oB,oR,oK,oC,iT,iC,iZ,iE]
 have hat:=fun i k H (h:0<k)=>at_D l i k H hl h
 obtain⟨x,hx⟩:∃ x,x=atZ l pos 5:=⟨_,rfl⟩
 obtain⟨y,hy⟩:∃ y,y=atZ l (pos+2) 3:=⟨_,rfl⟩
 have hxr:=atZ_range (l:=l) (i:=pos) (k:=5) (by omega)
 have hyr:=atZ_range (l:=l) (i:=pos+2) (k:=3) (by omega)
 have hz3:=atZ_range (l:=l) (i:=pos+1) (k:=3) (by omega)
 have hz2:=atZ_range (l:=l) (i:=pos+1) (k:=2) (by omega)
 rw[← hx] at hxr
 rw[← hy] at hyr
 have hli:=fun H=>list_D tInt H
 simp only[tInt,tBool,tList,encTy,encTys] at hli
 rw[encTy_eq]
 have h5:x=0∨x=1∨x=2∨x=3∨x=4:=by omega
 have h3:y=0∨y=1∨y=2:=by omega
 have hz2:=hz2
 rcases h5 with h|h|h|h|h
 ·rw[h] at hx
  rcases h3 with h'|h'|h'
  ·rw[h'] at hy
   simp (disch:=omega) only[evX,↓reduceIte,Nat.reduceEqDiff,Nat.reduceBEq,Nat.reduceAdd,Nat.reduceMul,reduceCtorEq,Nat.reduceLeDiff,Int.reduceEq,Int.reduceLT,Int.reduceLE,Int.reduceBEq,Int.reduceBNe,Int.reduceAdd,Int.reduceNeg,Int.reduceSub,Int.reduceMul,hli,hat,← hx,← hy,plainRows,aoK,evAppendO,fitsRows,headOk,List.isEmpty_cons,List.head?_cons,List.flatten_cons,List.flatten_nil,Option.getD_some]
   refine in_fin (point:=point) (base:=H.length) (ty1:=freeTy) (ty2:=freeTy) (l1:=H.length+0) (l2:=H.length+1) [tInt] [1+atZ l (pos+1) 3] rfl rfl (by omega) (by omega) ?_ ?_ (by simp) (by simp) rfl (by simp)
   ·simp[encTys_map,encTy_eq,tInt,tBool,tList,Ty.kind,Ty.d,Ty.kids]
    try rfl
   ·simp[ints]
    try rfl
  ·rw[h'] at hy
   simp (disch:=omega) only[evX,↓reduceIte,Nat.reduceEqDiff,Nat.reduceBEq,Nat.reduceAdd,Nat.reduceMul,reduceCtorEq,Nat.reduceLeDiff,Int.reduceEq,Int.reduceLT,Int.reduceLE,Int.reduceBEq,Int.reduceBNe,Int.reduceAdd,Int.reduceNeg,Int.reduceSub,Int.reduceMul,hli,hat,← hx,← hy,plainRows,aoK,evAppendO,fitsRows,headOk,List.isEmpty_cons,List.head?_cons,List.flatten_cons,List.flatten_nil,Option.getD_some]
   refine in_fin (point:=point) (base:=H.length) (ty1:=freeTy) (ty2:=freeTy) (l1:=H.length+2) (l2:=H.length+3) [tInt,tInt] [1+atZ l (pos+1) 3,1] rfl rfl (by omega) (by omega) ?_ ?_ (by simp) (by simp) rfl (by simp)
   ·simp[encTys_map,encTy_eq,tInt,tBool,tList,Ty.kind,Ty.d,Ty.kids]
    try rfl
   ·simp[ints]
    try rfl
  ·rw[h'] at hy
   simp (disch:=omega) only[evX,↓reduceIte,Nat.reduceEqDiff,Nat.reduceBEq,Nat.reduceAdd,Nat.reduceMul,reduceCtorEq,Nat.reduceLeDiff,Int.reduceEq,Int.reduceLT,Int.reduceLE,Int.reduceBEq,Int.reduceBNe,Int.reduceAdd,Int.reduceNeg,Int.reduceSub,Int.reduceMul,hli,hat,← hx,← hy,plainRows,aoK,evAppendO,fitsRows,headOk,List.isEmpty_cons,List.head?_cons,List.flatten_cons,List.flatten_nil,Option.getD_some]
   refine in_fin (point:=point) (base:=H.length) (ty1:=freeTy) (ty2:=freeTy) (l1:=H.length+2) (l2:=H.length+3) [tInt,tBool] [1+atZ l (pos+1) 3,0] rfl rfl (by omega) (by omega) ?_ ?_ (by simp) (by simp) rfl (by simp)
   ·simp[encTys_map,encTy_eq,tInt,tBool,tList,Ty.kind,Ty.d,Ty.kids]
    try rfl
   ·simp[ints]
    try rfl
 ·rw[h] at hx
  rcases h3 with h'|h'|h'
  ·rw[h'] at hy
   simp (disch:=omega) only[evX,↓reduceIte,Nat.reduceEqDiff,Nat.reduceBEq,Nat.reduceAdd,Nat.reduceMul,reduceCtorEq,Nat.reduceLeDiff,Int.reduceEq,Int.reduceLT,Int.reduceLE,Int.reduceBEq,Int.reduceBNe,Int.reduceAdd,Int.reduceNeg,Int.reduceSub,Int.reduceMul,hli,hat,← hx,← hy,plainRows,aoK,evAppendO,fitsRows,headOk,List.isEmpty_cons,List.head?_cons,List.flatten_cons,List.flatten_nil,Option.getD_some]
   refine in_fin2 (point:=point) (base:=H.length) (ty1:=freeTy) (ty2:=freeTy) (l1:=H.length+0) (l2:=H.length+1) [] [0] rfl rfl (by omega) (by omega) ?_ ?_ (by simp) rfl (by simp)
   ·simp[encTys_map,encTy_eq,tInt,tBool,tList,Ty.kind,Ty.d,Ty.kids]
    try rfl
   ·simp[ints]
    try rfl
  ·rw[h'] at hy
   simp (disch:=omega) only[evX,↓reduceIte,Nat.reduceEqDiff,Nat.reduceBEq,Nat.reduceAdd,Nat.reduceMul,reduceCtorEq,Nat.reduceLeDiff,Int.reduceEq,Int.reduceLT,Int.reduceLE,Int.reduceBEq,Int.reduceBNe,Int.reduceAdd,Int.reduceNeg,Int.reduceSub,Int.reduceMul,hli,hat,← hx,← hy,plainRows,aoK,evAppendO,fitsRows,headOk,List.isEmpty_cons,List.head?_cons,List.flatten_cons,List.flatten_nil,Option.getD_some]
   refine in_fin2 (point:=point) (base:=H.length) (ty1:=freeTy) (ty2:=freeTy) (l1:=H.length+2) (l2:=H.length+3) [tInt] [0,1] rfl rfl (by omega) (by omega) ?_ ?_ (by simp) rfl (by simp)
   ·simp[encTys_map,encTy_eq,tInt,tBool,tList,Ty.kind,Ty.d,Ty.kids]
    try rfl
   ·simp[ints]
    try rfl
  ·rw[h'] at hy
   simp (disch:=omega) only[evX,↓reduceIte,Nat.reduceEqDiff,Nat.reduceBEq,Nat.reduceAdd,Nat.reduceMul,reduceCtorEq,Nat.reduceLeDiff,Int.reduceEq,Int.reduceLT,Int.reduceLE,Int.reduceBEq,Int.reduceBNe,Int.reduceAdd,Int.reduceNeg,Int.reduceSub,Int.reduceMul,hli,hat,← hx,← hy,plainRows,aoK,evAppendO,fitsRows,headOk,List.isEmpty_cons,List.head?_cons,List.flatten_cons,List.flatten_nil,Option.getD_some]
   refine in_fin2 (point:=point) (base:=H.length) (ty1:=freeTy) (ty2:=freeTy) (l1:=H.length+2) (l2:=H.length+3) [tBool] [0,0] rfl rfl (by omega) (by omega) ?_ ?_ (by simp) rfl (by simp)
   ·simp[encTys_map,encTy_eq,tInt,tBool,tList,Ty.kind,Ty.d,Ty.kids]
    try rfl
   ·simp[ints]
    try rfl
 ·rw[h] at hx
  rcases h3 with h'|h'|h'
  ·rw[h'] at hy
   simp (disch:=omega) only[evX,↓reduceIte,Nat.reduceEqDiff,Nat.reduceBEq,Nat.reduceAdd,Nat.reduceMul,reduceCtorEq,Nat.reduceLeDiff,Int.reduceEq,Int.reduceLT,Int.reduceLE,Int.reduceBEq,Int.reduceBNe,Int.reduceAdd,Int.reduceNeg,Int.reduceSub,Int.reduceMul,hli,hat,← hx,← hy,plainRows,aoK,evAppendO,fitsRows,headOk,List.isEmpty_cons,List.head?_cons,List.flatten_cons,List.flatten_nil,Option.getD_some]
   refine in_fin (point:=point) (base:=H.length) (ty1:=freeTy) (ty2:=freeTy) (l1:=H.length+0) (l2:=H.length+1) [tList tInt] [1+atZ l (pos+1) 2] rfl rfl (by omega) (by omega) ?_ ?_ (by simp) (by simp) rfl (by simp)
   ·simp[encTys_map,encTy_eq,tInt,tBool,tList,Ty.kind,Ty.d,Ty.kids]
    try rfl
   ·simp[ints]
    try rfl
  ·rw[h'] at hy
   simp (disch:=omega) only[evX,↓reduceIte,Nat.reduceEqDiff,Nat.reduceBEq,Nat.reduceAdd,Nat.reduceMul,reduceCtorEq,Nat.reduceLeDiff,Int.reduceEq,Int.reduceLT,Int.reduceLE,Int.reduceBEq,Int.reduceBNe,Int.reduceAdd,Int.reduceNeg,Int.reduceSub,Int.reduceMul,hli,hat,← hx,← hy,plainRows,aoK,evAppendO,fitsRows,headOk,List.isEmpty_cons,List.head?_cons,List.flatten_cons,List.flatten_nil,Option.getD_some]
   refine in_fin (point:=point) (base:=H.length) (ty1:=freeTy) (ty2:=freeTy) (l1:=H.length+2) (l2:=H.length+3) [tList tInt,tInt] [1+atZ l (pos+1) 2,1] rfl rfl (by omega) (by omega) ?_ ?_ (by simp) (by simp) rfl (by simp)
   ·simp[encTys_map,encTy_eq,tInt,tBool,tList,Ty.kind,Ty.d,Ty.kids]
    try rfl
   ·simp[ints]
    try rfl
  ·rw[h'] at hy
   simp (disch:=omega) only[evX,↓reduceIte,Nat.reduceEqDiff,Nat.reduceBEq,Nat.reduceAdd,Nat.reduceMul,reduceCtorEq,Nat.reduceLeDiff,Int.reduceEq,Int.reduceLT,Int.reduceLE,Int.reduceBEq,Int.reduceBNe,Int.reduceAdd,Int.reduceNeg,Int.reduceSub,Int.reduceMul,hli,hat,← hx,← hy,plainRows,aoK,evAppendO,fitsRows,headOk,List.isEmpty_cons,List.head?_cons,List.flatten_cons,List.flatten_nil,Option.getD_some]
   refine in_fin (point:=point) (base:=H.length) (ty1:=freeTy) (ty2:=freeTy) (l1:=H.length+2) (l2:=H.length+3) [tList tInt,tBool] [1+atZ l (pos+1) 2,0] rfl rfl (by omega) (by omega) ?_ ?_ (by simp) (by simp) rfl (by simp)
   ·simp[encTys_map,encTy_eq,tInt,tBool,tList,Ty.kind,Ty.d,Ty.kids]
    try rfl
   ·simp[ints]
    try rfl
 ·rw[h] at hx
  rcases h3 with h'|h'|h'
  ·rw[h'] at hy
   simp (disch:=omega) only[evX,↓reduceIte,Nat.reduceEqDiff,Nat.reduceBEq,Nat.reduceAdd,Nat.reduceMul,reduceCtorEq,Nat.reduceLeDiff,Int.reduceEq,Int.reduceLT,Int.reduceLE,Int.reduceBEq,Int.reduceBNe,Int.reduceAdd,Int.reduceNeg,Int.reduceSub,Int.reduceMul,hli,hat,← hx,← hy,plainRows,aoK,evAppendO,fitsRows,headOk,List.isEmpty_cons,List.head?_cons,List.flatten_cons,List.flatten_nil,Option.getD_some]
   refine in_fin (point:=point) (base:=H.length) (ty1:=freeTy) (ty2:=freeTy) (l1:=H.length+0) (l2:=H.length+1) [point] [1] rfl rfl (by omega) (by omega) ?_ ?_ (by simp) (by simp) rfl (by simp)
   ·simp[encTys_map,encTy_eq,tInt,tBool,tList,Ty.kind,Ty.d,Ty.kids]
    try rfl
   ·simp[ints]
    try rfl
  ·rw[h'] at hy
   simp (disch:=omega) only[evX,↓reduceIte,Nat.reduceEqDiff,Nat.reduceBEq,Nat.reduceAdd,Nat.reduceMul,reduceCtorEq,Nat.reduceLeDiff,Int.reduceEq,Int.reduceLT,Int.reduceLE,Int.reduceBEq,Int.reduceBNe,Int.reduceAdd,Int.reduceNeg,Int.reduceSub,Int.reduceMul,hli,hat,← hx,← hy,plainRows,aoK,evAppendO,fitsRows,headOk,List.isEmpty_cons,List.head?_cons,List.flatten_cons,List.flatten_nil,Option.getD_some]
   refine in_fin (point:=point) (base:=H.length) (ty1:=freeTy) (ty2:=freeTy) (l1:=H.length+2) (l2:=H.length+3) [point,tInt] [1,1] rfl rfl (by omega) (by omega) ?_ ?_ (by simp) (by simp) rfl (by simp)
   ·simp[encTys_map,encTy_eq,tInt,tBool,tList,Ty.kind,Ty.d,Ty.kids]
    try rfl
   ·simp[ints]
    try rfl
  ·rw[h'] at hy
   simp (disch:=omega) only[evX,↓reduceIte,Nat.reduceEqDiff,Nat.reduceBEq,Nat.reduceAdd,Nat.reduceMul,reduceCtorEq,Nat.reduceLeDiff,Int.reduceEq,Int.reduceLT,Int.reduceLE,Int.reduceBEq,Int.reduceBNe,Int.reduceAdd,Int.reduceNeg,Int.reduceSub,Int.reduceMul,hli,hat,← hx,← hy,plainRows,aoK,evAppendO,fitsRows,headOk,List.isEmpty_cons,List.head?_cons,List.flatten_cons,List.flatten_nil,Option.getD_some]
   refine in_fin (point:=point) (base:=H.length) (ty1:=freeTy) (ty2:=freeTy) (l1:=H.length+2) (l2:=H.length+3) [point,tBool] [1,0] rfl rfl (by omega) (by omega) ?_ ?_ (by simp) (by simp) rfl (by simp)
   ·simp[encTys_map,encTy_eq,tInt,tBool,tList,Ty.kind,Ty.d,Ty.kids]
    try rfl
   ·simp[ints]
    try rfl
 ·rw[h] at hx
  rcases h3 with h'|h'|h'
  ·rw[h'] at hy
   simp (disch:=omega) only[evX,↓reduceIte,Nat.reduceEqDiff,Nat.reduceBEq,Nat.reduceAdd,Nat.reduceMul,reduceCtorEq,Nat.reduceLeDiff,Int.reduceEq,Int.reduceLT,Int.reduceLE,Int.reduceBEq,Int.reduceBNe,Int.reduceAdd,Int.reduceNeg,Int.reduceSub,Int.reduceMul,hli,hat,← hx,← hy,plainRows,aoK,evAppendO,fitsRows,headOk,List.isEmpty_cons,List.head?_cons,List.flatten_cons,List.flatten_nil,Option.getD_some]
   refine in_fin (point:=point) (base:=H.length) (ty1:=freeTy) (ty2:=freeTy) (l1:=H.length+0) (l2:=H.length+1) [tInt] [1+atZ l (pos+1) 3] rfl rfl (by omega) (by omega) ?_ ?_ (by simp) (by simp) rfl (by simp)
   ·simp[encTys_map,encTy_eq,tInt,tBool,tList,Ty.kind,Ty.d,Ty.kids]
    try rfl
   ·simp[ints]
    try rfl
  ·rw[h'] at hy
   simp (disch:=omega) only[evX,↓reduceIte,Nat.reduceEqDiff,Nat.reduceBEq,Nat.reduceAdd,Nat.reduceMul,reduceCtorEq,Nat.reduceLeDiff,Int.reduceEq,Int.reduceLT,Int.reduceLE,Int.reduceBEq,Int.reduceBNe,Int.reduceAdd,Int.reduceNeg,Int.reduceSub,Int.reduceMul,hli,hat,← hx,← hy,plainRows,aoK,evAppendO,fitsRows,headOk,List.isEmpty_cons,List.head?_cons,List.flatten_cons,List.flatten_nil,Option.getD_some]
   refine in_fin (point:=point) (base:=H.length) (ty1:=freeTy) (ty2:=freeTy) (l1:=H.length+2) (l2:=H.length+3) [tInt,tInt] [1+atZ l (pos+1) 3,1] rfl rfl (by omega) (by omega) ?_ ?_ (by simp) (by simp) rfl (by simp)
   ·simp[encTys_map,encTy_eq,tInt,tBool,tList,Ty.kind,Ty.d,Ty.kids]
    try rfl
   ·simp[ints]
    try rfl
  ·rw[h'] at hy
   simp (disch:=omega) only[evX,↓reduceIte,Nat.reduceEqDiff,Nat.reduceBEq,Nat.reduceAdd,Nat.reduceMul,reduceCtorEq,Nat.reduceLeDiff,Int.reduceEq,Int.reduceLT,Int.reduceLE,Int.reduceBEq,Int.reduceBNe,Int.reduceAdd,Int.reduceNeg,Int.reduceSub,Int.reduceMul,hli,hat,← hx,← hy,plainRows,aoK,evAppendO,fitsRows,headOk,List.isEmpty_cons,List.head?_cons,List.flatten_cons,List.flatten_nil,Option.getD_some]
   refine in_fin (point:=point) (base:=H.length) (ty1:=freeTy) (ty2:=freeTy) (l1:=H.length+2) (l2:=H.length+3) [tInt,tBool] [1+atZ l (pos+1) 3,0] rfl rfl (by omega) (by omega) ?_ ?_ (by simp) (by simp) rfl (by simp)
   ·simp[encTys_map,encTy_eq,tInt,tBool,tList,Ty.kind,Ty.d,Ty.kids]
    try rfl
   ·simp[ints]
    try rfl
end Go.Proofs.YtemfofdaemgjgaaGreatDoor
end
