/-
  A part of the proof of RulesConcern: D14, D15, D16, D17, D18, D19.
-/
import Derived.Test.YtemfofdaemgjgaaGreatDoorP22
set_option linter.unusedSimpArgs false
set_option linter.unusedVariables false
section
set_option linter.unusedSimpArgs false
set_option linter.unusedVariables false
set_option maxRecDepth 100000
set_option maxHeartbeats 8000000
namespace Go.Proofs.YtemfofdaemgjgaaGreatDoor
open Go Go.Abs Go.Proofs
theorem ex_heap {e:Ex} {n:Nat} : (encEx e).all (heapCell n)=true:=by
 rw[encEx_eq];simp only[List.all_cons,List.all_nil,hc_int,hc_slice,hc_encNil,Bool.and_self]
theorem def_body {l:List Def} {i:Nat} {d:Def} (h:l[i]?=some d):loadCellsAV false true 15 (i*31+14) (encDefs l).flatten=some (.agg (encEx d.body)):=by
 rw[flat_load (i:=i) (j:=14) (sz:=15) defs_wide (defs_at h) (by omega) (by omega) (by omega)]
 simp only[loadCellsAV,cond_true,encDef]
 rw[encEx_eq]
 simp only[List.drop_succ_cons,List.drop_zero,List.take_succ_cons,List.take_zero,List.map_cons,List.map_nil,drop_int,drop_slice,drop_encNil]
 rfl
theorem put_body {d:Def} {e:Ex} : putAt (encDef d) 14 (encEx e)=encDef { d with body:=e }:=by
 simp only[encDef,encEx_eq]
 rfl
theorem defs_put {l:List Def} {i:Nat} {d:Def} {e:Ex} (h:l[i]?=some d):List.take (i*31+14) (encDefs l).flatten++encEx e++List.drop (i*31+14+15) (encDefs l).flatten=(encDefs (l.set i { d with body:=e })).flatten:=by
 have:=flat_put (j:=14) (cs:=encEx e) defs_wide (defs_at h) (by rw[ex_len];omega)
 rw[put_body] at this
 rw[show encDefs (l.set i { d with body:=e })=(encDefs l).set i (encDef { d with body:=e }) by simp[encDefs,List.map_set],← this]
 simp only[putAt,ex_len]
def bodied (d:Def):Prop:=d.kind≠0∧d.kind≠1
theorem DsOK.set {h:Bool} {mods:Int} {ds:List Def} {i:Nat} {d:Def} {e:Ex} (hd:DsOK h mods ds) (hi:ds[i]?=some d):DsOK h mods (ds.set i { d with body:=e }):=by
 intro j q hq
 rw[List.getElem?_set] at hq
 split at hq
 ·rename_i hij
  subst hij
  rw[if_pos (List.getElem?_eq_some_iff.1 hi).1] at hq
  injection hq with hq
  subst hq
  obtain⟨a1,a2,a3,a4,a5,a6,a7,a8,a9,a10,a11⟩:=hd i d hi
  exact⟨a1,a2,a3,a4,a5,a6,a7,a8,a9,a10,a11⟩
 ·exact hd j q hq
theorem MH.body {c:Cx} {m:Mk} {K:AHeap} {ds:List Def} (h:MH c m K) (hl:ds.length=c.ds.length) (hne:c.lm≠c.ld):MH { c with ds:=ds } m (K.set c.ld (.box c.td (encDefs ds).flatten)):=by
 refine⟨?_,?_,?_,h.n1,h.n2,h.hl⟩
 ·simp only
  rw[List.getElem?_set_ne (Ne.symm h.n2),h.h0]
  simp only[encMk,hl]
 ·simp only
  rw[List.getElem?_set_ne (Ne.symm hne)];exact h.h1
 ·simp only
  exact List.getElem?_set_self (List.getElem?_eq_some_iff.1 h.h2).1
structure StE (l:List Int) (H:AHeap) (h:Bool) (mods:Int) (c:Cx) (nx:Int) (n i:Nat) (ds:List Def) (m:Mk) (T:AFrame) (K:AHeap):Prop where
 t2:T 2=.lbox 0 [.slice [] true,.slice [] true]
 t4:T 4=.lbox 1 [.sref c.lm 0 c.ms.length 6,.sref c.ld 0 n 31]
 t8:T 8=.int .i64 nx
 t13:T 13=.ref c.mm 0
 take:K.take H.length=H
 hl:H.length≤K.length
 len:ds.length=n
 ok:DsOK h mods ds
 mh:MH { c with ds:=ds } m K
 tm0:0≤m.temp
 tm1:m.temp≤i*4000000
 nm0:0≤m.name
 nm1:m.name≤100000000
 made:∀ (j:Nat) (d:Def),ds[j]?=some d→bodied d→j<i→GoodE m.temp 9 d.body
 plain:∀ (j:Nat) (d:Def),ds[j]?=some d→¬ bodied d→d.body=exZero
theorem StE.frame {l:List Int} {H:AHeap} {h:Bool} {mods nx:Int} {c:Cx} {n i:Nat} {ds:List Def} {m:Mk} {T T' : AFrame} {K:AHeap} (s:StE l H h mods c nx n i ds m T K) (h2:T' 2=T 2) (h4:T' 4=T 4) (h8:T' 8=T 8) (h13:T' 13=T 13):StE l H h mods c nx n i ds m T' K:=by
 obtain⟨a1,a2,a3,a4,a5,a6,a7,a8,a9,a10,a11,a12,a13,a14,a15⟩:=s
 exact⟨h2.trans a1,h4.trans a2,h8.trans a3,h13.trans a4,a5,a6,a7,a8,a9,a10,a11,a12,a13,a14,a15⟩
def slotBds (l:List Slot):List Bd:=l.map fun s=>⟨s.id,0,s.ty⟩
theorem stageE (l:List Int) (H:AHeap) (h:Bool) (mods:Int) (hm:1≤mods∧mods≤2) (c:Cx) (hcl:c.l=l) (hmm:H.length≤c.mm) (hld:H.length≤c.ld) (hne:c.lm≠c.ld) (nx:Int) (n:Nat) (n2:2≤n) (n8:n≤8) (n4:h=true→4≤n) (nr:Nat) (hr:MsRows mods nr c.ms)
  (ds0:List Def) (m0:Mk) (T0:AFrame) (K0:AHeap) (g0:Nat) (hst:StE l H h mods c nx n 0 ds0 m0 T0 K0) (Q:IExit→AS→Prop) (R:AS→Prop) (hR:∀ ds m T K g,StE l H h mods c nx n n ds m T K→R ⟨T,K,H.length,g⟩) :
  W A ((ir4.body.post 7).pre 0) ⟨T0,K0,H.length,g0⟩ (andThen R Q):=by
 unfold ir4;dsimp only[oQ,oP,iR,oM,oT,oL,oG,oH,oI,oF,oX,oA,oN,oS,oB,oR,oK,oC,iT,iC,iZ,iE]
 simp only[ICode.pre,ICode.post]
 simp (disch:=omega) only[evX,↓reduceIte,Nat.reduceEqDiff,Nat.reduceBEq,Nat.reduceAdd,Nat.reduceMul,reduceCtorEq,Nat.reduceLeDiff,Int.reduceEq,Int.reduceLT,Int.reduceLE,Int.reduceBEq,Int.reduceBNe,Int.reduceAdd,Int.reduceNeg,Int.reduceSub,Int.reduceMul]
 refine W_countx n 6 (fun i s=>∃ ds m T K g,s=⟨T,K,H.length,g⟩∧StE l H h mods c nx n i ds m T K∧T 14=.int .i64 i)
  (fun s=>∃ ds m T K g,s=⟨T,K,H.length,g⟩∧StE l H h mods c nx n n ds m T K) (fun _=>False) ?_ ?_ (fun _ h=>h.elim) 0 _ (by omega) ?_
 ·rintro i s hi ⟨ds,m,T,K,g,rfl,st,s14⟩
  have st0:=st
  obtain⟨s2,s4,s8,s13,stk,shl,dsl,dok,mh,tm0,tm1,nm0,nm1,made,plain⟩:=st
  have k2:=mh.h2
  simp only at k2
  by_cases c0:i<n
  ·obtain⟨d,hd⟩:∃ d,ds[i]?=some d:=⟨_,List.getElem?_eq_getElem (by omega)⟩
   have hrow:=def_load hd
   rw[encDef] at hrow
   by_cases kd:d.kind=0∨d.kind=1
   ·have fin:∀ T',T' 2=T 2→T' 4=T 4→T' 8=T 8→T' 13=T 13→StE l H h mods c nx n (i+1) ds m T' K:=by
     intro T' h2 h4 h8 h13
     refine⟨h2.trans s2,h4.trans s4,h8.trans s8,h13.trans s13,stk,shl,dsl,dok,mh,tm0,by omega,nm0,nm1,fun j q hq hb hj=>?_,plain⟩
     by_cases hji:j=i
     ·subst hji
      rw[hd] at hq
      injection hq with hq
      subst hq
      rcases kd with e|e
      ·exact absurd e hb.1
      ·exact absurd e hb.2
     ·exact made j q hq hb (by omega)
    rcases kd with kd|kd
    ·simp (disch:=omega) only[evX,↓reduceIte,Nat.reduceEqDiff,Nat.reduceBEq,Nat.reduceAdd,Nat.reduceMul,reduceCtorEq,Nat.reduceLeDiff,Int.reduceEq,Int.reduceLT,Int.reduceLE,Int.reduceBEq,Int.reduceBNe,Int.reduceAdd,Int.reduceNeg,Int.reduceSub,Int.reduceMul,s2,s4,s8,s13,s14,k2,dsl,hrow,kd]
     exact⟨c0,_,_,_,_,_,rfl,fin _ rfl rfl rfl rfl,rfl⟩
    ·simp (disch:=omega) only[evX,↓reduceIte,Nat.reduceEqDiff,Nat.reduceBEq,Nat.reduceAdd,Nat.reduceMul,reduceCtorEq,Nat.reduceLeDiff,Int.reduceEq,Int.reduceLT,Int.reduceLE,Int.reduceBEq,Int.reduceBNe,Int.reduceAdd,Int.reduceNeg,Int.reduceSub,Int.reduceMul,s2,s4,s8,s13,s14,k2,dsl,hrow,kd]
     exact⟨c0,_,_,_,_,_,rfl,fin _ rfl rfl rfl rfl,rfl⟩
   ·have hbd:bodied d:=⟨fun e=>kd (.inl e),fun e=>kd (.inr e)⟩
    obtain⟨kd0,kd1⟩:=hbd
    simp (disch:=omega) only[evX,↓reduceIte,Nat.reduceEqDiff,Nat.reduceBEq,Nat.reduceAdd,Nat.reduceMul,reduceCtorEq,Nat.reduceLeDiff,Int.reduceEq,Int.reduceLT,Int.reduceLE,Int.reduceBEq,Int.reduceBNe,Int.reduceAdd,Int.reduceNeg,Int.reduceSub,Int.reduceMul,s2,s4,s8,s13,s14,k2,dsl,hrow,kd0,kd1]
    have hsl:=(dok i d hd)
    have hs3:=hsl.l3
    have hs1:=hsl.l1
    refine W_countx d.slots.length 8 (fun k s=>∃ T g',s=⟨T,K,H.length,g'⟩∧T 2=.lbox 0 [.slice [] true,.slice [] true]∧T 4=.lbox 1 [.sref c.lm 0 c.ms.length 6,.sref c.ld 0 n 31]∧T 8=.int .i64 nx∧T 13=.ref c.mm 0∧T 14=.int .i64 i ∧
      T 15=.lbox g (encDef d)∧T 16=.slice (encBds (slotBds (d.slots.take k))) true∧T 17=.int .i64 k)
     (fun s=>∃ T g',s=⟨T,K,H.length,g'⟩∧T 2=.lbox 0 [.slice [] true,.slice [] true]∧T 4=.lbox 1 [.sref c.lm 0 c.ms.length 6,.sref c.ld 0 n 31]∧T 8=.int .i64 nx∧T 13=.ref c.mm 0∧T 14=.int .i64 i ∧
      T 15=.lbox g (encDef d)∧T 16=.slice (encBds (slotBds d.slots)) true)
     (fun _=>False) ?_ ?_ (fun _ h=>h.elim) 0 _ (by omega) ?_
    ·rintro k s hk ⟨T,g',rfl,s2,s4,s8,s13,s14,s15,s16,s17⟩
     have s15':=s15
     rw[encDef] at s15'
     by_cases ck:k<d.slots.length
     ·have hq:=slots_at (List.getElem?_eq_getElem ck)
      have happ:=app_bd (l:=slotBds (d.slots.take k)) (b:=⟨d.slots[k].id,0,d.slots[k].ty⟩) (o:=true) (by rw[slotBds,List.length_map,List.length_take];omega)
      have e1:slotBds (d.slots.take k)++[⟨d.slots[k].id,0,d.slots[k].ty⟩]=slotBds (d.slots.take (k+1)):=by rw[take_snoc ck,slotBds,slotBds,List.map_append];rfl
      rw[e1] at happ
      simp only at happ
      generalize d.slots[k]=sl at hq happ
      rw[encSlot] at hq
      simp (disch:=omega) only[evX,↓reduceIte,Nat.reduceEqDiff,Nat.reduceBEq,Nat.reduceAdd,Nat.reduceMul,reduceCtorEq,Nat.reduceLeDiff,Int.reduceEq,Int.reduceLT,Int.reduceLE,Int.reduceBEq,Int.reduceBNe,Int.reduceAdd,Int.reduceNeg,Int.reduceSub,Int.reduceMul,s2,s4,s8,s13,s14,s15',s16,s17,slots_len,hq,happ]
      exact⟨ck,_,_,rfl,by simp (disch:=omega) only[evX,↓reduceIte,Nat.reduceEqDiff,Nat.reduceBEq,Nat.reduceAdd,Nat.reduceMul,reduceCtorEq,Nat.reduceLeDiff,Int.reduceEq,Int.reduceLT,Int.reduceLE,Int.reduceBEq,Int.reduceBNe,Int.reduceAdd,Int.reduceNeg,Int.reduceSub,Int.reduceMul,s2,s4,s8,s13,s14,s15',encDef]⟩
     ·have:k=d.slots.length:=by omega
      subst this
      rw[List.take_length] at s16
      simp (disch:=omega) only[evX,↓reduceIte,Nat.reduceEqDiff,Nat.reduceBEq,Nat.reduceAdd,Nat.reduceMul,reduceCtorEq,Nat.reduceLeDiff,Int.reduceEq,Int.reduceLT,Int.reduceLE,Int.reduceBEq,Int.reduceBNe,Int.reduceAdd,Int.reduceNeg,Int.reduceSub,Int.reduceMul,s2,s4,s8,s13,s14,s15',s16,s17,slots_len]
      exact⟨_,_,rfl,by simp (disch:=omega) only[evX,↓reduceIte,Nat.reduceEqDiff,Nat.reduceBEq,Nat.reduceAdd,Nat.reduceMul,reduceCtorEq,Nat.reduceLeDiff,Int.reduceEq,Int.reduceLT,Int.reduceLE,Int.reduceBEq,Int.reduceBNe,Int.reduceAdd,Int.reduceNeg,Int.reduceSub,Int.reduceMul,s2,s4,s8,s13,s14,s15',s16,encDef]⟩
    ·rintro s ⟨T,g',rfl,s2,s4,s8,s13,s14,s15,s16⟩
     rw[encDef] at s15
     obtain⟨cc,hcc⟩:∃ cc:Cx,cc={ c with ds:=ds }:=⟨_,rfl⟩
     have ccok:CxOK cc:=by rw[hcc];exact cxOK_of (h:=h) (mods:=mods) (n:=nr) dok hm.1 (by omega) (by omega) (fun e=>by have:=n4 e;omega) hr rfl
     have hE:=specE_all ccok 9
     rw[← hcc] at mh
     have hcmm:cc.mm=c.mm:=by rw[hcc]
     have hcty:cc.ty=c.ty:=by rw[hcc]
     obtain⟨m1,hm1⟩:∃ m1:Mk,m1={ m with own:=i,home:=d.mod,left:=14,name:=0 }:=⟨_,rfl⟩
     have henv:EnvOK cc m1.temp (slotBds d.slots):=by
      refine⟨fun b hb=>?_,fun b hb hs=>?_,fun e=>?_⟩
      ·simp only[slotBds,List.mem_map] at hb
       obtain⟨s,hs,rfl⟩:=hb
       exact ccok.ty d (by rw[hcc];exact List.mem_of_getElem? hd) s hs
      ·simp only[slotBds,List.mem_map] at hb
       obtain⟨s,hs',rfl⟩:=hb
       exact absurd hs (hsl.sid s hs')
      ·have:(slotBds d.slots).length=0:=by rw[e];rfl
       simp[slotBds] at this
       rw[this] at hs1;simp at hs1
     have hbud:bud 9=1953125:=by decide
     have hres:TyOK cc.ds 5 d.result:=ccok.res d (by rw[hcc];exact List.mem_of_getElem? hd)
     obtain⟨e1,m2,call1,post1,good1⟩:=hE d.result (slotBds d.slots) 4 m1 (setM cc m1 K) mh.set (hres.mono (by omega)) hres ⟨by rw[hm1];exact tm0,by rw[hm1,hbud];simp only;omega,by rw[hm1];simp,by rw[hm1,hbud];simp,henv,by simp[slotBds];omega,fun _=>by omega,by omega,by omega⟩
     rw[setM_setM] at call1
     have closeE:∀ (e:Ex) (mX:Mk) (KX:AHeap) (T:AFrame),GoodE mX.temp 9 e→m.temp≤mX.temp→mX.temp≤m.temp+4000000→0≤mX.name→mX.name≤100000000→MH { c with ds:=ds.set i { d with body:=e } } mX KX→KX.take H.length=H→H.length≤KX.length →
       T 2=.lbox 0 [.slice [] true,.slice [] true]→T 4=.lbox 1 [.sref c.lm 0 c.ms.length 6,.sref c.ld 0 n 31]→T 8=.int .i64 nx→T 13=.ref c.mm 0→StE l H h mods c nx n (i+1) (ds.set i { d with body:=e }) mX T KX:=by
      intro e mX KX T h1 h2 h3 h4 h5 h6 h7 h8 b2 b4 b8 b13
      have e3:((i+1:Nat):Int)*4000000=i*4000000+4000000:=by omega
      refine⟨b2,b4,b8,b13,h7,h8,by rw[List.length_set];exact dsl,dok.set hd,h6,by omega,by omega,h4,h5,fun j q hq hb hj=>?_,fun j q hq hb=>?_⟩
      ·rw[List.getElem?_set] at hq
       split at hq
       ·rename_i hij
        rw[if_pos (by omega)] at hq
        injection hq with hq
        subst hq
        exact h1
       ·exact (made j q hq hb (by omega)).mono h2
      ·rw[List.getElem?_set] at hq
       split at hq
       ·rename_i hij
        rw[if_pos (by omega)] at hq
        injection hq with hq
        subst hq
        exact absurd ⟨kd0,kd1⟩ hb
       ·exact plain j q hq hb
     have k0:K[c.mm]?=some (.box c.ty [.sref c.lm 0 c.ms.length 6,.sref c.ld 0 n 31,.slice (ints c.l) false,.int .i64 m.pos,.int .i64 m.temp,.int .i64 m.left,.int .i64 m.own,.int .i64 m.home.shop,.int .i64 m.home.seq,.int .i64 m.home.index,.int .i64 m.name]):=by
      have:=mh.h0
      rw[hcc] at this
      simp only[encMk,dsl] at this
      exact this
     have hst:∀ cs,(K.set c.mm (.box c.ty cs))[c.mm]?=some (.box c.ty cs):=fun cs=>by have:=mh.st cs;rw[hcc] at this;exact this
     have hmd:c.mm≠c.ld:=by have:=mh.n2;rw[hcc] at this;exact this
     have hsl2:∀ o,(K.set c.mm o)[c.ld]?=some (.box c.td (encDefs ds).flatten):=fun o=>by rw[List.getElem?_set_ne hmd];exact k2
     have hin:setM cc m1 K=K.set c.mm (.box c.ty [.sref c.lm 0 c.ms.length 6,.sref c.ld 0 n 31,.slice (ints c.l) false,.int .i64 m.pos,.int .i64 m.temp,.int .i64 14,.int .i64 i,.int .i64 d.mod.shop,.int .i64 d.mod.seq,.int .i64 d.mod.index,.int .i64 0]):=by
      rw[hcc,hm1]
      simp only[setM,encMk,dsl]
     rw[hin,hcmm] at call1
     simp only[exprArgs,hcmm] at call1
     have mh2:=mh.set (m':=m2)
     obtain⟨KA,hKA⟩:∃ KA,KA=setM cc m2 K:=⟨_,rfl⟩
     rw[← hKA] at call1 mh2
     have hKAl:KA.length=K.length:=by rw[hKA,setM_len]
     have hKAt:KA.take H.length=H:=by rw[hKA];unfold setM;rw[hcmm,List.take_set_of_le (by omega)];exact stk
     have hKAd:KA[c.ld]?=some (.box c.td (encDefs ds).flatten):=by have:=mh2.h2;rw[hcc] at this;exact this
     have mmf:decide (c.mm<H.length)=false:=decide_eq_false (by omega)
     have ldf:decide (c.ld<H.length)=false:=decide_eq_false (by omega)
     have hfl:(encDefs ds).flatten.length=n*31:=by rw[flat_length defs_wide,defs_len,dsl]
     have hput:=defs_put (e:=e1) hd
     obtain⟨d1,hd1⟩:∃ d1:Def,d1={ d with body:=e1 }:=⟨_,rfl⟩
     obtain⟨ds1,hds1⟩:∃ ds1,ds1=ds.set i d1:=⟨_,rfl⟩
     rw[← hd1,← hds1] at hput
     have hd1i:ds1[i]?=some d1:=by rw[hds1];exact List.getElem?_set_self (by omega)
     have hbody1:=def_body hd1i
     rw[show d1.body=e1 by rw[hd1]] at hbody1
     obtain⟨KB,hKB⟩:∃ KB,KB=KA.set c.ld (.box c.td (encDefs ds1).flatten):=⟨_,rfl⟩
     have hldl:c.ld<KA.length:=(List.getElem?_eq_some_iff.1 hKAd).1
     have hKBd:KB[c.ld]?=some (.box c.td (encDefs ds1).flatten):=by rw[hKB];exact List.getElem?_set_self hldl
     have hKBl:KB.length=K.length:=by rw[hKB,List.length_set,hKAl]
     have hKBt:KB.take H.length=H:=by rw[hKB,List.take_set_of_le (by omega)];exact hKAt
     have mhB:MH { c with ds:=ds1 } m2 KB:=by
      have:=mh2.body (ds:=ds1) (by rw[hcc,hds1];simp) (by rw[hcc];exact hne)
      rw[hcc] at this
      rw[hKB];exact this
     obtain⟨n1,hn1⟩:=nodes_D m2.temp 9 e1 KB good1
     have p1:=post1.lt
     have p2:=post1.le
     have p3:=post1.nm0
     have p4:=post1.nm
     rw[hm1] at p1 p2 p4
     simp only[hbud] at p1 p2 p4
     by_cases h30:n1≤30
     ·simp (disch:=omega) only[evX,↓reduceIte,Nat.reduceEqDiff,Nat.reduceBEq,Nat.reduceAdd,Nat.reduceMul,reduceCtorEq,Nat.reduceLeDiff,Int.reduceEq,Int.reduceLT,Int.reduceLE,Int.reduceBEq,Int.reduceBNe,Int.reduceAdd,Int.reduceNeg,Int.reduceSub,Int.reduceMul,s2,s4,s8,s13,s14,s15,s16,k0,hst,hsl2,List.set_set,List.length_set,call1,mmf,ldf,hKAd,hfl,ex_heap,hput,← hKB,hKBd,hbody1,hn1]
      refine⟨c0,ds.set i { d with body:=e1 },m2,_,KB,_,rfl,closeE e1 m2 KB _ good1 (by omega) (by omega) p3 (by omega) (by rw[← hd1,← hds1];exact mhB) hKBt (by omega) ?_ ?_ ?_ ?_,?_⟩
      ·exact s2
      ·exact s4
      ·exact s8
      ·exact s13
      ·rfl
     ·
      obtain⟨c1,hc1⟩:∃ c1:Cx,c1={ c with ds:=ds1 }:=⟨_,rfl⟩
      rw[← hc1] at mhB
      have ds1l:ds1.length=n:=by rw[hds1,List.length_set,dsl]
      have dok1:DsOK h mods ds1:=by rw[hds1,hd1];exact dok.set hd
      have c1ok:CxOK c1:=by rw[hc1];exact cxOK_of (h:=h) (mods:=mods) (n:=nr) dok1 hm.1 (by omega) (by omega) (fun e=>by have:=n4 e;omega) hr rfl
      have hE1:=specE_all c1ok 9
      obtain⟨m3,hm3⟩:∃ m3:Mk,m3={ m2 with left:=0 }:=⟨_,rfl⟩
      have hres1:TyOK c1.ds 5 d.result:=by
       have:=c1ok.res d1 (by rw[hc1];exact List.mem_of_getElem? hd1i)
       rw[hd1] at this;exact this
      have henv1:EnvOK c1 m3.temp (slotBds d.slots):=by
       refine⟨fun b hb=>?_,fun b hb hs=>?_,henv.ne⟩
       ·simp only[slotBds,List.mem_map] at hb
        obtain⟨s,hs,rfl⟩:=hb
        exact c1ok.ty d1 (by rw[hc1];exact List.mem_of_getElem? hd1i) s (by rw[hd1];exact hs)
       ·simp only[slotBds,List.mem_map] at hb
        obtain⟨s,hs',rfl⟩:=hb
        exact absurd hs (hsl.sid s hs')
      obtain⟨e2,m4,call2,post2,good2⟩:=hE1 d.result (slotBds d.slots) 0 m3 (setM c1 m3 KB) mhB.set (hres1.mono (by omega)) hres1 ⟨by rw[hm3];simp only;omega,by rw[hm3,hbud];simp only;omega,by rw[hm3];exact p3,by rw[hm3,hbud];simp only;omega,henv1,by simp[slotBds];omega,fun h=>by omega,by omega,by omega⟩
      rw[setM_setM] at call2
      have hc1mm:c1.mm=c.mm:=by rw[hc1]
      have hin2:setM c1 m3 KB=KB.set c.mm (.box c.ty [.sref c.lm 0 c.ms.length 6,.sref c.ld 0 n 31,.slice (ints c.l) false,.int .i64 m2.pos,.int .i64 m2.temp,.int .i64 0,.int .i64 m2.own,.int .i64 m2.home.shop,.int .i64 m2.home.seq,.int .i64 m2.home.index,.int .i64 m2.name]):=by
       rw[hc1,hm3]
       simp only[setM,encMk,ds1l]
      rw[hin2,hc1mm] at call2
      simp only[exprArgs,hc1mm] at call2
      have k0B:KB[c.mm]?=some (.box c.ty [.sref c.lm 0 c.ms.length 6,.sref c.ld 0 n 31,.slice (ints c.l) false,.int .i64 m2.pos,.int .i64 m2.temp,.int .i64 m2.left,.int .i64 m2.own,.int .i64 m2.home.shop,.int .i64 m2.home.seq,.int .i64 m2.home.index,.int .i64 m2.name]):=by
       have:=mhB.h0
       rw[hc1] at this
       simp only[encMk,ds1l] at this
       exact this
      have hstB:∀ cs,(KB.set c.mm (.box c.ty cs))[c.mm]?=some (.box c.ty cs):=fun cs=>by have:=mhB.st cs;rw[hc1] at this;exact this
      have hslB:∀ o,(KB.set c.mm o)[c.ld]?=some (.box c.td (encDefs ds1).flatten):=fun o=>by rw[List.getElem?_set_ne hmd];exact hKBd
      have mh4:=mhB.set (m':=m4)
      obtain⟨KC,hKC⟩:∃ KC,KC=setM c1 m4 KB:=⟨_,rfl⟩
      rw[← hKC] at call2 mh4
      have hKCl:KC.length=K.length:=by rw[hKC,setM_len,hKBl]
      have hKCt:KC.take H.length=H:=by rw[hKC];unfold setM;rw[hc1mm,List.take_set_of_le (by omega)];exact hKBt
      have hKCd:KC[c.ld]?=some (.box c.td (encDefs ds1).flatten):=by have:=mh4.h2;rw[hc1] at this;exact this
      have hfl1:(encDefs ds1).flatten.length=n*31:=by rw[flat_length defs_wide,defs_len,ds1l]
      have hput2:=defs_put (e:=e2) hd1i
      have e5:ds1.set i { d1 with body:=e2 }=ds.set i { d with body:=e2 }:=by rw[hds1,List.set_set,hd1]
      rw[e5] at hput2
      obtain⟨ds2,hds2⟩:∃ ds2,ds2=ds.set i { d with body:=e2 }:=⟨_,rfl⟩
      rw[← hds2] at hput2
      obtain⟨KD,hKD⟩:∃ KD,KD=KC.set c.ld (.box c.td (encDefs ds2).flatten):=⟨_,rfl⟩
      have hKDl:KD.length=K.length:=by rw[hKD,List.length_set,hKCl]
      have hKDt:KD.take H.length=H:=by rw[hKD,List.take_set_of_le (by omega)];exact hKCt
      have mhD:MH { c with ds:=ds2 } m4 KD:=by
       have:=mh4.body (ds:=ds2) (by rw[hc1,hds2];simp;omega) (by rw[hc1];exact hne)
       rw[hc1] at this
       rw[hKD];exact this
      have r1:=post2.lt
      have r2:=post2.le
      have r3:=post2.nm0
      have r4:=post2.nm
      rw[hm3] at r1 r2 r4
      simp only[hbud] at r1 r2 r4
      simp (disch:=omega) only[evX,↓reduceIte,Nat.reduceEqDiff,Nat.reduceBEq,Nat.reduceAdd,Nat.reduceMul,reduceCtorEq,Nat.reduceLeDiff,Int.reduceEq,Int.reduceLT,Int.reduceLE,Int.reduceBEq,Int.reduceBNe,Int.reduceAdd,Int.reduceNeg,Int.reduceSub,Int.reduceMul,s2,s4,s8,s13,s14,s15,s16,k0,hst,hsl2,List.set_set,List.length_set,call1,mmf,ldf,hKAd,hfl,ex_heap,hput,← hKB,hKBd,hbody1,hn1,k0B,hstB,hslB,call2,hKCd,hfl1,hput2,← hKD]
      refine⟨c0,ds.set i { d with body:=e2 },m4,_,KD,_,rfl,closeE e2 m4 KD _ good2 (by omega) (by omega) r3 (by omega) (by rw[← hds2];exact mhD) hKDt (by omega) ?_ ?_ ?_ ?_,?_⟩
      ·exact s2
      ·exact s4
      ·exact s8
      ·exact s13
      ·rfl
    ·exact⟨_,_,rfl,by simp (disch:=omega) only[evX,↓reduceIte,Nat.reduceEqDiff,Nat.reduceBEq,Nat.reduceAdd,Nat.reduceMul,reduceCtorEq,Nat.reduceLeDiff,Int.reduceEq,Int.reduceLT,Int.reduceLE,Int.reduceBEq,Int.reduceBNe,Int.reduceAdd,Int.reduceNeg,Int.reduceSub,Int.reduceMul,s2,s4,s8,s13,s14,encDef,List.take_zero,Int.natCast_zero];rfl⟩
  ·have:i=n:=by omega
   subst this
   simp (disch:=omega) only[evX,↓reduceIte,Nat.reduceEqDiff,Nat.reduceBEq,Nat.reduceAdd,Nat.reduceMul,reduceCtorEq,Nat.reduceLeDiff,Int.reduceEq,Int.reduceLT,Int.reduceLE,Int.reduceBEq,Int.reduceBNe,Int.reduceAdd,Int.reduceNeg,Int.reduceSub,Int.reduceMul,s2,s4,s8,s13,s14,k2,dsl]
   exact⟨ds,m,_,_,_,rfl,st0.frame rfl rfl rfl rfl⟩
 ·rintro s ⟨ds,m,T,K,g,rfl,hs⟩
  simp (disch:=omega) only[evX,↓reduceIte,Nat.reduceEqDiff,Nat.reduceBEq,Nat.reduceAdd,Nat.reduceMul,reduceCtorEq,Nat.reduceLeDiff,Int.reduceEq,Int.reduceLT,Int.reduceLE,Int.reduceBEq,Int.reduceBNe,Int.reduceAdd,Int.reduceNeg,Int.reduceSub,Int.reduceMul]
  exact hR ds m T K g hs
 ·exact⟨ds0,m0,_,_,_,rfl,hst.frame rfl rfl rfl rfl,rfl⟩
end Go.Proofs.YtemfofdaemgjgaaGreatDoor
end
section
set_option linter.unusedSimpArgs false
set_option linter.unusedVariables false
set_option maxRecDepth 100000
set_option maxHeartbeats 8000000
namespace Go.Proofs.YtemfofdaemgjgaaGreatDoor
open Go Go.Abs Go.Proofs
theorem ids_put {l:List Id} {q:Nat} {x:Id} (h:q<l.length):List.take (q*3) (encIds l).flatten++[.int .i64 x.shop,.int .i64 x.seq,.int .i64 x.index]++List.drop (q*3+3) (encIds l).flatten=(encIds (l.set q x)).flatten:=by
 have h0:l[q]?=some l[q]:=List.getElem?_eq_getElem h
 have:=flat_put (z:=3) (j:=0) (cs:=encId x) ids_wide (ids_at h0) (by simp[encId])
 rw[Nat.add_zero] at this
 rw[show encIds (l.set q x)=(encIds l).set q (putAt (encId l[q]) 0 (encId x)) by simp[encIds,List.map_set,putAt,encId],← this]
 simp only[putAt,encId,List.length_cons,List.length_nil]
structure StG (H:AHeap) (lm ld li:Nat) (td:TypeId) (ms:List (List AV)) (n nt i:Nat) (ds:List Def) (ids:List Id) (nx:Int) (T:AFrame) (K:AHeap):Prop where
 t2:T 2=.lbox 0 [.slice [] true,.slice [] true]
 t4:T 4=.lbox 1 [.sref lm 0 ms.length 6,.sref ld 0 n 31]
 t8:T 8=.int .i64 nx
 t18:T 18=.sref li 0 nt 3
 take:K.take H.length=H
 hl:H.length≤K.length
 len:ds.length=n
 il:ids.length=nt
 kd:K[ld]?=some (.box td (encDefs ds).flatten)
 ki:K[li]?=some (.box freeTy (encIds ids).flatten)
 km:K[lm]?=some (.box freeTy ms.flatten)
 nx0:0≤nx
 sl:∀ d∈ds,d.slots.length≤3
 todo:∀ (j:Nat) (d:Def),ds[j]?=some d→bodied d→i≤j→GoodE nt 9 d.body
 made:∀ (j:Nat) (d:Def),ds[j]?=some d→bodied d→j<i→ExLen d.body
 plain:∀ (j:Nat) (d:Def),ds[j]?=some d→¬ bodied d→d.body=exZero
theorem StG.frame {H:AHeap} {lm ld li:Nat} {td:TypeId} {ms:List (List AV)} {n nt i:Nat} {ds:List Def} {ids:List Id} {nx:Int} {T T' : AFrame} {K:AHeap} (s:StG H lm ld li td ms n nt i ds ids nx T K) (h2:T' 2=T 2) (h4:T' 4=T 4) (h8:T' 8=T 8) (h18:T' 18=T 18):StG H lm ld li td ms n nt i ds ids nx T' K:=by
 obtain⟨a1,a2,a3,a4,a5,a6,a7,a8,a9,a10,a11,a12,a13,a14,a15,a16⟩:=s
 exact⟨h2.trans a1,h4.trans a2,h8.trans a3,h18.trans a4,a5,a6,a7,a8,a9,a10,a11,a12,a13,a14,a15,a16⟩
theorem stageG (H:AHeap) (lm ld li:Nat) (td:TypeId) (ms:List (List AV)) (n nt:Nat) (n8:n≤8) (hld:H.length≤ld) (hli:H.length≤li) (e1:li≠ld) (e2:li≠lm) (e3:lm≠ld) (hnt:nt≤100000000)
  (ds0:List Def) (ids0:List Id) (nx0:Int) (T0:AFrame) (K0:AHeap) (g0:Nat) (hst:StG H lm ld li td ms n nt 0 ds0 ids0 nx0 T0 K0) (hnx:nx0≤1000) (Q:IExit→AS→Prop) (R:AS→Prop) (hR:∀ ds ids nx T K g,StG H lm ld li td ms n nt n ds ids nx T K→R ⟨T,K,H.length,g⟩) :
  W A ((ir4.body.post 9).pre 0) ⟨T0,K0,H.length,g0⟩ (andThen R Q):=by
 unfold ir4;dsimp only[oQ,oP,iR,oM,oT,oL,oG,oH,oI,oF,oX,oA,oN,oS,oB,oR,oK,oC,iT,iC,iZ,iE]
 simp only[ICode.pre,ICode.post]
 simp (disch:=omega) only[evX,↓reduceIte,Nat.reduceEqDiff,Nat.reduceBEq,Nat.reduceAdd,Nat.reduceMul,reduceCtorEq,Nat.reduceLeDiff,Int.reduceEq,Int.reduceLT,Int.reduceLE,Int.reduceBEq,Int.reduceBNe,Int.reduceAdd,Int.reduceNeg,Int.reduceSub,Int.reduceMul]
 refine W_countx n 10 (fun i s=>∃ ds ids nx T K g,s=⟨T,K,H.length,g⟩∧StG H lm ld li td ms n nt i ds ids nx T K∧nx≤1000+i*2000000∧T 19=.int .i64 i)
  (fun s=>∃ ds ids nx T K g,s=⟨T,K,H.length,g⟩∧StG H lm ld li td ms n nt n ds ids nx T K) (fun _=>False) ?_ ?_ (fun _ h=>h.elim) 0 _ (by omega) ?_
 ·rintro i s hi ⟨ds,ids,nx,T,K,g,rfl,st,nx1,s19⟩
  have st0:=st
  obtain⟨s2,s4,s8,s18,stk,shl,dsl,il,kd,ki,km,nx0,sl,todo,made,plain⟩:=st
  by_cases c0:i<n
  ·obtain⟨d,hd⟩:∃ d,ds[i]?=some d:=⟨_,List.getElem?_eq_getElem (by omega)⟩
   have hkind:=def_kind hd
   have hbody:=def_body hd
   by_cases kk:d.kind=0∨d.kind=1
   ·have fin:∀ T',T' 2=T 2→T' 4=T 4→T' 8=T 8→T' 18=T 18→StG H lm ld li td ms n nt (i+1) ds ids nx T' K:=by
     intro T' h2 h4 h8 h18
     refine⟨h2.trans s2,h4.trans s4,h8.trans s8,h18.trans s18,stk,shl,dsl,il,kd,ki,km,nx0,sl,fun j q hq hb hj=>todo j q hq hb (by omega),fun j q hq hb hj=>?_,plain⟩
     by_cases hji:j=i
     ·subst hji
      rw[hd] at hq
      injection hq with hq
      subst hq
      rcases kk with e|e
      ·exact absurd e hb.1
      ·exact absurd e hb.2
     ·exact made j q hq hb (by omega)
    rcases kk with kk|kk
    ·rw[kk] at hkind
     simp (disch:=omega) only[evX,↓reduceIte,Nat.reduceEqDiff,Nat.reduceBEq,Nat.reduceAdd,Nat.reduceMul,reduceCtorEq,Nat.reduceLeDiff,Int.reduceEq,Int.reduceLT,Int.reduceLE,Int.reduceBEq,Int.reduceBNe,Int.reduceAdd,Int.reduceNeg,Int.reduceSub,Int.reduceMul,s2,s4,s8,s18,s19,kd,dsl,hkind]
     exact⟨c0,_,_,_,_,_,_,rfl,fin _ rfl rfl rfl rfl,by omega,rfl⟩
    ·rw[kk] at hkind
     simp (disch:=omega) only[evX,↓reduceIte,Nat.reduceEqDiff,Nat.reduceBEq,Nat.reduceAdd,Nat.reduceMul,reduceCtorEq,Nat.reduceLeDiff,Int.reduceEq,Int.reduceLT,Int.reduceLE,Int.reduceBEq,Int.reduceBNe,Int.reduceAdd,Int.reduceNeg,Int.reduceSub,Int.reduceMul,s2,s4,s8,s18,s19,kd,dsl,hkind]
     exact⟨c0,_,_,_,_,_,_,rfl,fin _ rfl rfl rfl rfl,by omega,rfl⟩
   ·have hbd:bodied d:=⟨fun e=>kk (.inl e),fun e=>kk (.inr e)⟩
    have hbd':=hbd
    obtain⟨kd0,kd1⟩:=hbd'
    have good:=todo i d hd hbd (Nat.le_refl _)
    have hnum:=number_D nt 9 d.body [] K good (by simp)
    rw[List.nil_append,ints_nil] at hnum
    obtain⟨od,hod⟩:∃ od,od=numE d.body:=⟨_,rfl⟩
    have hodl:od.length≤1953125:=by rw[hod];have:=numE_len good;simpa using this
    have hodr:∀ z∈od,0≤z∧z<(nt:Int):=by rw[hod];exact numE_range good
    rw[← hod] at hnum
    simp (disch:=omega) only[evX,↓reduceIte,Nat.reduceEqDiff,Nat.reduceBEq,Nat.reduceAdd,Nat.reduceMul,reduceCtorEq,Nat.reduceLeDiff,Int.reduceEq,Int.reduceLT,Int.reduceLE,Int.reduceBEq,Int.reduceBNe,Int.reduceAdd,Int.reduceNeg,Int.reduceSub,Int.reduceMul,s2,s4,s8,s18,s19,kd,dsl,hkind,kd0,kd1,hbody,hnum]
    refine W_countx od.length 12 (fun k s=>∃ (T:AFrame) (K:AHeap) (g' : Nat) (ids' : List Id) (nx' : Int),s=⟨T,K,H.length,g'⟩∧StG H lm ld li td ms n nt i ds ids' nx' T K∧nx'≤nx+k∧T 19=.int .i64 i∧(∃ o,T 20=.slice (ints od) o)∧T 21=.int .i64 k)
     (fun s=>∃ (T:AFrame) (K:AHeap) (g' : Nat) (ids' : List Id) (nx' : Int),s=⟨T,K,H.length,g'⟩∧StG H lm ld li td ms n nt i ds ids' nx' T K∧nx'≤nx+1953125∧T 19=.int .i64 i)
     (fun _=>False) ?_ ?_ (fun _ h=>h.elim) 0 _ (by omega) ?_
    ·rintro k s hk ⟨T,K,g',ids',nx',rfl,st',nx1',s19,⟨o,s20⟩,s21⟩
     have st0':=st'
     obtain⟨s2,s4,s8,s18,stk,shl,dsl,il,kd,ki,km,nx0',sl,todo,made,plain⟩:=st'
     by_cases ck:k<od.length
     ·obtain⟨z,hz⟩:∃ z,od[k]?=some z:=⟨_,List.getElem?_eq_getElem ck⟩
      obtain⟨z0,z1⟩:=hodr z (List.mem_of_getElem? hz)
      obtain⟨q,rfl⟩:∃ q:Nat,z=q:=⟨z.toNat,by rw[Int.toNat_of_nonneg z0]⟩
      have hql:q<ids'.length:=by omega
      have hz':=ints_at hz
      have hid:=id_D nx' K (by omega)
      rw[encId] at hid
      have hput:=ids_put (x:=idN nx') hql
      have hfl:(encIds ids').flatten.length=nt*3:=by rw[flat_length ids_wide,ids_len,il]
      have lif:decide (li<H.length)=false:=decide_eq_false (by omega)
      have hlil:=(List.getElem?_eq_some_iff.1 ki).1
      simp (disch:=omega) only[evX,↓reduceIte,Nat.reduceEqDiff,Nat.reduceBEq,Nat.reduceAdd,Nat.reduceMul,reduceCtorEq,Nat.reduceLeDiff,Int.reduceEq,Int.reduceLT,Int.reduceLE,Int.reduceBEq,Int.reduceBNe,Int.reduceAdd,Int.reduceNeg,Int.reduceSub,Int.reduceMul,s2,s4,s8,s18,s19,s20,s21,ints_len,hz',hid,ki,hfl,hput,lif]
      refine⟨ck,_,_,_,ids'.set q (idN nx'),nx' + 1,rfl,⟨?_,?_,?_,?_,by rw[List.take_set_of_le hli];exact stk,by rw[List.length_set];exact shl,dsl,by rw[List.length_set];exact il,by rw[List.getElem?_set_ne e1];exact kd,List.getElem?_set_self hlil,by rw[List.getElem?_set_ne e2];exact km,by omega,sl,todo,made,plain⟩,by omega,?_,⟨o,?_⟩,?_⟩
      ·exact s2
      ·exact s4
      ·rfl
      ·exact s18
      ·exact s19
      ·exact s20
      ·rfl
     ·have:k=od.length:=by omega
      subst this
      simp (disch:=omega) only[evX,↓reduceIte,Nat.reduceEqDiff,Nat.reduceBEq,Nat.reduceAdd,Nat.reduceMul,reduceCtorEq,Nat.reduceLeDiff,Int.reduceEq,Int.reduceLT,Int.reduceLE,Int.reduceBEq,Int.reduceBNe,Int.reduceAdd,Int.reduceNeg,Int.reduceSub,Int.reduceMul,s2,s4,s8,s18,s19,s20,s21,ints_len]
      refine⟨_,_,_,ids',nx',rfl,st0'.frame ?_ ?_ ?_ ?_,by omega,?_⟩
      ·rfl
      ·rfl
      ·rfl
      ·rfl
      ·exact s19
    ·rintro s ⟨T,K,g',ids',nx',rfl,st',nx1',s19⟩
     have st0':=st'
     obtain⟨s2,s4,s8,s18,stk,shl,dsl,il,kd,ki,km,nx0',sl,todo,made,plain⟩:=st'
     obtain⟨e',hren,hel⟩:=renamed_D ids' li freeTy K ki 9 d.body (by rw[il];exact todo i d hd hbd (Nat.le_refl _))
     rw[il] at hren
     have hput:=defs_put (e:=e') hd
     have hfl:(encDefs ds).flatten.length=n*31:=by rw[flat_length defs_wide,defs_len,dsl]
     have ldf:decide (ld<H.length)=false:=decide_eq_false (by omega)
     have hldl:=(List.getElem?_eq_some_iff.1 kd).1
     simp (disch:=omega) only[evX,↓reduceIte,Nat.reduceEqDiff,Nat.reduceBEq,Nat.reduceAdd,Nat.reduceMul,reduceCtorEq,Nat.reduceLeDiff,Int.reduceEq,Int.reduceLT,Int.reduceLE,Int.reduceBEq,Int.reduceBNe,Int.reduceAdd,Int.reduceNeg,Int.reduceSub,Int.reduceMul,s2,s4,s8,s18,s19,kd,dsl,hbody,hren,ex_heap,hfl,hput,ldf]
     refine⟨c0,ds.set i { d with body:=e' },ids',nx',_,_,_,rfl,⟨?_,?_,?_,?_,by rw[List.take_set_of_le hld];exact stk,by rw[List.length_set];exact shl,by rw[List.length_set];exact dsl,il,List.getElem?_set_self hldl,by rw[List.getElem?_set_ne (Ne.symm e1)];exact ki,by rw[List.getElem?_set_ne (Ne.symm e3)];exact km,nx0',?_,?_,?_,?_⟩,by omega,?_⟩
     ·exact s2
     ·exact s4
     ·exact s8
     ·exact s18
     ·intro q hq
      rcases List.mem_or_eq_of_mem_set hq with hq|rfl
      ·exact sl q hq
      ·exact sl d (List.mem_of_getElem? hd)
     ·intro j q hq hb hj
      rw[List.getElem?_set] at hq
      split at hq
      ·omega
      ·exact todo j q hq hb (by omega)
     ·intro j q hq hb hj
      rw[List.getElem?_set] at hq
      split at hq
      ·rw[if_pos (by omega)] at hq
       injection hq with hq
       subst hq
       exact hel
      ·exact made j q hq hb (by omega)
     ·intro j q hq hb
      rw[List.getElem?_set] at hq
      split at hq
      ·rw[if_pos (by omega)] at hq
       injection hq with hq
       subst hq
       exact absurd ⟨kd0,kd1⟩ hb
      ·exact plain j q hq hb
     ·simp (disch:=omega) only[evX,↓reduceIte,Nat.reduceEqDiff,Nat.reduceBEq,Nat.reduceAdd,Nat.reduceMul,reduceCtorEq,Nat.reduceLeDiff,Int.reduceEq,Int.reduceLT,Int.reduceLE,Int.reduceBEq,Int.reduceBNe,Int.reduceAdd,Int.reduceNeg,Int.reduceSub,Int.reduceMul,s19]
    ·exact⟨_,_,_,ids,nx,rfl,st0.frame rfl rfl rfl rfl,by omega,s19,⟨true,rfl⟩,rfl⟩
  ·have:i=n:=by omega
   subst this
   simp (disch:=omega) only[evX,↓reduceIte,Nat.reduceEqDiff,Nat.reduceBEq,Nat.reduceAdd,Nat.reduceMul,reduceCtorEq,Nat.reduceLeDiff,Int.reduceEq,Int.reduceLT,Int.reduceLE,Int.reduceBEq,Int.reduceBNe,Int.reduceAdd,Int.reduceNeg,Int.reduceSub,Int.reduceMul,s2,s4,s8,s18,s19,kd,dsl]
   exact⟨ds,ids,nx,_,_,_,rfl,st0.frame rfl rfl rfl rfl⟩
 ·rintro s ⟨ds,ids,nx,T,K,g,rfl,hs⟩
  simp (disch:=omega) only[evX,↓reduceIte,Nat.reduceEqDiff,Nat.reduceBEq,Nat.reduceAdd,Nat.reduceMul,reduceCtorEq,Nat.reduceLeDiff,Int.reduceEq,Int.reduceLT,Int.reduceLE,Int.reduceBEq,Int.reduceBNe,Int.reduceAdd,Int.reduceNeg,Int.reduceSub,Int.reduceMul]
  exact hR ds ids nx T K g hs
 ·exact⟨ds0,ids0,nx0,_,_,_,rfl,hst.frame rfl rfl rfl rfl,by omega,rfl⟩
end Go.Proofs.YtemfofdaemgjgaaGreatDoor
end
section
set_option linter.unusedSimpArgs false
set_option linter.unusedVariables false
set_option maxRecDepth 100000
set_option maxHeartbeats 4000000
namespace Go.Proofs.YtemfofdaemgjgaaGreatDoor
open Go Go.Abs Go.Proofs
def normEx:Ex→Ex
 | .mk i k n r tk td tks ks ns=>.mk i k n r tk td (some (tks.getD [])) ks (some (ns.getD []))
def normDef (d:Def):Def:={ d with body:=normEx d.body }
theorem frz_def {d:Def} : (encDef d).map (fun x=>x.drop.norm)=encDef (normDef d):=by
 obtain⟨id,k,md,nm,sl,res,body,a,b⟩:=d
 obtain⟨i,k,n,r,tk,td,tks,ks,ns⟩:=body
 cases tks<;>cases ns<;>simp only[encDef,normDef,normEx,Ex.id,Ex.kind,Ex.n,Ex.ref,Ex.tk,Ex.td,Ex.tks,Ex.kids,Ex.names,List.map_cons,List.map_nil,drop_int,drop_str,drop_slice,drop_encNil,Option.map_none,Option.map_some,Option.getD_none,Option.getD_some,encNil,encTys,strs,drop_nilsl,AV.norm]
theorem frz_defs {ds:List Def} : frzRows (encDefs ds)=encDefs (ds.map normDef):=by
 simp only[frzRows,encDefs,List.map_map]
 exact List.map_congr_left fun d _=>frz_def
theorem def_plain {d:Def} : ((encDef d).all fun x=>x.drop.plain&&noByteV x)=true:=by
 obtain⟨id,k,md,nm,sl,res,body,a,b⟩:=d
 obtain⟨i,k,n,r,tk,td,tks,ks,ns⟩:=body
 cases tks<;>cases ns<;>rfl
theorem mr_plain {n:Nat} {r:List AV} (h:MrOK n r):(r.all fun x=>x.drop.plain&&noByteV x)=true:=by
 obtain⟨id,nm,us,dc,rfl,hn,hdc⟩:=h
 rcases hdc with rfl|⟨l,rfl,_⟩
 ·cases us<;>rfl
 ·cases us<;>rfl
theorem mr_frz {n:Nat} {r:List AV} (h:MrOK n r):∃ m:Mod,r.map (fun x=>x.drop.norm)=encMod m∧m.name.length≤100:=by
 obtain⟨id,nm,us,dc,rfl,hn,hdc⟩:=h
 rcases hdc with rfl|⟨l,rfl,_⟩
 ·exact⟨⟨id,nm,us.getD [],[]⟩,by cases us<;>rfl,hn⟩
 ·exact⟨⟨id,nm,us.getD [],l⟩,by cases us<;>rfl,hn⟩
theorem mods_frz {n:Nat} : ∀ {rows:List (List AV)},(∀ r∈rows,MrOK n r)→∃ ms:List Mod,frzRows rows=encMods ms∧ms.length=rows.length∧∀ m∈ms,m.name.length≤100
 | [],_=>⟨[],rfl,rfl,by simp⟩
 | r :: rows,h=>by
  obtain⟨m,hm,hmn⟩:=mr_frz (h r (List.mem_cons_self ..))
  obtain⟨ms,h1,h2,h3⟩:=mods_frz (rows:=rows) fun q hq=>h q (List.mem_cons_of_mem _ hq)
  refine⟨m :: ms,?_,by simp[h2],fun q hq=>by
   rcases List.mem_cons.1 hq with rfl|hq
   ·exact hmn
   ·exact h3 q hq⟩
  simp only[frzRows,encMods,List.map_cons] at h1 ⊢
  rw[hm,h1]
theorem frz_cell {base l1 l2 z1 z2 gen g t:Nat} {ty1 ty2:TypeId} {T:AFrame} {H:AHeap} {P:AV × Option Chg→Prop} {rows1 rows2:List (List AV)} (h1:T t=.lbox g [.sref l1 0 rows1.length z1,.sref l2 0 rows2.length z2])
  (b1:base≤l1) (b2:base≤l2) (k1:H[l1]?=some (.box ty1 rows1.flatten)) (k2:H[l2]?=some (.box ty2 rows2.flatten)) (w1:∀ r∈rows1,r.length=z1) (w2:∀ r∈rows2,r.length=z2) (z10:0<z1) (z20:0<z2)
  (p1:∀ r∈rows1,(r.all fun x=>x.drop.plain&&noByteV x)=true) (p2:∀ r∈rows2,(r.all fun x=>x.drop.plain&&noByteV x)=true)
  (hP:P (.agg [.slice (frzRows rows1) false,.slice (frzRows rows2) false],none)):doneFrz base [.cell t true 2] P .ret ⟨T,H,base,gen⟩:=by
 have n1:Nat.blt l1 base=false:=by rw[blt_dec];exact decide_eq_false (by omega)
 have n2:Nat.blt l2 base=false:=by rw[blt_dec];exact decide_eq_false (by omega)
 have ho:resOf ⟨T,H,base,gen⟩ (.cell t true 2)=some (.agg [.sref l1 0 rows1.length z1,.sref l2 0 rows2.length z2]):=by
  simp only[resOf,h1]
  rfl
 refine⟨?_,?_,(.agg [.slice (frzRows rows1) false,.slice (frzRows rows2) false],none),?_,hP⟩
 ·simp only[finish0,resVal,resRow,ho,Option.bind_some,leaves_agg,partOut_agg,List.all_cons,List.all_nil,partOut_sref,cellOut_sref,n1,n2,Bool.false_and,cond_false]
 ·simp only[finPub,List.length_cons,List.length_nil]
  rfl
 ·simp only[finFrz,resVal2,ho,Option.map_some,Option.bind_some,dropAll_agg,List.map_cons,List.map_nil,drop_sref,frzP,frzC_rows b1 k1 w1 z10 p1,frzC_rows b2 k2 w2 z20 p2,leaves_agg,partOut_agg,List.all_cons,List.all_nil,partOut_slice,cellOut_slice,plain_slice,Bool.not_false,Bool.and_self,Nat.beq_refl,cond_true]
end Go.Proofs.YtemfofdaemgjgaaGreatDoor
end
section
set_option linter.unusedSimpArgs false
set_option linter.unusedVariables false
set_option maxRecDepth 100000
set_option maxHeartbeats 4000000
namespace Go.Proofs.YtemfofdaemgjgaaGreatDoor
open Go Go.Abs Go.Proofs
theorem zero_good:ExLen exZero:=.mk _ _ _ _ _ _ _ _ _ (by simp) (by simp)
theorem norm_good {e:Ex} (h:ExLen e):ExLen (normEx e):=by
 cases h with
 | mk i k n r tk td tks ks ns h1 h=>exact .mk _ _ _ _ _ _ _ _ _ h1 h
def IsProg (r:AV × Option Chg):Prop:=∃ p,ProgB p∧p.mods.length≤2∧p.defs.length≤8∧(∀ d∈p.defs,d.slots.length≤3)∧(∀ m∈p.mods,m.name.length≤100)∧r=(.agg (encProg p),none)
theorem prog_D (l:List Int) (hl:∀ n∈l,I64 n) (H:AHeap):∃ r,callD A 4 [.slice (ints l) false] H=some r∧IsProg r:=by
 refine callD_Frz (fn:=ir4) rfl rfl rfl ?_
 refine W_cutN 3 (fun s=>∃ mods lm T K g,s=⟨T,K,H.length,g⟩∧(1≤mods∧mods≤2)∧StA l H mods lm T K) ?_ ?_
 ·exact stageA l hl H _ _ fun mods lm T K g hm hs=>⟨mods,lm,T,K,g,rfl,hm,hs⟩
 rintro s ⟨mods,lm,T,K,g,rfl,hm,sA⟩
 refine W_cutN 1 (fun s=>∃ (h:Bool) (pl:List Plan) (o:Bool) (T:AFrame) (K:AHeap) (g:Nat),s=⟨T,K,H.length,g⟩∧PlansOK h mods pl∧StC l H h mods lm pl 0 T K∧T 7=.slice (encPlans pl) o) ?_ ?_
 ·unfold ir4;dsimp only[oQ,oP,iR,oM,oT,oL,oG,oH,oI,oF,oX,oA,oN,oS,oB,oR,oK,oC,iT,iC,iZ,iE]
  simp only[ICode.pre,ICode.post]
  obtain⟨t0,t2,t3,t4,stk,shl,lmge,rows,srow,smr⟩:=sA
  obtain⟨r,hr,h,pl,o,rfl,hpl⟩:=plans_D l mods K hl hm
  have h8:=hpl.1
  cases o with
  | false =>
   simp (disch:=omega) only[evX,↓reduceIte,Nat.reduceEqDiff,Nat.reduceBEq,Nat.reduceAdd,Nat.reduceMul,reduceCtorEq,Nat.reduceLeDiff,Int.reduceEq,Int.reduceLT,Int.reduceLE,Int.reduceBEq,Int.reduceBNe,Int.reduceAdd,Int.reduceNeg,Int.reduceSub,Int.reduceMul,t0,t2,t3,t4,hr,plans_len]
   refine⟨h,pl,false,_,_,_,rfl,hpl,⟨?_,?_,?_,stk,shl,⟨rows,srow,smr⟩,⟨mods+pl.length,?_,by omega,by simp;omega⟩,[],.slice [] true,?_,rfl,by intro i d hd;simp at hd,by simp,.inl ⟨rfl,rfl⟩⟩,?_⟩
   ·exact t0
   ·exact t2
   ·exact t3
   ·rfl
   ·exact t4
   ·rfl
  | true =>
   simp (disch:=omega) only[evX,↓reduceIte,Nat.reduceEqDiff,Nat.reduceBEq,Nat.reduceAdd,Nat.reduceMul,reduceCtorEq,Nat.reduceLeDiff,Int.reduceEq,Int.reduceLT,Int.reduceLE,Int.reduceBEq,Int.reduceBNe,Int.reduceAdd,Int.reduceNeg,Int.reduceSub,Int.reduceMul,t0,t2,t3,t4,hr,plans_len]
   refine⟨h,pl,true,_,_,_,rfl,hpl,⟨?_,?_,?_,stk,shl,⟨rows,srow,smr⟩,⟨mods+pl.length,?_,by omega,by simp;omega⟩,[],.slice [] true,?_,rfl,by intro i d hd;simp at hd,by simp,.inl ⟨rfl,rfl⟩⟩,?_⟩
   ·exact t0
   ·exact t2
   ·exact t3
   ·rfl
   ·exact t4
   ·rfl
 rintro s ⟨h,pl,o,T,K,g,rfl,hpl,sC,t7⟩
 obtain⟨n,hn⟩:∃ n,n=pl.length:=⟨_,rfl⟩
 have n2:2≤n:=by rw[hn];exact hpl.2.1
 have n8:n≤8:=by rw[hn];exact hpl.1
 have n4:h=true→4≤n:=fun e=>by rw[hn];exact hpl.2.2.1 e
 refine W_cutN 0 (fun s=>∃ T K g,s=⟨T,K,H.length,g⟩∧StC l H h mods lm pl n T K) ?_ ?_
 ·exact stageC l hl H h mods hm lm sA.lmge pl hpl T K g o sC t7 _ _ fun T K g hs=>⟨T,K,g,rfl,by rw[hn];exact hs⟩
 clear sC t7
 rintro s ⟨T,K,g,rfl,t0,t2,t3,stk,shl,⟨rows,srow,smr⟩,⟨nx,t8,nx0,nx1⟩,ds,dc,t4,dsl,dok,dz,hdc⟩
 rcases hdc with ⟨e,_⟩|⟨_,ld,rfl,hld,hldge,hldk⟩
 ·omega
 have hmt:mods.toNat=rows.length:=by have:=smr.len;omega
 rw[hmt] at t4
 have hlmlt:=(List.getElem?_eq_some_iff.1 srow).1
 have hldlt:=(List.getElem?_eq_some_iff.1 hldk).1
 have hlmge:=sA.lmge
 obtain⟨c,hc⟩:∃ c:Cx,c=⟨K.length,lm,ld,68,freeTy,freeTy,l,rows,ds⟩:=⟨_,rfl⟩
 obtain⟨m0,hm0⟩:∃ m:Mk,m=⟨24,0,0,0,⟨0,0,0⟩,0⟩:=⟨_,rfl⟩
 refine W_cutN 0 (fun s=>∃ T K g,s=⟨T,K,H.length,g⟩∧StE l H h mods c nx n 0 ds m0 T K) ?_ ?_
 ·unfold ir4;dsimp only[oQ,oP,iR,oM,oT,oL,oG,oH,oI,oF,oX,oA,oN,oS,oB,oR,oK,oC,iT,iC,iZ,iE]
  simp only[ICode.pre,ICode.post]
  have klf:decide (K.length<H.length)=false:=decide_eq_false (by omega)
  simp (disch:=omega) only[evX,↓reduceIte,Nat.reduceEqDiff,Nat.reduceBEq,Nat.reduceAdd,Nat.reduceMul,reduceCtorEq,Nat.reduceLeDiff,Int.reduceEq,Int.reduceLT,Int.reduceLE,Int.reduceBEq,Int.reduceBNe,Int.reduceAdd,Int.reduceNeg,Int.reduceSub,Int.reduceMul,t0,t2,t4,klf]
  refine⟨_,_,_,rfl,⟨?_,?_,?_,?_,?_,?_,dsl,dok,⟨?_,?_,?_,?_,?_,?_⟩,?_,?_,?_,?_,?_,?_⟩⟩
  ·exact t2
  ·rw[hc];simp (disch:=omega) only[evX,↓reduceIte,Nat.reduceEqDiff,Nat.reduceBEq,Nat.reduceAdd,Nat.reduceMul,reduceCtorEq,Nat.reduceLeDiff,Int.reduceEq,Int.reduceLT,Int.reduceLE,Int.reduceBEq,Int.reduceBNe,Int.reduceAdd,Int.reduceNeg,Int.reduceSub,Int.reduceMul,t4]
  ·exact t8
  ·rw[hc];simp (disch:=omega) only[evX,↓reduceIte,Nat.reduceEqDiff,Nat.reduceBEq,Nat.reduceAdd,Nat.reduceMul,reduceCtorEq,Nat.reduceLeDiff,Int.reduceEq,Int.reduceLT,Int.reduceLE,Int.reduceBEq,Int.reduceBNe,Int.reduceAdd,Int.reduceNeg,Int.reduceSub,Int.reduceMul]
  ·rw[List.take_append_of_le_length shl];exact stk
  ·simp;omega
  ·rw[hc,hm0];simp[encMk,dsl]
  ·rw[hc];simp only;rw[List.getElem?_append_left hlmlt];exact srow
  ·rw[hc];simp only;rw[List.getElem?_append_left hldlt];exact hldk
  ·rw[hc];simp only;omega
  ·rw[hc];simp only;omega
  ·rw[hc];exact hl
  ·rw[hm0];simp
  ·rw[hm0];simp
  ·rw[hm0];simp
  ·rw[hm0];simp
  ·intro j d _ _ hj;omega
  ·intro j d hd _;exact dz d (List.mem_of_getElem? hd)
 rintro s ⟨T,K1,g,rfl,sE⟩
 refine W_cutN 0 (fun s=>∃ ds m T K g,s=⟨T,K,H.length,g⟩∧StE l H h mods c nx n n ds m T K) ?_ ?_
 ·exact stageE l H h mods hm c (by rw[hc]) (by rw[hc];exact shl) (by rw[hc];exact hldge) (by rw[hc];exact Ne.symm hld) nx n n2 n8 n4 n (by rw[hc];exact smr) ds m0 T K1 g sE _ _ fun ds m T K g hs=>⟨ds,m,T,K,g,rfl,hs⟩
 clear sE t2 t4 t8 stk shl dsl dok dz
 rintro s ⟨ds1,m,T,K2,g,rfl,t2,t4,t8,t13,stk,shl,dsl,dok,mh,tm0,tm1,nm0,nm1,made,plain⟩
 obtain⟨nt,hnt⟩:∃ nt:Nat,m.temp=nt:=⟨m.temp.toNat,by omega⟩
 have hmmlt:=mh.lt
 have hlm2:=(List.getElem?_eq_some_iff.1 mh.h1).1
 have hld2:=(List.getElem?_eq_some_iff.1 mh.h2).1
 simp only at hlm2 hld2 hmmlt
 refine W_cutN 0 (fun s=>∃ T K g,s=⟨T,K,H.length,g⟩∧StG H lm ld K2.length freeTy rows n nt 0 ds1 (List.replicate nt ⟨0,0,0⟩) nx T K) ?_ ?_
 ·unfold ir4;dsimp only[oQ,oP,iR,oM,oT,oL,oG,oH,oI,oF,oX,oA,oN,oS,oB,oR,oK,oC,iT,iC,iZ,iE]
  simp only[ICode.pre,ICode.post]
  have h0:=mh.h0
  simp only[encMk,hnt] at h0
  have hbig:(nt*24).ble 70368744177664=true:=Nat.ble_eq_true_of_le (by omega)
  have hbig2:nt.ble 70368744177664=true:=Nat.ble_eq_true_of_le (by omega)
  have klf:decide (K2.length<H.length)=false:=decide_eq_false (by omega)
  simp (disch:=omega) only[evX,↓reduceIte,Nat.reduceEqDiff,Nat.reduceBEq,Nat.reduceAdd,Nat.reduceMul,reduceCtorEq,Nat.reduceLeDiff,Int.reduceEq,Int.reduceLT,Int.reduceLE,Int.reduceBEq,Int.reduceBNe,Int.reduceAdd,Int.reduceNeg,Int.reduceSub,Int.reduceMul,t13,h0,evMkarr,hbig,hbig2,klf]
  have e1:(List.replicate nt [AV.int .i64 0,.int .i64 0,.int .i64 0])=encIds (List.replicate nt ⟨0,0,0⟩):=by simp[encIds,encId]
  rw[hc] at t4 mh
  refine⟨_,_,_,rfl,⟨?_,?_,?_,?_,?_,?_,dsl,by simp,?_,?_,?_,nx0,?_,?_,?_,plain⟩⟩
  ·exact t2
  ·exact t4
  ·exact t8
  ·rfl
  ·rw[List.take_append_of_le_length shl];exact stk
  ·simp;omega
  ·rw[hc] at hld2;rw[List.getElem?_append_left hld2];exact mh.h2
  ·rw[List.getElem?_append_right (Nat.le_refl _),Nat.sub_self,e1];rfl
  ·rw[hc] at hlm2;rw[List.getElem?_append_left hlm2];exact mh.h1
  ·intro d hd
   obtain⟨j,hj⟩:=List.getElem?_of_mem hd
   exact (dok j d hj).l3
  ·intro j d hd hb _
   rw[← hnt];exact made j d hd hb (by have:=(List.getElem?_eq_some_iff.1 hd).1;omega)
  ·intro j d _ _ hj;omega
 rintro s ⟨T,K3,g,rfl,sG⟩
 rw[hc] at hlm2 hld2
 simp only at hlm2 hld2
 refine W_cutN 0 (fun s=>∃ ds ids nx T K g,s=⟨T,K,H.length,g⟩∧StG H lm ld K2.length freeTy rows n nt n ds ids nx T K) ?_ ?_
 ·exact stageG H lm ld K2.length freeTy rows n nt n8 hldge shl (by omega) (by omega) (Ne.symm hld) (by omega) ds1 _ nx T K3 g sG (by omega) _ _ fun ds ids nx T K g hs=>⟨ds,ids,nx,T,K,g,rfl,hs⟩
 clear sG t2 t4 t8 stk shl dsl dok made plain
 rintro s ⟨ds2,ids,nx2,T,K4,g,rfl,t2,t4,t8,t18,stk,shl,dsl,il,kd,ki,km,nx20,sl,todo,made,plain⟩
 obtain⟨ms,hms,hmsl,hmn⟩:=mods_frz smr.row
 have fin:∀ T',T' 2=.lbox 0 [.sref lm 0 rows.length 6,.sref ld 0 (encDefs ds2).length 31]→doneFrz H.length [.cell 2 true 2] IsProg .ret ⟨T',K4,H.length,g⟩:=by
  intro T' h'
  refine frz_cell h' sA.lmge hldge km kd smr.wide defs_wide (by omega) (by omega) (fun r hr=>mr_plain (smr.row r hr)) (fun r hr=>?_) ?_
  ·simp only[encDefs,List.mem_map] at hr
   obtain⟨d,_,rfl⟩:=hr
   exact def_plain
  ·rw[hms,frz_defs]
   have hr2:ms.length≤2:=by rw[hmsl];omega
   refine⟨⟨ms,ds2.map normDef⟩,⟨by simp only;omega,by simp;omega,?_,?_⟩,hr2,by simp;omega,?_,hmn,rfl⟩
   ·intro d hd
    obtain⟨q,hq,rfl⟩:=List.mem_map.1 hd
    have:=sl q hq
    simp only[normDef];omega
   ·intro d hd
    obtain⟨q,hq,rfl⟩:=List.mem_map.1 hd
    simp only[normDef]
    obtain⟨j,hj⟩:=List.getElem?_of_mem hq
    by_cases hb:bodied q
    ·exact norm_good (made j q hj hb (by have:=(List.getElem?_eq_some_iff.1 hj).1;omega))
    ·rw[plain j q hj hb];exact norm_good zero_good
   ·intro d hd
    obtain⟨q,hq,rfl⟩:=List.mem_map.1 hd
    exact sl q hq
 unfold ir4;dsimp only[oQ,oP,iR,oM,oT,oL,oG,oH,oI,oF,oX,oA,oN,oS,oB,oR,oK,oC,iT,iC,iZ,iE]
 simp only[ICode.pre,ICode.post]
 simp (disch:=omega) only[evX,↓reduceIte,Nat.reduceEqDiff,Nat.reduceBEq,Nat.reduceAdd,Nat.reduceMul,reduceCtorEq,Nat.reduceLeDiff,Int.reduceEq,Int.reduceLT,Int.reduceLE,Int.reduceBEq,Int.reduceBNe,Int.reduceAdd,Int.reduceNeg,Int.reduceSub,Int.reduceMul,t2,t4]
 refine fin _ ?_
 rw[defs_len,dsl]
 simp (disch:=omega) only[evX,↓reduceIte,Nat.reduceEqDiff,Nat.reduceBEq,Nat.reduceAdd,Nat.reduceMul,reduceCtorEq,Nat.reduceLeDiff,Int.reduceEq,Int.reduceLT,Int.reduceLE,Int.reduceBEq,Int.reduceBNe,Int.reduceAdd,Int.reduceNeg,Int.reduceSub,Int.reduceMul]
end Go.Proofs.YtemfofdaemgjgaaGreatDoor
end
section
set_option linter.unusedSimpArgs false
set_option linter.unusedVariables false
set_option maxRecDepth 100000
set_option maxHeartbeats 4000000
namespace Go.Proofs.YtemfofdaemgjgaaGreatDoor
open Go Go.Abs Go.Proofs
def namesS (p:Prog):List Str:=[[109,105,108,108],[110,111,110,101]]++p.mods.map (·.name)
def nmT (p:Prog) (i:Nat):List Str:=[[109,105,108,108],[110,111,110,101]]++(p.mods.take i).map (·.name)
theorem nmT_len {p:Prog} {i:Nat} : (nmT p i).length≤2+i:=by simp[nmT];omega
theorem nmT_succ {p:Prog} {i:Nat} (h:i<p.mods.length):nmT p i++[p.mods[i].name]=nmT p (i+1):=by
 rw[nmT,nmT,take_snoc h,List.map_append,List.append_assoc];rfl
theorem nmT_all {p:Prog} : nmT p p.mods.length=namesS p:=by rw[nmT,List.take_length];rfl
theorem names_D (p:Prog) (hm:p.mods.length≤2) (H:AHeap):callD A 7 [.agg (encProg p)] H=some (.slice (strs (namesS p)) false,none):=by
 refine callD_W (fn:=ir7) rfl rfl rfl ?_
 unfold ir7;dsimp only[oQ,oP,iR,oM,oT,oL,oG,oH,oI,oF,oX,oA,oN,oS,oB,oR,oK,oC,iT,iC,iZ,iE]
 rw[encProg]
 simp (disch:=omega) only[evX,↓reduceIte,Nat.reduceEqDiff,Nat.reduceBEq,Nat.reduceAdd,Nat.reduceMul,reduceCtorEq,Nat.reduceLeDiff,Int.reduceEq,Int.reduceLT,Int.reduceLE,Int.reduceBEq,Int.reduceBNe,Int.reduceAdd,Int.reduceNeg,Int.reduceSub,Int.reduceMul]
 generalize hHH:H++[AObj.box 26 [AV.slice (encMods p.mods) false,AV.slice (encDefs p.defs) false]]=HH
 have g0:HH[H.length]?=some (AObj.box 26 [AV.slice (encMods p.mods) false,AV.slice (encDefs p.defs) false]):=by rw[← hHH];simp
 have gt:HH.take H.length=H:=by rw[← hHH];simp
 refine W_countx p.mods.length 0 (fun i=>HdG (fun T=>T 1=.ref H.length 0∧T 4=.int .i64 i∧T 3=.slice (strs (nmT p i)) true) HH H.length)
  (HdG (fun T=>T 3=.slice (strs (namesS p)) true) HH H.length) (fun _=>False) ?_ ?_ (fun _ h=>h.elim) 0 _ (by omega) ?_
 ·rintro i st hi hst
  obtain⟨T,g,rfl,h1,h4,h3⟩:=hst.out
  by_cases h:i<p.mods.length
  ·have hg:=mods_at (List.getElem?_eq_getElem h)
   have happ:=app_str (l:=nmT p i) (n:=p.mods[i].name) (o:=true) (by have:=nmT_len (p:=p) (i:=i);omega)
   rw[nmT_succ h] at happ
   generalize p.mods[i]=d at hg happ
   rw[encMod] at hg
   simp (disch:=omega) only[evX,↓reduceIte,Nat.reduceEqDiff,Nat.reduceBEq,Nat.reduceAdd,Nat.reduceMul,reduceCtorEq,Nat.reduceLeDiff,Int.reduceEq,Int.reduceLT,Int.reduceLE,Int.reduceBEq,Int.reduceBNe,Int.reduceAdd,Int.reduceNeg,Int.reduceSub,Int.reduceMul,h1,h3,h4,mods_len,hg,g0,happ]
   exact h
  ·have:i=p.mods.length:=by omega
   subst this
   rw[nmT_all] at h3
   simp (disch:=omega) only[evX,↓reduceIte,Nat.reduceEqDiff,Nat.reduceBEq,Nat.reduceAdd,Nat.reduceMul,reduceCtorEq,Nat.reduceLeDiff,Int.reduceEq,Int.reduceLT,Int.reduceLE,Int.reduceBEq,Int.reduceBNe,Int.reduceAdd,Int.reduceNeg,Int.reduceSub,Int.reduceMul,h1,h3,h4,mods_len,g0]
 ·intro st hst
  obtain⟨T,g,rfl,h3⟩:=hst.out
  simp (disch:=omega) only[evX,↓reduceIte,Nat.reduceEqDiff,Nat.reduceBEq,Nat.reduceAdd,Nat.reduceMul,reduceCtorEq,Nat.reduceLeDiff,Int.reduceEq,Int.reduceLT,Int.reduceLE,Int.reduceBEq,Int.reduceBNe,Int.reduceAdd,Int.reduceNeg,Int.reduceSub,Int.reduceMul,h3,gt]
 ·simp (disch:=omega) only[evX,↓reduceIte,Nat.reduceEqDiff,Nat.reduceBEq,Nat.reduceAdd,Nat.reduceMul,reduceCtorEq,Nat.reduceLeDiff,Int.reduceEq,Int.reduceLT,Int.reduceLE,Int.reduceBEq,Int.reduceBNe,Int.reduceAdd,Int.reduceNeg,Int.reduceSub,Int.reduceMul,Int.natCast_zero]
  rfl
def IdsOK (n:Nat) (v:AV):Prop:=∃ L:List Id,v=.slice (encIds L) true∧L≠[]∧L.length≤n
theorem IdsOK.mono {n m:Nat} {v:AV} (h:IdsOK n v) (hn:n≤m):IdsOK m v:=by
 obtain⟨L,h0,h1,h2⟩:=h
 exact⟨L,h0,h1,by omega⟩
structure Ob (H:AHeap) (n:Nat) (T:AFrame):Prop where
 t1:T 1=.ref H.length 0
 t3:IdsOK n (T 3)
theorem Ob.to {H:AHeap} {n m:Nat} {T T' : AFrame} (h:Ob H n T) (h1:T' 1=T 1) (h3:T' 3=T 3) (hn:n≤m):Ob H m T':=⟨h1.trans h.t1,by rw[h3];exact h.t3.mono hn⟩
structure Wk (H:AHeap) (n i:Nat) (T:AFrame):Prop where
 ob:Ob H n T
 t5:T 5=.int .i64 i
 t7:∃ g e,T 7=.lbox g (encEx e)∧ExLen e
theorem Wk.to {H:AHeap} {n m i:Nat} {T T' : AFrame} (h:Wk H n i T) (h1:T' 1=T 1) (h3:T' 3=T 3) (h5:T' 5=T 5) (h7:T' 7=T 7) (hn:n≤m):Wk H m i T':=⟨h.ob.to h1 h3 hn,h5.trans h.t5,by rw[h7];exact h.t7⟩
theorem objects_D (p:Prog) (hp:ProgB p) (hm:p.mods.length≤2) (hd:p.defs.length≤8) (hs:∀ d∈p.defs,d.slots.length≤3) (H:AHeap) :
  ∃ r,callD A 8 [.agg (encProg p)] H=some r∧∃ L:List Id,r=(.slice (encIds L) false,none)∧L≠[]∧L.length≤1000:=by
 refine callD_WP (fn:=ir8) rfl rfl rfl ?_
 unfold ir8;dsimp only[oQ,oP,iR,oM,oT,oL,oG,oH,oI,oF,oX,oA,oN,oS,oB,oR,oK,oC,iT,iC,iZ,iE]
 rw[encProg]
 simp (disch:=omega) only[evX,↓reduceIte,Nat.reduceEqDiff,Nat.reduceBEq,Nat.reduceAdd,Nat.reduceMul,reduceCtorEq,Nat.reduceLeDiff,Int.reduceEq,Int.reduceLT,Int.reduceLE,Int.reduceBEq,Int.reduceBNe,Int.reduceAdd,Int.reduceNeg,Int.reduceSub,Int.reduceMul]
 generalize hHH:H++[AObj.box 26 [AV.slice (encMods p.mods) false,AV.slice (encDefs p.defs) false]]=HH
 have g0:HH[H.length]?=some (AObj.box 26 [AV.slice (encMods p.mods) false,AV.slice (encDefs p.defs) false]):=by rw[← hHH];simp
 have gt:HH.take H.length=H:=by rw[← hHH];simp
 refine W_countx p.mods.length 0 (fun i=>HdG (fun T=>Ob H (1+i) T∧T 4=.int .i64 i) HH H.length)
  (HdG (fun T=>Ob H 10 T) HH H.length) (fun _=>False) ?_ ?_ (fun _ h=>h.elim) 0 _ (by omega) ?_
 ·rintro i st hi hst
  obtain⟨T,g,rfl,ob,h4⟩:=hst.out
  have ob':=ob
  obtain⟨h1,L,h3,hL0,hL1⟩:=ob'
  by_cases h:i<p.mods.length
  ·have hg:=mods_at (List.getElem?_eq_getElem h)
   generalize p.mods[i]=d at hg
   rw[encMod] at hg
   have happ:=app_id (l:=L) (i:=d.id) (o:=true) (by omega)
   simp (disch:=omega) only[evX,↓reduceIte,Nat.reduceEqDiff,Nat.reduceBEq,Nat.reduceAdd,Nat.reduceMul,reduceCtorEq,Nat.reduceLeDiff,Int.reduceEq,Int.reduceLT,Int.reduceLE,Int.reduceBEq,Int.reduceBNe,Int.reduceAdd,Int.reduceNeg,Int.reduceSub,Int.reduceMul,h1,h3,h4,mods_len,hg,g0,happ]
   exact⟨h,⟨h1,L++[d.id],rfl,by simp,by simp;omega⟩⟩
  ·have:i=p.mods.length:=by omega
   subst this
   simp (disch:=omega) only[evX,↓reduceIte,Nat.reduceEqDiff,Nat.reduceBEq,Nat.reduceAdd,Nat.reduceMul,reduceCtorEq,Nat.reduceLeDiff,Int.reduceEq,Int.reduceLT,Int.reduceLE,Int.reduceBEq,Int.reduceBNe,Int.reduceAdd,Int.reduceNeg,Int.reduceSub,Int.reduceMul,h1,h3,h4,mods_len,g0]
   exact ob.to (rfl) (rfl) (by omega)
 ·intro st hst
  obtain⟨T,g,rfl,ob⟩:=hst.out
  have ob':=ob
  obtain⟨h1,L,h3,hL0,hL1⟩:=ob'
  simp (disch:=omega) only[evX,↓reduceIte,Nat.reduceEqDiff,Nat.reduceBEq,Nat.reduceAdd,Nat.reduceMul,reduceCtorEq,Nat.reduceLeDiff,Int.reduceEq,Int.reduceLT,Int.reduceLE,Int.reduceBEq,Int.reduceBNe,Int.reduceAdd,Int.reduceNeg,Int.reduceSub,Int.reduceMul,h1,h3,g0]
  refine W_countx p.defs.length 2 (fun i=>HdG (fun T=>Ob H (10+20*i) T∧T 5=.int .i64 i) HH H.length)
   (HdG (fun T=>Ob H 1000 T) HH H.length) (fun _=>False) ?_ ?_ (fun _ h=>h.elim) 0 _ (by omega) ?_
  ·rintro i st hi hst
   obtain⟨T,g,rfl,ob,h5⟩:=hst.out
   have ob':=ob
   obtain⟨h1,L,h3,hL0,hL1⟩:=ob'
   by_cases h:i<p.defs.length
   ·have hg:=defs_at (List.getElem?_eq_getElem h)
    have hsl:=hs _ (List.getElem_mem h)
    have hbd:=hp.body _ (List.getElem_mem h)
    generalize p.defs[i]=d at hg hsl hbd
    rw[encDef] at hg
    have happ:=app_id (l:=L) (i:=d.id) (o:=true) (by omega)
    simp (disch:=omega) only[evX,↓reduceIte,Nat.reduceEqDiff,Nat.reduceBEq,Nat.reduceAdd,Nat.reduceMul,reduceCtorEq,Nat.reduceLeDiff,Int.reduceEq,Int.reduceLT,Int.reduceLE,Int.reduceBEq,Int.reduceBNe,Int.reduceAdd,Int.reduceNeg,Int.reduceSub,Int.reduceMul,h1,h3,h5,defs_len,hg,g0,happ]
    refine W_countx d.slots.length 4 (fun k=>HdG (fun T=>Ob H (11+20*i+k) T∧T 5=.int .i64 i∧T 6=.int .i64 k) HH H.length)
     (HdG (fun T=>Ob H (14+20*i) T∧T 5=.int .i64 i) HH H.length) (fun _=>False) ?_ ?_ (fun _ h=>h.elim) 0 _ (by omega) ?_
    ·rintro k st hk hst
     obtain⟨T,g,rfl,ob,h5,h6⟩:=hst.out
     have ob':=ob
     obtain⟨h1,L,h3,hL0,hL1⟩:=ob'
     by_cases hkl:k<d.slots.length
     ·have hq:=slots_at (List.getElem?_eq_getElem hkl)
      generalize d.slots[k]=sl at hq
      rw[encSlot] at hq
      have happ:=app_id (l:=L) (i:=sl.id) (o:=true) (by omega)
      simp (disch:=omega) only[evX,↓reduceIte,Nat.reduceEqDiff,Nat.reduceBEq,Nat.reduceAdd,Nat.reduceMul,reduceCtorEq,Nat.reduceLeDiff,Int.reduceEq,Int.reduceLT,Int.reduceLE,Int.reduceBEq,Int.reduceBNe,Int.reduceAdd,Int.reduceNeg,Int.reduceSub,Int.reduceMul,h1,h3,h5,h6,defs_len,slots_len,hg,hq,g0,happ]
      exact⟨hkl,⟨h1,L++[sl.id],rfl,by simp,by simp;omega⟩⟩
     ·have:k=d.slots.length:=by omega
      subst this
      simp (disch:=omega) only[evX,↓reduceIte,Nat.reduceEqDiff,Nat.reduceBEq,Nat.reduceAdd,Nat.reduceMul,reduceCtorEq,Nat.reduceLeDiff,Int.reduceEq,Int.reduceLT,Int.reduceLE,Int.reduceBEq,Int.reduceBNe,Int.reduceAdd,Int.reduceNeg,Int.reduceSub,Int.reduceMul,h1,h3,h5,h6,defs_len,slots_len,hg,g0]
      exact ob.to (rfl) (rfl) (by omega)
    ·intro st hst
     obtain⟨T,g,rfl,ob,h5⟩:=hst.out
     have ob':=ob
     obtain⟨h1,L,h3,hL0,hL1⟩:=ob'
     simp (disch:=omega) only[evX,↓reduceIte,Nat.reduceEqDiff,Nat.reduceBEq,Nat.reduceAdd,Nat.reduceMul,reduceCtorEq,Nat.reduceLeDiff,Int.reduceEq,Int.reduceLT,Int.reduceLE,Int.reduceBEq,Int.reduceBNe,Int.reduceAdd,Int.reduceNeg,Int.reduceSub,Int.reduceMul,h1,h3,h5,defs_len,hg,g0]
     refine W_countx 4 6 (fun k=>HdG (fun T=>Wk H (14+20*i+k) i T∧T 8=.int .i64 k) HH H.length)
      (HdG (fun T=>Wk H (18+20*i) i T) HH H.length) (fun _=>False) ?_ ?_ (fun _ h=>h.elim) 0 _ (by omega) ?_
     ·rintro k st hk hst
      obtain⟨T,g,rfl,wk,h8⟩:=hst.out
      have wk':=wk
      obtain⟨ob',h5,ge,e,h7,he⟩:=wk'
      obtain⟨h1,L,h3,hL0,hL1⟩:=ob'
      have h7':=h7
      rw[encEx_eq] at h7'
      have hkl:=he.len
      by_cases hk4:k<4
      ·by_cases hz:0<e.kids.length
       ·obtain⟨q,hq⟩:∃ q,e.kids.length=q+1:=⟨e.kids.length-1,by omega⟩
        have hkq:=exs_at (List.getElem?_eq_getElem (show q<e.kids.length by omega))
        have hkid:=he.kid (List.getElem_mem (show q<e.kids.length by omega))
        generalize e.kids[q]=kd at hkq hkid
        have hqi:(e.kids.length:Int)-1=q:=by omega
        rw[encEx_eq] at hkq
        have happ:=app_id (l:=L) (i:=e.id) (o:=true) (by omega)
        simp (disch:=omega) only[evX,↓reduceIte,Nat.reduceEqDiff,Nat.reduceBEq,Nat.reduceAdd,Nat.reduceMul,reduceCtorEq,Nat.reduceLeDiff,Int.reduceEq,Int.reduceLT,Int.reduceLE,Int.reduceBEq,Int.reduceBNe,Int.reduceAdd,Int.reduceNeg,Int.reduceSub,Int.reduceMul,h1,h3,h5,h7',h8,exs_len,hkq,hqi,happ]
        refine⟨by omega,⟨⟨h1,L++[e.id],rfl,by simp,by simp;omega⟩,h5,ge,kd,?_,hkid⟩⟩
        rw[encEx_eq]
        simp (disch:=omega) only[evX,↓reduceIte,Nat.reduceEqDiff,Nat.reduceBEq,Nat.reduceAdd,Nat.reduceMul,reduceCtorEq,Nat.reduceLeDiff,Int.reduceEq,Int.reduceLT,Int.reduceLE,Int.reduceBEq,Int.reduceBNe,Int.reduceAdd,Int.reduceNeg,Int.reduceSub,Int.reduceMul]
       ·simp (disch:=omega) only[evX,↓reduceIte,Nat.reduceEqDiff,Nat.reduceBEq,Nat.reduceAdd,Nat.reduceMul,reduceCtorEq,Nat.reduceLeDiff,Int.reduceEq,Int.reduceLT,Int.reduceLE,Int.reduceBEq,Int.reduceBNe,Int.reduceAdd,Int.reduceNeg,Int.reduceSub,Int.reduceMul,h1,h3,h5,h7',h8,exs_len]
        exact wk.to (rfl) (rfl) (rfl) (rfl) (by omega)
      ·simp (disch:=omega) only[evX,↓reduceIte,Nat.reduceEqDiff,Nat.reduceBEq,Nat.reduceAdd,Nat.reduceMul,reduceCtorEq,Nat.reduceLeDiff,Int.reduceEq,Int.reduceLT,Int.reduceLE,Int.reduceBEq,Int.reduceBNe,Int.reduceAdd,Int.reduceNeg,Int.reduceSub,Int.reduceMul,h1,h3,h5,h7',h8,exs_len]
       exact wk.to (rfl) (rfl) (rfl) (rfl) (by omega)
     ·intro st hst
      obtain⟨T,g,rfl,ob',h5,ge,e,h7,he⟩:=hst.out
      obtain⟨h1,L,h3,hL0,hL1⟩:=ob'
      rw[encEx_eq] at h7
      have happ:=app_id (l:=L) (i:=e.id) (o:=true) (by omega)
      simp (disch:=omega) only[evX,↓reduceIte,Nat.reduceEqDiff,Nat.reduceBEq,Nat.reduceAdd,Nat.reduceMul,reduceCtorEq,Nat.reduceLeDiff,Int.reduceEq,Int.reduceLT,Int.reduceLE,Int.reduceBEq,Int.reduceBNe,Int.reduceAdd,Int.reduceNeg,Int.reduceSub,Int.reduceMul,h1,h3,h5,h7,happ]
      exact⟨h,⟨h1,L++[e.id],rfl,by simp,by simp;omega⟩⟩
     ·refine⟨⟨⟨⟨?_,L,?_,hL0,by omega⟩,?_,g,d.body,?_,hbd⟩,?_⟩,rfl,rfl⟩
      ·exact h1
      ·exact h3
      ·exact h5
      ·rw[encEx_eq]
       simp (disch:=omega) only[evX,↓reduceIte,Nat.reduceEqDiff,Nat.reduceBEq,Nat.reduceAdd,Nat.reduceMul,reduceCtorEq,Nat.reduceLeDiff,Int.reduceEq,Int.reduceLT,Int.reduceLE,Int.reduceBEq,Int.reduceBNe,Int.reduceAdd,Int.reduceNeg,Int.reduceSub,Int.reduceMul]
      ·simp (disch:=omega) only[evX,↓reduceIte,Nat.reduceEqDiff,Nat.reduceBEq,Nat.reduceAdd,Nat.reduceMul,reduceCtorEq,Nat.reduceLeDiff,Int.reduceEq,Int.reduceLT,Int.reduceLE,Int.reduceBEq,Int.reduceBNe,Int.reduceAdd,Int.reduceNeg,Int.reduceSub,Int.reduceMul,Int.natCast_zero]
    ·exact⟨⟨⟨h1,L++[d.id],rfl,by simp,by simp;omega⟩,h5,by simp (disch:=omega) only[evX,↓reduceIte,Nat.reduceEqDiff,Nat.reduceBEq,Nat.reduceAdd,Nat.reduceMul,reduceCtorEq,Nat.reduceLeDiff,Int.reduceEq,Int.reduceLT,Int.reduceLE,Int.reduceBEq,Int.reduceBNe,Int.reduceAdd,Int.reduceNeg,Int.reduceSub,Int.reduceMul,Int.natCast_zero]⟩,rfl,rfl⟩
   ·have:i=p.defs.length:=by omega
    subst this
    simp (disch:=omega) only[evX,↓reduceIte,Nat.reduceEqDiff,Nat.reduceBEq,Nat.reduceAdd,Nat.reduceMul,reduceCtorEq,Nat.reduceLeDiff,Int.reduceEq,Int.reduceLT,Int.reduceLE,Int.reduceBEq,Int.reduceBNe,Int.reduceAdd,Int.reduceNeg,Int.reduceSub,Int.reduceMul,h1,h3,h5,defs_len,g0]
    exact ob.to (rfl) (rfl) (by omega)
  ·intro st hst
   obtain⟨T,g,rfl,ob⟩:=hst.out
   obtain⟨h1,L,h3,hL0,hL1⟩:=ob
   simp (disch:=omega) only[evX,↓reduceIte,Nat.reduceEqDiff,Nat.reduceBEq,Nat.reduceAdd,Nat.reduceMul,reduceCtorEq,Nat.reduceLeDiff,Int.reduceEq,Int.reduceLT,Int.reduceLE,Int.reduceBEq,Int.reduceBNe,Int.reduceAdd,Int.reduceNeg,Int.reduceSub,Int.reduceMul,h1,h3,gt]
   exact⟨L,rfl,hL0,hL1⟩
  ·exact⟨⟨⟨h1,L,h3,hL0,by omega⟩,by simp (disch:=omega) only[evX,↓reduceIte,Nat.reduceEqDiff,Nat.reduceBEq,Nat.reduceAdd,Nat.reduceMul,reduceCtorEq,Nat.reduceLeDiff,Int.reduceEq,Int.reduceLT,Int.reduceLE,Int.reduceBEq,Int.reduceBNe,Int.reduceAdd,Int.reduceNeg,Int.reduceSub,Int.reduceMul,Int.natCast_zero]⟩,rfl,rfl⟩
 ·exact⟨⟨⟨rfl,[⟨7,9,9⟩],rfl,by simp,by simp⟩,by simp (disch:=omega) only[evX,↓reduceIte,Nat.reduceEqDiff,Nat.reduceBEq,Nat.reduceAdd,Nat.reduceMul,reduceCtorEq,Nat.reduceLeDiff,Int.reduceEq,Int.reduceLT,Int.reduceLE,Int.reduceBEq,Int.reduceBNe,Int.reduceAdd,Int.reduceNeg,Int.reduceSub,Int.reduceMul,Int.natCast_zero]⟩,rfl,rfl⟩
end Go.Proofs.YtemfofdaemgjgaaGreatDoor
end
section
set_option linter.unusedSimpArgs false
set_option linter.unusedVariables false
set_option maxRecDepth 100000
set_option maxHeartbeats 4000000
namespace Go.Proofs.YtemfofdaemgjgaaGreatDoor
open Go Go.Abs Go.Proofs
theorem lives_D:callD A 15 [] []=some (.bool true,none):=callD_eq.2 ⟨200,lives_run⟩
theorem wrap_I64 (n:Int):I64 (IntKind.i64.wrap n):=by
 have e:IntKind.i64.wrap n=if n % 18446744073709551616≥9223372036854775808 then n % 18446744073709551616-18446744073709551616 else n % 18446744073709551616:=by
  unfold IntKind.wrap
  simp[IntKind.bits,IntKind.signed]
 rw[e]
 split<;>constructor<;>omega
theorem gen_B {names:List Str} {x:List Rule} (hn:∀ m∈names,m.length≤4611686018427387904) (h:∀ r∈x,GenRule names r):RulesB 8 x:=fun r hr=>by
 have h1:=incr_len (h r hr).who
 rw[if_pos (by omega)] at h1
 exact⟨(h r hr).ok hn,by omega⟩
theorem obj_at (L:List Id) (h0:L≠[]) (h1:L.length≤1000) (n:Int) (hn:I64 n) (H:AHeap):∃ (q:Nat) (i:Id),callD A 9 [.int .i64 n,.int .i64 L.length] H=some (.int .i64 q,none)∧q<L.length∧(encIds L)[q]?=some (encId i):=by
 have hp:0<L.length:=List.length_pos_iff.2 h0
 have hr:=around_range (n:=n) (k:=(L.length:Int)) (by omega)
 obtain⟨q,hq⟩:∃ q:Nat,around n L.length=q:=⟨(around n L.length).toNat,by omega⟩
 have hd:=around_D n L.length H hn (by omega)
 rw[hq] at hd hr
 exact⟨q,L[q]'(by omega),hd,by omega,ids_at (List.getElem?_eq_getElem (by omega))⟩
def ops (k:Int):List Int:=[k, -1,14,0,1,2,3,4,5,6,7,8,9,10,11,12,13]
def opsT (k:Int) (i:Nat):List Int:=(ops k).take (3+i)
theorem opsT_len {k:Int} {i:Nat} (h:i≤14):(opsT k i).length=3+i:=by simp[opsT,ops];omega
theorem opsT_succ {k:Int} : ∀ {i:Nat},i<14→opsT k i++[(i:Int)]=opsT k (i+1)
 | 0,_=>rfl|1,_=>rfl|2,_=>rfl|3,_=>rfl|4,_=>rfl|5,_=>rfl|6,_=>rfl|7,_=>rfl|8,_=>rfl|9,_=>rfl|10,_=>rfl|11,_=>rfl|12,_=>rfl|13,_=>rfl
 | i+14,h=>by omega
structure Lw (p:Prog) (y:List Rule) (L:List Id) (at' kind by' : Int) (os:List Int) (T:AFrame):Prop where
 t2:T 2=.int .i64 at'
 t3:T 3=.int .i64 kind
 t5:T 5=.int .i64 by'
 t13:T 13=.lbox 0 [.slice (encMods p.mods) false,.slice (encDefs p.defs) false]
 t14:T 14=.slice (encRules y) true
 t15:T 15=.slice (encIds L) false
 t16:T 16=.slice (ints os) true
theorem Lw.to {p:Prog} {y:List Rule} {L:List Id} {at' kind by' : Int} {os os' : List Int} {T T' : AFrame} (h:Lw p y L at' kind by' os T) (h2:T' 2=T 2) (h3:T' 3=T 3) (h5:T' 5=T 5) (h13:T' 13=T 13) (h14:T' 14=T 14) (h15:T' 15=T 15) (h16:T' 16=.slice (ints os') true):Lw p y L at' kind by' os' T' :=
 ⟨h2.trans h.t2,h3.trans h.t3,h5.trans h.t5,h13.trans h.t13,h14.trans h.t14,h15.trans h.t15,h16⟩
theorem lawConcern (l m:List Int) (at' kind how by' : Int) (hl:∀ n∈l,I64 n) (hm:∀ n∈m,I64 n) (h1:I64 at') (h2:I64 kind) (h3:I64 how) (h4:I64 by') :
  callD A 3 [.slice (ints l) false,.slice (ints m) false,.int .i64 at',.int .i64 kind,.int .i64 how,.int .i64 by'] []=some (.bool true,none):=by
 obtain⟨_,e1,p,hp,pm,pd,ps,pn,rfl⟩:=prog_D l hl []
 have e2:=names_D p pm []
 have hnl:(namesS p).length≤4:=by simp[namesS];omega
 have hnm:∀ s∈namesS p,s.length≤4611686018427387904:=by
  intro s hs
  simp only[namesS,List.mem_append,List.mem_cons,List.not_mem_nil,or_false,List.mem_map] at hs
  rcases hs with (rfl|rfl)|⟨q,hq,rfl⟩
  ·simp
  ·simp
  ·have:=pn q hq;omega
 obtain⟨_,e3,x,rfl,hx1,hx2⟩:=rules_D m (namesS p) 8 [] hm (by omega) (by omega) (by omega)
 have hxB:=gen_B hnm hx2
 obtain⟨_,e4,y,rfl,hy1,hy2⟩:=spoilt_D x by' how at' [] 8 (by omega) hxB (by omega) h4 h3 h1
 obtain⟨_,e5,L,rfl,hL0,hL1⟩:=objects_D p hp pm pd ps []
 have hyl:y.length≤78:=by omega
 have hyw:∀ r∈y,r.who.length≤1000000:=fun r hr=>by have:=(hy2 r hr).2;omega
 have key:∀ (k:Int) (on to id:Id) (n:Int),∃ o,callD A 13 [.slice (encRules y) false,.agg (encProg p),.agg (encOp k on to n),.agg (encId id)] []=some (.slice (encRules (ofB y p k on to id)) o,none) ∧
   callD A 14 [.slice (encRules y) false,.agg (encProg p),.agg (encOp k on to n),.agg (encId id)] []=some (.slice (encRules (ofB y p k on to id)) false,none) ∧
   callD A 12 [.slice (encRules (ofB y p k on to id)) false,.slice (encRules (ofB y p k on to id)) false] []=some (.bool true,none):=by
  intro k on to id n
  obtain⟨o,ho⟩:=ofP_D y (by omega) hyw p hp k on to id n []
  have hsub:∀ r∈ofB y p k on to id,r∈y:=by
   intro r hr
   unfold ofB at hr
   split at hr
   ·simp at hr
   ·exact (List.mem_filter.1 hr).1
  have hlen:(ofB y p k on to id).length≤y.length:=by
   unfold ofB
   split
   ·simp
   ·exact List.length_filter_le _ _
  exact⟨o,ho,ofR_D y (by omega) p hp k on to id n [],sameRules_D _ _ [] (by omega) (fun r hr=>by have:=hyw r (hsub r hr);omega) rfl⟩
 refine callD_W (fn:=ir3) rfl rfl rfl ?_
 unfold ir3;dsimp only[oQ,oP,iR,oM,oT,oL,oG,oH,oI,oF,oX,oA,oN,oS,oB,oR,oK,oC,iT,iC,iZ,iE]
 rw[encProg] at e1 e2 e5
 simp (disch:=omega) only[evX,↓reduceIte,Nat.reduceEqDiff,Nat.reduceBEq,Nat.reduceAdd,Nat.reduceMul,reduceCtorEq,Nat.reduceLeDiff,Int.reduceEq,Int.reduceLT,Int.reduceLE,Int.reduceBEq,Int.reduceBNe,Int.reduceAdd,Int.reduceNeg,Int.reduceSub,Int.reduceMul,e1,e2,e3,e4,e5]
 refine W_countx 14 0 (fun i=>HdG (fun T=>Lw p y L at' kind by' (opsT how i) T∧T 17=.int .i64 i) [] 0)
  (HdG (fun T=>Lw p y L at' kind by' (ops how) T) [] 0) (fun _=>False) ?_ ?_ (fun _ h=>h.elim) 0 _ (by omega) ?_
 ·rintro i st hi hst
  obtain⟨T,g,rfl,lw,t17⟩:=hst.out
  have lw':=lw
  obtain⟨t2,t3,t5,t13,t14,t15,t16⟩:=lw'
  by_cases h:i<14
  ·have happ:=app_int (l:=opsT how i) (n:=(i:Int)) (o:=true) (by rw[opsT_len hi];omega)
   rw[opsT_succ h] at happ
   simp (disch:=omega) only[evX,↓reduceIte,Nat.reduceEqDiff,Nat.reduceBEq,Nat.reduceAdd,Nat.reduceMul,reduceCtorEq,Nat.reduceLeDiff,Int.reduceEq,Int.reduceLT,Int.reduceLE,Int.reduceBEq,Int.reduceBNe,Int.reduceAdd,Int.reduceNeg,Int.reduceSub,Int.reduceMul,t16,t17,happ]
   refine⟨h,lw.to ?_ ?_ ?_ ?_ ?_ ?_ ?_⟩<;>simp (disch:=omega) only[evX,↓reduceIte,Nat.reduceEqDiff,Nat.reduceBEq,Nat.reduceAdd,Nat.reduceMul,reduceCtorEq,Nat.reduceLeDiff,Int.reduceEq,Int.reduceLT,Int.reduceLE,Int.reduceBEq,Int.reduceBNe,Int.reduceAdd,Int.reduceNeg,Int.reduceSub,Int.reduceMul]
  ·have:i=14:=by omega
   subst this
   simp (disch:=omega) only[evX,↓reduceIte,Nat.reduceEqDiff,Nat.reduceBEq,Nat.reduceAdd,Nat.reduceMul,reduceCtorEq,Nat.reduceLeDiff,Int.reduceEq,Int.reduceLT,Int.reduceLE,Int.reduceBEq,Int.reduceBNe,Int.reduceAdd,Int.reduceNeg,Int.reduceSub,Int.reduceMul,t17]
   refine lw.to ?_ ?_ ?_ ?_ ?_ ?_ ?_
   ·rfl
   ·rfl
   ·rfl
   ·rfl
   ·rfl
   ·rfl
   ·exact t16
 ·intro st hst
  obtain⟨T,g,rfl,lw⟩:=hst.out
  have lw':=lw
  obtain⟨t2,t3,t5,t13,t14,t15,t16⟩:=lw'
  simp (disch:=omega) only[evX,↓reduceIte,Nat.reduceEqDiff,Nat.reduceBEq,Nat.reduceAdd,Nat.reduceMul,reduceCtorEq,Nat.reduceLeDiff,Int.reduceEq,Int.reduceLT,Int.reduceLE,Int.reduceBEq,Int.reduceBNe,Int.reduceAdd,Int.reduceNeg,Int.reduceSub,Int.reduceMul]
  refine W_countx 17 2 (fun i=>HdG (fun T=>Lw p y L at' kind by' (ops how) T∧T 18=.int .i64 i) [] 0)
   (HdG (fun T=>True) [] 0) (fun _=>False) ?_ ?_ (fun _ h=>h.elim) 0 _ (by omega) ?_
  ·rintro i st hi hst
   obtain⟨T,g,rfl,lw,t18⟩:=hst.out
   have lw':=lw
   obtain⟨t2,t3,t5,t13,t14,t15,t16⟩:=lw'
   have hol:(ops how).length=17:=rfl
   by_cases h:i<17
   ·obtain⟨kk,hkk⟩:∃ k,(ops how)[i]?=some k:=⟨_,List.getElem?_eq_getElem (by omega)⟩
    have hk:=ints_at hkk
    obtain⟨q1,i1,c1,l1,a1⟩:=obj_at L hL0 hL1 (IntKind.i64.wrap (at' + i)) (wrap_I64 _) []
    obtain⟨q2,i2,c2,l2,a2⟩:=obj_at L hL0 hL1 (IntKind.i64.wrap (kind+7*i)) (wrap_I64 _) []
    obtain⟨q3,i3,c3,l3,a3⟩:=obj_at L hL0 hL1 (IntKind.i64.wrap (by'.tdiv 3+i)) (wrap_I64 _) []
    have w1:=what_D kk i1 i2 ((i:Int) % 2) []
    have w2:=whatR_D kk i1 i2 ((i:Int) % 2) []
    obtain⟨o,f1,f2,f3⟩:=key kk i1 i2 i3 ((i:Int) % 2)
    generalize ofB y p kk i1 i2=R at f1 f2 f3
    generalize R i3=R at f1 f2 f3
    rw[encId] at a1 a2 a3
    rw[encOp] at w1 w2
    rw[encOp,encId,encProg] at f1 f2
    simp (disch:=omega) only[evX,↓reduceIte,Nat.reduceEqDiff,Nat.reduceBEq,Nat.reduceAdd,Nat.reduceMul,reduceCtorEq,Nat.reduceLeDiff,Int.reduceEq,Int.reduceLT,Int.reduceLE,Int.reduceBEq,Int.reduceBNe,Int.reduceAdd,Int.reduceNeg,Int.reduceSub,Int.reduceMul,t2,t3,t5,t13,t14,t15,t16,t18,ints_len,hol,ids_len,hk,c1,c2,c3,a1,a2,a3,w1,w2,f1,f2,f3,IntWalk.i64_quo']
    refine⟨h,lw.to ?_ ?_ ?_ ?_ ?_ ?_ ?_⟩<;>simp (disch:=omega) only[evX,↓reduceIte,Nat.reduceEqDiff,Nat.reduceBEq,Nat.reduceAdd,Nat.reduceMul,reduceCtorEq,Nat.reduceLeDiff,Int.reduceEq,Int.reduceLT,Int.reduceLE,Int.reduceBEq,Int.reduceBNe,Int.reduceAdd,Int.reduceNeg,Int.reduceSub,Int.reduceMul,t16]
   ·have:i=17:=by omega
    subst this
    simp (disch:=omega) only[evX,↓reduceIte,Nat.reduceEqDiff,Nat.reduceBEq,Nat.reduceAdd,Nat.reduceMul,reduceCtorEq,Nat.reduceLeDiff,Int.reduceEq,Int.reduceLT,Int.reduceLE,Int.reduceBEq,Int.reduceBNe,Int.reduceAdd,Int.reduceNeg,Int.reduceSub,Int.reduceMul,t16,t18,ints_len,hol]
  ·intro st hst
   obtain⟨T,g,rfl,_⟩:=hst.out
   simp (disch:=omega) only[evX,↓reduceIte,Nat.reduceEqDiff,Nat.reduceBEq,Nat.reduceAdd,Nat.reduceMul,reduceCtorEq,Nat.reduceLeDiff,Int.reduceEq,Int.reduceLT,Int.reduceLE,Int.reduceBEq,Int.reduceBNe,Int.reduceAdd,Int.reduceNeg,Int.reduceSub,Int.reduceMul,lives_D]
  ·exact⟨⟨lw.to rfl rfl rfl rfl rfl rfl t16,rfl⟩,rfl,rfl⟩
 ·refine⟨⟨⟨?_,?_,?_,?_,?_,?_,?_⟩,?_⟩,rfl,rfl⟩
  ·rfl
  ·rfl
  ·rfl
  ·rfl
  ·rfl
  ·rfl
  ·rfl
  ·simp (disch:=omega) only[evX,↓reduceIte,Nat.reduceEqDiff,Nat.reduceBEq,Nat.reduceAdd,Nat.reduceMul,reduceCtorEq,Nat.reduceLeDiff,Int.reduceEq,Int.reduceLT,Int.reduceLE,Int.reduceBEq,Int.reduceBNe,Int.reduceAdd,Int.reduceNeg,Int.reduceSub,Int.reduceMul,Int.natCast_zero]
end Go.Proofs.YtemfofdaemgjgaaGreatDoor
end
