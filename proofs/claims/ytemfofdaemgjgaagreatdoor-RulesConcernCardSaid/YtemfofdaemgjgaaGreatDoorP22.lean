/-
  A part of the proof of RulesConcern: D10, D11, D12, D13.
-/
import Derived.Test.YtemfofdaemgjgaaGreatDoorP21
set_option linter.unusedSimpArgs false
set_option linter.unusedVariables false
section
set_option linter.unusedSimpArgs false
set_option linter.unusedVariables false
set_option maxRecDepth 100000
set_option maxHeartbeats 4000000
namespace Go.Proofs.YtemfofdaemgjgaaGreatDoor
open Go Go.Abs Go.Proofs
structure Plan where
 kind:Int
 name:Str
 types:List (List AV)
 names:List (List AV)
 most:List (List AV)
 o0:Int
 o1:Int
 o2:Int
 o3:Int
 ok:List (List AV)
 mod:Int
def encPlan (p:Plan):List AV:=[.int .i64 p.kind,.str p.name,.slice p.types false,.slice p.names false,.slice p.most false,.int .i64 p.o0,.int .i64 p.o1,.int .i64 p.o2,.int .i64 p.o3,.slice p.ok false,.int .i64 p.mod]
def encPlans (l:List Plan):List (List AV):=l.map encPlan
theorem plans_len {l:List Plan} : (encPlans l).length=l.length:=by simp[encPlans]
theorem plans_at {l:List Plan} {i:Nat} {e:Plan} (h:l[i]?=some e):(encPlans l)[i]?=some (encPlan e):=by simp[encPlans,h]
theorem plans_rows {l:List Plan} : RowsB 11 (encPlans l) :=
 ⟨fun r hr=>by simp only[encPlans,List.mem_map] at hr;obtain⟨n,_,rfl⟩:=hr;rfl,nb_all fun r hr=>by simp only[encPlans,List.mem_map] at hr;obtain⟨n,_,rfl⟩:=hr;rfl⟩
theorem app_plan {l:List Plan} {o:Bool} {k:Int} {nm:Str} {ts ns ms ok:List (List AV)} {o0 o1 o2 o3 md:Int} (h:l.length≤10000000) :
  appendAV false 11 160 (.slice (encPlans l) true) (.slice [[.int .i64 k,.str nm,.slice ts false,.slice ns false,.slice ms false,.int .i64 o0,.int .i64 o1,.int .i64 o2,.int .i64 o3,.slice ok false,.int .i64 md]] o)=some (.slice (encPlans (l++[⟨k,nm,ts,ns,ms,o0,o1,o2,o3,ok,md⟩])) true):=by
 have:=app_ok (sz:=11) (bytes:=160) (o:=o) (plans_rows (l:=l)) (plans_rows (l:=[⟨k,nm,ts,ns,ms,o0,o1,o2,o3,ok,md⟩])) (by rw[plans_len,plans_len];simp;omega) (by rw[plans_len,plans_len];simp;omega)
 rw[show encPlans (l++[⟨k,nm,ts,ns,ms,o0,o1,o2,o3,ok,md⟩])=encPlans l++encPlans [⟨k,nm,ts,ns,ms,o0,o1,o2,o3,ok,md⟩] by simp[encPlans]]
 exact this
theorem ty_rows {l:List Ty} : RowsB 5 (encTys l):=by
 rw[encTys_map]
 exact⟨fun r hr=>by simp only[List.mem_map] at hr;obtain⟨n,_,rfl⟩:=hr;rw[encTy_eq];rfl,nb_all fun r hr=>by simp only[List.mem_map] at hr;obtain⟨n,_,rfl⟩:=hr;rw[encTy_eq];rfl⟩
theorem app_ty {l:List Ty} {t:Ty} {o:Bool} (h:l.length≤10000000):appendAV false 5 56 (.slice (encTys l) true) (.slice [[.int .i64 t.kind,.int .i64 t.d.shop,.int .i64 t.d.seq,.int .i64 t.d.index,.slice (encTys t.kids) false]] o)=some (.slice (encTys (l++[t])) true):=by
 have:=app_ok (sz:=5) (bytes:=56) (o:=o) (ty_rows (l:=l)) (ty_rows (l:=[t])) (by rw[tys_len,tys_len];simp;omega) (by rw[tys_len,tys_len];simp;omega)
 rw[show encTys (l++[t])=encTys l++encTys [t] by simp[encTys_map]]
 rw[← encTy_eq]
 rw[show encTys [t]=[encTy t] by simp[encTys]] at this ⊢
 exact this
structure PlanOK (h:Bool) (mods:Int) (i:Nat) (p:Plan):Prop where
 shape:∃ (ts:List Ty) (ns:List Str) (out:Ty),p.types=encTys ts∧p.names=strs ns∧p.o0=out.kind∧p.o1=out.d.shop∧p.o2=out.d.seq∧p.o3=out.d.index∧p.ok=encTys out.kids∧TS h mods 5 out ∧
  1≤ts.length∧ts.length≤3∧ts.length≤ns.length∧(p.kind=4→∃ ms:List Int,p.most=ints ms∧ts.length≤ms.length)∧(∀ t∈ts,TS h mods 5 t) ∧
  (i=0→∀ t∈ts,TS h mods 2 t)∧(i=1→∀ t∈ts,TS h mods 3 t)∧(h=true→i=2→∀ t∈ts,TS h mods 3 t)∧(h=true→i=3→∀ t∈ts,TS h mods 4 t)
 mod:0≤p.mod∧p.mod<mods
 kind:(i=0→p.kind=0)∧(i=1→p.kind=1)∧(h=true→i=2→p.kind=0)∧(h=true→i=3→p.kind=0)∧(p.kind=0∨p.kind=1→i=0∨i=1∨h=true∧(i=2∨i=3))
def PlansOK (h:Bool) (mods:Int) (l:List Plan):Prop:=l.length≤8∧2≤l.length∧(h=true→4≤l.length)∧∀ i p,l[i]?=some p→PlanOK h mods i p
def IsPl (mods:Int) (r:AV × Option Chg):Prop:=∃ h l o,r=(.slice (encPlans l) o,none)∧PlansOK h mods l
def PlanF (h:Bool) (mods:Int) (p:Plan):Prop:=∀ i,2≤i→(h=true→4≤i)→PlanOK h mods i p
theorem planF_mk {h:Bool} {mods kind md:Int} {nm:Str} {types names most ok:List (List AV)} {o0 o1 o2 o3:Int} (ts:List Ty) (ns:List Str) (out:Ty) (ht:types=encTys ts) (hn:names=strs ns) (h0:o0=out.kind) (h1:o1=out.d.shop) (h2:o2=out.d.seq) (h3:o3=out.d.index) (h4:ok=encTys out.kids)
  (ho:TS h mods 5 out) (l1:1≤ts.length) (l2:ts.length≤3) (l3:ts.length≤ns.length) (hms:kind=4→∃ ms:List Int,most=ints ms∧ts.length≤ms.length) (hts:∀ t∈ts,TS h mods 5 t) (hk:2≤kind) (hmd:0≤md∧md<mods):PlanF h mods ⟨kind,nm,types,names,most,o0,o1,o2,o3,ok,md⟩:=by
 intro i hi hi4
 exact⟨⟨ts,ns,out,ht,hn,h0,h1,h2,h3,h4,ho,l1,l2,l3,hms,hts,fun e=>by omega,fun e=>by omega,fun a b=>by have:=hi4 a;omega,fun a b=>by have:=hi4 a;omega⟩,hmd,
  fun e=>by omega,fun e=>by omega,fun a b=>by have:=hi4 a;omega,fun a b=>by have:=hi4 a;omega,fun e=>by simp only at e;omega⟩
def Head (h:Bool) (mods:Int) (pl:List Plan):Prop:=pl.length=(if h then 4 else 2)∧∀ i p,pl[i]?=some p→PlanOK h mods i p
theorem Head.app {h:Bool} {mods:Int} {pl more:List Plan} (hp:Head h mods pl) (hm:∀ p∈more,PlanF h mods p) (hl:more.length≤4):PlansOK h mods (pl++more):=by
 obtain⟨h1,h2⟩:=hp
 have hle:pl.length≤4∧2≤pl.length:=by rw[h1];split<;>omega
 refine⟨by rw[List.length_append];omega,by rw[List.length_append];omega,fun e=>by rw[List.length_append,h1,if_pos e];omega,fun i p hi=>?_⟩
 by_cases hlt:i<pl.length
 ·rw[List.getElem?_append_left hlt] at hi;exact h2 i p hi
 ·rw[List.getElem?_append_right (by omega)] at hi
  exact hm p (List.mem_of_getElem? hi) i (by omega) (fun e=>by rw[h1,if_pos e] at hlt;omega)
def sidOf (h:Bool) (mods:Int):Id:=idN (mods+if h then 2 else 0)
theorem plans_D (l:List Int) (mods:Int) (H:AHeap) (hl:∀ n∈l,I64 n) (hm:1≤mods∧mods≤2):∃ r,callD A 18 [.slice (ints l) false,.int .i64 mods] H=some r∧IsPl mods r:=by
 refine callD_WP (fn:=ir18) rfl rfl rfl ?_
 unfold ir18;dsimp only[oQ,oP,iR,oM,oT,oL,oG,oH,oI,oF,oX,oA,oN,oS,oB,oR,oK,oC,iT,iC,iZ,iE]
 have hat:=fun i k H (h:0<k)=>at_D l i k H hl h
 have hid:=fun n H h=>id_D n H h
 have hof:=fun i H=>of_D i H
 simp only[tOf,encTy,encTys,encId] at hof
 simp only[encId] at hid
 obtain⟨pt,hpt⟩:∃ p:Id,p=idN mods:=⟨_,rfl⟩
 obtain⟨et,het⟩:∃ p:Id,p=idN (mods+1):=⟨_,rfl⟩
 obtain⟨h,hh⟩:∃ h:Bool,h=decide (0<atZ l 1 4):=⟨_,rfl⟩
 refine W_cutN 5 (Hd (fun T=>T 0=.slice (ints l) false∧T 1=.int .i64 mods∧T 5=.bool h∧T 6=.lbox 0 [.int .i64 3,.int .i64 pt.shop,.int .i64 pt.seq,.int .i64 pt.index,.slice [] false]∧T 7=.lbox 1 [.int .i64 3,.int .i64 et.shop,.int .i64 et.seq,.int .i64 et.index,.slice [] false] ∧
   ∃ a:List Ty,T 8=.slice (encTys a) true∧1≤a.length∧a.length≤3∧∀ t∈a,TS h mods 2 t) H H.length 2) ?_ ?_
 ·simp only[ICode.pre]
  simp (disch:=omega) only[evX,↓reduceIte,Nat.reduceEqDiff,Nat.reduceBEq,Nat.reduceAdd,Nat.reduceMul,reduceCtorEq,Nat.reduceLeDiff,Int.reduceEq,Int.reduceLT,Int.reduceLE,Int.reduceBEq,Int.reduceBNe,Int.reduceAdd,Int.reduceNeg,Int.reduceSub,Int.reduceMul,hat,hid,hof,gt_iff_lt,← hh,← hpt,← het]
  have hn1:=atZ_range (l:=l) (i:=2) (k:=3) (by omega)
  refine W_countx 3 0 (fun i=>Hd (fun T=>T 0=.slice (ints l) false∧T 1=.int .i64 mods∧T 5=.bool h∧T 6=.lbox 0 [.int .i64 3,.int .i64 pt.shop,.int .i64 pt.seq,.int .i64 pt.index,.slice [] false]∧T 7=.lbox 1 [.int .i64 3,.int .i64 et.shop,.int .i64 et.seq,.int .i64 et.index,.slice [] false] ∧
    T 9=.int .i64 i∧(i:Int)≤1+atZ l 2 3∧∃ a:List Ty,T 8=.slice (encTys a) true∧a.length=i∧∀ t∈a,TS h mods 2 t) H H.length 2)
   (Hd (fun T=>T 0=.slice (ints l) false∧T 1=.int .i64 mods∧T 5=.bool h∧T 6=.lbox 0 [.int .i64 3,.int .i64 pt.shop,.int .i64 pt.seq,.int .i64 pt.index,.slice [] false]∧T 7=.lbox 1 [.int .i64 3,.int .i64 et.shop,.int .i64 et.seq,.int .i64 et.index,.slice [] false] ∧
    ∃ a:List Ty,T 8=.slice (encTys a) true∧1≤a.length∧a.length≤3∧∀ t∈a,TS h mods 2 t) H H.length 2) (fun _=>False) ?_ ?_ (fun _ h=>h.elim) 0 _ (by omega) ?_
  ·rintro i s hi hs
   obtain⟨T,rfl,e0,e1,e5,e6,e7,e9,hin,a,e8,ha,hat2⟩:=hs.out
   by_cases c:(i:Int)<1+atZ l 2 3
   ·have hxr:=atZ_range (l:=l) (i:=3+i) (k:=3) (by omega)
    obtain⟨t,hs,ht⟩:=simple_D (atZ l (3+i) 3) (tOf pt) (tOf pt) H (by omega)
    rw[encTy_eq t] at hs
    simp only[tOf,encTy,encTys] at hs
    have hts:TS h mods 2 t:=by
     rcases ht with (h1|h1|h1)|⟨h1,_⟩|⟨h1,_⟩
     ·exact .inl ⟨by omega,.inl h1⟩
     ·exact .inl ⟨by omega,.inr h1⟩
     ·exact .inr (.inl ⟨by omega,h1⟩)
     ·omega
     ·omega
    simp (disch:=omega) only[evX,↓reduceIte,Nat.reduceEqDiff,Nat.reduceBEq,Nat.reduceAdd,Nat.reduceMul,reduceCtorEq,Nat.reduceLeDiff,Int.reduceEq,Int.reduceLT,Int.reduceLE,Int.reduceBEq,Int.reduceBNe,Int.reduceAdd,Int.reduceNeg,Int.reduceSub,Int.reduceMul,hat,e0,e1,e5,e6,e7,e8,e9,hs,app_ty]
    exact⟨by omega,by omega,a++[t],rfl,by simp[ha],fun x hx=>by rcases List.mem_append.1 hx with h|h;exact hat2 x h;rw[List.mem_singleton.1 h];exact hts⟩
   ·simp (disch:=omega) only[evX,↓reduceIte,Nat.reduceEqDiff,Nat.reduceBEq,Nat.reduceAdd,Nat.reduceMul,reduceCtorEq,Nat.reduceLeDiff,Int.reduceEq,Int.reduceLT,Int.reduceLE,Int.reduceBEq,Int.reduceBNe,Int.reduceAdd,Int.reduceNeg,Int.reduceSub,Int.reduceMul,hat,e0,e1,e5,e6,e7,e8,e9]
    exact⟨a,rfl,by omega,by omega,hat2⟩
  ·rintro s hs
   obtain⟨T,rfl,e0,e1,e5,e6,e7,a,e8,ha⟩:=hs.out
   simp (disch:=omega) only[evX,↓reduceIte,Nat.reduceEqDiff,Nat.reduceBEq,Nat.reduceAdd,Nat.reduceMul,reduceCtorEq,Nat.reduceLeDiff,Int.reduceEq,Int.reduceLT,Int.reduceLE,Int.reduceBEq,Int.reduceBNe,Int.reduceAdd,Int.reduceNeg,Int.reduceSub,Int.reduceMul,e0,e1,e5,e6,e7,e8]
   exact⟨a,rfl,ha⟩
  ·simp (disch:=omega) only[evX,↓reduceIte,Nat.reduceEqDiff,Nat.reduceBEq,Nat.reduceAdd,Nat.reduceMul,reduceCtorEq,Nat.reduceLeDiff,Int.reduceEq,Int.reduceLT,Int.reduceLE,Int.reduceBEq,Int.reduceBNe,Int.reduceAdd,Int.reduceNeg,Int.reduceSub,Int.reduceMul]
   exact⟨by omega,[],by simp[encTys],rfl,by simp⟩
 ·rintro s hs
  obtain⟨T,rfl,e0,e1,e5,e6,e7,a1,e8,ha1,ha1',hta1⟩:=hs.out
  simp only[ICode.post]
  obtain⟨P0,hP0⟩:∃ P0:Plan,P0=⟨0,[80,111,105,110,116],encTys a1,strs [[120],[121],[122]],[],0,0,0,0,[],0⟩:=⟨_,rfl⟩
  have ok0:PlanOK h mods 0 P0:=by
   subst hP0
   refine⟨⟨a1,[[120],[121],[122]],tInt,rfl,rfl,rfl,rfl,rfl,rfl,by simp[tInt,Ty.kids,encTys],.inl ⟨by omega,.inl rfl⟩,ha1,ha1',ha1',fun e=>by simp at e,fun t ht=>(hta1 t ht).mono (by omega),fun _=>hta1,fun e=>by simp at e,fun _ e=>by simp at e,fun _ e=>by simp at e⟩,by simp only;omega,fun _=>rfl,fun e=>by simp at e,fun _ e=>by simp at e,fun _ e=>by simp at e,fun _=>.inl rfl⟩
  refine W_cutN 2 (Hd (fun T=>T 0=.slice (ints l) false∧T 1=.int .i64 mods∧T 5=.bool h∧T 6=.lbox 0 [.int .i64 3,.int .i64 pt.shop,.int .i64 pt.seq,.int .i64 pt.index,.slice [] false]∧T 7=.lbox 1 [.int .i64 3,.int .i64 et.shop,.int .i64 et.seq,.int .i64 et.index,.slice [] false]∧T 10=.slice (encPlans [P0]) true∧∃ a:List Ty,T 8=.slice (encTys a) true∧1≤a.length∧a.length≤3∧∀ t∈a,TS h mods 3 t) H H.length 2) ?_ ?_
  ·simp only[ICode.pre]
   simp (disch:=omega) only[evX,↓reduceIte,Nat.reduceEqDiff,Nat.reduceBEq,Nat.reduceAdd,Nat.reduceMul,reduceCtorEq,Nat.reduceLeDiff,Int.reduceEq,Int.reduceLT,Int.reduceLE,Int.reduceBEq,Int.reduceBNe,Int.reduceAdd,Int.reduceNeg,Int.reduceSub,Int.reduceMul,hat,e0,e1,e5,e6,e7,e8]
   have hn1:=atZ_range (l:=l) (i:=6) (k:=2) (by omega)
   refine W_countx 3 2 (fun i=>Hd (fun T=>T 0=.slice (ints l) false∧T 1=.int .i64 mods∧T 5=.bool h∧T 6=.lbox 0 [.int .i64 3,.int .i64 pt.shop,.int .i64 pt.seq,.int .i64 pt.index,.slice [] false]∧T 7=.lbox 1 [.int .i64 3,.int .i64 et.shop,.int .i64 et.seq,.int .i64 et.index,.slice [] false]∧T 10=.slice (encPlans [P0]) true ∧
     T 11=.int .i64 i∧(i:Int)≤1+atZ l 6 2∧∃ a:List Ty,T 8=.slice (encTys a) true∧a.length=i+1∧∀ t∈a,TS h mods 3 t) H H.length 2)
    (Hd (fun T=>T 0=.slice (ints l) false∧T 1=.int .i64 mods∧T 5=.bool h∧T 6=.lbox 0 [.int .i64 3,.int .i64 pt.shop,.int .i64 pt.seq,.int .i64 pt.index,.slice [] false]∧T 7=.lbox 1 [.int .i64 3,.int .i64 et.shop,.int .i64 et.seq,.int .i64 et.index,.slice [] false]∧T 10=.slice (encPlans [P0]) true∧∃ a:List Ty,T 8=.slice (encTys a) true∧1≤a.length∧a.length≤3∧∀ t∈a,TS h mods 3 t) H H.length 2) (fun _=>False) ?_ ?_ (fun _ h=>h.elim) 0 _ (by omega) ?_
   ·rintro i s hi hs
    obtain⟨T,rfl,e0,e1,e5,e6,e7,e10,e11,hin,a,e8,ha,hat2⟩:=hs.out
    by_cases c:(i:Int)<1+atZ l 6 2
    ·have hxr:=atZ_range (l:=l) (i:=7+i) (k:=4) (by omega)
     obtain⟨t,hs,ht⟩:=simple_D (atZ l (7+i) 4) (tOf pt) (tOf pt) H (by omega)
     rw[encTy_eq t] at hs
     simp only[tOf,encTy,encTys] at hs
     have hts:TS h mods 3 t:=by
      rcases ht with (h1|h1|h1)|⟨_,h1⟩|⟨_,h1⟩
      ·exact .inl ⟨by omega,.inl h1⟩
      ·exact .inl ⟨by omega,.inr h1⟩
      ·exact .inr (.inl ⟨by omega,h1⟩)
      ·exact .inr (.inr (.inl ⟨by omega,by rw[← hpt];exact h1⟩))
      ·exact .inr (.inr (.inl ⟨by omega,by rw[← hpt];exact h1⟩))
     simp (disch:=omega) only[evX,↓reduceIte,Nat.reduceEqDiff,Nat.reduceBEq,Nat.reduceAdd,Nat.reduceMul,reduceCtorEq,Nat.reduceLeDiff,Int.reduceEq,Int.reduceLT,Int.reduceLE,Int.reduceBEq,Int.reduceBNe,Int.reduceAdd,Int.reduceNeg,Int.reduceSub,Int.reduceMul,hat,e0,e1,e5,e6,e7,e8,e10,e11,hs,app_ty]
     exact⟨by omega,by omega,a++[t],rfl,by simp[ha],fun x hx=>by rcases List.mem_append.1 hx with h|h;exact hat2 x h;rw[List.mem_singleton.1 h];exact hts⟩
    ·simp (disch:=omega) only[evX,↓reduceIte,Nat.reduceEqDiff,Nat.reduceBEq,Nat.reduceAdd,Nat.reduceMul,reduceCtorEq,Nat.reduceLeDiff,Int.reduceEq,Int.reduceLT,Int.reduceLE,Int.reduceBEq,Int.reduceBNe,Int.reduceAdd,Int.reduceNeg,Int.reduceSub,Int.reduceMul,hat,e0,e1,e5,e6,e7,e8,e10,e11]
     exact⟨a,rfl,by omega,by omega,hat2⟩
   ·rintro s hs
    obtain⟨T,rfl,e0,e1,e5,e6,e7,e10,a,e8,ha⟩:=hs.out
    simp (disch:=omega) only[evX,↓reduceIte,Nat.reduceEqDiff,Nat.reduceBEq,Nat.reduceAdd,Nat.reduceMul,reduceCtorEq,Nat.reduceLeDiff,Int.reduceEq,Int.reduceLT,Int.reduceLE,Int.reduceBEq,Int.reduceBNe,Int.reduceAdd,Int.reduceNeg,Int.reduceSub,Int.reduceMul,e0,e1,e5,e6,e7,e8,e10]
    exact⟨a,rfl,ha⟩
   ·simp (disch:=omega) only[evX,↓reduceIte,Nat.reduceEqDiff,Nat.reduceBEq,Nat.reduceAdd,Nat.reduceMul,reduceCtorEq,Nat.reduceLeDiff,Int.reduceEq,Int.reduceLT,Int.reduceLE,Int.reduceBEq,Int.reduceBNe,Int.reduceAdd,Int.reduceNeg,Int.reduceSub,Int.reduceMul,e0,e1,e5,e6,e7]
    exact⟨by rw[hP0];rfl,by omega,[tInt],by simp[encTys,encTy,tInt],rfl,fun t ht=>by rw[List.mem_singleton.1 ht];exact .inl ⟨by omega,.inl rfl⟩⟩
  ·rintro s hs
   obtain⟨T,rfl,e0,e1,e5,e6,e7,e10,a2,e8,ha2,ha2',hta2⟩:=hs.out
   simp only[ICode.post]
   obtain⟨P1,hP1⟩:∃ P1:Plan,P1=⟨1,[69,118,101,110,116],encTys a2,strs [[84,105,99,107],[80,117,115,104],[83,101,116]],[],0,0,0,0,[],0⟩:=⟨_,rfl⟩
   have ok1:PlanOK h mods 1 P1:=by
    subst hP1
    refine⟨⟨a2,[[84,105,99,107],[80,117,115,104],[83,101,116]],tInt,rfl,rfl,rfl,rfl,rfl,rfl,by simp[tInt,Ty.kids,encTys],.inl ⟨by omega,.inl rfl⟩,ha2,ha2',ha2',fun e=>by simp at e,fun t ht=>(hta2 t ht).mono (by omega),fun e=>by simp at e,fun _=>hta2,fun _ e=>by simp at e,fun _ e=>by simp at e⟩,by simp only;omega,fun e=>by simp at e,fun _=>rfl,fun _ e=>by simp at e,fun _ e=>by simp at e,fun _=>.inr (.inl rfl)⟩
   refine W_cutN 3 (Hd (fun T=>T 0=.slice (ints l) false∧T 1=.int .i64 mods∧T 5=.bool h∧T 6=.lbox 0 [.int .i64 3,.int .i64 pt.shop,.int .i64 pt.seq,.int .i64 pt.index,.slice [] false]∧T 7=.lbox 1 [.int .i64 3,.int .i64 et.shop,.int .i64 et.seq,.int .i64 et.index,.slice [] false]∧T 12=.int .i64 (mods-1)∧T 13=.lbox 2 [.int .i64 3,.int .i64 (sidOf h mods).shop,.int .i64 (sidOf h mods).seq,.int .i64 (sidOf h mods).index,.slice [] false] ∧
     ∃ pl,T 10=.slice (encPlans pl) true∧Head h mods pl) H H.length 3) ?_ ?_
   ·simp only[ICode.pre]
    cases h with
    | false =>
     simp (disch:=first|omega|(simp only[List.length_cons,List.length_nil,List.length_append];omega)) only[evX,↓reduceIte,Nat.reduceEqDiff,Nat.reduceBEq,Nat.reduceAdd,Nat.reduceMul,reduceCtorEq,Nat.reduceLeDiff,Int.reduceEq,Int.reduceLT,Int.reduceLE,Int.reduceBEq,Int.reduceBNe,Int.reduceAdd,Int.reduceNeg,Int.reduceSub,Int.reduceMul,hat,e0,e1,e5,e6,e7,e8,e10,app_plan]
     refine⟨by rw[sidOf,if_neg (by simp),Int.add_zero,← hpt],[P0,P1],by rw[hP1];rfl,rfl,fun i p hi=>?_⟩
     rcases i with _|_|i
     ·simp at hi;subst hi;exact ok0
     ·simp at hi;subst hi;exact ok1
     ·simp at hi
    | true =>
     obtain⟨st,hst⟩:∃ p:Id,p=idN (mods+2):=⟨_,rfl⟩
     have hli:=list_D tInt H
     simp only[tInt,tList,encTy,encTys] at hli
     simp (disch:=first|omega|(simp only[List.length_cons,List.length_nil,List.length_append];omega)) only[evX,↓reduceIte,Nat.reduceEqDiff,Nat.reduceBEq,Nat.reduceAdd,Nat.reduceMul,reduceCtorEq,Nat.reduceLeDiff,Int.reduceEq,Int.reduceLT,Int.reduceLE,Int.reduceBEq,Int.reduceBNe,Int.reduceAdd,Int.reduceNeg,Int.reduceSub,Int.reduceMul,hat,e0,e1,e5,e6,e7,e8,e10,app_plan]
     have hn1:=atZ_range (l:=l) (i:=9) (k:=3) (by omega)
     refine W_countx 3 4 (fun i=>Hd (fun T=>T 0=.slice (ints l) false∧T 1=.int .i64 mods∧T 5=.bool true∧T 6=.lbox 0 [.int .i64 3,.int .i64 pt.shop,.int .i64 pt.seq,.int .i64 pt.index,.slice [] false]∧T 7=.lbox 1 [.int .i64 3,.int .i64 et.shop,.int .i64 et.seq,.int .i64 et.index,.slice [] false] ∧
       T 10=.slice (encPlans [P0,P1]) true∧T 12=.int .i64 (mods-1)∧T 13=.lbox 2 [.int .i64 3,.int .i64 pt.shop,.int .i64 pt.seq,.int .i64 pt.index,.slice [] false] ∧
       T 14=.int .i64 i∧(i:Int)≤atZ l 9 3∧∃ a:List Ty,T 8=.slice (encTys a) true∧a.length=i+1∧∀ t∈a,TS true mods 3 t) H H.length 3)
      (Hd (fun T=>T 0=.slice (ints l) false∧T 1=.int .i64 mods∧T 5=.bool true∧T 6=.lbox 0 [.int .i64 3,.int .i64 pt.shop,.int .i64 pt.seq,.int .i64 pt.index,.slice [] false]∧T 7=.lbox 1 [.int .i64 3,.int .i64 et.shop,.int .i64 et.seq,.int .i64 et.index,.slice [] false] ∧
       T 10=.slice (encPlans [P0,P1]) true∧T 12=.int .i64 (mods-1)∧T 13=.lbox 2 [.int .i64 3,.int .i64 pt.shop,.int .i64 pt.seq,.int .i64 pt.index,.slice [] false] ∧
       ∃ a:List Ty,T 8=.slice (encTys a) true∧1≤a.length∧a.length≤3∧∀ t∈a,TS true mods 3 t) H H.length 3) (fun _=>False) ?_ ?_ (fun _ h=>h.elim) 0 _ (by omega) ?_
     ·rintro i s hi hs
      obtain⟨T,rfl,e0,e1,e5,e6,e7,e10,e12,e13,e14,hin,a,e8,ha,hat2⟩:=hs.out
      by_cases c:(i:Int)<atZ l 9 3
      ·have hxr:=atZ_range (l:=l) (i:=10+i) (k:=4) (by omega)
       obtain⟨t,hs,ht⟩:=simple_D (atZ l (10+i) 4) (tOf pt) (tOf pt) H (by omega)
       rw[encTy_eq t] at hs
       simp only[tOf,encTy,encTys] at hs
       have hts:TS true mods 3 t:=by
        rcases ht with (h1|h1|h1)|⟨_,h1⟩|⟨_,h1⟩
        ·exact .inl ⟨by omega,.inl h1⟩
        ·exact .inl ⟨by omega,.inr h1⟩
        ·exact .inr (.inl ⟨by omega,h1⟩)
        ·exact .inr (.inr (.inl ⟨by omega,by rw[← hpt];exact h1⟩))
        ·exact .inr (.inr (.inl ⟨by omega,by rw[← hpt];exact h1⟩))
       simp (disch:=omega) only[evX,↓reduceIte,Nat.reduceEqDiff,Nat.reduceBEq,Nat.reduceAdd,Nat.reduceMul,reduceCtorEq,Nat.reduceLeDiff,Int.reduceEq,Int.reduceLT,Int.reduceLE,Int.reduceBEq,Int.reduceBNe,Int.reduceAdd,Int.reduceNeg,Int.reduceSub,Int.reduceMul,hat,e0,e1,e5,e6,e7,e8,e10,e12,e13,e14,hs,app_ty]
       exact⟨by omega,by omega,a++[t],rfl,by simp[ha],fun x hx=>by rcases List.mem_append.1 hx with h|h;exact hat2 x h;rw[List.mem_singleton.1 h];exact hts⟩
      ·simp (disch:=omega) only[evX,↓reduceIte,Nat.reduceEqDiff,Nat.reduceBEq,Nat.reduceAdd,Nat.reduceMul,reduceCtorEq,Nat.reduceLeDiff,Int.reduceEq,Int.reduceLT,Int.reduceLE,Int.reduceBEq,Int.reduceBNe,Int.reduceAdd,Int.reduceNeg,Int.reduceSub,Int.reduceMul,hat,e0,e1,e5,e6,e7,e8,e10,e12,e13,e14]
       exact⟨a,rfl,by omega,by omega,hat2⟩
     ·rintro s hs
      obtain⟨T,rfl,e0,e1,e5,e6,e7,e10,e12,e13,a,e8,ha,ha',hta⟩:=hs.out
      have e6' : sidOf true mods=st:=by rw[hst];rfl
      simp (disch:=first|omega|(simp only[List.length_cons,List.length_nil,List.length_append];omega)) only[evX,↓reduceIte,Nat.reduceEqDiff,Nat.reduceBEq,Nat.reduceAdd,Nat.reduceMul,reduceCtorEq,Nat.reduceLeDiff,Int.reduceEq,Int.reduceLT,Int.reduceLE,Int.reduceBEq,Int.reduceBNe,Int.reduceAdd,Int.reduceNeg,Int.reduceSub,Int.reduceMul,e0,e1,e5,e6,e7,e8,e10,e12,e13,hid,hof,← hst,hli,app_plan,e6']
      refine⟨_,rfl,rfl,fun i p hi=>?_⟩
      rcases i with _|_|_|_|i
      ·simp at hi;subst hi;exact ok0
      ·simp at hi;subst hi;exact ok1
      ·simp at hi;subst hi
       exact⟨⟨a,[[99,111,117,110,116],[108,111,103],[109,111,114,101]],tInt,rfl,rfl,rfl,rfl,rfl,rfl,by simp[tInt,Ty.kids,encTys],.inl ⟨by omega,.inl rfl⟩,ha,ha',ha',fun e=>by simp at e,fun t ht=>(hta t ht).mono (by omega),fun e=>by simp at e,fun e=>by simp at e,fun _ _=>hta,fun _ e=>by simp at e⟩,by simp only;omega,fun e=>by simp at e,fun e=>by simp at e,fun _ _=>rfl,fun _ e=>by simp at e,fun _=>.inr (.inr ⟨rfl,.inl rfl⟩)⟩
      ·simp at hi;subst hi
       have hty:∀ t∈[tOf st,tList tInt,tInt],TS true mods 4 t:=by
        intro t ht
        simp only[List.mem_cons,List.not_mem_nil,or_false] at ht
        rcases ht with rfl|rfl|rfl
        ·exact .inr (.inr (.inr (.inr (.inl ⟨by omega,rfl,by rw[hst]⟩))))
        ·exact .inr (.inl ⟨by omega,rfl⟩)
        ·exact .inl ⟨by omega,.inl rfl⟩
       exact⟨⟨[tOf st,tList tInt,tInt],[[115,116,97,116,101],[115,105,103,110,97,108,115],[110,101,120,116]],tInt,by simp[encTys,encTy,tOf,tList,tInt],rfl,rfl,rfl,rfl,rfl,by simp[tInt,Ty.kids,encTys],.inl ⟨by omega,.inl rfl⟩,by simp,by simp,by simp,fun e=>by simp at e,fun t ht=>(hty t ht).mono (by omega),fun e=>by simp at e,fun e=>by simp at e,fun _ e=>by simp at e,fun _ _=>hty⟩,by simp only;omega,fun e=>by simp at e,fun e=>by simp at e,fun _ e=>by simp at e,fun _ _=>rfl,fun _=>.inr (.inr ⟨rfl,.inr rfl⟩)⟩
      ·simp at hi
     ·simp (disch:=omega) only[evX,↓reduceIte,Nat.reduceEqDiff,Nat.reduceBEq,Nat.reduceAdd,Nat.reduceMul,reduceCtorEq,Nat.reduceLeDiff,Int.reduceEq,Int.reduceLT,Int.reduceLE,Int.reduceBEq,Int.reduceBNe,Int.reduceAdd,Int.reduceNeg,Int.reduceSub,Int.reduceMul,e0,e1,e5,e6,e7]
      exact⟨by rw[hP1];rfl,by omega,[tInt],by simp[encTys,encTy,tInt],rfl,fun t ht=>by rw[List.mem_singleton.1 ht];exact .inl ⟨by omega,.inl rfl⟩⟩
   ·rintro s hs
    obtain⟨T,rfl,e0,e1,e5,e6,e7,e12,e13,pl,e10,hhead⟩:=hs.out
    simp only[ICode.post]
    have ptT:TS h mods 5 (tOf pt):=.inr (.inr (.inl ⟨by omega,by rw[hpt]⟩))
    have etT:TS h mods 5 (tOf et):=.inr (.inr (.inr (.inl ⟨by omega,by rw[het]⟩)))
    have sT:TS h mods 5 (tOf (sidOf h mods)):=by
     cases h with
     | false=>exact .inr (.inr (.inl ⟨by omega,by rw[sidOf,if_neg (by simp),Int.add_zero]⟩))
     | true=>exact .inr (.inr (.inr (.inr (.inl ⟨by omega,rfl,rfl⟩))))
    obtain⟨si,hsi⟩:∃ si,si=sidOf h mods:=⟨_,rfl⟩
    rw[← hsi] at sT e13
    have simpT:∀ {x:Int} {t one two:Ty},((t=tInt∨t=tBool∨t=tList tInt)∨(3≤x∧t=one)∨(4≤x∧t=two))→TS h mods 5 one→TS h mods 5 two→TS h mods 5 t:=by
     intro x t one two ht h1 h2
     rcases ht with (h3|h3|h3)|⟨_,h3⟩|⟨_,h3⟩
     ·exact .inl ⟨by omega,.inl h3⟩
     ·exact .inl ⟨by omega,.inr h3⟩
     ·exact .inr (.inl ⟨by omega,h3⟩)
     ·rw[h3];exact h1
     ·rw[h3];exact h2
    have r6:∀ i,0≤atZ l i 6∧atZ l i 6<6:=fun i=>atZ_range (by omega)
    have hhome:=atZ_range (l:=l) (i:=15) (k:=mods) (by omega)
    obtain⟨t1,q1,u1⟩:=simple_D (atZ l 12 6) (tOf pt) (tOf et) H (r6 _)
    obtain⟨t2,q2,u2⟩:=simple_D (atZ l 14 6) (tOf pt) (tOf et) H (r6 _)
    obtain⟨tr,q3,u3⟩:=simple_D (atZ l 16 6) (tOf pt) (tOf pt) H (r6 _)
    obtain⟨tg,q4,u4⟩:=simple_D (atZ l 17 6) (tOf pt) (tOf et) H (r6 _)
    obtain⟨tt,q5,u5⟩:=simple_D (atZ l 21 6) (tOf pt) tr H (r6 _)
    obtain⟨tc,q6,u6⟩:=simple_D (atZ l 23 6) (tOf pt) (tOf si) H (r6 _)
    have v1:=simpT u1 ptT etT
    have v2:=simpT u2 ptT etT
    have v3:=simpT u3 ptT ptT
    have v4:=simpT u4 ptT etT
    have v5:=simpT u5 ptT v3
    have v6:=simpT u6 ptT sT
    obtain⟨ri,hri,its,ims,rfl,b1,b2,b3,b4⟩:=inputs_D l 18 (tOf pt) H hl (by omega)
    have v7:∀ t∈its,TS h mods 5 t:=by
     intro t ht
     rcases b4 t ht with h3|h3|h3|h3
     ·exact .inl ⟨by omega,.inl h3⟩
     ·exact .inl ⟨by omega,.inr h3⟩
     ·exact .inr (.inl ⟨by omega,h3⟩)
     ·rw[h3];exact ptT
    rw[encTy_eq t1] at q1
    rw[encTy_eq t2] at q2
    rw[encTy_eq tr] at q3
    rw[encTy_eq tg] at q4
    rw[encTy_eq tt,encTy_eq tr] at q5
    rw[encTy_eq tc] at q6
    simp only[tOf,encTy,encTys] at q1 q2 q3 q4 q5 q6 hri
    have tys1:∀ t:Ty,[[AV.int .i64 t.kind,.int .i64 t.d.shop,.int .i64 t.d.seq,.int .i64 t.d.index,.slice (encTys t.kids) false]]=encTys [t]:=fun t=>by simp only[encTys,encTy_eq]
    have apt:∀ o,appendAV false 5 56 (.slice [[.int .i64 t1.kind,.int .i64 t1.d.shop,.int .i64 t1.d.seq,.int .i64 t1.d.index,.slice (encTys t1.kids) false]] true) (.slice [[.int .i64 t2.kind,.int .i64 t2.d.shop,.int .i64 t2.d.seq,.int .i64 t2.d.index,.slice (encTys t2.kids) false]] o)=some (.slice (encTys [t1,t2]) true):=by
     intro o
     rw[tys1 t1]
     exact app_ty (l:=[t1]) (t:=t2) (by simp)
    have hpl:pl.length≤4:=by rw[hhead.1];split<;>omega
    have fF:∀ ts:List Ty,(∀ t∈ts,TS h mods 5 t)→1≤ts.length→ts.length≤2→PlanF h mods ⟨2,[102],encTys ts,[[AV.str [97]],[AV.str [98]]],[],tr.kind,tr.d.shop,tr.d.seq,tr.d.index,encTys tr.kids,atZ l 15 mods⟩ :=
     fun ts h1 h2 h3=>planF_mk ts [[97],[98]] tr rfl rfl rfl rfl rfl rfl rfl v3 h2 (by omega) h3 (fun e=>by simp at e) h1 (by omega) hhome
    have fT:PlanF h mods ⟨4,[116],encTys its,[[AV.str [97]],[AV.str [98]]],ints ims,tt.kind,tt.d.shop,tt.d.seq,tt.d.index,encTys tt.kids,mods-1⟩ :=
     planF_mk its [[97],[98]] tt rfl rfl rfl rfl rfl rfl rfl v5 b1 (by omega) b2 (fun _=>⟨ims,rfl,by omega⟩) v7 (by omega) (by omega)
    have fC:PlanF h mods ⟨5,[99],[[.int .i64 3,.int .i64 si.shop,.int .i64 si.seq,.int .i64 si.index,.slice [] false]],[[AV.str [111,108,100]]],[],tc.kind,tc.d.shop,tc.d.seq,tc.d.index,encTys tc.kids,mods-1⟩ :=
     planF_mk [tOf si] [[111,108,100]] tc (by simp[encTys,encTy,tOf]) rfl rfl rfl rfl rfl rfl v6 (by simp) (by simp) (by simp) (fun e=>by simp at e) (fun t ht=>by rw[List.mem_singleton.1 ht];exact sT) (by omega) (by omega)
    have fin:∀ more:List Plan,(∀ p∈more,PlanF h mods p)→more.length≤4→∀ o,IsPl mods (.slice (encPlans (pl++more)) o,none):=fun more h1 h2 o=>⟨h,pl++more,o,rfl,hhead.app h1 h2⟩
    cases h with
    | false =>
     have fG:PlanF false mods ⟨2,[103],[[.int .i64 3,.int .i64 et.shop,.int .i64 et.seq,.int .i64 et.index,.slice [] false]],[[AV.str [101]]],[],tg.kind,tg.d.shop,tg.d.seq,tg.d.index,encTys tg.kids,mods-1⟩ :=
      planF_mk [tOf et] [[101]] tg (by simp[encTys,encTy,tOf]) rfl rfl rfl rfl rfl rfl v4 (by simp) (by simp) (by simp) (fun e=>by simp at e) (fun t ht=>by rw[List.mem_singleton.1 ht];exact etT) (by omega) (by omega)
     by_cases a13:atZ l 13 2=1
     ·by_cases a22:0<atZ l 22 4
      ·have f1:=fF [t1,t2] (fun t ht=>by rcases List.mem_cons.1 ht with rfl|ht;exact v1;rw[List.mem_singleton.1 ht];exact v2) (by simp) (by simp)
       simp (disch:=first|omega|(simp only[List.length_cons,List.length_nil,List.length_append];omega)) only[evX,↓reduceIte,Nat.reduceEqDiff,Nat.reduceBEq,Nat.reduceAdd,Nat.reduceMul,reduceCtorEq,Nat.reduceLeDiff,Int.reduceEq,Int.reduceLT,Int.reduceLE,Int.reduceBEq,Int.reduceBNe,Int.reduceAdd,Int.reduceNeg,Int.reduceSub,Int.reduceMul,hat,e0,e1,e5,e6,e7,e10,e12,e13,q1,q2,q3,q4,q5,q6,hri,apt,hid,hof,app_plan,a13]
       rw[List.append_assoc,List.append_assoc,List.append_assoc]
       refine fin _ (fun p hp=>?_) (by simp) _
       simp only[List.cons_append,List.nil_append,List.mem_cons,List.not_mem_nil,or_false] at hp
       rcases hp with rfl|rfl|rfl|rfl
       ·exact f1
       ·exact fG
       ·exact fT
       ·exact fC
      ·have f1:=fF [t1,t2] (fun t ht=>by rcases List.mem_cons.1 ht with rfl|ht;exact v1;rw[List.mem_singleton.1 ht];exact v2) (by simp) (by simp)
       simp (disch:=first|omega|(simp only[List.length_cons,List.length_nil,List.length_append];omega)) only[evX,↓reduceIte,Nat.reduceEqDiff,Nat.reduceBEq,Nat.reduceAdd,Nat.reduceMul,reduceCtorEq,Nat.reduceLeDiff,Int.reduceEq,Int.reduceLT,Int.reduceLE,Int.reduceBEq,Int.reduceBNe,Int.reduceAdd,Int.reduceNeg,Int.reduceSub,Int.reduceMul,hat,e0,e1,e5,e6,e7,e10,e12,e13,q1,q2,q3,q4,q5,q6,hri,apt,hid,hof,app_plan,a13]
       rw[List.append_assoc,List.append_assoc]
       refine fin _ (fun p hp=>?_) (by simp) _
       simp only[List.cons_append,List.nil_append,List.mem_cons,List.not_mem_nil,or_false] at hp
       rcases hp with rfl|rfl|rfl
       ·exact f1
       ·exact fG
       ·exact fT
     ·by_cases a22:0<atZ l 22 4
      ·have f1:=fF [t1] (fun t ht=>by rw[List.mem_singleton.1 ht];exact v1) (by simp) (by simp)
       rw[← tys1] at f1
       simp (disch:=first|omega|(simp only[List.length_cons,List.length_nil,List.length_append];omega)) only[evX,↓reduceIte,Nat.reduceEqDiff,Nat.reduceBEq,Nat.reduceAdd,Nat.reduceMul,reduceCtorEq,Nat.reduceLeDiff,Int.reduceEq,Int.reduceLT,Int.reduceLE,Int.reduceBEq,Int.reduceBNe,Int.reduceAdd,Int.reduceNeg,Int.reduceSub,Int.reduceMul,hat,e0,e1,e5,e6,e7,e10,e12,e13,q1,q2,q3,q4,q5,q6,hri,apt,hid,hof,app_plan]
       rw[List.append_assoc,List.append_assoc,List.append_assoc]
       refine fin _ (fun p hp=>?_) (by simp) _
       simp only[List.cons_append,List.nil_append,List.mem_cons,List.not_mem_nil,or_false] at hp
       rcases hp with rfl|rfl|rfl|rfl
       ·exact f1
       ·exact fG
       ·exact fT
       ·exact fC
      ·have f1:=fF [t1] (fun t ht=>by rw[List.mem_singleton.1 ht];exact v1) (by simp) (by simp)
       rw[← tys1] at f1
       simp (disch:=first|omega|(simp only[List.length_cons,List.length_nil,List.length_append];omega)) only[evX,↓reduceIte,Nat.reduceEqDiff,Nat.reduceBEq,Nat.reduceAdd,Nat.reduceMul,reduceCtorEq,Nat.reduceLeDiff,Int.reduceEq,Int.reduceLT,Int.reduceLE,Int.reduceBEq,Int.reduceBNe,Int.reduceAdd,Int.reduceNeg,Int.reduceSub,Int.reduceMul,hat,e0,e1,e5,e6,e7,e10,e12,e13,q1,q2,q3,q4,q5,q6,hri,apt,hid,hof,app_plan]
       rw[List.append_assoc,List.append_assoc]
       refine fin _ (fun p hp=>?_) (by simp) _
       simp only[List.cons_append,List.nil_append,List.mem_cons,List.not_mem_nil,or_false] at hp
       rcases hp with rfl|rfl|rfl
       ·exact f1
       ·exact fG
       ·exact fT
    | true =>
     have fS:PlanF true mods ⟨3,[115,116,101,112],[[.int .i64 3,.int .i64 si.shop,.int .i64 si.seq,.int .i64 si.index,.slice [] false],[.int .i64 3,.int .i64 et.shop,.int .i64 et.seq,.int .i64 et.index,.slice [] false]],[[AV.str [115]],[AV.str [101]]],[],3,(idN (mods+3)).shop,(idN (mods+3)).seq,(idN (mods+3)).index,[],mods-1⟩ :=
      planF_mk [tOf si,tOf et] [[115],[101]] (tOf (idN (mods+3))) (by simp[encTys,encTy,tOf]) rfl rfl rfl rfl rfl (by simp[tOf,Ty.kids,encTys]) (.inr (.inr (.inr (.inr (.inr ⟨by omega,rfl,rfl⟩))))) (by simp) (by simp) (by simp) (fun e=>by simp at e) (fun t ht=>by
       rcases List.mem_cons.1 ht with rfl|ht
       ·exact sT
       ·rw[List.mem_singleton.1 ht];exact etT) (by omega) (by omega)
     by_cases a13:atZ l 13 2=1
     ·by_cases a22:0<atZ l 22 4
      ·have f1:=fF [t1,t2] (fun t ht=>by rcases List.mem_cons.1 ht with rfl|ht;exact v1;rw[List.mem_singleton.1 ht];exact v2) (by simp) (by simp)
       simp (disch:=first|omega|(simp only[List.length_cons,List.length_nil,List.length_append];omega)) only[evX,↓reduceIte,Nat.reduceEqDiff,Nat.reduceBEq,Nat.reduceAdd,Nat.reduceMul,reduceCtorEq,Nat.reduceLeDiff,Int.reduceEq,Int.reduceLT,Int.reduceLE,Int.reduceBEq,Int.reduceBNe,Int.reduceAdd,Int.reduceNeg,Int.reduceSub,Int.reduceMul,hat,e0,e1,e5,e6,e7,e10,e12,e13,q1,q2,q3,q4,q5,q6,hri,apt,hid,hof,app_plan,a13]
       rw[List.append_assoc,List.append_assoc,List.append_assoc]
       refine fin _ (fun p hp=>?_) (by simp) _
       simp only[List.cons_append,List.nil_append,List.mem_cons,List.not_mem_nil,or_false] at hp
       rcases hp with rfl|rfl|rfl|rfl
       ·exact f1
       ·exact fS
       ·exact fT
       ·exact fC
      ·have f1:=fF [t1,t2] (fun t ht=>by rcases List.mem_cons.1 ht with rfl|ht;exact v1;rw[List.mem_singleton.1 ht];exact v2) (by simp) (by simp)
       simp (disch:=first|omega|(simp only[List.length_cons,List.length_nil,List.length_append];omega)) only[evX,↓reduceIte,Nat.reduceEqDiff,Nat.reduceBEq,Nat.reduceAdd,Nat.reduceMul,reduceCtorEq,Nat.reduceLeDiff,Int.reduceEq,Int.reduceLT,Int.reduceLE,Int.reduceBEq,Int.reduceBNe,Int.reduceAdd,Int.reduceNeg,Int.reduceSub,Int.reduceMul,hat,e0,e1,e5,e6,e7,e10,e12,e13,q1,q2,q3,q4,q5,q6,hri,apt,hid,hof,app_plan,a13]
       rw[List.append_assoc,List.append_assoc]
       refine fin _ (fun p hp=>?_) (by simp) _
       simp only[List.cons_append,List.nil_append,List.mem_cons,List.not_mem_nil,or_false] at hp
       rcases hp with rfl|rfl|rfl
       ·exact f1
       ·exact fS
       ·exact fT
     ·by_cases a22:0<atZ l 22 4
      ·have f1:=fF [t1] (fun t ht=>by rw[List.mem_singleton.1 ht];exact v1) (by simp) (by simp)
       rw[← tys1] at f1
       simp (disch:=first|omega|(simp only[List.length_cons,List.length_nil,List.length_append];omega)) only[evX,↓reduceIte,Nat.reduceEqDiff,Nat.reduceBEq,Nat.reduceAdd,Nat.reduceMul,reduceCtorEq,Nat.reduceLeDiff,Int.reduceEq,Int.reduceLT,Int.reduceLE,Int.reduceBEq,Int.reduceBNe,Int.reduceAdd,Int.reduceNeg,Int.reduceSub,Int.reduceMul,hat,e0,e1,e5,e6,e7,e10,e12,e13,q1,q2,q3,q4,q5,q6,hri,apt,hid,hof,app_plan]
       rw[List.append_assoc,List.append_assoc,List.append_assoc]
       refine fin _ (fun p hp=>?_) (by simp) _
       simp only[List.cons_append,List.nil_append,List.mem_cons,List.not_mem_nil,or_false] at hp
       rcases hp with rfl|rfl|rfl|rfl
       ·exact f1
       ·exact fS
       ·exact fT
       ·exact fC
      ·have f1:=fF [t1] (fun t ht=>by rw[List.mem_singleton.1 ht];exact v1) (by simp) (by simp)
       rw[← tys1] at f1
       simp (disch:=first|omega|(simp only[List.length_cons,List.length_nil,List.length_append];omega)) only[evX,↓reduceIte,Nat.reduceEqDiff,Nat.reduceBEq,Nat.reduceAdd,Nat.reduceMul,reduceCtorEq,Nat.reduceLeDiff,Int.reduceEq,Int.reduceLT,Int.reduceLE,Int.reduceBEq,Int.reduceBNe,Int.reduceAdd,Int.reduceNeg,Int.reduceSub,Int.reduceMul,hat,e0,e1,e5,e6,e7,e10,e12,e13,q1,q2,q3,q4,q5,q6,hri,apt,hid,hof,app_plan]
       rw[List.append_assoc,List.append_assoc]
       refine fin _ (fun p hp=>?_) (by simp) _
       simp only[List.cons_append,List.nil_append,List.mem_cons,List.not_mem_nil,or_false] at hp
       rcases hp with rfl|rfl|rfl
       ·exact f1
       ·exact fS
       ·exact fT
end Go.Proofs.YtemfofdaemgjgaaGreatDoor
end
section
set_option linter.unusedSimpArgs false
set_option linter.unusedVariables false
set_option maxRecDepth 100000
set_option maxHeartbeats 4000000
namespace Go.Proofs.YtemfofdaemgjgaaGreatDoor
open Go Go.Abs Go.Proofs
theorem flat_put {z:Nat} : ∀ {rows:List (List AV)} {i j:Nat} {r cs:List AV},(∀ r∈rows,r.length=z)→rows[i]?=some r→j+cs.length≤z→putAt rows.flatten (i*z+j) cs=(rows.set i (putAt r j cs)).flatten
 | [],i,j,r,cs,_,hi,_=>by simp at hi
 | a :: rows,0,j,r,cs,h,hi,hj=>by
  simp only[List.getElem?_cons_zero,Option.some.injEq] at hi
  subst hi
  have ha:=h a (List.mem_cons_self ..)
  simp only[putAt,Nat.zero_mul,Nat.zero_add,List.flatten_cons,List.set_cons_zero]
  rw[List.take_append_of_le_length (by omega),List.drop_append_of_le_length (by omega)]
  simp only[List.append_assoc]
 | a :: rows,i+1,j,r,cs,h,hi,hj=>by
  have ha:=h a (List.mem_cons_self ..)
  have ih:=flat_put (j:=j) (cs:=cs) (fun r hr=>h r (List.mem_cons_of_mem _ hr)) (by simpa using hi) hj
  have e:(i+1)*z+j=a.length+(i*z+j):=by rw[Nat.add_mul,Nat.one_mul,ha];omega
  simp only[List.flatten_cons,List.set_cons_succ,← ih]
  simp only[putAt,e]
  rw[List.take_length_add_append,Nat.add_assoc,List.drop_length_add_append]
  simp only[List.append_assoc]
theorem takenAt_put {v:AV} : ∀ {cs:List AV} {off:Nat},putAt (takenAt off cs) off [v]=putAt cs off [v]
 | [],off=>by simp[putAt,takenAt]
 | a :: cs,0=>by simp[putAt,takenAt]
 | a :: cs,off+1=>by
  have ih:=takenAt_put (v:=v) (cs:=cs) (off:=off)
  simp only[putAt,takenAt,List.length_singleton] at ih
  simp only[putAt,takenAt,List.modify_succ_cons,List.take_succ_cons,List.drop_succ_cons,List.length_singleton,List.cons_append,ih,Nat.add_right_comm off 1 1]
def DcOK (n:Nat) (v:AV):Prop:=v=.nilsl∨∃ l:List Id,v=.slice (encIds l) true∧l.length≤n
def MrOK (n:Nat) (r:List AV):Prop:=∃ (id:Id) (nm:Str) (us:Option (List Id)) (dc:AV),r=[.int .i64 id.shop,.int .i64 id.seq,.int .i64 id.index,.str nm,encNil (us.map encIds),dc]∧nm.length≤100∧DcOK n dc
theorem MrOK.wide {n:Nat} {r:List AV} (h:MrOK n r):r.length=6:=by obtain⟨id,nm,us,dc,rfl,_⟩:=h;rfl
theorem DcOK.mono {n m:Nat} {v:AV} (h:DcOK n v) (hn:n≤m):DcOK m v:=by
 rcases h with h|⟨l,h1,h2⟩
 ·exact .inl h
 ·exact .inr ⟨l,h1,by omega⟩
theorem MrOK.mono {n m:Nat} {r:List AV} (h:MrOK n r) (hn:n≤m):MrOK m r:=by
 obtain⟨id,nm,us,dc,h1,h2⟩:=h
 exact⟨id,nm,us,dc,h1,h2.1,h2.2.mono hn⟩
structure MsRows (mods:Int) (n:Nat) (rows:List (List AV)):Prop where
 len:(rows.length:Int)=mods
 row:∀ r∈rows,MrOK n r
theorem MsRows.wide {mods:Int} {n:Nat} {rows:List (List AV)} (h:MsRows mods n rows):∀ r∈rows,r.length=6:=fun r hr=>(h.row r hr).wide
structure StA (l:List Int) (H:AHeap) (mods:Int) (lm:Nat) (T:AFrame) (K:AHeap):Prop where
 t0:T 0=.slice (ints l) false
 t2:T 2=.lbox 0 [.slice [] true,.slice [] true]
 t3:T 3=.int .i64 mods
 t4:T 4=.lbox 1 [.sref lm 0 mods.toNat 6,.slice [] true]
 take:K.take H.length=H
 hl:H.length≤K.length
 lmge:H.length≤lm
 rows:∃ rows,K[lm]?=some (.box freeTy rows.flatten)∧MsRows mods 0 rows
theorem stageA (l:List Int) (hl:∀ n∈l,I64 n) (H:AHeap) (Q:IExit→AS→Prop) (R:AS→Prop) (hR:∀ mods lm T K g,1≤mods∧mods≤2→StA l H mods lm T K→R ⟨T,K,H.length,g⟩) :
  W A (ir4.body.pre 3) { T:=initT [.slice (ints l) false],H,lo:=H.length,gen:=0 } (andThen R Q):=by
 unfold ir4;dsimp only[oQ,oP,iR,oM,oT,oL,oG,oH,oI,oF,oX,oA,oN,oS,oB,oR,oK,oC,iT,iC,iZ,iE]
 simp only[ICode.pre]
 have hat:=fun i k H (h:0<k)=>at_D l i k H hl h
 have hm:=atZ_range (l:=l) (i:=0) (k:=2) (by omega)
 obtain⟨m,hmm⟩:∃ m,atZ l 0 2=m:=⟨_,rfl⟩
 rw[hmm] at hm
 have h01:m=0∨m=1:=by omega
 have i0:∀ H,callD A 17 [.int .i64 0] H=some (.agg [.int .i64 0,.int .i64 1,.int .i64 0],none):=fun H=>id_D 0 H (by omega)
 have i1:∀ H,callD A 17 [.int .i64 1] H=some (.agg [.int .i64 0,.int .i64 1,.int .i64 1],none):=fun H=>id_D 1 H (by omega)
 rcases h01 with rfl|rfl
 ·simp (disch:=omega) only[evX,↓reduceIte,Nat.reduceEqDiff,Nat.reduceBEq,Nat.reduceAdd,Nat.reduceMul,reduceCtorEq,Nat.reduceLeDiff,Int.reduceEq,Int.reduceLT,Int.reduceLE,Int.reduceBEq,Int.reduceBNe,Int.reduceAdd,Int.reduceNeg,Int.reduceSub,Int.reduceMul,hat,hmm]
  refine W_unroll ?_
  simp (disch:=omega) only[evY,↓reduceIte,Nat.reduceEqDiff,Nat.reduceBEq,Nat.reduceAdd,Nat.reduceMul,reduceCtorEq,Nat.reduceLeDiff,Int.reduceEq,Int.reduceLT,Int.reduceLE,Int.reduceBEq,Int.reduceBNe,Int.reduceAdd,Int.reduceNeg,Int.reduceSub,Int.reduceMul,i0]
  refine W_unroll ?_
  simp (disch:=omega) only[evY,↓reduceIte,Nat.reduceEqDiff,Nat.reduceBEq,Nat.reduceAdd,Nat.reduceMul,reduceCtorEq,Nat.reduceLeDiff,Int.reduceEq,Int.reduceLT,Int.reduceLE,Int.reduceBEq,Int.reduceBNe,Int.reduceAdd,Int.reduceNeg,Int.reduceSub,Int.reduceMul,i0]
  refine hR 1 H.length _ _ _ (by omega) ⟨rfl,rfl,rfl,rfl,by simp,by simp,by omega,[[.int .i64 0,.int .i64 1,.int .i64 0,.str [99,111,114,101],.nilsl,.nilsl]],by simp,by simp,?_⟩
  intro r hr
  rw[List.mem_singleton.1 hr]
  exact⟨⟨0,1,0⟩,_,none,.nilsl,rfl,by simp,.inl rfl⟩
 ·simp (disch:=omega) only[evX,↓reduceIte,Nat.reduceEqDiff,Nat.reduceBEq,Nat.reduceAdd,Nat.reduceMul,reduceCtorEq,Nat.reduceLeDiff,Int.reduceEq,Int.reduceLT,Int.reduceLE,Int.reduceBEq,Int.reduceBNe,Int.reduceAdd,Int.reduceNeg,Int.reduceSub,Int.reduceMul,hat,hmm]
  refine W_unroll ?_
  simp (disch:=omega) only[evY,↓reduceIte,Nat.reduceEqDiff,Nat.reduceBEq,Nat.reduceAdd,Nat.reduceMul,reduceCtorEq,Nat.reduceLeDiff,Int.reduceEq,Int.reduceLT,Int.reduceLE,Int.reduceBEq,Int.reduceBNe,Int.reduceAdd,Int.reduceNeg,Int.reduceSub,Int.reduceMul,i0,i1]
  refine W_unroll ?_
  simp (disch:=omega) only[evY,↓reduceIte,Nat.reduceEqDiff,Nat.reduceBEq,Nat.reduceAdd,Nat.reduceMul,reduceCtorEq,Nat.reduceLeDiff,Int.reduceEq,Int.reduceLT,Int.reduceLE,Int.reduceBEq,Int.reduceBNe,Int.reduceAdd,Int.reduceNeg,Int.reduceSub,Int.reduceMul,i0,i1]
  refine W_unroll ?_
  simp (disch:=omega) only[evY,↓reduceIte,Nat.reduceEqDiff,Nat.reduceBEq,Nat.reduceAdd,Nat.reduceMul,reduceCtorEq,Nat.reduceLeDiff,Int.reduceEq,Int.reduceLT,Int.reduceLE,Int.reduceBEq,Int.reduceBNe,Int.reduceAdd,Int.reduceNeg,Int.reduceSub,Int.reduceMul,i0,i1]
  refine hR 2 (H.length+1) _ _ _ (by omega) ⟨rfl,rfl,rfl,rfl,by simp,by simp,by omega,[[.int .i64 0,.int .i64 1,.int .i64 0,.str [99,111,114,101],.nilsl,.nilsl],[.int .i64 0,.int .i64 1,.int .i64 1,.str [109,105,108,108],.slice [[.int .i64 0,.int .i64 1,.int .i64 0]] false,.nilsl]],by simp,by simp,?_⟩
  intro r hr
  rcases List.mem_cons.1 hr with rfl|hr
  ·exact⟨⟨0,1,0⟩,_,none,.nilsl,rfl,by simp,.inl rfl⟩
  ·rw[List.mem_singleton.1 hr]
   exact⟨⟨0,1,1⟩,_,some [⟨0,1,0⟩],.nilsl,rfl,by simp,.inl rfl⟩
end Go.Proofs.YtemfofdaemgjgaaGreatDoor
end
section
set_option linter.unusedSimpArgs false
set_option linter.unusedVariables false
set_option maxRecDepth 100000
set_option maxHeartbeats 4000000
namespace Go.Proofs.YtemfofdaemgjgaaGreatDoor
open Go Go.Abs Go.Proofs
structure DefOK (h:Bool) (mods:Int) (i:Nat) (d:Def):Prop where
 id:d.id=idN (mods+i)
 res:TS h mods 5 d.result
 l1:1≤d.slots.length
 l3:d.slots.length≤3
 sid:∀ s∈d.slots,s.id.seq≠0
 ty:∀ s∈d.slots,TS h mods 5 s.ty
 ty0:i=0→∀ s∈d.slots,TS h mods 2 s.ty
 ty1:i=1→∀ s∈d.slots,TS h mods 3 s.ty
 ty2:h=true→i=2→∀ s∈d.slots,TS h mods 3 s.ty
 ty3:h=true→i=3→∀ s∈d.slots,TS h mods 4 s.ty
 kind:(i=0→d.kind=0)∧(i=1→d.kind=1)∧(h=true→i=2→d.kind=0)∧(h=true→i=3→d.kind=0)∧(d.kind=0∨d.kind=1→i=0∨i=1∨h=true∧(i=2∨i=3))
def DsOK (h:Bool) (mods:Int) (ds:List Def):Prop:=∀ i d,ds[i]?=some d→DefOK h mods i d
structure StC (l:List Int) (H:AHeap) (h:Bool) (mods:Int) (lm:Nat) (pl:List Plan) (i:Nat) (T:AFrame) (K:AHeap):Prop where
 t0:T 0=.slice (ints l) false
 t2:T 2=.lbox 0 [.slice [] true,.slice [] true]
 t3:T 3=.int .i64 mods
 take:K.take H.length=H
 hl:H.length≤K.length
 rows:∃ rows,K[lm]?=some (.box freeTy rows.flatten)∧MsRows mods i rows
 t8:∃ nx:Int,T 8=.int .i64 nx∧0≤nx∧nx≤20+3*i
 ds:∃ (ds:List Def) (dc:AV),T 4=.lbox 1 [.sref lm 0 mods.toNat 6,dc]∧ds.length=i∧DsOK h mods ds∧(∀ d∈ds,d.body=exZero)∧((i=0∧dc=.slice [] true)∨(0<i∧∃ ld,dc=.sref ld 0 i 31∧ld≠lm∧H.length≤ld∧K[ld]?=some (.box freeTy (encDefs ds).flatten)))
def dCells (id:Id) (k:Int) (md:Id) (nm:Str) (sl:List Slot) (out:Ty):List AV:=[.int .i64 id.shop,.int .i64 id.seq,.int .i64 id.index,.int .i64 k,.int .i64 md.shop,.int .i64 md.seq,.int .i64 md.index,.str nm,.slice (encSlots sl) true,
 .int .i64 out.kind,.int .i64 out.d.shop,.int .i64 out.d.seq,.int .i64 out.d.index,.slice (encTys out.kids) false,.int .i64 0,.int .i64 0,.int .i64 0,.int .i64 0,.int .i64 0,.int .i64 0,.int .i64 0,.int .i64 0,.int .i64 0,.int .i64 0,.int .i64 0,.int .i64 0,
 .slice [] true,.slice [] true,.slice [] true,.int .i64 0,.slice [] true]
theorem slot_rows {l:List Slot} : RowsB 11 (encSlots l) :=
 ⟨fun r hr=>by simp only[encSlots,List.mem_map] at hr;obtain⟨n,_,rfl⟩:=hr;rfl,nb_all fun r hr=>by simp only[encSlots,List.mem_map] at hr;obtain⟨n,_,rfl⟩:=hr;rfl⟩
theorem app_slot {l:List Slot} {s:Slot} {o:Bool} (h:l.length≤10000000) :
  appendAV false 11 112 (.slice (encSlots l) true) (.slice [[.int .i64 s.id.shop,.int .i64 s.id.seq,.int .i64 s.id.index,.str s.name,.int .i64 s.ty.kind,.int .i64 s.ty.d.shop,.int .i64 s.ty.d.seq,.int .i64 s.ty.d.index,.slice (encTys s.ty.kids) false,.int .i64 s.most,.int .i64 s.place]] o)=some (.slice (encSlots (l++[s])) true):=by
 have:=app_ok (sz:=11) (bytes:=112) (o:=o) (slot_rows (l:=l)) (slot_rows (l:=[s])) (by rw[slots_len,slots_len];simp;omega) (by rw[slots_len,slots_len];simp;omega)
 rw[show encSlots (l++[s])=encSlots l++encSlots [s] by simp[encSlots]]
 exact this
theorem app_id0 {i:Id} {o:Bool} : appendAV false 3 24 (.slice [] true) (.slice [[.int .i64 i.shop,.int .i64 i.seq,.int .i64 i.index]] o)=some (.slice (encIds [i]) true):=app_ids (l:=[]) (m:=[i]) (by simp)
theorem stageC (l:List Int) (hl:∀ n∈l,I64 n) (H:AHeap) (h:Bool) (mods:Int) (hm:1≤mods∧mods≤2) (lm:Nat) (hlm:H.length≤lm) (pl:List Plan) (hpl:PlansOK h mods pl) (T0:AFrame) (K0:AHeap) (g0:Nat) (o:Bool)
  (hst:StC l H h mods lm pl 0 T0 K0) (t7:T0 7=.slice (encPlans pl) o) (Q:IExit→AS→Prop) (R:AS→Prop) (hR:∀ T K g,StC l H h mods lm pl pl.length T K→R ⟨T,K,H.length,g⟩) :
  W A ((ir4.body.post 5).pre 0) ⟨T0,K0,H.length,g0⟩ (andThen R Q):=by
 unfold ir4;dsimp only[oQ,oP,iR,oM,oT,oL,oG,oH,oI,oF,oX,oA,oN,oS,oB,oR,oK,oC,iT,iC,iZ,iE]
 simp only[ICode.pre,ICode.post]
 obtain⟨pl1,pl2,pl3,pl4⟩:=hpl
 simp (disch:=omega) only[evX,↓reduceIte,Nat.reduceEqDiff,Nat.reduceBEq,Nat.reduceAdd,Nat.reduceMul,reduceCtorEq,Nat.reduceLeDiff,Int.reduceEq,Int.reduceLT,Int.reduceLE,Int.reduceBEq,Int.reduceBNe,Int.reduceAdd,Int.reduceNeg,Int.reduceSub,Int.reduceMul]
 refine W_countx pl.length 2 (fun i s=>∃ T K g,s=⟨T,K,H.length,g⟩∧StC l H h mods lm pl i T K∧(∃ o,T 7=.slice (encPlans pl) o)∧T 9=.int .i64 i)
  (fun s=>∃ T K g,s=⟨T,K,H.length,g⟩∧StC l H h mods lm pl pl.length T K) (fun _=>False) ?_ ?_ (fun _ h=>h.elim) 0 _ (by omega) ?_
 ·rintro i s hi ⟨T,K,g,rfl,⟨s0,s2,s3,stk,shl,⟨rows,srow,smr⟩,⟨nx,s8,nx0,nx1⟩,ds,dc,s4,dsl,dok,dz,hdc⟩,⟨o,s7⟩,s9⟩
  by_cases c:i<pl.length
  ·obtain⟨p,hp⟩:∃ p,pl[i]?=some p:=⟨_,List.getElem?_eq_getElem c⟩
   obtain⟨⟨ts,ns,out,e1,e2,e3,e4,e5,e6,e7,hout,lt1,lt3,ltn,hms,hts,hts0,hts1,hts2,hts3⟩,⟨md0,md1⟩,pk⟩:=pl4 i p hp
   have hrow:=plans_at hp
   obtain⟨mn,hmn⟩:∃ mn:Nat,p.mod=mn:=⟨p.mod.toNat,by rw[Int.toNat_of_nonneg md0]⟩
   rw[encPlan,e1,e2,e3,e4,e5,e6,e7,hmn] at hrow
   have hid1:=id_D (mods+i) K (by omega)
   have hid2:=id_D mn K (by omega)
   rw[encId] at hid1 hid2
   simp (disch:=omega) only[evX,↓reduceIte,Nat.reduceEqDiff,Nat.reduceBEq,Nat.reduceAdd,Nat.reduceMul,reduceCtorEq,Nat.reduceLeDiff,Int.reduceEq,Int.reduceLT,Int.reduceLE,Int.reduceBEq,Int.reduceBNe,Int.reduceAdd,Int.reduceNeg,Int.reduceSub,Int.reduceMul,s0,s2,s3,s7,s8,s9,plans_len,hrow,hid1,hid2]
   refine W_countx ts.length 4 (fun k s=>∃ (T:AFrame) (g' : Nat) (sl:List Slot) (nx' : Int),s=⟨T,K,H.length,g'⟩∧T 0=.slice (ints l) false∧T 2=.lbox 0 [.slice [] true,.slice [] true]∧T 3=.int .i64 mods∧T 4=.lbox 1 [.sref lm 0 mods.toNat 6,dc]∧T 7=.slice (encPlans pl) o∧T 9=.int .i64 i ∧
     T 8=.int .i64 nx'∧0≤nx'∧nx'≤nx+k∧T 11=.int .i64 k∧T 10=.lbox g (dCells (idN (mods+i)) p.kind (idN mn) p.name sl out)∧sl.length=k∧(∀ (j:Nat) (s:Slot),sl[j]?=some s→ts[j]?=some s.ty)∧∀ s∈sl,s.id.seq≠0)
    (fun s=>∃ (T:AFrame) (g' : Nat) (sl:List Slot) (nx' : Int),s=⟨T,K,H.length,g'⟩∧T 0=.slice (ints l) false∧T 2=.lbox 0 [.slice [] true,.slice [] true]∧T 3=.int .i64 mods∧T 4=.lbox 1 [.sref lm 0 mods.toNat 6,dc]∧T 7=.slice (encPlans pl) o∧T 9=.int .i64 i ∧
     T 8=.int .i64 nx'∧0≤nx'∧nx'≤nx+3∧T 10=.lbox g (dCells (idN (mods+i)) p.kind (idN mn) p.name sl out)∧sl.length=ts.length∧(∀ (j:Nat) (s:Slot),sl[j]?=some s→ts[j]?=some s.ty)∧∀ s∈sl,s.id.seq≠0)
    (fun _=>False) ?_ ?_ (fun _ h=>h.elim) 0 _ (by omega) ?_
   ·rintro k s hk ⟨T,g',sl,nx',rfl,s0,s2,s3,s4,s7,s9,s8,nx0',nx1',s11,s10,hsl,hst,hsq⟩
    rw[dCells] at s10
    by_cases ck:k<ts.length
    ·obtain⟨t,ht⟩:∃ t,ts[k]?=some t:=⟨_,List.getElem?_eq_getElem ck⟩
     obtain⟨nm,hnm⟩:∃ t,ns[k]?=some t:=⟨_,List.getElem?_eq_getElem (by omega)⟩
     have ht':=tys_at ht
     have hnm':=strs_at hnm
     rw[encTy_eq] at ht'
     have hidk:=id_D nx' K (by omega)
     rw[encId] at hidk
     have hfin:∀ ms:Int,(∀ (j:Nat) (s:Slot),(sl++[(⟨idN nx',nm,t,ms,k⟩:Slot)])[j]?=some s→ts[j]?=some s.ty)∧∀ s∈sl++[(⟨idN nx',nm,t,ms,k⟩:Slot)],s.id.seq≠0:=by
      intro ms
      refine⟨fun j s hj=>?_,fun s hs=>?_⟩
      ·by_cases hjl:j<sl.length
       ·rw[List.getElem?_append_left hjl] at hj;exact hst j s hj
       ·have hlt:=(List.getElem?_eq_some_iff.1 hj).1
        have:j=k:=by simp at hlt;omega
        subst this
        rw[List.getElem?_append_right (by omega)] at hj
        simp[hsl] at hj
        subst hj
        exact ht
      ·rcases List.mem_append.1 hs with hs|hs
       ·exact hsq s hs
       ·rw[List.mem_singleton.1 hs];simp only[idN];omega
     by_cases ck4:p.kind=4
     ·obtain⟨ms,hms1,hms2⟩:=hms ck4
      obtain⟨mv,hmv⟩:∃ t,ms[k]?=some t:=⟨_,List.getElem?_eq_getElem (by omega)⟩
      have hmv':=ints_at hmv
      have hrow4:=hrow
      rw[hms1] at hrow4
      have has:=app_slot (l:=sl) (s:=⟨idN nx',nm,t,mv,k⟩) (o:=true) (by omega)
      simp only at has
      simp (disch:=omega) only[evL,↓reduceIte,Nat.reduceEqDiff,Nat.reduceBEq,Nat.reduceAdd,Nat.reduceMul,reduceCtorEq,Nat.reduceLeDiff,Int.reduceEq,Int.reduceLT,Int.reduceLE,Int.reduceBEq,Int.reduceBNe,Int.reduceAdd,Int.reduceNeg,Int.reduceSub,Int.reduceMul,s0,s2,s3,s4,s7,s9,s8,s11,s10,plans_len,tys_len,hrow4,ht',hnm',hmv',hidk,ck4,has]
      exact⟨by omega,_,_,sl++[⟨idN nx',nm,t,mv,k⟩],nx' + 1,rfl,by simp (disch:=omega) only[evX,↓reduceIte,Nat.reduceEqDiff,Nat.reduceBEq,Nat.reduceAdd,Nat.reduceMul,reduceCtorEq,Nat.reduceLeDiff,Int.reduceEq,Int.reduceLT,Int.reduceLE,Int.reduceBEq,Int.reduceBNe,Int.reduceAdd,Int.reduceNeg,Int.reduceSub,Int.reduceMul,s0,s2,s3,s4,s7,s9,dCells,ck4];exact⟨by omega,by omega,by simp[hsl],hfin mv⟩⟩
     ·have has:=app_slot (l:=sl) (s:=⟨idN nx',nm,t,0,k⟩) (o:=true) (by omega)
      simp only at has
      simp (disch:=omega) only[evL,↓reduceIte,Nat.reduceEqDiff,Nat.reduceBEq,Nat.reduceAdd,Nat.reduceMul,reduceCtorEq,Nat.reduceLeDiff,Int.reduceEq,Int.reduceLT,Int.reduceLE,Int.reduceBEq,Int.reduceBNe,Int.reduceAdd,Int.reduceNeg,Int.reduceSub,Int.reduceMul,s0,s2,s3,s4,s7,s9,s8,s11,s10,plans_len,tys_len,hrow,ht',hnm',hidk,ck4,has]
      exact⟨by omega,_,_,sl++[⟨idN nx',nm,t,0,k⟩],nx' + 1,rfl,by simp (disch:=omega) only[evX,↓reduceIte,Nat.reduceEqDiff,Nat.reduceBEq,Nat.reduceAdd,Nat.reduceMul,reduceCtorEq,Nat.reduceLeDiff,Int.reduceEq,Int.reduceLT,Int.reduceLE,Int.reduceBEq,Int.reduceBNe,Int.reduceAdd,Int.reduceNeg,Int.reduceSub,Int.reduceMul,s0,s2,s3,s4,s7,s9,dCells];exact⟨by omega,by omega,by simp[hsl],hfin 0⟩⟩
    ·have:k=ts.length:=by omega
     subst this
     simp (disch:=omega) only[evX,↓reduceIte,Nat.reduceEqDiff,Nat.reduceBEq,Nat.reduceAdd,Nat.reduceMul,reduceCtorEq,Nat.reduceLeDiff,Int.reduceEq,Int.reduceLT,Int.reduceLE,Int.reduceBEq,Int.reduceBNe,Int.reduceAdd,Int.reduceNeg,Int.reduceSub,Int.reduceMul,s0,s2,s3,s4,s7,s9,s8,s11,plans_len,tys_len,hrow]
     exact⟨_,_,sl,nx',rfl,s0,s2,s3,s4,s7,s9,s8,nx0',by omega,by rw[dCells];exact s10,hsl,hst,hsq⟩
   ·rintro s ⟨T,g',sl,nx',rfl,s0,s2,s3,s4,s7,s9,s8,nx0',nx1',s10,hsl,hst,hsq⟩
    rw[dCells] at s10
    obtain⟨d,hd⟩:∃ d:Def,d=⟨idN (mods+i),p.kind,idN mn,p.name,sl,out,exZero,0,[]⟩:=⟨_,rfl⟩
    have hdok:DefOK h mods i d:=by
     subst hd
     have hmem:∀ s∈sl,s.ty∈ts:=by
      intro s hs
      obtain⟨j,hj⟩:=List.getElem?_of_mem hs
      exact List.mem_of_getElem? (hst j s hj)
     exact⟨rfl,hout,by simp only[hsl];exact lt1,by simp only[hsl];exact lt3,hsq,fun s hs=>hts _ (hmem s hs),fun e s hs=>hts0 e _ (hmem s hs),fun e s hs=>hts1 e _ (hmem s hs),fun e e' s hs=>hts2 e e' _ (hmem s hs),fun e e' s hs=>hts3 e e' _ (hmem s hs),pk⟩
    have hdsok:DsOK h mods (ds++[d]):=by
     intro j dj hj
     by_cases hjl:j<ds.length
     ·rw[List.getElem?_append_left hjl] at hj;exact dok j dj hj
     ·have hlt:=(List.getElem?_eq_some_iff.1 hj).1
      have:j=i:=by simp at hlt;omega
      subst this
      rw[List.getElem?_append_right (by omega)] at hj
      simp[dsl] at hj
      subst hj
      exact hdok
    have hdz:∀ e∈ds++[d],e.body=exZero:=by
     intro e he
     rcases List.mem_append.1 he with he|he
     ·exact dz e he
     ·rw[List.mem_singleton.1 he,hd]
    have hed:encDef d=[.int .i64 (idN (mods+i)).shop,.int .i64 (idN (mods+i)).seq,.int .i64 (idN (mods+i)).index,.int .i64 p.kind,.int .i64 (idN mn).shop,.int .i64 (idN mn).seq,.int .i64 (idN mn).index,.str p.name,.slice (encSlots sl) false,
      .int .i64 out.kind,.int .i64 out.d.shop,.int .i64 out.d.seq,.int .i64 out.d.index,.slice (encTys out.kids) false,.int .i64 0,.int .i64 0,.int .i64 0,.int .i64 0,.int .i64 0,.int .i64 0,.int .i64 0,.int .i64 0,.int .i64 0,.int .i64 0,.int .i64 0,.int .i64 0,
      .slice [] false,.slice [] false,.slice [] false,.int .i64 0,.slice [] false]:=by
     subst hd
     simp only[encDef,exZero,Ex.id,Ex.kind,Ex.n,Ex.ref,Ex.tk,Ex.td,Ex.tks,Ex.kids,Ex.names,Option.map_some,encNil,encTys,encExs,strs,List.map_nil]
    have hrl:=smr.len
    have hmnl:mn<rows.length:=by omega
    obtain⟨r,hr⟩:∃ r,rows[mn]?=some r:=⟨_,List.getElem?_eq_getElem hmnl⟩
    obtain⟨rid,rnm,rus,rdc,rfl,hrn,hrdc⟩:=smr.row r (List.mem_of_getElem? hr)
    have hcell:rows.flatten[mn*6+5]?=some rdc:=by
     rw[flat_cell smr.wide hr (by omega)];rfl
    have hfl:rows.flatten.length=rows.length*6:=flat_length smr.wide
    have hK' : ∀ v,(v=.slice (encIds [d.id]) true∨∃ l:List Id,v=.slice (encIds l) true∧l.length≤i+1)→MsRows mods (i+1) (rows.set mn (putAt [.int .i64 rid.shop,.int .i64 rid.seq,.int .i64 rid.index,.str rnm,encNil (rus.map encIds),rdc] 5 [v])):=by
     intro v hv
     refine⟨by rw[List.length_set];exact hrl,fun q hq=>?_⟩
     rcases List.mem_or_eq_of_mem_set hq with hq|rfl
     ·exact (smr.row q hq).mono (by omega)
     ·refine⟨rid,rnm,rus,v,rfl,hrn,.inr ?_⟩
      rcases hv with rfl|h
      ·exact⟨[d.id],rfl,by simp⟩
      ·exact h
    have hdid:d.id=idN (mods+i):=by rw[hd]
    have hput:∀ v,List.take (mn*6+5) (List.modify rows.flatten (mn*6+5) AV.drop)++[v]++List.drop (mn*6+5+1) (List.modify rows.flatten (mn*6+5) AV.drop)=(rows.set mn (putAt [.int .i64 rid.shop,.int .i64 rid.seq,.int .i64 rid.index,.str rnm,encNil (rus.map encIds),rdc] 5 [v])).flatten:=by
     intro v
     rw[← flat_put (cs:=[v]) smr.wide hr (by simp),← takenAt_put]
     simp[putAt,takenAt]
    have hmt:mods.toNat=rows.length:=by omega
    have hlmlt:=(List.getElem?_eq_some_iff.1 srow).1
    have lmf:decide (lm<H.length)=false:=decide_eq_false (by omega)
    have klf:decide (K.length<H.length)=false:=decide_eq_false (by omega)
    have closeC:∀ (K1:AHeap) (ld:Nat) (T:AFrame) (v:AV),K1.take H.length=H→H.length≤K1.length→lm<K1.length→K1[ld]?=some (.box freeTy (encDefs (ds++[d])).flatten)→ld≠lm→H.length≤ld→(v=.slice (encIds [d.id]) true∨∃ l:List Id,v=.slice (encIds l) true∧l.length≤i+1) →
      T 0=.slice (ints l) false→T 2=.lbox 0 [.slice [] true,.slice [] true]→T 3=.int .i64 mods→T 8=.int .i64 nx'→T 4=.lbox 1 [.sref lm 0 rows.length 6,.sref ld 0 (i+1) 31] →
      StC l H h mods lm pl (i+1) T (K1.set lm (.box freeTy (rows.set mn (putAt [.int .i64 rid.shop,.int .i64 rid.seq,.int .i64 rid.index,.str rnm,encNil (rus.map encIds),rdc] 5 [v])).flatten)):=by
     intro K1 ld T v a1 a2 a3 a4 a5 a6 a7 b0 b2 b3 b8 b4
     refine⟨b0,b2,b3,by rw[List.take_set_of_le (by omega)];exact a1,by rw[List.length_set];exact a2,⟨_,List.getElem?_set_self a3,hK' v a7⟩,⟨nx',b8,nx0',by omega⟩,ds++[d],.sref ld 0 (i+1) 31,by rw[hmt];exact b4,by simp[dsl],hdsok,hdz,.inr ⟨by omega,ld,rfl,a5,a6,by rw[List.getElem?_set_ne (Ne.symm a5)];exact a4⟩⟩
    have happ:(encDefs ds).flatten++encDef d=(encDefs (ds++[d])).flatten:=by simp[encDefs]
    rcases hdc with ⟨hi0,rfl⟩|⟨hi0,ld,rfl,hld,hldge,hldk⟩
    ·have q1:(K++[AObj.box freeTy (encDef d)])[lm]?=some (.box freeTy rows.flatten):=by rw[List.getElem?_append_left hlmlt];exact srow
     have q2:∀ b,((K++[AObj.box freeTy (encDef d)]).set lm b)[lm]?=some b:=fun b=>List.getElem?_set_self (by simp;omega)
     rw[hdid] at closeC
     have q3:=fun T v=>closeC (K++[AObj.box freeTy (encDef d)]) K.length T v (by rw[List.take_append_of_le_length shl];exact stk) (by simp;omega) (by simp;omega) (by
      have:ds=[]:=List.eq_nil_of_length_eq_zero (by omega)
      rw[this];simp[encDefs]) (by omega) shl
     rw[hed] at q1 q2 q3
     rcases hrdc with rfl|⟨l',rfl,hl'⟩
     ·simp (disch:=omega) only[evY,↓reduceIte,Nat.reduceEqDiff,Nat.reduceBEq,Nat.reduceAdd,Nat.reduceMul,reduceCtorEq,Nat.reduceLeDiff,Int.reduceEq,Int.reduceLT,Int.reduceLE,Int.reduceBEq,Int.reduceBNe,Int.reduceAdd,Int.reduceNeg,Int.reduceSub,Int.reduceMul,s0,s2,s3,s4,s7,s9,s8,s10,plans_len,hrow,hmt,q1,q2,hcell,List.length_modify,hfl,app_id0,List.set_set,hput,lmf,klf]
      refine⟨c,_,_,_,rfl,q3 _ _ (.inl rfl) ?_ ?_ ?_ ?_ ?_,⟨o,?_⟩,?_⟩
      ·exact s0
      ·exact s2
      ·exact s3
      ·exact s8
      ·simp (disch:=omega) only[evX,↓reduceIte,Nat.reduceEqDiff,Nat.reduceBEq,Nat.reduceAdd,Nat.reduceMul,reduceCtorEq,Nat.reduceLeDiff,Int.reduceEq,Int.reduceLT,Int.reduceLE,Int.reduceBEq,Int.reduceBNe,Int.reduceAdd,Int.reduceNeg,Int.reduceSub,Int.reduceMul,hi0]
      ·exact s7
      ·rfl
     ·simp (disch:=omega) only[evY,↓reduceIte,Nat.reduceEqDiff,Nat.reduceBEq,Nat.reduceAdd,Nat.reduceMul,reduceCtorEq,Nat.reduceLeDiff,Int.reduceEq,Int.reduceLT,Int.reduceLE,Int.reduceBEq,Int.reduceBNe,Int.reduceAdd,Int.reduceNeg,Int.reduceSub,Int.reduceMul,s0,s2,s3,s4,s7,s9,s8,s10,plans_len,hrow,hmt,q1,q2,hcell,List.length_modify,hfl,app_id,List.set_set,hput,lmf,klf]
      refine⟨c,_,_,_,rfl,q3 _ _ (.inr ⟨l'++[idN (mods+i)],rfl,by simp;omega⟩) ?_ ?_ ?_ ?_ ?_,⟨o,?_⟩,?_⟩
      ·exact s0
      ·exact s2
      ·exact s3
      ·exact s8
      ·simp (disch:=omega) only[evX,↓reduceIte,Nat.reduceEqDiff,Nat.reduceBEq,Nat.reduceAdd,Nat.reduceMul,reduceCtorEq,Nat.reduceLeDiff,Int.reduceEq,Int.reduceLT,Int.reduceLE,Int.reduceBEq,Int.reduceBNe,Int.reduceAdd,Int.reduceNeg,Int.reduceSub,Int.reduceMul,hi0]
      ·exact s7
      ·rfl
    ·have hldlt:=(List.getElem?_eq_some_iff.1 hldk).1
     have ldf:decide (ld<H.length)=false:=decide_eq_false (by omega)
     have hdl:(encDefs ds).flatten.length=i*31:=by rw[flat_length defs_wide,defs_len,dsl]
     obtain⟨K1,hK1⟩:∃ K1,K1=K.set ld .dead++[AObj.box freeTy ((encDefs ds).flatten++encDef d)]:=⟨_,rfl⟩
     have q0:K1[lm]?=some (.box freeTy rows.flatten):=by rw[hK1,List.getElem?_append_left (by rw[List.length_set];exact hlmlt),List.getElem?_set_ne hld];exact srow
     have q0l:K1.length=K.length+1:=by rw[hK1];simp
     have q1:=q0
     have q2:∀ b,(K1.set lm b)[lm]?=some b:=fun b=>List.getElem?_set_self (by omega)
     have q3:=fun T v=>closeC K1 K.length T v (by rw[hK1,List.take_append_of_le_length (by rw[List.length_set];omega),List.take_set_of_le hldge];exact stk) (by omega) (by omega) (by
      rw[hK1,List.getElem?_append_right (by rw[List.length_set];omega),List.length_set,Nat.sub_self,happ];rfl) (by omega) shl
     rw[hdid] at q3
     rw[hK1,hed] at q1 q2 q3
     rcases hrdc with rfl|⟨l',rfl,hl'⟩
     ·simp (disch:=omega) only[evY,↓reduceIte,Nat.reduceEqDiff,Nat.reduceBEq,Nat.reduceAdd,Nat.reduceMul,reduceCtorEq,Nat.reduceLeDiff,Int.reduceEq,Int.reduceLT,Int.reduceLE,Int.reduceBEq,Int.reduceBNe,Int.reduceAdd,Int.reduceNeg,Int.reduceSub,Int.reduceMul,s0,s2,s3,s4,s7,s9,s8,s10,plans_len,hrow,hmt,q1,q2,hcell,List.length_modify,hfl,app_id0,List.set_set,hput,lmf,klf,ldf,hldk,hdl,List.length_set]
      refine⟨c,_,_,_,rfl,q3 _ _ (.inl rfl) ?_ ?_ ?_ ?_ ?_,⟨o,?_⟩,?_⟩
      ·exact s0
      ·exact s2
      ·exact s3
      ·exact s8
      ·rfl
      ·exact s7
      ·rfl
     ·simp (disch:=omega) only[evY,↓reduceIte,Nat.reduceEqDiff,Nat.reduceBEq,Nat.reduceAdd,Nat.reduceMul,reduceCtorEq,Nat.reduceLeDiff,Int.reduceEq,Int.reduceLT,Int.reduceLE,Int.reduceBEq,Int.reduceBNe,Int.reduceAdd,Int.reduceNeg,Int.reduceSub,Int.reduceMul,s0,s2,s3,s4,s7,s9,s8,s10,plans_len,hrow,hmt,q1,q2,hcell,List.length_modify,hfl,app_id,List.set_set,hput,lmf,klf,ldf,hldk,hdl,List.length_set]
      refine⟨c,_,_,_,rfl,q3 _ _ (.inr ⟨l'++[idN (mods+i)],rfl,by simp;omega⟩) ?_ ?_ ?_ ?_ ?_,⟨o,?_⟩,?_⟩
      ·exact s0
      ·exact s2
      ·exact s3
      ·exact s8
      ·rfl
      ·exact s7
      ·rfl
   ·exact⟨_,_,[],nx,rfl,by simp (disch:=omega) only[evX,↓reduceIte,Nat.reduceEqDiff,Nat.reduceBEq,Nat.reduceAdd,Nat.reduceMul,reduceCtorEq,Nat.reduceLeDiff,Int.reduceEq,Int.reduceLT,Int.reduceLE,Int.reduceBEq,Int.reduceBNe,Int.reduceAdd,Int.reduceNeg,Int.reduceSub,Int.reduceMul,s0,s2,s3,s4,s7,s9,s8,dCells];exact⟨nx0,by omega,rfl,by simp,by simp⟩⟩
  ·have:i=pl.length:=by omega
   subst this
   simp (disch:=omega) only[evX,↓reduceIte,Nat.reduceEqDiff,Nat.reduceBEq,Nat.reduceAdd,Nat.reduceMul,reduceCtorEq,Nat.reduceLeDiff,Int.reduceEq,Int.reduceLT,Int.reduceLE,Int.reduceBEq,Int.reduceBNe,Int.reduceAdd,Int.reduceNeg,Int.reduceSub,Int.reduceMul,s0,s2,s3,s7,s8,s9,plans_len]
   refine⟨_,_,_,rfl,⟨?_,?_,?_,stk,shl,⟨rows,srow,smr⟩,⟨nx,?_,nx0,nx1⟩,ds,dc,?_,dsl,dok,dz,hdc⟩⟩
   ·exact s0
   ·exact s2
   ·exact s3
   ·exact s8
   ·exact s4
 ·rintro s ⟨T,K,g,rfl,hs⟩
  simp (disch:=omega) only[evX,↓reduceIte,Nat.reduceEqDiff,Nat.reduceBEq,Nat.reduceAdd,Nat.reduceMul,reduceCtorEq,Nat.reduceLeDiff,Int.reduceEq,Int.reduceLT,Int.reduceLE,Int.reduceBEq,Int.reduceBNe,Int.reduceAdd,Int.reduceNeg,Int.reduceSub,Int.reduceMul]
  exact hR T K g hs
 ·obtain⟨s0,s2,s3,stk,shl,srow,⟨nx,s8,nx0,nx1⟩,ds,dc,s4,hds⟩:=hst
  refine⟨_,_,_,rfl,⟨?_,?_,?_,stk,shl,srow,⟨nx,?_,nx0,nx1⟩,ds,dc,?_,hds⟩,⟨o,?_⟩,?_⟩
  ·exact s0
  ·exact s2
  ·exact s3
  ·exact s8
  ·exact s4
  ·exact t7
  ·simp (disch:=omega) only[evX,↓reduceIte,Nat.reduceEqDiff,Nat.reduceBEq,Nat.reduceAdd,Nat.reduceMul,reduceCtorEq,Nat.reduceLeDiff,Int.reduceEq,Int.reduceLT,Int.reduceLE,Int.reduceBEq,Int.reduceBNe,Int.reduceAdd,Int.reduceNeg,Int.reduceSub,Int.reduceMul,Int.natCast_zero]
end Go.Proofs.YtemfofdaemgjgaaGreatDoor
end
section
set_option linter.unusedSimpArgs false
set_option linter.unusedVariables false
set_option maxRecDepth 100000
set_option maxHeartbeats 4000000
namespace Go.Proofs.YtemfofdaemgjgaaGreatDoor
open Go Go.Abs Go.Proofs
theorem idN_inj {a b:Int} (ha:0≤a) (hb:0≤b) (h:idN a=idN b):a=b:=by
 simp only[idN,Id.mk.injEq] at h
 omega
theorem find_at {h:Bool} {mods:Int} {ds:List Def} (hd:DsOK h mods ds) (hm:0≤mods) {j:Nat} {d:Def} (hj:ds[j]?=some d):findD ds (idN (mods+j))=some d:=by
 unfold findD
 obtain⟨hlt,hv⟩:=List.getElem?_eq_some_iff.1 hj
 rw[List.find?_eq_some_iff_getElem]
 refine⟨by rw[(hd j d hj).id];simp,j,hlt,hv,fun k hk=>?_⟩
 have hk' : k<ds.length:=by omega
 have:=(hd k ds[k] (List.getElem?_eq_getElem hk')).id
 simp only[Bool.not_eq_true',beq_eq_false_iff_ne]
 intro e
 rw[this] at e
 have:=idN_inj (by omega) (by omega) e
 omega
theorem tOf_ok {ds:List Def} {r:Nat} {i:Id} (h:∀ d,findD ds i=some d→d.slots≠[]∧d.slots.length≤3∧∀ s∈d.slots,TyOK ds r s.ty):TyOK ds (r+1) (tOf i) :=
 ⟨len_plain,.inr (.inr (.inr ⟨by simp[tOf,Ty.kind],by simp[tOf,Ty.kind],by simp[tOf,Ty.kind],fun d hd=>⟨fun _=>(h d hd).1,(h d hd).2.1,(h d hd).2.2⟩⟩))⟩
theorem ts_ok {h:Bool} {mods:Int} {ds:List Def} (hd:DsOK h mods ds) (hm:0≤mods) (l2:2≤ds.length) (l4:h=true→4≤ds.length):∀ r,r≤5→∀ t,TS h mods r t→TyOK ds r t:=by
 have key:∀ (r j:Nat) (i:Id),i=idN (mods+j)→j<ds.length→(∀ d,ds[j]?=some d→∀ s∈d.slots,TyOK ds r s.ty)→TyOK ds (r+1) (tOf i):=by
  intro r j i hi hj hs
  have hjd:ds[j]?=some ds[j]:=List.getElem?_eq_getElem hj
  refine tOf_ok fun d hdd=>?_
  rw[hi,find_at hd hm hjd] at hdd
  injection hdd with hdd
  subst hdd
  have ok:=hd j _ hjd
  exact⟨fun e=>by have:=ok.l1;rw[e] at this;simp at this,ok.l3,hs _ hjd⟩
 have o1:∀ t,TS h mods 1 t→TyOK ds 1 t:=by
  rintro t (⟨_,rfl|rfl⟩|⟨a,_⟩|⟨a,_⟩|⟨a,_⟩|⟨a,_⟩|⟨a,_⟩)
  ·exact ok_int (by omega)
  ·exact ok_bool (by omega)
  all_goals omega
 have o2:∀ t,TS h mods 2 t→TyOK ds 2 t:=by
  rintro t (⟨_,rfl|rfl⟩|⟨_,rfl⟩|⟨a,_⟩|⟨a,_⟩|⟨a,_⟩|⟨a,_⟩)
  ·exact ok_int (by omega)
  ·exact ok_bool (by omega)
  ·exact ok_list (r:=1) (ok_int (by omega))
  all_goals omega
 have p3:TyOK ds 3 (tOf (idN mods)):=key 2 0 _ (by simp) (by omega) fun d hdd s hs=>o2 _ ((hd 0 d hdd).ty0 rfl s hs)
 have o3:∀ t,TS h mods 3 t→TyOK ds 3 t:=by
  rintro t (⟨_,rfl|rfl⟩|⟨_,rfl⟩|⟨a,rfl⟩|⟨a,_⟩|⟨a,_⟩|⟨a,_⟩)
  ·exact ok_int (by omega)
  ·exact ok_bool (by omega)
  ·exact (ok_list (r:=1) (ok_int (by omega))).mono (by omega)
  ·exact p3
  all_goals omega
 have p4:TyOK ds 4 (tOf (idN (mods+1))):=key 3 1 _ (by simp) (by omega) fun d hdd s hs=>o3 _ ((hd 1 d hdd).ty1 rfl s hs)
 have p4' : h=true→TyOK ds 4 (tOf (idN (mods+2))):=fun e=>key 3 2 _ (by simp) (by have:=l4 e;omega) fun d hdd s hs=>o3 _ ((hd 2 d hdd).ty2 e rfl s hs)
 have o4:∀ t,TS h mods 4 t→TyOK ds 4 t:=by
  rintro t (⟨_,rfl|rfl⟩|⟨_,rfl⟩|⟨a,rfl⟩|⟨a,rfl⟩|⟨a,e,rfl⟩|⟨a,_⟩)
  ·exact ok_int (by omega)
  ·exact ok_bool (by omega)
  ·exact (ok_list (r:=1) (ok_int (by omega))).mono (by omega)
  ·exact p3.mono (by omega)
  ·exact p4
  ·exact p4' e
  all_goals omega
 have p5:h=true→TyOK ds 5 (tOf (idN (mods+3))):=fun e=>key 4 3 _ (by simp) (by have:=l4 e;omega) fun d hdd s hs=>o4 _ ((hd 3 d hdd).ty3 e rfl s hs)
 have o5:∀ t,TS h mods 5 t→TyOK ds 5 t:=by
  rintro t (⟨_,rfl|rfl⟩|⟨_,rfl⟩|⟨a,rfl⟩|⟨a,rfl⟩|⟨a,e,rfl⟩|⟨a,e,rfl⟩)
  ·exact ok_int (by omega)
  ·exact ok_bool (by omega)
  ·exact (ok_list (r:=1) (ok_int (by omega))).mono (by omega)
  ·exact p3.mono (by omega)
  ·exact p4.mono (by omega)
  ·exact (p4' e).mono (by omega)
  ·exact p5 e
 intro r hr t ht
 rcases r with _|_|_|_|_|_|r
 ·rcases ht with ⟨a,_⟩|⟨a,_⟩|⟨a,_⟩|⟨a,_⟩|⟨a,_⟩|⟨a,_⟩<;>omega
 ·exact o1 t ht
 ·exact o2 t ht
 ·exact o3 t ht
 ·exact o4 t ht
 ·exact o5 t ht
 ·omega
theorem MsRows.ok {mods:Int} {n:Nat} {rows:List (List AV)} (h:MsRows mods n rows) (hm:1≤mods):MsOK rows:=by
 refine⟨h.wide,?_⟩
 have hl:=h.len
 have hlt:0<rows.length:=by omega
 have h0:rows[0]?=some rows[0]:=List.getElem?_eq_getElem hlt
 obtain⟨id,nm,us,dc,e,_⟩:=h.row _ (List.mem_of_getElem? h0)
 exact⟨id,_,by rw[h0,e]⟩
theorem cxOK_of {h:Bool} {mods:Int} {n:Nat} {ds:List Def} {c:Cx} (hd:DsOK h mods ds) (hm:1≤mods) (l2:2≤ds.length) (l8:ds.length≤8) (l4:h=true→4≤ds.length) (hr:MsRows mods n c.ms) (hc:c.ds=ds):CxOK c:=by
 have ok:=ts_ok hd (by omega) l2 l4
 have at' : ∀ d∈ds,∃ j,ds[j]?=some d:=fun d hd=>List.getElem?_of_mem hd
 refine⟨hr.ok hm,by rw[hc];omega,fun e=>by rw[← hc,e] at l2;simp at l2,fun d hdm=>?_,fun d hdm s hs=>?_,fun d hdm=>?_,fun d hdm hk=>?_⟩
 all_goals (rw[hc] at hdm;obtain⟨j,hj⟩:=at' d hdm;have dk:=hd j d hj)
 ·exact dk.l3
 ·rw[hc];exact ok 5 (by omega) _ (dk.ty s hs)
 ·rw[hc];exact ok 5 (by omega) _ dk.res
 ·rw[hc,dk.id]
  refine ok 5 (by omega) _ ?_
  rcases dk.kind.2.2.2.2 hk with rfl|rfl|⟨e,rfl|rfl⟩
  ·exact .inr (.inr (.inl ⟨by omega,by simp⟩))
  ·exact .inr (.inr (.inr (.inl ⟨by omega,by simp⟩)))
  ·exact .inr (.inr (.inr (.inr (.inl ⟨by omega,e,by simp⟩))))
  ·exact .inr (.inr (.inr (.inr (.inr ⟨by omega,e,by simp⟩))))
end Go.Proofs.YtemfofdaemgjgaaGreatDoor
end
