/-
  A part of the proof of PrintKept: AbsDraw3, AbsDraw4, AbsDraw5.
-/
import Derived.Test.YtaedakihpnghjaaGreatDoorP08
set_option linter.unusedSimpArgs false
set_option linter.unusedVariables false
section
namespace Go.Abs
set_option linter.unusedSimpArgs false
set_option linter.unusedVariables false
def SpA (M:List Nat) (is:List IOper) (A:Nat→Prop) (t:Nat):Prop:=∃ (j:Nat) (o:IOper) (e:Nat) (y:IArg),A j∧is[j]?=some o∧slotS M o=some (e,y)∧t∈y.tmps
structure Ag2 (G:Nat→List AV) (is:List IOper) (s s2 s3:AS) (D:Nat→Option Nat) (V:Nat→AV) (A:Nat→Prop) (x:AS):Prop where
 H:x.H=s.H
 lo:x.lo=s.lo
 did:∀ i,A i→∀ d,D i=some d→¬ SpA (boxesOf is) is A d→x.T d=V i
 not:∀ t,t∉boxesOf is→(∀ i,A i→D i≠some t)→¬ SpA (boxesOf is) is A t→x.T t=s.T t
 spd:∀ t,SpA (boxesOf is) is A t→x.T t=disown (s2.T t)
 bxA:∀ (i:Nat) (o:IOper) (d:Nat),A i→is[i]?=some o→slotA o=some d→(∀ (j:Nat) (p:IOper) (e:Nat) (y:IArg),A j→is[j]?=some p→slotS (boxesOf is) p=some (e,y)→e≠d)→∃ g,x.T d=.lbox g (zeroA o)
 bxS:∀ (j:Nat) (p:IOper) (d:Nat) (y:IArg),A j→is[j]?=some p→slotS (boxesOf is) p=some (d,y)→∃ g k z vs,s3.T d=.lbox k z∧(y.eval G s3.T).cells=some vs∧x.T d=.lbox g (putAt z 0 vs)
section
variable {G:Nat→List AV} {is:List IOper} {L:List Nat} {ops:Array Oper} {s s2 s3 x:AS} {D:Nat→Option Nat} {V:Nat→AV} {A:Nat→Prop}
theorem mem_boxes {i:Nat} {o:IOper} {d:Nat} (hi:is[i]?=some o) (h:slotA o=some d):d∈boxesOf is:=by
 unfold boxesOf
 rw[List.mem_filterMap]
 exact⟨o,List.mem_of_getElem? hi,h⟩
theorem of_boxes {d:Nat} (h:d∈boxesOf is):∃ (i:Nat) (o:IOper),is[i]?=some o∧slotA o=some d:=by
 unfold boxesOf at h
 rw[List.mem_filterMap] at h
 obtain⟨o,ho,h⟩:=h
 obtain⟨i,hi⟩:=List.mem_iff_getElem?.1 ho
 exact⟨i,o,hi,h⟩
theorem slotA_dst {o:IOper} {d:Nat} (h:slotA o=some d):o.dst=some d:=by rw[slotA_inv h]
theorem slotA_S {M:List Nat} {o:IOper} {d:Nat} (h:slotA o=some d):slotS M o=none:=by rw[slotA_inv h];rfl
theorem slotS_A {M:List Nat} {o:IOper} {p:Nat × IArg} (h:slotS M o=some p):slotA o=none:=by
 obtain⟨d,y⟩:=p
 obtain⟨_,sz,ho⟩:=slotS_inv h
 rw[ho];rfl
theorem isP_S {M:List Nat} {o:IOper} (h:isP M o=true):slotS M o=none∧slotA o=none:=by
 simp only[isP,Bool.and_eq_true,Option.isNone_iff_eq_none] at h
 exact⟨h.2,h.1⟩
theorem SpA.notM (hord:Order2 L ops is) {t:Nat} (h:SpA (boxesOf is) is A t):t∉boxesOf is:=by
 obtain⟨j,o,e,y,_,hj,hs,ht⟩:=h
 exact hord.sY j o e y hj hs t ht
theorem SpA.more {B:Nat→Prop} (hAB:∀ i,A i→B i) {t:Nat} (h:SpA (boxesOf is) is A t):SpA (boxesOf is) is B t:=by
 obtain⟨j,o,e,y,h1,h2⟩:=h
 exact⟨j,o,e,y,hAB j h1,h2⟩
theorem SpA.less {i:Nat} {o:IOper} (hi:is[i]?=some o) (hs:slotS (boxesOf is) o=none) {t:Nat} (h:SpA (boxesOf is) is (fun j=>A j∨j=i) t):SpA (boxesOf is) is A t:=by
 obtain⟨j,p,e,y,h1,h2,h3,h4⟩:=h
 rcases h1 with h1|rfl
 ·exact⟨j,p,e,y,h1,h2,h3,h4⟩
 ·rw[hi] at h2
  injection h2 with h2
  subst h2
  rw[hs] at h3
  cases h3
theorem Ag2.pure (hord:Order2 L ops is) (h:Ag2 G is s s2 s3 D V A x) {i:Nat} {o:IOper} (hi:is[i]?=some o) (hP:isP (boxesOf is) o=true) (hD:D i=o.dst)
  (hDD:∀ (j d:Nat),D j=some d→∃ q,is[j]?=some q∧isP (boxesOf is) q=true∧q.dst=some d)
  (hclosed:∀ (j:Nat) (p:IOper) (d:Nat) (y:IArg) (t:Nat),A j→is[j]?=some p→slotS (boxesOf is) p=some (d,y)→t∈y.tmps→o.dst≠some t) :
  Ag2 G is s s2 s3 D V (fun j=>A j∨j=i) (x.putD (D i) (V i)):=by
 obtain⟨hS,hA⟩:=isP_S hP
 have other:∀ t,D i≠some t→(x.putD (D i) (V i)).T t=x.T t:=by
  intro t ht
  cases hd:D i with
  | none=>rfl
  | some d =>
   simp only[AS.putD,AS.setT,put_T]
   rw[if_neg]
   rintro rfl
   exact ht hd
 have notBox:∀ t,t∈boxesOf is→D i≠some t:=fun t ht hd=>hord.notL i o t hi hP (by rw[← hD];exact hd) (hord.inL t ht)
 refine⟨by rw[(putD_T _ _ _).1,h.H],by rw[(putD_T _ _ _).2.2,h.lo],fun j hj d hd hsp=>?_,fun t ht hno hsp=>?_,fun t ht=>?_,fun j p d hj hp hd hno=>?_,fun j p d y hj hp hd=>?_⟩
 ·by_cases hji:j=i
  ·subst hji
   rw[hd]
   simp[AS.putD,AS.setT,put_T]
  ·rcases hj with hj|hj
   ·rw[other d (fun hdi=>by
     obtain⟨q,hq,_,hqd⟩:=hDD j d hd
     exact hord.once i j o q d hi hq (Ne.symm hji) hqd (by rw[← hD];exact hdi))]
    exact h.did j hj d hd (fun hs=>hsp (hs.more fun _=>.inl))
   ·exact absurd hj hji
 ·rw[other t (hno i (.inr rfl))]
  exact h.not t ht (fun j hj=>hno j (.inl hj)) (fun hs=>hsp (hs.more fun _=>.inl))
 ·have ht':=ht.less hi hS
  obtain⟨j,p,e,y,h1,h2,h3,h4⟩:=id ht'
  rw[other t (fun hd=>hclosed j p e y t h1 h2 h3 h4 (by rw[← hD];exact hd))]
  exact h.spd t ht'
 ·have hji:j≠i:=by
   rintro rfl
   rw[hi] at hp
   injection hp with hp
   subst hp
   rw[hA] at hd
   cases hd
  rcases hj with hj|hj
  ·rw[other d (notBox d (mem_boxes hp hd))]
   exact h.bxA j p d hj hp hd (fun k q e y hk=>hno k q e y (.inl hk))
  ·exact absurd hj hji
 ·have hji:j≠i:=by
   rintro rfl
   rw[hi] at hp
   injection hp with hp
   subst hp
   rw[hS] at hd
   cases hd
  rcases hj with hj|hj
  ·rw[other d (notBox d (slotS_inv hd).1)]
   exact h.bxS j p d y hj hp hd
  ·exact absurd hj hji
theorem Ag2.alloc (hord:Order2 L ops is) (h:Ag2 G is s s2 s3 D V A x) {i:Nat} {o:IOper} {d:Nat} (hi:is[i]?=some o) (hA:slotA o=some d)
  (hDD:∀ (j d:Nat),D j=some d→∃ q,is[j]?=some q∧isP (boxesOf is) q=true∧q.dst=some d) {g n:Nat}
  (hclosed:∀ (j:Nat) (p:IOper) (e:Nat) (y:IArg),A j→is[j]?=some p→slotS (boxesOf is) p=some (e,y)→e≠d) :
  Ag2 G is s s2 s3 D V (fun j=>A j∨j=i) (({ x with gen:=n } : AS).putD (some d) (.lbox g (zeroA o))):=by
 have hdM:=mem_boxes hi hA
 have other:∀ t,t≠d→(({ x with gen:=n } : AS).putD (some d) (.lbox g (zeroA o))).T t=x.T t:=by
  intro t ht
  simp[AS.putD,AS.setT,put_T,ht]
 have notD:∀ j e,D j=some e→e≠d:=by
  rintro j e hj rfl
  obtain⟨q,hq,hp,hqd⟩:=hDD j e hj
  exact hord.notL j q e hq hp hqd (hord.inL e hdM)
 have noS:slotS (boxesOf is) o=none:=slotA_S hA
 refine⟨h.H,h.lo,fun j hj e he hsp=>?_,fun t ht hno hsp=>?_,fun t ht=>?_,fun j p e hj hp he hno=>?_,fun j p e y hj hp he=>?_⟩
 ·rcases hj with hj|rfl
  ·rw[other e (notD j e he)]
   exact h.did j hj e he (fun hs=>hsp (hs.more fun _=>.inl))
  ·obtain⟨q,hq,hp,_⟩:=hDD j e he
   rw[hi] at hq
   injection hq with hq
   subst hq
   rw[(isP_S hp).2] at hA
   cases hA
 ·rw[other t (fun h=>ht (h ▸ hdM))]
  exact h.not t ht (fun j hj=>hno j (.inl hj)) (fun hs=>hsp (hs.more fun _=>.inl))
 ·have ht':=ht.less hi noS
  rw[other t (fun h=>ht'.notM hord (h ▸ hdM))]
  exact h.spd t ht'
 ·by_cases hji:j=i
  ·subst hji
   rw[hi] at hp
   injection hp with hp
   subst hp
   rw[hA] at he
   injection he with he
   subst he
   exact⟨g,by simp[AS.putD,AS.setT,put_T]⟩
  ·rcases hj with hj|hj
   ·rw[other e (by
     rintro rfl
     exact hord.once i j o p e hi hp (Ne.symm hji) (slotA_dst he) (slotA_dst hA))]
    exact h.bxA j p e hj hp he (fun k q e y hk=>hno k q e y (.inl hk))
   ·exact absurd hj hji
 ·rcases hj with hj|rfl
  ·rw[other e (hclosed j p e y hj hp he)]
   exact h.bxS j p e y hj hp he
  ·rw[hi] at hp
   injection hp with hp
   subst hp
   rw[noS] at he
   cases he
theorem Ag2.store (hord:Order2 L ops is) (h:Ag2 G is s s2 s3 D V A x) {i:Nat} {o:IOper} {d:Nat} {y:IArg} (hi:is[i]?=some o) (hs:slotS (boxesOf is) o=some (d,y))
  (hDD:∀ (j d:Nat),D j=some d→∃ q,is[j]?=some q∧isP (boxesOf is) q=true∧q.dst=some d) (hun:¬ A i) {g k:Nat} {z vs:List AV}
  (h3:s3.T d=.lbox k z) (hvs:(y.eval G s3.T).cells=some vs) (hy:∀ t,t∈y.tmps→x.T t=s2.T t) :
  Ag2 G is s s2 s3 D V (fun j=>A j∨j=i) ((x.setT d (.lbox g (putAt z 0 vs))).spent y):=by
 obtain⟨hdM,sz,ho⟩:=slotS_inv hs
 have hyM:=hord.sY i o d y hi hs
 have other:∀ t,t∉y.tmps→t≠d→((x.setT d (.lbox g (putAt z 0 vs))).spent y).T t=x.T t:=by
  intro t h1 h2
  rw[spent_other _ _ h1]
  simp[AS.setT,put_T,h2]
 have atd:((x.setT d (.lbox g (putAt z 0 vs))).spent y).T d=.lbox g (putAt z 0 vs):=by
  rw[spent_other _ _ (fun hm=>hyM d hm hdM)]
  simp[AS.setT,put_T]
 have aty:∀ t,t∈y.tmps→((x.setT d (.lbox g (putAt z 0 vs))).spent y).T t=disown (x.T t):=by
  intro t ht
  cases y with
  | tmp u =>
   simp only[IArg.tmps,List.mem_singleton] at ht
   subst ht
   rw[spent_tmp,if_pos rfl]
   have:t≠d:=fun h=>hyM t (by simp[IArg.tmps]) (h ▸ hdM)
   simp[AS.setT,put_T,this]
  | _=>simp[IArg.tmps] at ht
 have spI:∀ t,t∈y.tmps→SpA (boxesOf is) is (fun j=>A j∨j=i) t:=fun t ht=>⟨i,o,d,y,.inr rfl,hi,hs,ht⟩
 have spy:∀ t,SpA (boxesOf is) is A t→t∉y.tmps:=by
  rintro t ⟨j,p,e,y',hj,hp,hs',ht⟩ hm
  have hji:j≠i:=by rintro rfl;exact hun hj
  refine hord.sAlone j i p o e y' hp hi hji hs' t ht ?_
  rw[ho]
  simp[IOper.looks,IOp.tmps,hm]
 have spInv:∀ t,SpA (boxesOf is) is (fun j=>A j∨j=i) t→SpA (boxesOf is) is A t∨t∈y.tmps:=by
  rintro t ⟨j,p,e,y',hj,hp,hs',ht⟩
  rcases hj with hj|rfl
  ·exact .inl ⟨j,p,e,y',hj,hp,hs',ht⟩
  ·rw[hi] at hp
   injection hp with hp
   subst hp
   rw[hs] at hs'
   injection hs' with hs'
   injection hs' with _ hs'
   subst hs'
   exact .inr ht
 have notD:∀ j e,D j=some e→e≠d:=by
  rintro j e hj rfl
  obtain⟨q,hq,hp,hqd⟩:=hDD j e hj
  exact hord.notL j q e hq hp hqd (hord.inL e hdM)
 refine⟨by rw[(spent_H' _ _).1];exact h.H,by rw[(spent_H' _ _).2.2];exact h.lo,fun j hj e he hsp=>?_,fun t ht hno hsp=>?_,fun t ht=>?_,fun j p e hj hp he hno=>?_,fun j p e y' hj hp he=>?_⟩
 ·rw[other e (fun hm=>hsp (spI e hm)) (notD j e he)]
  rcases hj with hj|rfl
  ·exact h.did j hj e he (fun hs=>hsp (hs.more fun _=>.inl))
  ·obtain⟨q,hq,hp,_⟩:=hDD j e he
   rw[hi] at hq
   injection hq with hq
   subst hq
   rw[(isP_S hp).1] at hs
   cases hs
 ·rw[other t (fun hm=>hsp (spI t hm)) (fun h=>ht (h ▸ hdM))]
  exact h.not t ht (fun j hj=>hno j (.inl hj)) (fun hs=>hsp (hs.more fun _=>.inl))
 ·rcases spInv t ht with h1|h1
  ·rw[other t (spy t h1) (fun h=>h1.notM hord (h ▸ hdM))]
   exact h.spd t h1
  ·rw[aty t h1,hy t h1]
 ·rcases hj with hj|rfl
  ·have hed:e≠d:=by
    rintro rfl
    exact hno i o e y (.inr rfl) hi hs rfl
   rw[other e (fun hm=>hyM e hm (mem_boxes hp he)) hed]
   exact h.bxA j p e hj hp he (fun k q e y hk=>hno k q e y (.inl hk))
  ·rw[hi] at hp
   injection hp with hp
   subst hp
   rw[slotS_A hs] at he
   cases he
 ·by_cases hji:j=i
  ·subst hji
   rw[hi] at hp
   injection hp with hp
   subst hp
   rw[hs] at he
   injection he with he
   injection he with e1 e2
   subst e1 e2
   exact⟨g,k,z,vs,h3,hvs,atd⟩
  ·rcases hj with hj|hj
   ·rw[other e (fun hm=>hyM e hm (slotS_inv he).1) (hord.sOne j i p o e y' d y hp hi hji he hs)]
    exact h.bxS j p e y' hj hp he
   ·exact absurd hj hji
end
end Go.Abs
end
section
namespace Go.Abs
set_option linter.unusedSimpArgs false
set_option linter.unusedVariables false
theorem filterMap_nodup:∀ (l:List IOper),(∀ (i j:Nat) (p q:IOper) (d:Nat),l[i]?=some p→l[j]?=some q→i≠j→slotA p=some d→slotA q≠some d)→(l.filterMap slotA).Nodup
 | [],_=>by simp
 | o :: l,h=>by
  have ih:=filterMap_nodup l (fun i j p q d hi hj hij=>h (i+1) (j+1) p q d (by simpa using hi) (by simpa using hj) (by omega))
  cases ho:slotA o with
  | none=>simpa [List.filterMap_cons,ho] using ih
  | some d =>
   simp only[List.filterMap_cons,ho]
   refine List.nodup_cons.2 ⟨fun hm=>?_,ih⟩
   rw[List.mem_filterMap] at hm
   obtain⟨q,hq,hqd⟩:=hm
   obtain⟨j,hj⟩:=List.mem_iff_getElem?.1 hq
   exact h 0 (j+1) o q d rfl (by simpa using hj) (by omega) ho hqd
theorem onlyA_boxes:∀ (l:List IOper),(onlyA l).filterMap slotA=boxesOf l
 | []=>rfl
 | o :: l=>by
  have ih:=onlyA_boxes l
  unfold onlyA boxesOf at *
  cases ho:slotA o with
  | none=>simpa [List.filterMap_cons,List.filter_cons,ho] using ih
  | some d=>simpa [List.filterMap_cons,List.filter_cons,ho] using ih
theorem filterMap_at:∀ (l:List IOper),(∀ o,o∈l→(slotA o).isSome=true)→∀ (k:Nat),(l.filterMap slotA)[k]?=(l[k]?).bind slotA
 | [],_,k=>by simp
 | o :: l,h,k=>by
  obtain⟨d,hd⟩:=Option.isSome_iff_exists.1 (h o List.mem_cons_self)
  have ih:=filterMap_at l (fun o ho=>h o (List.mem_cons_of_mem _ ho))
  simp only[List.filterMap_cons,hd]
  cases k with
  | zero=>simp[hd]
  | succ k=>simpa using ih k
theorem filterMap_len:∀ (l:List IOper),(∀ o,o∈l→(slotA o).isSome=true)→(l.filterMap slotA).length=l.length
 | [],_=>rfl
 | o :: l,h=>by
  obtain⟨d,hd⟩:=Option.isSome_iff_exists.1 (h o List.mem_cons_self)
  have ih:=filterMap_len l (fun o ho=>h o (List.mem_cons_of_mem _ ho))
  simp[List.filterMap_cons,hd,ih]
structure Pieces (G:Nat→List AV) (cf:CallF) (is:List IOper) (s s1 s2 s3 s' : AS) (V:Nat→AV) (S:Nat→AS) (D:Nat→Option Nat):Prop where
 H1:s1.H=s.H
 lo1:s1.lo=s.lo
 g1:s1.gen=s.gen+(boxesOf is).length
 T1:∀ t,s1.T t=if t∈boxesOf is then .undef else s.T t
 DP:∀ (i:Nat) (io:IOper),is[i]?=some io→isP (boxesOf is) io=true→D i=io.dst∧evVal G cf true (S i) io=some (V i,S i)
 gV:∀ (i:Nat),i<is.length→genOf (V i)=none
 Dinv:∀ (i d:Nat),D i=some d→∃ q,is[i]?=some q∧isP (boxesOf is) q=true∧q.dst=some d
 wr:∀ (k:Nat),k≤is.length→Agree s1 D V (fun i=>i<k) (S k)
 wr2:Agree s1 D V (fun i=>i<is.length) s2
 H3:s3.H=s2.H
 lo3:s3.lo=s2.lo
 g3:s3.gen=s2.gen+(boxesOf is).length
 T3:∀ t,t∉boxesOf is→s3.T t=s2.T t
 A3:∀ (i:Nat) (o:IOper) (d:Nat),is[i]?=some o→slotA o=some d→∃ (k:Nat),(boxesOf is)[k]?=some d∧s3.T d=.lbox (s2.gen+k) (zeroA o)
 H4:s'.H=s3.H
 lo4:s'.lo=s3.lo
 g4:s'.gen=s3.gen
 T4:∀ t,(∀ (i:Nat) (p:IOper) (d:Nat) (y:IArg),is[i]?=some p→slotS (boxesOf is) p=some (d,y)→t≠d∧t∉y.tmps)→s'.T t=s3.T t
 S4:∀ (i:Nat) (p:IOper) (d:Nat) (y:IArg),is[i]?=some p→slotS (boxesOf is) p=some (d,y)→∃ sz g z vs,p=⟨none,none,.store sz (.tmp d) y⟩∧s3.T d=.lbox g z∧(y.eval G s3.T).cells=some vs∧vs.length=sz∧sz≤z.length∧vs.all frameCell=true ∧
   s'.T d=.lbox g (putAt z 0 vs)∧∀ t,t∈y.tmps→s'.T t=disown (s3.T t)
theorem pieces {G:Nat→List AV} {cf:CallF} {L:List Nat} {ops:Array Oper} {is:List IOper} (hord:Order2 L ops is) {s s1 s2 s3 s' : AS} (h1:evOps G cf false (maskOps (boxesOf is)) s=some s1) (h2:evOps G cf true (onlyP (boxesOf is) is) s1=some s2)
  (h3:evOps G cf false (onlyA is) s2=some s3) (h4:evOps G cf false (onlyS (boxesOf is) is) s3=some s'):∃ V S D,Pieces G cf is s s1 s2 s3 s' V S D:=by
 obtain⟨m1,m2,m3,m4⟩:=maskOps_ev _ _ _ h1
 obtain⟨S,V,h0,hn,hS⟩:=evOps_states _ s1 s2 h2
 have hlen:(onlyP (boxesOf is) is).length=is.length:=by simp[onlyP]
 have hat:∀ (i:Nat),(onlyP (boxesOf is) is)[i]?=(is[i]?).map fun o=>cond (isP (boxesOf is) o) o nopI:=fun i=>by simp[onlyP]
 let D:Nat→Option Nat:=fun i=>((onlyP (boxesOf is) is)[i]?).bind (·.dst)
 have hD:∀ (i:Nat) (io:IOper),(onlyP (boxesOf is) is)[i]?=some io→D i=io.dst:=fun i io h=>by simp[D,h]
 have hDP:∀ (i:Nat) (io:IOper),is[i]?=some io→isP (boxesOf is) io=true→(onlyP (boxesOf is) is)[i]?=some io:=fun i io h hp=>by rw[hat,h];simp[hp]
 have hDinv:∀ (i d:Nat),D i=some d→∃ q,is[i]?=some q∧isP (boxesOf is) q=true∧q.dst=some d:=by
  intro i d h
  simp only[D,hat,Option.bind_eq_some_iff,Option.map_eq_some_iff] at h
  obtain⟨_,⟨q,hq,rfl⟩,hd⟩:=h
  cases hp:isP (boxesOf is) q with
  | true=>rw[hp] at hd;exact⟨q,hq,hp,hd⟩
  | false=>rw[hp] at hd;cases hd
 have honce:∀ (i j d:Nat),i≠j→D i=some d→D j≠some d:=by
  intro i j d hij hi hj
  obtain⟨p,hp,_,hpd⟩:=hDinv i d hi
  obtain⟨q,hq,_,hqd⟩:=hDinv j d hj
  exact hord.once i j p q d hp hq hij hqd hpd
 have hwritten:∀ k,k≤is.length→Agree s1 D V (fun i=>i<k) (S k):=by
  intro k
  induction k with
  | zero=>intro _;rw[h0];exact⟨rfl,rfl,rfl,fun i hi=>absurd hi (Nat.not_lt_zero _),fun t _=>rfl⟩
  | succ k ih =>
   intro hk
   have hio:=List.getElem?_eq_getElem (show k<(onlyP (boxesOf is) is).length by omega)
   obtain⟨_,_,h3⟩:=hS k _ hio
   rw[h3,← hD k _ hio]
   have:=(ih (by omega)).put (i:=k) (fun j hj hne d hd=>honce k j d (Ne.symm hne) hd)
   refine⟨this.H,this.gen,this.lo,fun i hi=>this.did i (by rcases Nat.lt_or_ge i k with h|h;exact .inl h;exact .inr (by omega)),fun t ht=>this.not t (fun i hi=>ht i (by rcases hi with h|h<;>omega))⟩
 have hAll:∀ o,o∈onlyA is→(slotA o).isSome=true:=fun o ho=>(List.mem_filter.1 ho).2
 have hnd:(boxesOf is).Nodup:=filterMap_nodup is (fun i j p q d hi hj hij hp hq=>hord.once i j p q d hi hj hij (slotA_dst hq) (slotA_dst hp))
 obtain⟨a1,a2,a3,a4,a5⟩:=onlyA_ev (onlyA is) s2 s3 hAll (by rw[onlyA_boxes];exact hnd) h3
 rw[onlyA_boxes] at a4
 have hlenA:(onlyA is).length=(boxesOf is).length:=by rw[← onlyA_boxes,filterMap_len _ hAll]
 have hA3:∀ (i:Nat) (o:IOper) (d:Nat),is[i]?=some o→slotA o=some d→∃ (k:Nat),(boxesOf is)[k]?=some d∧s3.T d=.lbox (s2.gen+k) (zeroA o):=by
  intro i o d hi ho
  have hm:o∈onlyA is:=List.mem_filter.2 ⟨List.mem_of_getElem? hi,by simp[ho]⟩
  obtain⟨k,hk⟩:=List.mem_iff_getElem?.1 hm
  refine⟨k,?_,a5 k o d hk ho⟩
  rw[← onlyA_boxes,filterMap_at _ hAll,hk]
  exact ho
 have hSall:∀ o,o∈onlyS (boxesOf is) is→(slotS (boxesOf is) o).isSome=true:=fun o ho=>(List.mem_filter.1 ho).2
 have hat' : ∀ p,p∈onlyS (boxesOf is) is→∃ (i:Nat),is[i]?=some p:=fun p hp=>List.mem_iff_getElem?.1 (List.mem_filter.1 hp).1
 have hpw:is.Pairwise (fun p q=>∀ (d:Nat) (y:IArg) (e:Nat) (x:IArg),slotS (boxesOf is) p=some (d,y)→slotS (boxesOf is) q=some (e,x)→d≠e∧(∀ t,t∈y.tmps→t∉x.tmps)):=by
  rw[List.pairwise_iff_getElem]
  intro i j hi hj hij d y e x hp hq
  have e1:=List.getElem?_eq_getElem hi
  have e2:=List.getElem?_eq_getElem hj
  refine⟨hord.sOne i j _ _ d y e x e1 e2 (by omega) hp hq,fun t ht hm=>hord.sAlone i j _ _ d y e1 e2 (by omega) hp t ht ?_⟩
  obtain⟨_,sz,ho⟩:=slotS_inv hq
  rw[ho]
  simp[IOper.looks,IOp.tmps,hm]
 have hpwS:=hpw.filter (fun o=>(slotS (boxesOf is) o).isSome)
 rw[List.pairwise_iff_getElem] at hpwS
 obtain⟨e1,e2,e3,e4,e5⟩:=onlyS_ev (M:=boxesOf is) (onlyS (boxesOf is) is) s3 s' hSall (fun i j p q d y e x hi hj hij hp hq=>by
   obtain⟨hi',rfl⟩:=List.getElem?_eq_some_iff.1 hi
   obtain⟨hj',rfl⟩:=List.getElem?_eq_some_iff.1 hj
   rcases Nat.lt_or_gt_of_ne hij with h|h
   ·exact hpwS i j hi' hj' h d y e x hp hq
   ·have:=hpwS j i hj' hi' h e x d y hq hp
    exact⟨Ne.symm this.1,fun t h1 h2=>this.2 t h2 h1⟩)
  (fun p d y hp hs=>by
   obtain⟨i,hi⟩:=hat' p hp
   exact hord.sY i p d y hi hs)
  (fun d hd=>by
   obtain⟨i,o,hi,ho⟩:=of_boxes hd
   obtain⟨k,_,hk⟩:=hA3 i o d hi ho
   exact⟨_,_,hk⟩) h4
 refine⟨V,S,D,m1,m2,m3,m4,fun i io hi hp=>⟨hD i io (hDP i io hi hp),(hS i io (hDP i io hi hp)).1⟩,fun i hi=>?_,hDinv,hwritten,?_,a1,a2,by rw[a3,hlenA],a4,hA3,e1,e2,e3,fun t ht=>e4 t (fun p d y hp hs=>?_),fun i p d y hi hs=>e5 p d y ?_ hs⟩
 ·have hio:=List.getElem?_eq_getElem (show i<(onlyP (boxesOf is) is).length by omega)
  exact (hS i _ hio).2.1
 ·have:=hwritten _ (Nat.le_refl _)
  rw[← hlen,hn] at this
  rw[← hlen]
  exact this
 ·obtain⟨i,hi⟩:=hat' p hp
  exact ht i p d y hi hs
 ·exact List.mem_filter.2 ⟨List.mem_of_getElem? hi,by simp[hs]⟩
end Go.Abs
end
section
namespace Go.Abs
set_option linter.unusedSimpArgs false
set_option linter.unusedVariables false
section
variable {P:Program} {G:Nat→List AV} {base nt:Nat} {L:List Nat} {gh:Gh} {w w' : World} {a:Act} {s:AS} {H:AHeap}
theorem Pieces.last {cf:CallF} {ops:Array Oper} {is:List IOper} (hord:Order2 L ops is) {s s1 s2 s3 s' x:AS} {V:Nat→AV} {S:Nat→AS} {D:Nat→Option Nat} (hp:Pieces G cf is s s1 s2 s3 s' V S D)
  {H0:AHeap} {gh0:Gh} {w0:World} (hI:Inv G base nt L H0 gh0 w0 x gh w a) (hnt:∀ d,d∈boxesOf is→d<nt) (hx:Ag2 G is s s2 s3 D V (fun i=>i<is.length) x) (hg:x.gen≤s1.gen) :
  Inv G base nt L H0 gh0 w0 s' gh w a:=by
 have hnd:(boxesOf is).Nodup:=filterMap_nodup is (fun i j p q d hi hj hij hp hq=>hord.once i j p q d hi hj hij (slotA_dst hq) (slotA_dst hp))
 have lt:∀ {i:Nat} {o:IOper},is[i]?=some o→i<is.length:=fun h=>(List.getElem?_eq_some_iff.1 h).1
 obtain⟨x',r1,r2,r3,r4,r5,r6⟩:=Inv.renameAll (boxesOf is) x s1.gen hI hnd (fun d hd=>by
  refine⟨hnt d hd,?_⟩
  obtain⟨i,o,hi,ho⟩:=of_boxes hd
  by_cases hS:∃ (j:Nat) (p:IOper) (y:IArg),is[j]?=some p∧slotS (boxesOf is) p=some (d,y)
  ·obtain⟨j,p,y,hj,hs⟩:=hS
   obtain⟨g,_,z,vs,_,_,h⟩:=hx.bxS j p d y (lt hj) hj hs
   exact⟨_,_,h⟩
  ·obtain⟨g,h⟩:=hx.bxA i o d (lt hi) hi ho (fun j p e y _ hj hs hed=>hS ⟨j,p,y,hj,by rw[hs,hed]⟩)
   exact⟨_,_,h⟩) hg hord.some
 have h2H:s2.H=s.H:=by rw[hp.wr2.H,hp.H1]
 have h2lo:s2.lo=s.lo:=by rw[hp.wr2.lo,hp.lo1]
 have h2g:s2.gen=s1.gen:=hp.wr2.gen
 have eT:∀ t,x'.T t=s'.T t:=by
  intro t
  by_cases ht:t∈boxesOf is
  ·obtain⟨i,o,hi,ho⟩:=of_boxes ht
   obtain⟨k,hk,h3⟩:=hp.A3 i o t hi ho
   by_cases hS:∃ (j:Nat) (p:IOper) (y:IArg),is[j]?=some p∧slotS (boxesOf is) p=some (t,y)
   ·obtain⟨j,p,y,hj,hs⟩:=hS
    obtain⟨g,k',z,vs,e1,e2,e3⟩:=hx.bxS j p t y (lt hj) hj hs
    obtain⟨sz,g2,z2,vs2,_,f1,f2,_,_,_,f3,_⟩:=hp.S4 j p t y hj hs
    rw[e1] at f1
    injection f1 with f1 f1'
    rw[e2] at f2
    injection f2 with f2
    subst f1' f2
    rw[h3] at e1
    injection e1 with e1 _
    rw[r6 k t hk _ _ e3,f3,← f1,← e1,h2g]
   ·obtain⟨g,h⟩:=hx.bxA i o t (lt hi) hi ho (fun j p e y _ hj hs hed=>hS ⟨j,p,y,hj,by rw[hs,hed]⟩)
    rw[r6 k t hk _ _ h,hp.T4 t (fun j p d y hj hs=>⟨fun h=>hS ⟨j,p,y,hj,by rw[hs,h]⟩,fun hm=>hord.sY j p d y hj hs t hm ht⟩),h3,h2g]
  ·rw[r5 t ht]
   by_cases hsp:SpA (boxesOf is) is (fun i=>i<is.length) t
   ·rw[hx.spd t hsp]
    obtain⟨j,p,e,y,_,hj,hs,hm⟩:=hsp
    obtain⟨sz,g2,z2,vs2,_,_,_,_,_,_,_,f⟩:=hp.S4 j p e y hj hs
    rw[f t hm,hp.T3 t ht]
   ·rw[hp.T4 t (fun j p d y hj hs=>⟨fun h=>ht (h ▸ (slotS_inv hs).1),fun hm=>hsp ⟨j,p,d,y,lt hj,hj,hs,hm⟩⟩),hp.T3 t ht]
    by_cases hw:∃ i,D i=some t
    ·obtain⟨i,hi⟩:=hw
     obtain⟨q,hq,_,_⟩:=hp.Dinv i t hi
     rw[hx.did i (lt hq) t hi hsp,hp.wr2.did i (lt hq) t hi]
    ·rw[hx.not t ht (fun i _ h=>hw ⟨i,h⟩) hsp,hp.wr2.not t (fun i _ h=>hw ⟨i,h⟩),hp.T1,if_neg ht]
 have hx' : x'=s':=by
  have a1:x'.H=s'.H:=by rw[r2,hx.H,hp.H4,hp.H3,h2H]
  have a2:x'.lo=s'.lo:=by rw[r3,hx.lo,hp.lo4,hp.lo3,h2lo]
  have a3:x'.gen=s'.gen:=by rw[r4,hp.g4,hp.g3,h2g]
  have a4:x'.T=s'.T:=funext eT
  cases x';cases s'
  simp_all
 rw[← hx']
 exact r1
theorem draw2_sound {cf:CallF} (hcf:CallsSound P G cf) {H0:AHeap} {gh0:Gh} {w0:World} {takes locals muts:List Nat} {ops:Array Oper} (hLl:∀ x,x∈locals→x∈L) (hLm:∀ x,x∈muts→x∈L) (Q:Exit→Act→World→Prop)
  {is:List IOper} (hI:Inv G base nt L H0 gh0 w0 s gh w a) (hc:compOpers P takes locals muts nt ops ops.toList=some is) (hord:Order2 L ops is) {s1 s2 s3 s' : AS}
  (h1:evOps G cf false (maskOps (boxesOf is)) s=some s1) (h2:evOps G cf true (onlyP (boxesOf is) is) s1=some s2) (h3:evOps G cf false (onlyA is) s2=some s3) (h4:evOps G cf false (onlyS (boxesOf is) is) s3=some s')
  (hQ:∀ a' gh' w',Inv G base nt L H0 gh0 w0 s' gh' w' a'→Q .normal a' w'):wpAny P .any ops Q ops.size (Array.replicate ops.size false) a w:=by
 obtain⟨V,S,D,hp⟩:=pieces hord h1 h2 h3 h4
 obtain⟨hlen,hcomp⟩:=compOpers_inv hc
 have hDD:=hp.Dinv
 have honce:∀ i j d,i≠j→D i=some d→D j≠some d:=by
  intro i j d hij hi hj
  obtain⟨p,hp,_,hpd⟩:=hDD i d hi
  obtain⟨q,hq,_,hqd⟩:=hDD j d hj
  exact hord.once i j p q d hp hq hij hqd hpd
 have opAt:∀ {i:Nat} {o:IOper},is[i]?=some o→∃ o',ops[i]?=some o':=fun h=>⟨_,Array.getElem?_eq_getElem (by rw[hord.len];exact (List.getElem?_eq_some_iff.1 h).1)⟩
 have hnt:∀ d,d∈boxesOf is→d<nt:=by
  intro d hd
  obtain⟨i,io,hi,ho⟩:=of_boxes hd
  obtain⟨o,hio⟩:=opAt hi
  obtain⟨io',hi',hco⟩:=hcomp i o (by simpa using hio)
  rw[hi] at hi'
  injection hi' with hi'
  subst hi'
  obtain⟨_,_,hdst,hlt⟩:=compOper_inv hco
  exact hlt d (by rw[← hdst];exact slotA_dst ho)
 have hI0:=hI
 have main:∀ (n:Nat) (listed:Array Bool) (x:AS) (gh:Gh) (w:World) (a:Act),listed.size=ops.size→(∀ l:List Nat,l.Nodup→(∀ i,i∈l→i<ops.size∧listed.getD i true=false)→l.length≤n) →
   (∀ j o,ops[j]?=some o→listed.getD j false=true→∀ e,e∈o.after→Region.binds .any e=true→listed.getD e.on false=true) →
   (∀ l:List Nat,l.Nodup→(∀ i,i∈l→listed.getD i true=false∧∃ o,is[i]?=some o∧(slotA o).isSome=true)→x.gen+l.length≤s1.gen) →
   Ag2 G is s s2 s3 D V (fun i=>listed.getD i false=true) x→Inv G base nt L H0 gh0 w0 x gh w a→wpAny P .any ops Q n listed a w:=by
  intro n
  induction n with
  | zero =>
   intro listed x gh w a hsz hfew hclosed hgen hA hI
   have hall:∀ i,i<ops.size→listed.getD i false=true:=by
    intro i hi
    cases hb:listed.getD i true with
    | true =>
     have:i<listed.size:=by omega
     simpa [this] using hb
    | false =>
     have:=hfew [i] (by simp) (fun j hj=>by simp at hj;subst hj;exact⟨hi,hb⟩)
     simp at this
   have hready:Region.ready .any ops listed=[]:=by
    cases hr:Region.ready .any ops listed with
    | nil=>rfl
    | cons i r =>
     have hm:i∈Region.ready .any ops listed:=by rw[hr];exact List.mem_cons_self
     obtain⟨h1,o,h2,_⟩:=mem_ready.1 hm
     have hlt:=(Array.getElem?_eq_some_iff.1 h2).1
     have:=hall i hlt
     have hlt' : i<listed.size:=by omega
     simp[hlt'] at this h1
     rw[this] at h1
     cases h1
   refine⟨hready,hQ a gh w (hp.last hord hI hnt ?_ (by simpa using hgen [] (by simp) (by simp)))⟩
   have hiff:(fun i=>listed.getD i false=true)=fun i=>i<is.length:=by
    funext i
    refine propext ⟨fun h=>?_,fun h=>hall i (by rw[hord.len];exact h)⟩
    have hlt:i<listed.size:=by
     rcases Nat.lt_or_ge i listed.size with h'|h'
     ·exact h'
     ·simp[Array.getElem?_eq_none h'] at h
    rw[← hord.len];omega
   rw[hiff] at hA
   exact hA
  | succ n ih =>
   intro listed x gh w a hsz hfew hclosed hgen hA hI
   refine⟨fun hready=>?_,fun i hi=>?_⟩
   ·have hall:∀ i,i<ops.size→listed.getD i false=true:=by
     intro i
     induction i using Nat.strongRecOn with
     | _ i ihi =>
      intro hlt
      have hlt' : i<listed.size:=by omega
      cases hb:listed.getD i true with
      | true=>simpa [hlt'] using hb
      | false =>
       exfalso
       have ho:=Array.getElem?_eq_getElem hlt
       have:i∈Region.ready .any ops listed:=mem_ready.2 ⟨hb,_,ho,fun e he hbind=>by
        have hlt2:=hord.back i _ ho e he hbind
        exact ihi e.on hlt2 (by omega)⟩
       rw[hready] at this
       cases this
    refine hQ a gh w (hp.last hord hI hnt ?_ (by simpa using hgen [] (by simp) (by simp)))
    have hiff:(fun i=>listed.getD i false=true)=fun i=>i<is.length:=by
     funext i
     refine propext ⟨fun h=>?_,fun h=>hall i (by rw[hord.len];exact h)⟩
     have hlt:i<listed.size:=by
      rcases Nat.lt_or_ge i listed.size with h'|h'
      ·exact h'
      ·simp[Array.getElem?_eq_none h'] at h
     rw[← hord.len];omega
    rw[hiff] at hA
    exact hA
   ·obtain⟨hun,o,ho,hafter⟩:=mem_ready.1 hi
    have hlt:=(Array.getElem?_eq_some_iff.1 ho).1
    have hlt' : i<listed.size:=by omega
    obtain⟨io,hio,hco⟩:=hcomp i o (by simpa using ho)
    have hilt:i<is.length:=by rw[← hord.len];exact hlt
    have hunA:¬ (listed.getD i false=true):=by
     simp[hlt'] at hun ⊢
     exact hun
    have hdst:=(compOper_inv hco).2.2.1
    have hset:∀ j,(listed.setIfInBounds i true).getD j false=true↔(listed.getD j false=true∨j=i):=by
     intro j
     by_cases hji:i=j
     ·subst hji
      simp[hlt']
     ·rw[getD_set_ne false hji]
      simp[Ne.symm hji]
    have hsetF:(fun j=>(listed.setIfInBounds i true).getD j false=true)=fun j=>listed.getD j false=true∨j=i:=funext fun j=>propext (hset j)
    have hback:∀ l:List Nat,(∀ j,j∈l→(listed.setIfInBounds i true).getD j true=false)→i∉l∧∀ j,j∈l→listed.getD j true=false:=by
     intro l hl
     have hil:i∉l:=by
      intro hm
      have:=hl i hm
      simp[hlt'] at this
     refine⟨hil,fun j hj=>?_⟩
     have h1:=hl j hj
     have hji:i≠j:=by rintro rfl;exact hil hj
     rw[getD_set_ne true hji] at h1
     exact h1
    have go:∀ (x' : AS) (gh' : Gh) (w' : World) (a' : Act),Ag2 G is s s2 s3 D V (fun j=>listed.getD j false=true∨j=i) x'→Inv G base nt L H0 gh0 w0 x' gh' w' a' →
      (x'.gen=x.gen∨(x'.gen=x.gen+1∧(slotA io).isSome=true))→wpAny P .any ops Q n (listed.setIfInBounds i true) a' w':=by
     intro x' gh' w' a' hA' hI' hg'
     refine ih (listed.setIfInBounds i true) x' gh' w' a' (by simpa using hsz) (fun l hnd hl=>?_) (fun j o' ho' hj e he hbind=>?_) (fun l hnd hl=>?_) (by rw[hsetF];exact hA') hI'
     ·obtain⟨hil,hl'⟩:=hback l (fun j hj=>(hl j hj).2)
      have:=hfew (i :: l) (List.nodup_cons.2 ⟨hil,hnd⟩) (fun j hj=>by
       rcases List.mem_cons.1 hj with rfl|hj
       ·exact⟨hlt,hun⟩
       ·exact⟨(hl j hj).1,hl' j hj⟩)
      simp at this
      omega
     ·rcases (hset j).1 hj with h|rfl
      ·exact (hset _).2 (.inl (hclosed j o' ho' h e he hbind))
      ·rw[ho] at ho'
       injection ho' with ho'
       subst ho'
       exact (hset _).2 (.inl (hafter e he hbind))
     ·obtain⟨hil,hl'⟩:=hback l (fun j hj=>(hl j hj).1)
      rcases hg' with hg'|⟨hg',hisA⟩
      ·rw[hg']
       exact hgen l hnd (fun j hj=>⟨hl' j hj,(hl j hj).2⟩)
      ·have:=hgen (i :: l) (List.nodup_cons.2 ⟨hil,hnd⟩) (fun j hj=>by
        rcases List.mem_cons.1 hj with rfl|hj
        ·exact⟨hun,io,hio,hisA⟩
        ·exact⟨hl' j hj,(hl j hj).2⟩)
       simp at this
       omega
    have waits:∀ (j:Nat) (q:IOper) (t:Nat),is[j]?=some q→i≠j→q.dst=some t→t∈io.looks→j<i→listed.getD j false=true:=by
     intro j q t hq hij hqd ht hji
     obtain⟨o',ho'⟩:=opAt hq
     rcases hord.look i j o o' io q t ho ho' hio hq hij hqd ht with ⟨_,e,he,hbind,hon⟩|⟨hij',_⟩
     ·have:=hafter e he hbind
      rw[hon] at this
      exact this
     ·omega
    have stored:∀ (j:Nat) (p q:IOper) (d t k:Nat) (y:IArg),listed.getD j false=true→is[j]?=some p→slotS (boxesOf is) p=some (d,y)→is[k]?=some q→q.dst=some t→t=d∨t∈y.tmps→listed.getD k false=true:=by
     intro j p q d t k y hj hp' hs hq hqd ht
     obtain⟨oj,hoj⟩:=opAt hp'
     obtain⟨ok,hok⟩:=opAt hq
     have hkj:=hord.sBack j k p q d y t hp' hq hs hqd ht
     have hlk:t∈p.looks:=by
      obtain⟨_,sz,hpo⟩:=slotS_inv hs
      rw[hpo]
      rcases ht with rfl|ht
      ·simp[IOper.looks,IOp.tmps,IArg.tmps]
      ·simp[IOper.looks,IOp.tmps,ht]
     rcases hord.look j k oj ok p q t hoj hok hp' hq (by omega) hqd hlk with ⟨_,e,he,hbind,hon⟩|⟨h,_⟩
     ·have:=hclosed j oj hoj hj e he hbind
      rw[hon] at this
      exact this
     ·omega
    unfold wpOp
    rw[ho]
    cases hP:isP (boxesOf is) io with
    | true =>
     obtain⟨hDi,hevi⟩:=hp.DP i io hio hP
     have hAi:=hp.wr i (by omega)
     have hsame:Same (S i) x io.looks:=by
      refine⟨by rw[hAi.H,hp.H1,hA.H],fun t ht=>?_,fun b=>?_⟩
      ·have htM:=hord.hide i io hio hP t ht
       have hns:¬ SpA (boxesOf is) is (fun j=>listed.getD j false=true) t:=by
        rintro ⟨j,p,e,y,hj,hp',hs,hm⟩
        have hji:j≠i:=by rintro rfl;exact hunA hj
        exact hord.sAlone j i p io e y hp' hio hji hs t hm ht
       by_cases hw:∃ j,D j=some t
       ·obtain⟨j,hj⟩:=hw
        have uniq:∀ k,D k=some t→k=j:=by
         intro k hk
         by_cases hkj:k=j
         ·exact hkj
         ·exact absurd hj (honce k j t hkj hk)
        obtain⟨q,hq,_,hqd⟩:=hDD j t hj
        by_cases hij:i=j
        ·subst hij
         rw[hAi.not t (fun k hk hd=>by have:=uniq k hd;omega),hA.not t htM (fun k hk hd=>by rw[uniq k hd] at hk;exact hunA hk) hns,hp.T1,if_neg htM]
        ·obtain⟨o',ho'⟩:=opAt hq
         rcases hord.look i j o o' io q t ho ho' hio hq hij hqd ht with ⟨hji,e,he,hbind,hon⟩|⟨hji,e,he,hbind,hon⟩
         ·have hjA:=hafter e he hbind
          rw[hon] at hjA
          rw[hAi.did j hji t hj,hA.did j hjA t hj hns]
         ·have hjA:¬ (listed.getD j false=true):=by
           intro h
           have:=hclosed j o' ho' h e he hbind
           rw[hon] at this
           exact hunA this
          rw[hAi.not t (fun k hk hd=>by have:=uniq k hd;omega),hA.not t htM (fun k hk hd=>by rw[uniq k hd] at hk;exact hjA hk) hns,hp.T1,if_neg htM]
       ·rw[hAi.not t (fun k _ hd=>hw ⟨k,hd⟩),hA.not t htM (fun k _ hd=>hw ⟨k,hd⟩) hns,hp.T1,if_neg htM]
      ·by_cases hw:∃ j,D j=some b
       ·obtain⟨j,hj⟩:=hw
        obtain⟨q,hq,hqP,hqd⟩:=hDD j b hj
        have hbL:=hord.notL j q b hq hqP hqd
        have hbM:b∉boxesOf is:=fun h=>hbL (hord.inL b h)
        have hsb:genOf (s.T b)=none:=by
         cases hg:genOf (s.T b) with
         | none=>rfl
         | some k=>exact absurd (hI0.F.obj b (by rw[hg];rfl)) hbL
        refine .inr ?_
        by_cases hji:j<i
        ·rw[hAi.did j hji b hj];exact hp.gV j (by omega)
        ·rw[hAi.not b (fun k hk hd=>by
          by_cases hkj:k=j
          ·omega
          ·exact honce k j b hkj hd hj),hp.T1,if_neg hbM]
         exact hsb
       ·have e1:(S i).T b=s1.T b:=hAi.not b (fun k _ hd=>hw ⟨k,hd⟩)
        by_cases hbM:b∈boxesOf is
        ·refine .inr ?_
         rw[e1,hp.T1,if_pos hbM]
         rfl
        ·rw[e1,hp.T1,if_neg hbM]
         by_cases hns:SpA (boxesOf is) is (fun j=>listed.getD j false=true) b
         ·rw[hA.spd b hns,hp.wr2.not b (fun k _ hd=>hw ⟨k,hd⟩),hp.T1,if_neg hbM]
          generalize s.T b=X
          cases X<;>first|exact .inr rfl|exact .inl rfl
         ·exact .inl (hA.not b hbM (fun k _ hd=>hw ⟨k,hd⟩) hns).symm
     have hev:=evVal_congr hsame (fun t h=>h) hevi
     refine oper_step hcf hI hco hLl hLm hev _ Q (fun a' gh' w' hI'=>?_)
     rw[← hdst,← hDi] at hI'
     refine go _ gh' w' a' (hA.pure hord hio hP hDi hDD (fun j p d y t hj hp' hs ht hd=>hunA (stored j p io d t i y hj hp' hs hio hd (.inr ht)))) hI' (.inl (putD_T _ _ _).2.1)
    | false =>
     cases hsA:slotA io with
     | some d =>
      have hioA:=slotA_inv hsA
      have hev:evVal G cf false x io=some (.lbox x.gen (zeroA io),{ x with gen:=x.gen+1 }):=by
       rw[hioA]
       simp[evVal,evOp,zeroA]
      refine oper_step hcf hI hco hLl hLm hev _ Q (fun a' gh' w' hI'=>?_)
      rw[← hdst,slotA_dst hsA] at hI'
      refine go _ gh' w' a' (hA.alloc hord hio hsA hDD (fun j p e y hj hp' hs hed=>hunA (stored j p io e d i y hj hp' hs hio (slotA_dst hsA) (.inl hed.symm)))) hI' (.inr ⟨(putD_T _ _ _).2.1,by simp[hsA]⟩)
     | none =>
      have hsS:(slotS (boxesOf is) io).isSome=true:=by
       cases hs:slotS (boxesOf is) io with
       | some _=>rfl
       | none=>simp[isP,hsA,hs] at hP
      obtain⟨⟨d,y⟩,hs⟩:=Option.isSome_iff_exists.1 hsS
      obtain⟨sz,g2,z2,vs,f0,f1,f2,f3,f4,f5,_,_⟩:=hp.S4 i io d y hio hs
      have hdM:=(slotS_inv hs).1
      have hyM:=hord.sY i io d y hio hs
      obtain⟨i0,q0,hi0,hq0⟩:=of_boxes hdM
      have hdl:d∈io.looks:=by rw[f0];simp[IOper.looks,IOp.tmps,IArg.tmps]
      have hyl:∀ t,t∈y.tmps→t∈io.looks:=fun t ht=>by rw[f0];simp[IOper.looks,IOp.tmps,ht]
      have hi0i:=hord.sBack i i0 io q0 d y d hio hi0 hs (slotA_dst hq0) (.inl rfl)
      have hA0:=waits i0 q0 d hi0 (by omega) (slotA_dst hq0) hdl hi0i
      obtain⟨g,hxd⟩:=hA.bxA i0 q0 d hA0 hi0 hq0 (fun j p e y' hj hp' hs' hed=>by
       have hji:j≠i:=by rintro rfl;exact hunA hj
       exact hord.sOne j i p io e y' d y hp' hio hji hs' hs hed)
      obtain⟨k0,_,h3d⟩:=hp.A3 i0 q0 d hi0 hq0
      have hz:z2=zeroA q0:=by
       rw[h3d] at f1
       injection f1 with _ f1
       exact f1.symm
      subst hz
      have hy2:∀ t,t∈y.tmps→x.T t=s2.T t:=by
       intro t ht
       have htM:=hyM t ht
       have hns:¬ SpA (boxesOf is) is (fun j=>listed.getD j false=true) t:=by
        rintro ⟨j,p,e,y',hj,hp',hs',hm⟩
        have hji:j≠i:=by rintro rfl;exact hunA hj
        exact hord.sAlone j i p io e y' hp' hio hji hs' t hm (hyl t ht)
       by_cases hw:∃ j,D j=some t
       ·obtain⟨j,hj⟩:=hw
        obtain⟨q,hq,hqP,hqd⟩:=hDD j t hj
        have hji:=hord.sBack i j io q d y t hio hq hs hqd (.inr ht)
        rw[hA.did j (waits j q t hq (by omega) hqd (hyl t ht) hji) t hj hns,hp.wr2.did j (List.getElem?_eq_some_iff.1 hq).1 t hj]
       ·rw[hA.not t htM (fun k _ hd=>hw ⟨k,hd⟩) hns,hp.wr2.not t (fun k _ hd=>hw ⟨k,hd⟩),hp.T1,if_neg htM]
      have hye:y.eval G x.T=y.eval G s3.T:=(eval_eq fun t ht=>by rw[hy2 t ht,hp.T3 t (hyM t ht)])
      have hev:evVal G cf false x io=some (.undef,(x.setT d (.lbox g (putAt (zeroA q0) 0 vs))).spent y):=by
       rw[f0]
       simp only[evVal]
       rw[store_back hxd (by rw[hye];exact f2) f3 f4 f5]
       rfl
      refine oper_step hcf hI hco hLl hLm hev _ Q (fun a' gh' w' hI'=>?_)
      have hd0:o.dst=none:=by rw[← hdst,f0]
      rw[hd0] at hI'
      refine go _ gh' w' a' (hA.store hord hio hs hDD hunA f1 f2 hy2) hI' (.inl (by rw[(spent_H' _ _).2.1];rfl))
 refine main ops.size _ s gh w a (by simp) (fun l hnd hl=>?_) (fun j o hj h=>?_) (fun l hnd hl=>?_) ?_ hI
 ·exact nodup_len ops.size l hnd (fun i hi=>(hl i hi).1)
 ·exfalso
  have:(Array.replicate ops.size false).getD j false=false:=by
   by_cases h:j<ops.size<;>simp[h]
  rw[this] at h
  cases h
 ·rw[hp.g1]
  have key:(l.map fun i=>((is[i]?).bind slotA).getD 0).length≤(boxesOf is).length:=by
   refine nodup_sub _ _ ?_ (fun d hd=>?_)
   ·rw[List.nodup_iff_pairwise_ne,List.pairwise_map]
    refine List.Pairwise.imp_of_mem ?_ (List.nodup_iff_pairwise_ne.1 hnd)
    intro i j hi hj hij hd
    obtain⟨_,p,hp',hpA⟩:=hl i hi
    obtain⟨_,q,hq,hqA⟩:=hl j hj
    obtain⟨d,hpd⟩:=Option.isSome_iff_exists.1 hpA
    obtain⟨e,hqe⟩:=Option.isSome_iff_exists.1 hqA
    simp only[hp',hq,Option.bind_some,hpd,hqe,Option.getD_some] at hd
    subst hd
    exact hord.once i j p q d hp' hq hij (slotA_dst hqe) (slotA_dst hpd)
   ·obtain⟨i,hi,rfl⟩:=List.mem_map.1 hd
    obtain⟨_,p,hp',hpA⟩:=hl i hi
    obtain⟨d,hpd⟩:=Option.isSome_iff_exists.1 hpA
    simp only[hp',Option.bind_some,hpd,Option.getD_some]
    exact mem_boxes hp' hpd
  simp only[List.length_map] at key
  omega
 ·have hno:∀ i,¬ ((Array.replicate ops.size false).getD i false=true):=by
   intro i h
   have:(Array.replicate ops.size false).getD i false=false:=by
    by_cases h:i<ops.size<;>simp[h]
   rw[this] at h
   cases h
  exact⟨rfl,rfl,fun i hi=>absurd hi (hno i),fun t _ _ _=>rfl,fun t ht=>by obtain⟨j,_,_,_,hj,_⟩:=ht;exact absurd hj (hno j),fun i _ _ hi=>absurd hi (hno i),fun j _ _ _ hj=>absurd hj (hno j)⟩
end
end Go.Abs
end
