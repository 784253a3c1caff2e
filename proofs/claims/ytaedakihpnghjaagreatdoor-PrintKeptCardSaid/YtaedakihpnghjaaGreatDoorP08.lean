/-
  A part of the proof of PrintKept: AbsRun, AbsDraw, AbsDraw2.
-/
import Derived.LoopN
import Derived.Scope
import Derived.Tactics
import Derived.Orders
import Derived.Test.YtaedakihpnghjaaGreatDoorP07
set_option linter.unusedSimpArgs false
set_option linter.unusedVariables false
section
namespace Go.Abs
set_option linter.unusedSimpArgs false
set_option linter.unusedVariables false
structure LoInv (H0:AHeap) (s:AS):Prop where
 lo:s.lo≤H0.length
 len:H0.length≤s.H.length
 same:∀ l,l<s.lo→s.H[l]?=H0[l]?
def ChgGood (s:AS) (c:Chg):Prop:=s.H.length≤c.heap.length∧∀ l,l<c.lo→c.heap[l]?=s.H[l]?
theorem LoInv.chg {H0:AHeap} {s:AS} (h:LoInv H0 s) {c:Chg} (hc:ChgGood s c):LoInv H0 (s.chg c):=by
 have e:(s.chg c).lo=if c.lo<s.lo then c.lo else s.lo:=by
  simp only[AS.chg]
  by_cases hb:c.lo<s.lo
  ·rw[if_pos hb,show Nat.blt c.lo s.lo=true by simpa [Nat.blt_eq] using hb];rfl
  ·rw[if_neg hb,show Nat.blt c.lo s.lo=false by simpa [← Bool.not_eq_true,Nat.blt_eq] using hb];rfl
 have:=h.lo
 refine⟨?_,Nat.le_trans h.len hc.1,fun l hl=>?_⟩
 ·rw[e];split<;>omega
 ·rw[e] at hl
  have h1:l<c.lo∧l<s.lo:=by split at hl<;>omega
  exact (hc.2 l h1.1).trans (h.same l h1.2)
theorem LoInv.same_HL {H0:AHeap} {s s' : AS} (h:LoInv H0 s) (hH:s'.H=s.H) (hl:s'.lo=s.lo):LoInv H0 s' :=
 ⟨by rw[hl];exact h.lo,by rw[hH];exact h.len,fun l hl'=>by rw[hH];exact h.same l (by rw[← hl];exact hl')⟩
theorem good_set (s:AS) (loc:Nat) (o:AObj):ChgGood s ⟨s.H.set loc o,loc⟩:=⟨by simp,fun l hl=>by simp only at hl ⊢;rw[List.getElem?_set_ne (by omega)]⟩
theorem good_dead (s:AS) (loc:Nat) (hl:loc<s.H.length) (o:AObj):ChgGood s ⟨s.H.set loc .dead++[o],loc⟩:=⟨by simp,fun l hl'=>by
 simp only at hl' ⊢
 rw[List.getElem?_append_left (by simp;omega),List.getElem?_set_ne (by omega)]⟩
theorem good_push (s:AS) (o:AObj):ChgGood s ⟨s.H++[o],s.H.length⟩:=⟨by simp,fun l hl=>by simp only at hl ⊢;rw[List.getElem?_append_left hl]⟩
theorem evOp_lo {G:Nat→List AV} {cf:CallF} (hcf:∀ f args H r c,cf f args H=some (r,c)→ChgOK H c) {H0:AHeap} {s s' : AS} {o:IOp} {z:AV} (he:evOp G cf s o=some (z,some s')) (h:LoInv H0 s):LoInv H0 s':=by
 have sT:∀ t X,LoInv H0 (s.setT t X):=fun t X=>h.same_HL rfl rfl
 cases o with
 | mov take obj x =>
  cases x<;>simp only[evOp,evMov] at he<;>try (cases he;done)
  split at he
  ·cases he
  ·cases take
   ·cases he
   ·cases obj
    ·simp only[cond_true,cond_false] at he
     obtain⟨_,he⟩:=cond_some he
     simp only[Option.some.injEq,Prod.mk.injEq] at he
     rw[← he.2];exact sT _ _
    ·simp only[cond_true,Option.some.injEq,Prod.mk.injEq] at he
     rw[← he.2];exact h.same_HL rfl rfl
  ·simp only[Option.some.injEq,Prod.mk.injEq] at he
   obtain⟨_,he⟩:=he
   obtain⟨_,he⟩:=cond_some he
   injection he with he
   rw[← he];exact sT _ _
  ·cases he
  ·cases he
 | chk c x=>simp only[evOp] at he;obtain⟨_,he⟩:=cond_some he;simp at he
 | boxL x =>
  simp only[evOp,Option.map_eq_some_iff,Prod.mk.injEq,Option.some.injEq] at he
  obtain⟨cs,_,_,rfl⟩:=he
  exact h.same_HL rfl rfl
 | allocL z0 =>
  simp only[evOp,Option.some.injEq,Prod.mk.injEq] at he
  rw[← he.2];exact h.same_HL rfl rfl
 | allocH ty z0 =>
  simp only[evOp,Option.some.injEq,Prod.mk.injEq] at he
  rw[← he.2];exact h.chg (good_push s _)
 | box ty x =>
  simp only[evOp,Option.bind_eq_some_iff] at he
  obtain⟨cs,_,he⟩:=he
  obtain⟨_,he⟩:=cond_some he
  simp only[Option.some.injEq,Prod.mk.injEq] at he
  rw[← he.2];exact h.chg (good_push s _)
 | boxO x =>
  simp only[evOp,Option.bind_eq_some_iff] at he
  obtain⟨cs,_,he⟩:=he
  obtain⟨_,he⟩:=cond_some he
  simp only[Option.some.injEq,Prod.mk.injEq] at he
  rw[← he.2];exact h.chg (good_push s _)
 | copyO x y =>
  simp only[evOp,evCopyO] at he
  split at he
  ·split at he
   ·obtain⟨_,he⟩:=cond_some he
    simp only[Option.some.injEq,Prod.mk.injEq] at he
    rw[← he.2];exact h.chg (good_set s _ _)
   ·cases he
  ·simp at he
  ·cases he
 | nilS=>simp[evOp] at he
 | load take agg sz x =>
  simp only[evOp,loadAV] at he
  split at he
  ·simp at he
  ·split at he
   ·simp only[Option.map_eq_some_iff,Prod.mk.injEq] at he
    obtain⟨u,_,_,he⟩:=he
    obtain⟨_,he⟩:=cond_some he
    injection he with he
    rw[← he];exact h.chg (good_set s _ _)
   ·simp at he
   ·simp at he
   ·cases he
  ·split at he
   ·obtain⟨_,he⟩:=cond_some he
    simp only[Option.map_eq_some_iff,Prod.mk.injEq] at he
    obtain⟨u,_,_,he⟩:=he
    obtain⟨_,he⟩:=cond_some he
    injection he with he
    rw[← he];exact sT _ _
   ·cases he
  ·split at he
   ·obtain⟨_,he⟩:=cond_some he
    simp only[Option.bind_eq_some_iff] at he
    obtain⟨r,_,he⟩:=he
    obtain⟨_,he⟩:=cond_some he
    simp at he
   ·cases he
  ·cases he
 | store sz x y =>
  simp only[evOp,Option.map_eq_some_iff,Prod.mk.injEq,Option.some.injEq] at he
  obtain⟨s1,he,_,rfl⟩:=he
  have h1:LoInv H0 s1:=by
   unfold storeAV at he
   split at he
   ·cases he
   obtain⟨_,he⟩:=cond_some he
   split at he
   ·split at he
    ·obtain⟨_,he⟩:=cond_some he
     injection he with he
     rw[← he];exact h.chg (good_set s _ _)
    ·obtain⟨_,he⟩:=cond_some he
     injection he with he
     rw[← he];exact h.chg (good_set s _ _)
    ·cases he
   ·split at he
    ·obtain⟨_,he⟩:=cond_some he
     injection he with he
     rw[← he];exact sT _ _
    ·cases he
   ·split at he
    ·obtain⟨_,he⟩:=cond_some he
     simp only[Option.bind_eq_some_iff] at he
     obtain⟨r,_,he⟩:=he
     obtain⟨_,he⟩:=cond_some he
     injection he with he
     rw[← he];exact sT _ _
    ·cases he
   ·cases he
  exact h1.same_HL (spent_H _ _).1 (spent_H _ _).2.2
 | append isB wr sz bytes x y =>
  simp only[evOp,evAppend] at he
  split at he
  ·split at he
   ·simp only[Option.bind_eq_some_iff] at he
    obtain⟨f,_,he⟩:=he
    obtain⟨_,he⟩:=cond_some he
    simp only[Option.some.injEq,Prod.mk.injEq] at he
    rw[← he.2];exact h.same_HL rfl rfl
   ·cases wr
    ·simp only[cond_false,Option.map_eq_some_iff,Prod.mk.injEq,Option.some.injEq] at he
     obtain⟨_,_,_,rfl⟩:=he
     exact sT _ _
    ·simp only[cond_true,Option.bind_eq_some_iff] at he
     obtain⟨f,_,he⟩:=he
     obtain⟨_,he⟩:=cond_some he
     simp only[Option.some.injEq,Prod.mk.injEq] at he
     rw[← he.2];exact h.same_HL rfl rfl
   ·cases wr
    ·simp only[cond_false,Option.map_eq_some_iff,Prod.mk.injEq,Option.some.injEq] at he
     obtain⟨_,_,_,rfl⟩:=he
     exact h
    ·simp only[cond_true,Option.bind_eq_some_iff] at he
     obtain⟨f,_,he⟩:=he
     obtain⟨_,he⟩:=cond_some he
     simp only[Option.some.injEq,Prod.mk.injEq] at he
     rw[← he.2];exact h.same_HL rfl rfl
   ·cases he
  ·cases wr
   ·simp at he
   ·cases he
 | call f args =>
  simp only[evOp] at he
  split at he
  ·obtain⟨_,he⟩:=cond_some he
   simp only[Option.map_eq_some_iff,Prod.mk.injEq] at he
   obtain⟨⟨r,c⟩,hr,_,he⟩:=he
   simp only[Option.map_eq_some_iff] at he
   obtain⟨c',rfl,rfl⟩:=he
   obtain⟨h1,h2⟩:=hcf _ _ _ _ _ hr
   exact h.chg ⟨by simp only[newH] at h1;omega,(h2 c' rfl).2⟩
  ·cases he
 | callT f pre x post =>
  simp only[evOp] at he
  obtain⟨_,he⟩:=cond_some he
  simp only[Option.bind_eq_some_iff,Option.map_eq_some_iff,Prod.mk.injEq,Option.some.injEq] at he
  obtain⟨⟨xv,s1⟩,hx,⟨r,c⟩,hr,_,rfl⟩:=he
  have h1:LoInv H0 s1∧s1.H=s.H:=by
   unfold giveX at hx
   split at hx
   ·split at hx
    ·simp only[Option.some.injEq,Prod.mk.injEq] at hx
     obtain⟨_,rfl⟩:=hx
     exact⟨sT _ _,rfl⟩
    ·cases hx
   ·split at hx
    ·simp only[Option.some.injEq,Prod.mk.injEq] at hx
     obtain⟨_,rfl⟩:=hx
     exact⟨h,rfl⟩
    ·cases hx
   ·cases hx
  obtain⟨k1,k2⟩:=hcf _ _ _ _ _ hr
  cases c with
  | none=>exact h1.1
  | some c' =>
   refine h1.1.chg ⟨?_,?_⟩
   ·have:=h1.1.len;simp only[newH] at k1;rw[h1.2];omega
   ·rw[h1.2];exact (k2 c' rfl).2
 | pick=>simp only[evOp] at he;split at he<;>simp at he
 | build=>simp[evOp] at he
 | mkslice =>
  simp only[evOp,Option.bind_eq_some_iff] at he
  obtain⟨_,_,he⟩:=he
  obtain⟨_,he⟩:=cond_some he
  simp at he
 | nilCheck=>simp only[evOp] at he;obtain⟨_,he⟩:=cond_some he;simp at he
 | bin=>simp[evOp] at he
 | un=>simp[evOp] at he
 | mm=>simp[evOp] at he
 | conv=>simp[evOp] at he
 | mkiface=>simp[evOp] at he
 | slice=>simp[evOp] at he
 | fieldAddr=>simp only[evOp] at he;obtain⟨_,he⟩:=cond_some he;simp at he
 | field=>simp only[evOp] at he;split at he<;>simp at he
 | ixSl =>
  simp only[evOp] at he
  split at he
  ·simp only[Option.bind_eq_some_iff] at he
   obtain⟨_,_,_,_,he⟩:=he
   obtain⟨_,he⟩:=cond_some he
   simp at he
  ·simp only[Option.bind_eq_some_iff] at he
   obtain⟨_,_,he⟩:=he
   obtain⟨_,he⟩:=cond_some he
   simp at he
  ·split at he
   ·obtain⟨_,he⟩:=cond_some he
    simp only[Option.bind_eq_some_iff] at he
    obtain⟨_,_,_,_,he⟩:=he
    obtain⟨_,he⟩:=cond_some he
    simp at he
   ·cases he
  ·cases he
 | ixArr =>
  simp only[evOp,Option.bind_eq_some_iff] at he
  obtain⟨_,_,he⟩:=he
  obtain⟨_,he⟩:=cond_some he
  simp at he
 | index =>
  simp only[evOp,Option.bind_eq_some_iff] at he
  obtain⟨_,_,he⟩:=he
  obtain⟨_,he⟩:=cond_some he
  split at he<;>simp at he
 | indexStr =>
  simp only[evOp] at he
  split at he
  ·simp only[Option.bind_eq_some_iff,Option.map_eq_some_iff,Prod.mk.injEq] at he
   obtain⟨_,_,_,_,_,he⟩:=he
   cases he
  ·cases he
 | extract=>simp only[evOp] at he;split at he<;>simp at he
 | len =>
  simp only[evOp] at he
  split at he
  ·split at he
   ·obtain⟨_,he⟩:=cond_some he
    simp at he
   ·cases he
  ·simp at he
 | mkfunc=>simp only[evOp] at he;obtain⟨_,he⟩:=cond_some he;simp at he
 | callP f xs =>
  simp only[evOp] at he
  split at he
  ·obtain⟨_,he⟩:=cond_some he
   simp only[Option.bind_eq_some_iff] at he
   obtain⟨r,_,he⟩:=he
   split at he<;>simp at he
  ·cases he
 | appendO sz bytes x y =>
  simp only[evOp,evAppendO,Option.bind_eq_some_iff] at he
  obtain⟨f,_,he⟩:=he
  split at he
  ·obtain⟨_,he⟩:=cond_some he
   simp only[Option.some.injEq,Prod.mk.injEq] at he
   rw[← he.2];exact h.chg (good_push s _)
  ·obtain⟨_,he⟩:=cond_some he
   simp only[Option.some.injEq,Prod.mk.injEq] at he
   rw[← he.2];exact h.chg (good_push s _)
  ·split at he
   ·rename_i hH
    obtain⟨_,he⟩:=cond_some he
    simp only[Option.some.injEq,Prod.mk.injEq] at he
    rw[← he.2];exact h.chg (good_dead s _ (List.getElem?_eq_some_iff.1 hH).1 _)
   ·cases he
  ·cases he
 | mksliceO sz zs ps =>
  simp only[evOp,Option.bind_eq_some_iff] at he
  obtain⟨f,_,he⟩:=he
  obtain⟨_,he⟩:=cond_some he
  simp only[Option.some.injEq,Prod.mk.injEq] at he
  rw[← he.2];exact h.chg (good_push s _)
 | mkarr sz bytes zero n =>
  simp only[evOp,evMkarr,Option.bind_eq_some_iff] at he
  obtain⟨f,_,he⟩:=he
  obtain⟨_,he⟩:=cond_some he
  simp only[Option.some.injEq,Prod.mk.injEq] at he
  rw[← he.2];exact h.chg (good_push s _)
 | mkmap kz ka va =>
  simp only[evOp,Option.some.injEq,Prod.mk.injEq] at he
  rw[← he.2];exact h.chg (good_push s _)
 | look ok kz ka va ks zero m k =>
  simp only[evOp,evLook,Option.bind_eq_some_iff] at he
  obtain⟨_,_,he⟩:=he
  obtain⟨_,he⟩:=cond_some he
  split at he
  ·simp at he
  ·obtain⟨_,he⟩:=cond_some he
   simp at he
  ·simp only[Option.bind_eq_some_iff,Option.map_eq_some_iff,Prod.mk.injEq,reduceCtorEq,and_false,exists_false] at he
 | lookT kz ka ks zero m k =>
  simp only[evOp,evLookT] at he
  split at he
  ·split at he
   ·simp only[Option.bind_eq_some_iff] at he
    obtain⟨_,_,he⟩:=he
    obtain⟨_,he⟩:=cond_some he
    simp only[Option.bind_eq_some_iff] at he
    obtain⟨o,_,he⟩:=he
    cases o with
    | none=>simp at he
    | some i =>
     simp only[Option.map_eq_some_iff,Prod.mk.injEq,Option.some.injEq] at he
     obtain⟨_,_,_,he⟩:=he
     rw[← he];exact h.chg (good_set s _ _)
   ·cases he
  ·cases he
 | mset kz ka va vz ks m k v =>
  simp only[evOp,Option.map_eq_some_iff,Prod.mk.injEq,Option.some.injEq] at he
  obtain⟨s1,he,_,rfl⟩:=he
  have h1:LoInv H0 s1:=by
   unfold evMset at he
   split at he
   ·split at he
    ·simp only[Option.bind_eq_some_iff] at he
     obtain⟨_,_,_,_,he⟩:=he
     obtain⟨_,he⟩:=cond_some he
     simp only[Option.map_eq_some_iff] at he
     obtain⟨_,_,he⟩:=he
     rw[← he];exact h.chg (good_set s _ _)
    ·cases he
   ·cases he
  exact h1.same_HL (spent_H _ _).1 (spent_H _ _).2.2
 | mlen m =>
  simp only[evOp] at he
  split at he
  ·simp at he
  ·simp at he
  ·split at he
   ·simp at he
   ·simp at he
   ·cases he
  ·cases he
 | rng kz ka va m =>
  simp only[evOp] at he
  split at he
  ·simp only[Option.some.injEq,Prod.mk.injEq] at he
   rw[← he.2];exact h.same_HL rfl rfl
  ·obtain⟨_,he⟩:=cond_some he
   simp only[Option.some.injEq,Prod.mk.injEq] at he
   rw[← he.2];exact h.same_HL rfl rfl
  ·split at he
   ·obtain⟨_,he⟩:=cond_some he
    simp only[Option.some.injEq,Prod.mk.injEq] at he
    rw[← he.2]
    exact (h.chg (good_set s _ _)).same_HL rfl rfl
   ·cases he
  ·cases he
 | next it=>simp[evOp] at he
 | ent it =>
  simp only[evOp] at he
  split at he
  ·split at he
   ·obtain⟨_,he⟩:=cond_some he
    simp at he
   ·cases he
  ·cases he
section
variable {P:Program} {G:Nat→List AV} {base nt:Nat} {L:List Nat} {gh:Gh} {w w' : World} {a:Act} {s:AS} {H:AHeap}
structure Inv (G:Nat→List AV) (base nt:Nat) (L:List Nat) (H0:AHeap) (gh0:Gh) (w0:World) (s:AS) (gh:Gh) (w:World) (a:Act):Prop where
 W:WRel G base s.H gh w
 F:FR L nt gh w a s
 E:Ext H0.length gh0 w0 gh w
 lo:LoInv H0 s
theorem Inv.out {H0:AHeap} {gh0 gh' : Gh} {w0 w' : World} {d:Option Nat} {x:AV} {s' : AS} {v' : Value} (h:Inv G base nt L H0 gh0 w0 s gh w a) (hO:Out G base nt L gh w a s d x s' v' gh' w') (hl:LoInv H0 s') :
  Inv G base nt L H0 gh0 w0 (s'.putD d x) gh' w' (a.put d v') :=
 ⟨by rw[(putD_T s' d x).1];exact hO.W,hO.F,h.E.trans hO.E h.lo.len,hl.same_HL (putD_T s' d x).1 (putD_T s' d x).2.2⟩
def evVal (G:Nat→List AV) (cf:CallF) (draw:Bool) (s:AS) (o:IOper):Option (AV × AS) :=
 let run:Option (AV × AS):=(evOp G cf s o.op).bind fun r=>match r.2 with
  | none=>cond (draw&&(genOf r.1).isSome) none (some (r.1,s))
  | some s'=>cond draw none (some (r.1,s'))
 match o.guard with
 | none=>run
 | some (g,want)=>match s.T g with
  | .bool b=>cond (b==want) run (some (.undef,s))
  | .tuple []=>some (.undef,s)
  | _=>none
theorem evOper_val {G:Nat→List AV} {cf:CallF} {draw:Bool} {s:AS} {o:IOper} : evOper G cf draw s o=(evVal G cf draw s o).map fun r=>r.2.putD o.dst r.1:=by
 have hrun:((evOp G cf s o.op).bind fun r=>match r.2 with
   | none=>cond (draw&&(genOf r.1).isSome) none (some (s.putD o.dst r.1))
   | some s'=>cond draw none (some (s'.putD o.dst r.1))) =
  ((evOp G cf s o.op).bind fun r=>match r.2 with
   | none=>cond (draw&&(genOf r.1).isSome) none (some (r.1,s))
   | some s'=>cond draw none (some (r.1,s'))).map fun r=>r.2.putD o.dst r.1:=by
  cases evOp G cf s o.op with
  | none=>rfl
  | some r =>
   obtain⟨z,s'⟩:=r
   cases s' with
   | none=>simp only[Option.bind_some];cases (draw&&(genOf z).isSome)<;>rfl
   | some s'=>cases draw<;>rfl
 unfold evOper evVal
 simp only
 cases o.guard with
 | none=>exact hrun
 | some g =>
  obtain⟨g,want⟩:=g
  simp only
  generalize s.T g=X
  cases X with
  | bool b =>
   simp only
   cases (b==want)
   ·rfl
   ·exact hrun
  | tuple vs=>cases vs<;>rfl
  | _=>rfl
theorem compOper_inv {takes locals muts:List Nat} {ops:Array Oper} {o:Oper} {io:IOper} (h:compOper P takes locals muts nt ops o=some io) :
  compOp P takes locals muts nt o.dst o.op=some io.op∧compGuard nt ops o.guard=some io.guard∧io.dst=o.dst∧∀ k,o.dst=some k→k<nt:=by
 simp only[compOper,Option.bind_eq_some_iff] at h
 obtain⟨p,hp,g,hg,h⟩:=h
 split at h
 ·rename_i hd
  injection h with h
  subst h
  exact⟨hp,hg,hd.symm,fun k hk=>by rw[hd] at hk;cases hk⟩
 ·rename_i d hd
  obtain⟨h0,h⟩:=cond_some h
  injection h with h
  subst h
  exact⟨hp,hg,hd.symm,fun k hk=>by rw[hd] at hk;injection hk with hk;subst hk;simpa [Nat.blt_eq] using h0⟩
theorem oper_step {cf:CallF} (hcf:CallsSound P G cf) {H0:AHeap} {gh0:Gh} {w0:World} (hI:Inv G base nt L H0 gh0 w0 s gh w a) {takes locals muts:List Nat} {ops:Array Oper} {o:Oper} {io:IOper}
  (hc:compOper P takes locals muts nt ops o=some io) (hLl:∀ x,x∈locals→x∈L) (hLm:∀ x,x∈muts→x∈L) {draw:Bool} {z:AV} {s1:AS} (he:evVal G cf draw s io=some (z,s1)) (K:Act→World→Prop) (Q:Exit→Act→World→Prop)
  (hK:∀ a' gh' w',Inv G base nt L H0 gh0 w0 (s1.putD o.dst z) gh' w' a'→K a' w') :
  if Region.wanted o (yielded ops a.tmps) then o.wp P a w K Q∨(o.asks P a w∧LetsOut Q) else K (a.put o.dst undef) w:=by
 obtain⟨hop,hg,hdst,hd⟩:=compOper_inv hc
 have hskip:s1=s→z=.undef→K (a.put o.dst undef) w:=by
  rintro rfl rfl
  exact hK _ gh w (hI.out (Out.pure hI.W hI.F hd (.of_VR .undef)) hI.lo)
 have hrun:((evOp G cf s io.op).bind fun r=>match r.2 with
   | none=>cond (draw&&(genOf r.1).isSome) none (some (r.1,s))
   | some s'=>cond draw none (some (r.1,s')))=some (z,s1)→o.wp P a w K Q:=by
  intro h
  simp only[Option.bind_eq_some_iff] at h
  obtain⟨⟨z',s'⟩,hev,h⟩:=h
  cases s' with
  | none =>
   simp only at h
   have h' : z'=z∧s=s1:=by
    cases hb:(draw&&(genOf z').isSome) with
    | true=>rw[hb] at h;cases h
    | false=>rw[hb] at h;simpa using h
   obtain⟨rfl,rfl⟩:=h'
   exact evOp_sound hcf hI.W hI.F hop hLl hLm hev hd K Q (fun v' gh' w' hO=>hK _ gh' w' (hI.out hO hI.lo))
  | some s' =>
   simp only at h
   have h' : z'=z∧s'=s1:=by
    cases draw with
    | true=>cases h
    | false=>simpa using h
   obtain⟨rfl,rfl⟩:=h'
   exact evOp_sound hcf hI.W hI.F hop hLl hLm hev hd K Q (fun v' gh' w' hO=>hK _ gh' w' (hI.out hO (evOp_lo (fun f args H r c h=>(hcf f args H r c h).2.1) hev hI.lo)))
 cases hog:o.guard with
 | none =>
  rw[hog] at hg
  simp only[compGuard,Option.some.injEq] at hg
  have hw:Region.wanted o (yielded ops a.tmps)=true:=by simp[Region.wanted,hog]
  rw[if_pos hw]
  unfold evVal at he
  rw[← hg] at he
  exact .inl (hrun he)
 | some jw =>
  obtain⟨j,want⟩:=jw
  rw[hog] at hg
  simp only[compGuard,Option.bind_eq_some_iff] at hg
  obtain⟨t,⟨oj,hoj,hdj⟩,hg⟩:=hg
  obtain⟨hlt,hg⟩:=cond_some hg
  injection hg with hg
  have ht:t<nt:=by simpa [Nat.blt_eq] using hlt
  have htm:a.tmps[t]?=some (tmv a t):=by
   have:t<a.tmps.size:=by rw[hI.F.size];exact ht
   simp[tmv,this]
  have hy:∀ v,tmv a t=v→yielded ops a.tmps j=match v with|.bool b=>some b|_=>none:=by
   intro v hv
   unfold yielded
   rw[hoj]
   simp only[Option.bind_some,hdj,htm,hv]
   cases v<;>rfl
  have hsl:=hI.F.slot t ht
  change SR gh s.H.length nt w s.T s.gen (tmv a) t (tmv a t) (s.T t) at hsl
  unfold evVal at he
  rw[← hg] at he
  simp only at he
  split at he
  ·rename_i b hT
   rw[hT] at hsl
   have hv:=VR.inv_bool (CR.dropped (hsl:CR gh s.H.length w (.sl t) (tmv a t) (.bool b)))
   have hw:Region.wanted o (yielded ops a.tmps)=(b==want):=by
    simp only[Region.wanted,hog,hy _ hv]
    cases b<;>cases want<;>rfl
   rw[hw]
   cases hb:(b==want) with
   | true =>
    rw[hb] at he
    rw[if_pos rfl]
    exact .inl (hrun he)
   | false =>
    rw[hb] at he
    simp only[cond_false,Option.some.injEq,Prod.mk.injEq] at he
    rw[if_neg (by simp)]
    exact hskip he.2.symm he.1.symm
  ·rename_i hT
   rw[hT] at hsl
   have hv:=VR.inv_undef (CR.dropped (hsl:CR gh s.H.length w (.sl t) (tmv a t) (.tuple [])))
   have hw:Region.wanted o (yielded ops a.tmps)=false:=by
    simp only[Region.wanted,hog,hy _ hv]
    rfl
   rw[hw,if_neg (by simp)]
   simp only[Option.some.injEq,Prod.mk.injEq] at he
   exact hskip he.2.symm he.1.symm
  ·cases he
theorem ops_sound {cf:CallF} (hcf:CallsSound P G cf) {H0:AHeap} {gh0:Gh} {w0:World} {takes locals muts:List Nat} {ops:Array Oper} (hLl:∀ x,x∈locals→x∈L) (hLm:∀ x,x∈muts→x∈L) (Q:Exit→Act→World→Prop) :
  ∀ (l:List Oper) (is:List IOper) (s s' : AS) (gh:Gh) (w:World) (a:Act),Inv G base nt L H0 gh0 w0 s gh w a→compOpers P takes locals muts nt ops l=some is→evOps G cf false is s=some s' →
   (∀ a' gh' w',Inv G base nt L H0 gh0 w0 s' gh' w' a'→Q .normal a' w')→wpList P ops Q l a w
 | [],is,s,s',gh,w,a,hI,hc,he,hQ=>by
  simp only[compOpers,Option.some.injEq] at hc
  subst hc
  simp only[evOps,Option.some.injEq] at he
  subst he
  exact hQ a gh w hI
 | o :: l,is,s,s',gh,w,a,hI,hc,he,hQ=>by
  simp only[compOpers,Option.bind_eq_some_iff,Option.map_eq_some_iff] at hc
  obtain⟨io,hio,is',his,rfl⟩:=hc
  simp only[evOps,Option.bind_eq_some_iff,evOper_val,Option.map_eq_some_iff] at he
  obtain⟨s1,⟨⟨z,s2⟩,hz,rfl⟩,he⟩:=he
  unfold wpList
  refine oper_step hcf hI hio hLl hLm hz _ Q (fun a' gh' w' hI'=>?_)
  rw[(compOper_inv hio).2.2.1] at he
  exact ops_sound hcf hLl hLm Q l is' _ s' gh' w' a' hI' his he hQ
end
end Go.Abs
end
section
namespace Go.Abs
set_option linter.unusedSimpArgs false
set_option linter.unusedVariables false
structure Same (s s' : AS) (ts:List Nat):Prop where
 H:s.H=s'.H
 T:∀ t,t∈ts→s.T t=s'.T t
 B:∀ b,s.T b=s'.T b∨genOf (s.T b)=none
section
variable {G:Nat→List AV} {cf:CallF} {s s' : AS} {ts:List Nat}
theorem Same.eval (h:Same s s' ts) {y:IArg} (hy:∀ t,t∈y.tmps→t∈ts):y.eval G s'.T=y.eval G s.T:=by
 cases y<;>try rfl
 rename_i t
 exact (h.T t (hy t (by simp[IArg.tmps]))).symm
theorem Same.addr (h:Same s s' ts) {y:IArg} (hy:∀ t,t∈y.tmps→t∈ts):y.addr G s'.T=y.addr G s.T:=by
 cases y<;>try rfl
 rename_i t
 simp only[IArg.addr]
 rw[h.T t (hy t (by simp[IArg.tmps]))]
theorem Same.box (h:Same s s' ts) (b:Nat) {g:Nat} {cs:List AV} (hb:s.T b=.lbox g cs):s'.T b=.lbox g cs:=by
 rcases h.B b with h|h
 ·rw[← h,hb]
 ·rw[hb] at h;cases h
theorem Same.row (h:Same s s' ts) (b:Nat) {g:Nat} {e:List (List AV)} (hb:s.T b=.lsl g e):s'.T b=.lsl g e:=by
 rcases h.B b with h|h
 ·rw[← h,hb]
 ·rw[hb] at h;cases h
theorem Same.live (h:Same s s' ts) {A:AV} (hl:liveAddr s A=true):liveAddr s' A=true:=by
 cases A<;>simp only[liveAddr] at hl ⊢<;>try (cases hl;done)
 ·split at hl
  ·rename_i hT;rw[h.box _ hT];exact hl
  ·cases hl
 ·split at hl
  ·rename_i hT;rw[h.row _ hT];exact hl
  ·cases hl
theorem Same.load (h:Same s s' ts) {take agg:Bool} {sz:Nat} {A z:AV} (he:loadAV s take agg sz A=some (z,none)):loadAV s' take agg sz A=some (z,none):=by
 have key:∀ {X:Option AV} {x y:AS},X.map (fun v=>(v,cond (take&&!agg) (some x) none))=some (z,none)→X.map (fun v=>(v,cond (take&&!agg) (some y) none))=some (z,none):=by
  intro X x y hX
  cases X with
  | none=>cases hX
  | some v=>cases hb:(take&&!agg)<;>simp_all
 cases A<;>simp only[loadAV] at he ⊢<;>try (cases he;done)
 ·exact he
 ·rw[← h.H]
  split at he
  ·exact key he
  ·exact he
  ·exact he
  ·cases he
 ·split at he
  ·rename_i hT
   rw[h.box _ hT]
   obtain⟨h0,he⟩:=cond_some he
   simp only[h0,cond_true]
   exact key he
  ·cases he
 ·split at he
  ·rename_i hT
   rw[h.row _ hT]
   exact he
  ·cases he
theorem Same.mov (h:Same s s' ts) {take obj:Bool} {y:IArg} {z:AV} (hy:∀ t,t∈y.tmps→t∈ts) (he:evMov G s take obj y=some (z,none)):evMov G s' take obj y=some (z,none):=by
 cases y with
 | tmp t =>
  have e:=h.T t (hy t (by simp[IArg.tmps]))
  simp only[evMov] at he ⊢
  rw[← e]
  generalize s.T t=X at he ⊢
  cases X<;>try exact he
  ·rename_i el own
   cases take<;>cases own<;>simp_all
  ·cases take
   ·exact he
   ·cases obj
    ·simp only[cond_true,cond_false] at he
     obtain⟨_,he⟩:=cond_some he
     simp at he
    ·simp at he
 | _=>exact he
theorem evOp_congr (h:Same s s' ts) {op:IOp} (ht:∀ t,t∈op.tmps→t∈ts) {z:AV} (he:evOp G cf s op=some (z,none)):evOp G cf s' op=some (z,none):=by
 cases op with
 | mov take obj x=>exact h.mov ht he
 | pick c x y =>
  have h1:=h.eval (G:=G) (y:=c) (fun t hm=>ht t (by simp[IOp.tmps,hm]))
  have h2:=h.addr (G:=G) (y:=x) (fun t hm=>ht t (by simp[IOp.tmps,hm]))
  have h3:=h.addr (G:=G) (y:=y) (fun t hm=>ht t (by simp[IOp.tmps,hm]))
  simp only[evOp] at he ⊢
  rw[h1,h2,h3]
  exact he
 | chk c x =>
  have h1:=h.addr (G:=G) (y:=x) (fun t hm=>ht t (by simp[IOp.tmps,hm]))
  simp only[evOp] at he ⊢
  rw[h1];exact he
 | boxL x=>simp[evOp] at he
 | allocL z0=>simp[evOp] at he
 | allocH ty z0=>simp[evOp] at he
 | box ty x =>
  simp only[evOp,Option.bind_eq_some_iff] at he
  obtain⟨_,_,he⟩:=he
  obtain⟨_,he⟩:=cond_some he
  simp at he
 | build z0 ps =>
  have e1:(ps.map fun p=>(p.1,p.2.1,(p.2.2.eval G s'.T).drop))=ps.map fun p=>(p.1,p.2.1,(p.2.2.eval G s.T).drop) :=
   List.map_congr_left fun p hp=>by rw[h.eval (G:=G) (y:=p.2.2) (fun t hm=>ht t (by simp only[IOp.tmps,List.mem_flatMap];exact⟨p,hp,hm⟩))]
  simp only[evOp] at he ⊢
  rw[e1];exact he
 | mkslice isB sz zs ps =>
  have e1:(ps.map fun p=>(p.1,(p.2.eval G s'.T).drop))=ps.map fun p=>(p.1,(p.2.eval G s.T).drop) :=
   List.map_congr_left fun p hp=>by rw[h.eval (G:=G) (y:=p.2) (fun t hm=>ht t (by simp only[IOp.tmps,List.mem_flatMap];exact⟨p,hp,hm⟩))]
  simp only[evOp] at he ⊢
  rw[e1];exact he
 | load take agg sz x =>
  simp only[evOp] at he ⊢
  rw[h.addr (G:=G) (y:=x) ht]
  exact h.load he
 | store sz x y =>
  simp only[evOp,Option.map_eq_some_iff,Prod.mk.injEq] at he
  obtain⟨_,_,_,he⟩:=he
  cases he
 | nilCheck x =>
  simp only[evOp] at he ⊢
  rw[h.addr (G:=G) (y:=x) ht]
  obtain⟨h0,he⟩:=cond_some he
  rw[h.live h0];exact he
 | bin op q x y =>
  simp only[evOp] at he ⊢
  rw[h.eval (G:=G) (y:=x) (fun t hm=>ht t (by simp[IOp.tmps,hm])),h.eval (G:=G) (y:=y) (fun t hm=>ht t (by simp[IOp.tmps,hm]))]
  exact he
 | un op x=>simp only[evOp] at he ⊢;rw[h.eval (G:=G) (y:=x) ht];exact he
 | mm mx x y =>
  simp only[evOp] at he ⊢
  rw[h.eval (G:=G) (y:=x) (fun t hm=>ht t (by simp[IOp.tmps,hm])),h.eval (G:=G) (y:=y) (fun t hm=>ht t (by simp[IOp.tmps,hm]))]
  exact he
 | conv c x=>simp only[evOp] at he ⊢;rw[h.eval (G:=G) (y:=x) ht];exact he
 | mkiface t x=>simp only[evOp] at he ⊢;rw[h.eval (G:=G) (y:=x) ht];exact he
 | slice k x lo hi mx =>
  have opt:∀ o:Option IArg,(∀ t,t∈o.toList.flatMap IArg.tmps→t∈ts)→o.map (·.eval G s'.T)=o.map (·.eval G s.T):=by
   intro o ho
   cases o with
   | none=>rfl
   | some y=>simp only[Option.map_some];rw[h.eval (G:=G) (y:=y) (fun t hm=>ho t (by simp[hm]))]
  simp only[evOp] at he ⊢
  rw[h.eval (G:=G) (y:=x) (fun t hm=>ht t (by simp only[IOp.tmps,List.mem_append];exact .inl (.inl (.inl hm)))),
   opt lo (fun t hm=>ht t (by simp only[IOp.tmps,List.mem_append];exact .inl (.inl (.inr hm)))),
   opt hi (fun t hm=>ht t (by simp only[IOp.tmps,List.mem_append];exact .inl (.inr hm))),
   opt mx (fun t hm=>ht t (by simp only[IOp.tmps,List.mem_append];exact .inr hm))]
  exact he
 | fieldAddr off x =>
  simp only[evOp] at he ⊢
  rw[h.addr (G:=G) (y:=x) ht]
  obtain⟨h0,he⟩:=cond_some he
  rw[h.live h0];exact he
 | field agg off sz x =>
  simp only[evOp] at he ⊢
  rw[h.eval (G:=G) (y:=x) ht];exact he
 | ixSl sz x i =>
  simp only[evOp] at he ⊢
  rw[h.addr (G:=G) (y:=x) (fun t hm=>ht t (by simp[IOp.tmps,hm])),h.eval (G:=G) (y:=i) (fun t hm=>ht t (by simp[IOp.tmps,hm]))]
  split at he
  ·exact he
  ·exact he
  ·split at he
   ·rename_i hT
    simp only[h.row _ hT]
    exact he
   ·cases he
  ·cases he
 | ixArr n sz x i =>
  simp only[evOp] at he ⊢
  rw[h.addr (G:=G) (y:=x) (fun t hm=>ht t (by simp[IOp.tmps,hm])),h.eval (G:=G) (y:=i) (fun t hm=>ht t (by simp[IOp.tmps,hm]))]
  simp only[Option.bind_eq_some_iff] at he ⊢
  obtain⟨k,hk,he⟩:=he
  refine⟨k,hk,?_⟩
  obtain⟨h0,he⟩:=cond_some he
  simp only[Bool.and_eq_true] at h0
  rw[h0.1,h.live h0.2];exact he
 | index agg n sz x i =>
  simp only[evOp] at he ⊢
  rw[h.eval (G:=G) (y:=x) (fun t hm=>ht t (by simp[IOp.tmps,hm])),h.eval (G:=G) (y:=i) (fun t hm=>ht t (by simp[IOp.tmps,hm]))]
  exact he
 | indexStr x i =>
  simp only[evOp] at he ⊢
  rw[h.eval (G:=G) (y:=x) (fun t hm=>ht t (by simp[IOp.tmps,hm])),h.eval (G:=G) (y:=i) (fun t hm=>ht t (by simp[IOp.tmps,hm]))]
  exact he
 | extract x i=>simp only[evOp] at he ⊢;rw[h.eval (G:=G) (y:=x) ht];exact he
 | len k x =>
  simp only[evOp] at he ⊢
  rw[h.addr (G:=G) (y:=x) ht]
  split at he
  ·split at he
   ·rename_i hT
    simp only[h.row _ hT]
    exact he
   ·cases he
  ·exact he
 | append isB wr sz bytes x y =>
  have h2:=h.eval (G:=G) (y:=y) (fun t hm=>ht t (by simp[IOp.tmps,hm]))
  have h1:=h.eval (G:=G) (y:=x) (fun t hm=>ht t (by simp[IOp.tmps,hm]))
  simp only[evOp,evAppend] at he ⊢
  cases x with
  | tmp t =>
   exfalso
   simp only at he
   split at he
   ·simp only[Option.bind_eq_some_iff] at he
    obtain⟨f,_,he⟩:=he
    obtain⟨_,he⟩:=cond_some he
    simp at he
   ·cases wr
    ·simp at he
    ·simp only[cond_true,Option.bind_eq_some_iff] at he
     obtain⟨f,_,he⟩:=he
     obtain⟨_,he⟩:=cond_some he
     simp at he
   ·cases wr
    ·simp at he
    ·simp only[cond_true,Option.bind_eq_some_iff] at he
     obtain⟨f,_,he⟩:=he
     obtain⟨_,he⟩:=cond_some he
     simp at he
   ·cases he
  | _=>simp only at he ⊢;rw[h2];exact he
 | call f args =>
  have hf:=h.eval (G:=G) (y:=f) (fun t hm=>ht t (by simp[IOp.tmps,hm]))
  have ha:∀ y,y∈args→y.addr G s'.T=y.addr G s.T:=fun y hy=>h.addr (G:=G) (fun t hm=>ht t (by
   simp only[IOp.tmps,List.mem_append,List.mem_flatMap];exact .inr ⟨y,hy,hm⟩))
  have e1:(args.map fun a=>a.addr G s'.T)=args.map fun a=>a.addr G s.T:=List.map_congr_left ha
  have e2:(args.map fun a=>(a.addr G s'.T).dropAll)=args.map fun a=>(a.addr G s.T).dropAll:=List.map_congr_left fun y hy=>by rw[ha y hy]
  simp only[evOp] at he ⊢
  rw[hf,e1,e2,← h.H]
  split at he
  ·obtain⟨h0,he⟩:=cond_some he
   rw[h0]
   simp only[cond_true,Option.map_eq_some_iff,Prod.mk.injEq] at he ⊢
   obtain⟨⟨r,c⟩,hr,h1,h2⟩:=he
   refine⟨(r,c),hr,h1,?_⟩
   cases c with
   | none=>rfl
   | some c=>cases h2
  ·cases he
 | callP f args =>
  have hf:=h.eval (G:=G) (y:=f) (fun t hm=>ht t (by simp[IOp.tmps,hm]))
  have ha:∀ y,y∈args→y.addr G s'.T=y.addr G s.T:=fun y hy=>h.addr (G:=G) (fun t hm=>ht t (by
   simp only[IOp.tmps,List.mem_append,List.mem_flatMap];exact .inr ⟨y,hy,hm⟩))
  have e1:(args.map fun a=>a.addr G s'.T)=args.map fun a=>a.addr G s.T:=List.map_congr_left ha
  have e2:(args.map fun a=>(a.addr G s'.T).dropAll)=args.map fun a=>(a.addr G s.T).dropAll:=List.map_congr_left fun y hy=>by rw[ha y hy]
  simp only[evOp] at he ⊢
  rw[hf,e1,e2,← h.H]
  exact he
 | callT f pre x post =>
  exfalso
  simp only[evOp] at he
  obtain⟨_,he⟩:=cond_some he
  simp only[Option.bind_eq_some_iff,Option.map_eq_some_iff,Prod.mk.injEq,reduceCtorEq,and_false,exists_false] at he
 | mkfunc f a b =>
  have ha:∀ y,y∈a→y.addr G s'.T=y.addr G s.T:=fun y hy=>h.addr (G:=G) (fun t hm=>ht t (by
   simp only[IOp.tmps,List.mem_append,List.mem_flatMap];exact .inl ⟨y,hy,hm⟩))
  have hb:∀ y,y∈b→y.addr G s'.T=y.addr G s.T:=fun y hy=>h.addr (G:=G) (fun t hm=>ht t (by
   simp only[IOp.tmps,List.mem_append,List.mem_flatMap];exact .inr ⟨y,hy,hm⟩))
  have e1:(a.map fun a=>a.addr G s'.T)=a.map fun a=>a.addr G s.T:=List.map_congr_left ha
  have e2:(b.map fun a=>a.addr G s'.T)=b.map fun a=>a.addr G s.T:=List.map_congr_left hb
  have e3:(a.map fun a=>(a.addr G s'.T).drop)=a.map fun a=>(a.addr G s.T).drop:=List.map_congr_left fun y hy=>by rw[ha y hy]
  have e4:(b.map fun a=>(a.addr G s'.T).drop)=b.map fun a=>(a.addr G s.T).drop:=List.map_congr_left fun y hy=>by rw[hb y hy]
  simp only[evOp] at he ⊢
  rw[e1,e2,e3,e4];exact he
 | appendO sz bytes x y =>
  exfalso
  simp only[evOp,evAppendO,Option.bind_eq_some_iff] at he
  obtain⟨f,_,he⟩:=he
  split at he
  ·obtain⟨_,he⟩:=cond_some he
   simp at he
  ·obtain⟨_,he⟩:=cond_some he
   simp at he
  ·split at he
   ·obtain⟨_,he⟩:=cond_some he
    simp at he
   ·cases he
  ·cases he
 | mksliceO sz zs ps =>
  exfalso
  simp only[evOp,Option.bind_eq_some_iff] at he
  obtain⟨f,_,he⟩:=he
  obtain⟨_,he⟩:=cond_some he
  simp at he
 | mkarr sz bytes zero n =>
  exfalso
  simp only[evOp,evMkarr,Option.bind_eq_some_iff] at he
  obtain⟨f,_,he⟩:=he
  obtain⟨_,he⟩:=cond_some he
  simp at he
 | boxO x =>
  simp only[evOp,Option.bind_eq_some_iff] at he
  obtain⟨_,_,he⟩:=he
  obtain⟨_,he⟩:=cond_some he
  simp at he
 | copyO x y =>
  have h1:=h.addr (G:=G) (y:=x) (fun t hm=>ht t (by simp[IOp.tmps,hm]))
  have h2:=h.eval (G:=G) (y:=y) (fun t hm=>ht t (by simp[IOp.tmps,hm]))
  simp only[evOp] at he ⊢
  rw[h1,h2]
  unfold evCopyO at he ⊢
  rw[← h.H]
  split at he
  ·split at he
   ·obtain⟨_,he⟩:=cond_some he
    simp at he
   ·cases he
  ·exact he
  ·cases he
 | nilS neg x =>
  simp only[evOp] at he ⊢
  rw[h.eval (G:=G) (y:=x) ht];exact he
 | mkmap kz ka va=>simp[evOp] at he
 | look ok kz ka va ks zero m k =>
  have h1:=h.addr (G:=G) (y:=m) (fun t hm=>ht t (by simp[IOp.tmps,hm]))
  have h2:=h.eval (G:=G) (y:=k) (fun t hm=>ht t (by simp[IOp.tmps,hm]))
  simp only[evOp] at he ⊢
  rw[h1,h2]
  unfold evLook mapRows at he ⊢
  rw[← h.H];exact he
 | lookT kz ka ks zero m k =>
  have h1:=h.addr (G:=G) (y:=m) (fun t hm=>ht t (by simp[IOp.tmps,hm]))
  have h2:=h.eval (G:=G) (y:=k) (fun t hm=>ht t (by simp[IOp.tmps,hm]))
  simp only[evOp] at he ⊢
  rw[h1,h2]
  unfold evLookT at he ⊢
  rw[← h.H]
  split at he
  ·split at he
   ·simp only[Option.bind_eq_some_iff] at he ⊢
    obtain⟨kc,hkc,he⟩:=he
    obtain⟨h0,he⟩:=cond_some he
    refine⟨kc,hkc,?_⟩
    rw[h0,cond_true]
    simp only[Option.bind_eq_some_iff] at he ⊢
    obtain⟨o,ho,he⟩:=he
    refine⟨o,ho,?_⟩
    cases o with
    | none=>exact he
    | some i=>simp at he
   ·cases he
  ·cases he
 | mset kz ka va vz ks m k v=>simp[evOp] at he
 | mlen m =>
  have h1:=h.addr (G:=G) (y:=m) (fun t hm=>ht t (by simp[IOp.tmps,hm]))
  simp only[evOp] at he ⊢
  rw[h1,← h.H];exact he
 | rng kz ka va m =>
  simp only[evOp] at he
  split at he
  ·simp at he
  ·obtain⟨_,he⟩:=cond_some he
   simp at he
  ·split at he
   ·obtain⟨_,he⟩:=cond_some he
    simp at he
   ·cases he
  ·cases he
 | next it=>simp[evOp] at he
 | ent it =>
  cases it with
  | tmp t =>
   have e:=h.T t (ht t (by simp[IOp.tmps,IArg.tmps]))
   simp only[evOp] at he ⊢
   rw[← e];exact he
  | _=>simp only[evOp] at he;cases he
theorem evVal_draw {o:IOper} {z:AV} {s1:AS} (he:evVal G cf true s o=some (z,s1)):s1=s∧genOf z=none:=by
 have hrun:((evOp G cf s o.op).bind fun r=>match r.2 with
   | none=>cond (true&&(genOf r.1).isSome) none (some (r.1,s))
   | some s'=>cond true none (some (r.1,s')))=some (z,s1)→s1=s∧genOf z=none:=by
  intro h
  simp only[Option.bind_eq_some_iff] at h
  obtain⟨⟨z',s'⟩,_,h⟩:=h
  cases s' with
  | none =>
   simp only[Bool.true_and] at h
   cases hb:genOf z' with
   | none =>
    rw[hb] at h
    simp only[Option.isSome_none,cond_false,Option.some.injEq,Prod.mk.injEq] at h
    exact⟨h.2.symm,by rw[← h.1,hb]⟩
   | some k=>rw[hb] at h;cases h
  | some s'=>cases h
 unfold evVal at he
 split at he
 ·exact hrun he
 ·split at he
  ·rename_i want _ _ b _
   simp only at he
   cases hc:(b==want) with
   | false =>
    rw[hc] at he
    simp only[cond_false,Option.some.injEq,Prod.mk.injEq] at he
    exact⟨he.2.symm,by rw[← he.1];rfl⟩
   | true =>
    rw[hc] at he
    exact hrun he
  ·simp only[Option.some.injEq,Prod.mk.injEq] at he
   exact⟨he.2.symm,by rw[← he.1];rfl⟩
  ·cases he
theorem evVal_congr (h:Same s s' ts) {o:IOper} (ht:∀ t,t∈o.looks→t∈ts) {z:AV} {s1:AS} (he:evVal G cf true s o=some (z,s1)):evVal G cf true s' o=some (z,s'):=by
 have hrun:((evOp G cf s o.op).bind fun r=>match r.2 with
   | none=>cond (true&&(genOf r.1).isSome) none (some (r.1,s))
   | some s'=>cond true none (some (r.1,s')))=some (z,s1)→((evOp G cf s' o.op).bind fun r=>match r.2 with
   | none=>cond (true&&(genOf r.1).isSome) none (some (r.1,s'))
   | some s'=>cond true none (some (r.1,s')))=some (z,s'):=by
  intro h1
  simp only[Option.bind_eq_some_iff] at h1
  obtain⟨⟨z',s2⟩,he,h1⟩:=h1
  cases s2 with
  | some s2=>cases h1
  | none =>
   rw[evOp_congr h (fun t hm=>ht t (by simp only[IOper.looks,List.mem_append];exact .inl hm)) he]
   simp only[Bool.true_and,Option.bind_some] at h1 ⊢
   cases hb:genOf z' with
   | some k=>rw[hb] at h1;cases h1
   | none =>
    rw[hb] at h1
    simp only[Option.isSome_none,cond_false,Option.some.injEq,Prod.mk.injEq] at h1 ⊢
    exact⟨h1.1,trivial⟩
 unfold evVal at he ⊢
 cases hg:o.guard with
 | none=>rw[hg] at he;exact hrun he
 | some gw =>
  obtain⟨g,want⟩:=gw
  rw[hg] at he
  have e:s'.T g=s.T g:=(h.T g (ht g (by simp[IOper.looks,hg]))).symm
  simp only at he ⊢
  rw[e]
  generalize s.T g=X at he ⊢
  cases X with
  | bool b =>
   simp only at he ⊢
   cases hc:(b==want) with
   | false =>
    rw[hc] at he
    simp only[cond_false,Option.some.injEq,Prod.mk.injEq] at he ⊢
    exact⟨he.1,trivial⟩
   | true=>rw[hc] at he;exact hrun he
  | tuple vs =>
   cases vs with
   | nil=>simp only[Option.some.injEq,Prod.mk.injEq] at he ⊢;exact⟨he.1,trivial⟩
   | cons v vs=>cases he
  | _=>cases he
end
theorem evOps_states {G:Nat→List AV} {cf:CallF} : ∀ (is:List IOper) (s s' : AS),evOps G cf true is s=some s' →
  ∃ (S:Nat→AS) (V:Nat→AV),S 0=s∧S is.length=s'∧∀ i io,is[i]?=some io→evVal G cf true (S i) io=some (V i,S i)∧genOf (V i)=none∧S (i+1)=(S i).putD io.dst (V i)
 | [],s,s',h=>by
  simp only[evOps,Option.some.injEq] at h
  exact⟨fun _=>s,fun _=>.undef,rfl,h,fun i io h=>by simp at h⟩
 | o :: r,s,s',h=>by
  simp only[evOps,Option.bind_eq_some_iff,evOper_val,Option.map_eq_some_iff] at h
  obtain⟨s1,⟨⟨z,s2⟩,hz,rfl⟩,h⟩:=h
  obtain⟨rfl,hg⟩:=evVal_draw hz
  obtain⟨S,V,h0,hn,hS⟩:=evOps_states r _ s' h
  refine⟨fun i=>match i with|0=>s2|i+1=>S i,fun i=>match i with|0=>z|i+1=>V i,rfl,hn,fun i io hi=>?_⟩
  cases i with
  | zero =>
   simp only[List.getElem?_cons_zero,Option.some.injEq] at hi
   subst hi
   exact⟨hz,hg,h0⟩
  | succ i=>exact hS i io (by simpa using hi)
structure Agree (s:AS) (D:Nat→Option Nat) (V:Nat→AV) (A:Nat→Prop) (x:AS):Prop where
 H:x.H=s.H
 gen:x.gen=s.gen
 lo:x.lo=s.lo
 did:∀ i,A i→∀ d,D i=some d→x.T d=V i
 not:∀ t,(∀ i,A i→D i≠some t)→x.T t=s.T t
theorem Agree.put {s x:AS} {D:Nat→Option Nat} {V:Nat→AV} {A:Nat→Prop} (h:Agree s D V A x) {i:Nat} (hd:∀ j,A j→j≠i→∀ d,D i=some d→D j≠some d):Agree s D V (fun j=>A j∨j=i) (x.putD (D i) (V i)):=by
 cases hD:D i with
 | none =>
  refine⟨h.H,h.gen,h.lo,fun j hj d hdj=>?_,fun t ht=>h.not t (fun j hj=>ht j (.inl hj))⟩
  rcases hj with hj|rfl
  ·exact h.did j hj d hdj
  ·rw[hD] at hdj;cases hdj
 | some d =>
  refine⟨h.H,h.gen,h.lo,fun j hj d' hdj=>?_,fun t ht=>?_⟩
  ·simp only[AS.putD,AS.setT,put_T]
   by_cases hji:j=i
   ·subst hji
    rw[hD] at hdj;injection hdj with hdj;subst hdj
    simp
   ·rcases hj with hj|hj
    ·rw[if_neg]
     ·exact h.did j hj d' hdj
     ·rintro rfl
      exact hd j hj hji d' hD hdj
    ·exact absurd hj hji
  ·simp only[AS.putD,AS.setT,put_T]
   rw[if_neg]
   ·exact h.not t (fun j hj=>ht j (.inl hj))
   ·rintro rfl
    exact ht i (.inr rfl) hD
theorem Agree.eq {s x y:AS} {D:Nat→Option Nat} {V:Nat→AV} {A B:Nat→Prop} (hAB:∀ i,A i↔B i) (h:Agree s D V A x) (h' : Agree s D V B y):x=y:=by
 have hT:x.T=y.T:=by
  funext t
  by_cases hc:∃ i,A i∧D i=some t
  ·obtain⟨i,hi,hd⟩:=hc
   rw[h.did i hi t hd,h'.did i ((hAB i).1 hi) t hd]
  ·rw[h.not t (fun i hi hd=>hc ⟨i,hi,hd⟩),h'.not t (fun i hi hd=>hc ⟨i,(hAB i).2 hi,hd⟩)]
 cases x;cases y
 have:=h.H;have:=h.gen;have:=h.lo;have:=h'.H;have:=h'.gen;have:=h'.lo
 simp_all
theorem nodup_len:∀ (n:Nat) (l:List Nat),l.Nodup→(∀ i,i∈l→i<n)→l.length≤n
 | 0,l,_,h=>by
  cases l with
  | nil=>exact Nat.le_refl _
  | cons i l=>exact absurd (h i List.mem_cons_self) (Nat.not_lt_zero _)
 | n+1,l,hnd,h=>by
  have ih:=nodup_len n (l.erase n) (hnd.erase n) (fun i hi=>by
   have:=(hnd.mem_erase_iff).1 hi
   have:=h i this.2
   omega)
  rw[List.length_erase] at ih
  split at ih<;>omega
structure Order (L:List Nat) (ops:Array Oper) (is:List IOper):Prop where
 len:ops.size=is.length
 back:∀ (i:Nat) (o:Oper),ops[i]?=some o→∀ e,e∈o.after→Region.binds .any e=true→e.on<i
 notL:∀ (i:Nat) (io:IOper) (d:Nat),is[i]?=some io→io.dst=some d→d∉L
 once:∀ (i j:Nat) (p q:IOper) (d:Nat),is[i]?=some p→is[j]?=some q→i≠j→q.dst=some d→p.dst≠some d
 look:∀ (i j:Nat) (o o' : Oper) (p q:IOper) (d:Nat),ops[i]?=some o→ops[j]?=some o'→is[i]?=some p→is[j]?=some q→i≠j→q.dst=some d→d∈p.looks →
  (j<i∧∃ e,e∈o.after∧Region.binds .any e=true∧e.on=j)∨(i<j∧∃ e,e∈o'.after∧Region.binds .any e=true∧e.on=i)
theorem edgeTo_inv {o:Oper} {j:Nat} (h:edgeTo o j=true):∃ e,e∈o.after∧Region.binds .any e=true∧e.on=j:=by
 unfold edgeTo at h
 rw[Array.any_eq_true] at h
 obtain⟨k,hk,h⟩:=h
 simp only[Bool.and_eq_true,nbeq,decide_eq_true_eq] at h
 exact⟨o.after[k],Array.getElem_mem hk,h.1,h.2⟩
theorem orderOk_inv {L:List Nat} {ops:Array Oper} {is:List IOper} (hl:ops.size=is.length) (h:orderOk L (ops.toList.zip is)=true):Order L ops is:=by
 have mem:∀ (i:Nat) (o:Oper) (io:IOper),ops[i]?=some o→is[i]?=some io→((o,io),i)∈(ops.toList.zip is).zipIdx:=by
  intro i o io h1 h2
  rw[List.mem_iff_getElem?]
  refine⟨i,?_⟩
  rw[List.getElem?_zipIdx,(List.getElem?_zip_eq_some (z:=(o,io))).2 ⟨by simpa using h1,h2⟩]
  simp
 have opAt:∀ (i:Nat) (io:IOper),is[i]?=some io→∃ o,ops[i]?=some o:=by
  intro i io hi
  have:i<ops.size:=by rw[hl];exact (List.getElem?_eq_some_iff.1 hi).1
  exact⟨_,Array.getElem?_eq_getElem this⟩
 have ioAt:∀ (i:Nat) (o:Oper),ops[i]?=some o→∃ io,is[i]?=some io:=by
  intro i o hi
  have:i<is.length:=by rw[← hl];exact (Array.getElem?_eq_some_iff.1 hi).1
  exact⟨_,List.getElem?_eq_getElem this⟩
 unfold orderOk at h
 simp only[List.all_eq_true] at h
 have pairs:∀ (i j:Nat) (o o' : Oper) (p q:IOper),ops[i]?=some o→ops[j]?=some o'→is[i]?=some p→is[j]?=some q→i≠j→∀ d,q.dst=some d →
   p.dst≠some d∧(d∈p.looks→if j<i then edgeTo o j=true else edgeTo o' i=true):=by
  intro i j o o' p q h1 h2 h3 h4 hij d hd
  have:=h _ (mem i o p h1 h3)
  simp only[Bool.and_eq_true,List.all_eq_true] at this
  have:=this.2 _ (mem j o' q h2 h4)
  simp only[Bool.or_eq_true,nbeq,decide_eq_true_eq,hd] at this
  rcases this with this|this
  ·exact absurd this hij
  simp only[Bool.and_eq_true] at this
  refine⟨fun hpd=>?_,fun hlk=>?_⟩
  ·rw[hpd] at this
   simp at this
  ·have h5:=this.2
   simp only[Bool.or_eq_true,Bool.not_eq_true',List.contains_eq_mem,decide_eq_false_iff_not] at h5
   rcases h5 with h5|h5
   ·exact absurd hlk h5
   ·by_cases hji:j<i
    ·rw[if_pos hji]
     rw[show Nat.blt j i=true by simpa [Nat.blt_eq] using hji] at h5
     exact h5
    ·rw[if_neg hji]
     rw[show Nat.blt j i=false by simpa [← Bool.not_eq_true,Nat.blt_eq] using hji] at h5
     exact h5
 refine⟨hl,fun i o hi e he hb=>?_,fun i io d hi hd=>?_,fun i j p q d hp hq hij hd=>?_,fun i j o o' p q d h1 h2 h3 h4 hij hd hlk=>?_⟩
 ·obtain⟨io,hio⟩:=ioAt i o hi
  have:=h _ (mem i o io hi hio)
  simp only[Bool.and_eq_true,List.all_eq_true] at this
  have:=this.1.1
  rw[Array.all_eq_true_iff_forall_mem] at this
  have:=this e he
  simpa [hb,Nat.blt_eq] using this
 ·obtain⟨o,ho⟩:=opAt i io hi
  have:=h _ (mem i o io ho hi)
  simp only[Bool.and_eq_true,List.all_eq_true,hd] at this
  simpa using this.1.2
 ·obtain⟨o,ho⟩:=opAt i p hp
  obtain⟨o',ho'⟩:=opAt j q hq
  exact (pairs i j o o' p q ho ho' hp hq hij d hd).1
 ·have:=(pairs i j o o' p q h1 h2 h3 h4 hij d hd).2 hlk
  by_cases hji:j<i
  ·rw[if_pos hji] at this
   exact .inl ⟨hji,edgeTo_inv this⟩
  ·rw[if_neg hji] at this
   exact .inr ⟨by omega,edgeTo_inv this⟩
section
variable {P:Program} {G:Nat→List AV} {base nt:Nat} {L:List Nat} {gh:Gh} {w w' : World} {a:Act} {s:AS} {H:AHeap}
theorem compOpers_inv {takes locals muts:List Nat} {ops:Array Oper} : ∀ {l:List Oper} {is:List IOper},compOpers P takes locals muts nt ops l=some is→l.length=is.length ∧
  ∀ (i:Nat) (o:Oper),l[i]?=some o→∃ io,is[i]?=some io∧compOper P takes locals muts nt ops o=some io
 | [],is,h=>by simp[compOpers] at h;subst h;exact⟨rfl,fun i o h=>by simp at h⟩
 | o :: l,is,h=>by
  simp only[compOpers,Option.bind_eq_some_iff,Option.map_eq_some_iff] at h
  obtain⟨io,hio,is',his,rfl⟩:=h
  obtain⟨h1,h2⟩:=compOpers_inv his
  refine⟨by simp[h1],fun i o' hi=>?_⟩
  cases i with
  | zero=>simp only[List.getElem?_cons_zero,Option.some.injEq] at hi;subst hi;exact⟨io,rfl,hio⟩
  | succ i=>exact h2 i o' (by simpa using hi)
theorem draw_sound {cf:CallF} (hcf:CallsSound P G cf) {H0:AHeap} {gh0:Gh} {w0:World} {takes locals muts:List Nat} {ops:Array Oper} (hLl:∀ x,x∈locals→x∈L) (hLm:∀ x,x∈muts→x∈L) (Q:Exit→Act→World→Prop)
  {is:List IOper} (hI:Inv G base nt L H0 gh0 w0 s gh w a) (hc:compOpers P takes locals muts nt ops ops.toList=some is) (hord:Order L ops is) {s' : AS} (he:evOps G cf true is s=some s')
  (hQ:∀ a' gh' w',Inv G base nt L H0 gh0 w0 s' gh' w' a'→Q .normal a' w'):wpAny P .any ops Q ops.size (Array.replicate ops.size false) a w:=by
 obtain⟨S,V,h0,hn,hS⟩:=evOps_states is s s' he
 obtain⟨hlen,hcomp⟩:=compOpers_inv hc
 let D:Nat→Option Nat:=fun i=>(is[i]?).bind (·.dst)
 have hD:∀ i io,is[i]?=some io→D i=io.dst:=fun i io h=>by simp[D,h]
 have hDinv:∀ i d,D i=some d→∃ io,is[i]?=some io∧io.dst=some d:=by
  intro i d h
  simp only[D,Option.bind_eq_some_iff] at h
  exact h
 have honce:∀ i j d,i≠j→D i=some d→D j≠some d:=by
  intro i j d hij hi hj
  obtain⟨p,hp,hpd⟩:=hDinv i d hi
  obtain⟨q,hq,hqd⟩:=hDinv j d hj
  exact hord.once i j p q d hp hq hij hqd hpd
 have hwritten:∀ k,k≤is.length→Agree s D V (fun i=>i<k) (S k):=by
  intro k
  induction k with
  | zero=>intro _;rw[h0];exact⟨rfl,rfl,rfl,fun i hi=>absurd hi (Nat.not_lt_zero _),fun t _=>rfl⟩
  | succ k ih =>
   intro hk
   have hio:=List.getElem?_eq_getElem (show k<is.length by omega)
   obtain⟨_,_,h3⟩:=hS k _ hio
   rw[h3,← hD k _ hio]
   have:=(ih (by omega)).put (i:=k) (fun j hj hne d hd=>honce k j d (Ne.symm hne) hd)
   refine⟨this.H,this.gen,this.lo,fun i hi=>this.did i (by rcases Nat.lt_or_ge i k with h|h;exact .inl h;exact .inr (by omega)),fun t ht=>this.not t (fun i hi=>ht i (by rcases hi with h|h<;>omega))⟩
 have hgenV:∀ i d,D i=some d→genOf (V i)=none:=by
  intro i d hd
  obtain⟨io,hio,_⟩:=hDinv i d hd
  exact (hS i io hio).2.1
 have main:∀ (n:Nat) (listed:Array Bool) (x:AS) (gh:Gh) (w:World) (a:Act),listed.size=ops.size→(∀ l:List Nat,l.Nodup→(∀ i,i∈l→i<ops.size∧listed.getD i true=false)→l.length≤n) →
   (∀ j o,ops[j]?=some o→listed.getD j false=true→∀ e,e∈o.after→Region.binds .any e=true→listed.getD e.on false=true) →
   Agree s D V (fun i=>listed.getD i false=true) x→Inv G base nt L H0 gh0 w0 x gh w a→wpAny P .any ops Q n listed a w:=by
  intro n
  induction n with
  | zero =>
   intro listed x gh w a hsz hfew hclosed hA hI
   have hall:∀ i,i<ops.size→listed.getD i false=true:=by
    intro i hi
    cases hb:listed.getD i true with
    | true =>
     have:i<listed.size:=by omega
     simpa [this] using hb
    | false =>
     have:=hfew [i] (by simp) (fun j hj=>by simp at hj;subst hj;exact⟨hi,hb⟩)
     simp at this
   have hready:Region.ready .any ops listed=[]:=by
    cases hr:Region.ready .any ops listed with
    | nil=>rfl
    | cons i r =>
     have hm:i∈Region.ready .any ops listed:=by rw[hr];exact List.mem_cons_self
     obtain⟨h1,o,h2,_⟩:=mem_ready.1 hm
     have hlt:=(Array.getElem?_eq_some_iff.1 h2).1
     have:=hall i hlt
     have hlt' : i<listed.size:=by omega
     simp[hlt'] at this h1
     rw[this] at h1
     cases h1
   refine⟨hready,?_⟩
   have hx:x=s':=by
    rw[← hn]
    refine hA.eq (B:=fun i=>i<is.length) (fun i=>?_) (hwritten _ (Nat.le_refl _))
    constructor
    ·intro h
     have hlt:i<listed.size:=by
      rcases Nat.lt_or_ge i listed.size with h'|h'
      ·exact h'
      ·simp[Array.getElem?_eq_none h'] at h
     rw[← hord.len];omega
    ·intro h
     exact hall i (by rw[hord.len];exact h)
   rw[hx] at hI
   exact hQ a gh w hI
  | succ n ih =>
   intro listed x gh w a hsz hfew hclosed hA hI
   refine⟨fun hready=>?_,fun i hi=>?_⟩
   ·
    have hall:∀ i,i<ops.size→listed.getD i false=true:=by
     intro i
     induction i using Nat.strongRecOn with
     | _ i ihi =>
      intro hlt
      have hlt' : i<listed.size:=by omega
      cases hb:listed.getD i true with
      | true=>simpa [hlt'] using hb
      | false =>
       exfalso
       have ho:=Array.getElem?_eq_getElem hlt
       have:i∈Region.ready .any ops listed:=mem_ready.2 ⟨hb,_,ho,fun e he hbind=>by
        have hlt2:=hord.back i _ ho e he hbind
        exact ihi e.on hlt2 (by omega)⟩
       rw[hready] at this
       cases this
    have hx:x=s':=by
     rw[← hn]
     refine hA.eq (B:=fun i=>i<is.length) (fun i=>?_) (hwritten _ (Nat.le_refl _))
     constructor
     ·intro h
      have hlt:i<listed.size:=by
       rcases Nat.lt_or_ge i listed.size with h'|h'
       ·exact h'
       ·simp[Array.getElem?_eq_none h'] at h
      rw[← hord.len];omega
     ·intro h
      exact hall i (by rw[hord.len];exact h)
    rw[hx] at hI
    exact hQ a gh w hI
   ·obtain⟨hun,o,ho,hafter⟩:=mem_ready.1 hi
    have hlt:=(Array.getElem?_eq_some_iff.1 ho).1
    have hlt' : i<listed.size:=by omega
    obtain⟨io,hio,hco⟩:=hcomp i o (by simpa using ho)
    have hunA:¬ (listed.getD i false=true):=by
     simp[hlt'] at hun ⊢
     exact hun
    have hAi:=hwritten i (by rw[← hord.len];omega)
    have hsame:Same (S i) x io.looks:=by
     refine⟨by rw[hAi.H,hA.H],fun t ht=>?_,fun b=>?_⟩
     ·by_cases hw:∃ j,D j=some t
      ·obtain⟨j,hj⟩:=hw
       have uniq:∀ k,D k=some t→k=j:=by
        intro k hk
        by_cases hkj:k=j
        ·exact hkj
        ·exact absurd hj (honce k j t hkj hk)
       obtain⟨q,hq,hqd⟩:=hDinv j t hj
       by_cases hij:i=j
       ·subst hij
        rw[hAi.not t (fun k hk hd=>by have:=uniq k hd;omega),hA.not t (fun k hk hd=>by rw[uniq k hd] at hk;exact hunA hk)]
       ·have hoj:∃ o',ops[j]?=some o':=⟨_,Array.getElem?_eq_getElem (show j<ops.size by rw[hord.len];exact (List.getElem?_eq_some_iff.1 hq).1)⟩
        obtain⟨o',ho'⟩:=hoj
        rcases hord.look i j o o' io q t ho ho' hio hq hij hqd ht with ⟨hji,e,he,hbind,hon⟩|⟨hji,e,he,hbind,hon⟩
        ·have hjA:=hafter e he hbind
         rw[hon] at hjA
         rw[hAi.did j hji t hj,hA.did j hjA t hj]
        ·have hjA:¬ (listed.getD j false=true):=by
          intro h
          have:=hclosed j o' ho' h e he hbind
          rw[hon] at this
          exact hunA this
         rw[hAi.not t (fun k hk hd=>by have:=uniq k hd;omega),hA.not t (fun k hk hd=>by rw[uniq k hd] at hk;exact hjA hk)]
      ·rw[hAi.not t (fun k _ hd=>hw ⟨k,hd⟩),hA.not t (fun k _ hd=>hw ⟨k,hd⟩)]
     ·by_cases hw:∃ j,D j=some b
      ·obtain⟨j,hj⟩:=hw
       obtain⟨q,hq,hqd⟩:=hDinv j b hj
       have hbL:=hord.notL j q b hq hqd
       have h1:genOf (x.T b)=none:=by
        cases hg:genOf (x.T b) with
        | none=>rfl
        | some k=>exact absurd (hI.F.obj b (by rw[hg];rfl)) hbL
       have hsb:genOf (s.T b)=none:=by
        cases hg:genOf (s.T b) with
        | none=>rfl
        | some k=>exact absurd (‹Inv G base nt L H0 gh0 w0 s _ _ _›.F.obj b (by rw[hg];rfl)) hbL
       refine .inr ?_
       by_cases hji:j<i
       ·rw[hAi.did j hji b hj];exact hgenV j b hj
       ·rw[hAi.not b (fun k hk hd=>by
         by_cases hkj:k=j
         ·omega
         ·exact honce k j b hkj hd hj)]
        exact hsb
      ·exact .inl (by rw[hAi.not b (fun k _ hd=>hw ⟨k,hd⟩),hA.not b (fun k _ hd=>hw ⟨k,hd⟩)])
    have hev:=evVal_congr hsame (fun t h=>h) (hS i io hio).1
    unfold wpOp
    rw[ho]
    refine oper_step hcf hI hco hLl hLm hev _ Q (fun a' gh' w' hI'=>?_)
    rw[← (compOper_inv hco).2.2.1,← hD i io hio] at hI'
    have hset:∀ j,(listed.setIfInBounds i true).getD j false=true↔(listed.getD j false=true∨j=i):=by
     intro j
     by_cases hji:i=j
     ·subst hji
      simp[hlt']
     ·rw[getD_set_ne false hji]
      simp[Ne.symm hji]
    refine ih (listed.setIfInBounds i true) _ gh' w' a' (by simpa using hsz) (fun l hnd hl=>?_) (fun j o' ho' hj e he hbind=>?_) ?_ hI'
    ·have hil:i∉l:=by
      intro hm
      have:=(hl i hm).2
      simp[hlt'] at this
     have:=hfew (i :: l) (List.nodup_cons.2 ⟨hil,hnd⟩) (fun j hj=>by
      rcases List.mem_cons.1 hj with rfl|hj
      ·exact⟨hlt,hun⟩
      ·have h1:=hl j hj
       have hji:i≠j:=by rintro rfl;exact hil hj
       rw[getD_set_ne true hji] at h1
       exact h1)
     simp at this
     omega
    ·rcases (hset j).1 hj with h|rfl
     ·exact (hset _).2 (.inl (hclosed j o' ho' h e he hbind))
     ·rw[ho] at ho'
      injection ho' with ho'
      subst ho'
      exact (hset _).2 (.inl (hafter e he hbind))
    ·have:=hA.put (i:=i) (fun j hj hne d hd=>honce i j d (Ne.symm hne) hd)
     exact⟨this.H,this.gen,this.lo,fun j hj=>this.did j ((hset j).1 hj),fun t ht=>this.not t (fun j hj=>ht j ((hset j).2 hj))⟩
 refine main ops.size _ s gh w a (by simp) (fun l hnd hl=>?_) (fun j o hj h=>?_) ?_ hI
 ·exact nodup_len ops.size l hnd (fun i hi=>(hl i hi).1)
 ·exfalso
  have:(Array.replicate ops.size false).getD j false=false:=by
   by_cases h:j<ops.size<;>simp[h]
  rw[this] at h
  cases h
 ·have hno:∀ i,¬ ((Array.replicate ops.size false).getD i false=true):=by
   intro i h
   have:(Array.replicate ops.size false).getD i false=false:=by
    by_cases h:i<ops.size<;>simp[h]
   rw[this] at h
   cases h
  exact⟨rfl,rfl,rfl,fun i hi=>absurd hi (hno i),fun t _=>rfl⟩
end
end Go.Abs
end
section
namespace Go.Abs
set_option linter.unusedSimpArgs false
set_option linter.unusedVariables false
theorem slotA_inv {o:IOper} {d:Nat} (h:slotA o=some d):o=⟨some d,none,.allocL (zeroA o)⟩:=by
 unfold slotA at h
 split at h
 ·injection h with h;subst h;rfl
 ·cases h
theorem slotS_inv {M:List Nat} {o:IOper} {d:Nat} {y:IArg} (h:slotS M o=some (d,y)):d∈M∧∃ sz,o=⟨none,none,.store sz (.tmp d) y⟩:=by
 unfold slotS at h
 split at h
 ·rename_i sz e y'
  obtain⟨h0,h⟩:=cond_some h
  injection h with h
  injection h with h1 h2
  subst h1 h2
  exact⟨by simpa using h0,sz,rfl⟩
 ·cases h
def disown:AV→AV
 | .slice e true=>.slice e false
 | v=>v
theorem spent_tmp (s:AS) (t u:Nat):(s.spent (.tmp t)).T u=if u=t then disown (s.T t) else s.T u:=by
 unfold AS.spent
 simp only
 split
 ·rename_i e h
  simp only[AS.setT,put_T,h,disown]
 ·rename_i h
  by_cases hu:u=t
  ·subst hu
   rw[if_pos rfl]
   generalize s.T u=X at h
   cases X<;>try rfl
   rename_i e own
   cases own
   ·rfl
   ·exact absurd rfl (h e)
  ·rw[if_neg hu]
section
variable {G:Nat→List AV} {cf:CallF}
theorem maskOps_ev:∀ (M:List Nat) (s s1:AS),evOps G cf false (maskOps M) s=some s1 →
  s1.H=s.H∧s1.lo=s.lo∧s1.gen=s.gen+M.length∧∀ t,s1.T t=if t∈M then .undef else s.T t
 | [],s,s1,h=>by
  simp only[maskOps,List.flatMap_nil,evOps,Option.some.injEq] at h
  subst h
  simp
 | d :: M,s,s1,h=>by
  have e:maskOps (d :: M)=⟨some d,none,.allocL []⟩ :: ⟨some d,none,.mov false false (.con .undef)⟩ :: maskOps M:=rfl
  rw[e] at h
  simp only[evOps,evOper,evOp,evMov,IArg.eval,Option.bind_some,cond_false,Bool.false_and,AS.putD] at h
  obtain⟨h1,h2,h3,h4⟩:=maskOps_ev M _ _ h
  refine⟨h1,h2,?_,fun t=>?_⟩
  ·rw[h3];simp[AS.setT];omega
  ·rw[h4]
   simp only[AS.setT,put_T,List.mem_cons]
   by_cases ht:t∈M
   ·simp[ht]
   ·by_cases hd:t=d<;>simp[ht,hd]
theorem onlyA_ev:∀ (l:List IOper) (s s' : AS),(∀ o,o∈l→(slotA o).isSome=true)→(l.filterMap slotA).Nodup→evOps G cf false l s=some s' →
  s'.H=s.H∧s'.lo=s.lo∧s'.gen=s.gen+l.length∧(∀ t,t∉l.filterMap slotA→s'.T t=s.T t)∧∀ k o d,l[k]?=some o→slotA o=some d→s'.T d=.lbox (s.gen+k) (zeroA o)
 | [],s,s',_,_,h=>by
  simp only[evOps,Option.some.injEq] at h
  subst h
  exact⟨rfl,rfl,rfl,fun _ _=>rfl,fun k o d hk=>by simp at hk⟩
 | o :: l,s,s',hl,hnd,h=>by
  obtain⟨d,hd⟩:=Option.isSome_iff_exists.1 (hl o List.mem_cons_self)
  have hf:(o :: l).filterMap slotA=d :: l.filterMap slotA:=by simp[List.filterMap_cons,hd]
  rw[hf] at hnd
  obtain⟨hn1,hn2⟩:=List.nodup_cons.1 hnd
  have ho:=slotA_inv hd
  rw[ho] at h
  simp only[evOps,evOper,evOp,Option.bind_some,cond_false,AS.putD] at h
  obtain⟨h1,h2,h3,h4,h5⟩:=onlyA_ev l _ s' (fun o ho=>hl o (List.mem_cons_of_mem _ ho)) hn2 h
  refine⟨h1,h2,?_,fun t ht=>?_,fun k o' d' hk hd'=>?_⟩
  ·rw[h3];simp[AS.setT];omega
  ·rw[hf,List.mem_cons,not_or] at ht
   rw[h4 t ht.2]
   simp[AS.setT,put_T,ht.1]
  ·cases k with
   | zero =>
    simp only[List.getElem?_cons_zero,Option.some.injEq] at hk
    subst hk
    rw[hd] at hd'
    injection hd' with hd'
    subst hd'
    rw[h4 d hn1]
    simp[AS.setT,put_T]
   | succ k =>
    rw[h5 k o' d' (by simpa using hk) hd']
    simp[AS.setT];omega
theorem store_ev {s:AS} {sz d:Nat} {y:IArg} {z:AV} {s' : AS} (h:evOp G cf s (.store sz (.tmp d) y)=some (z,some s')) {g:Nat} {cs:List AV} (hT:s.T d=.lbox g cs) :
  ∃ vs,(y.eval G s.T).cells=some vs∧vs.length=sz∧sz≤cs.length∧vs.all frameCell=true∧z=.undef∧s'=(s.setT d (.lbox g (putAt cs 0 vs))).spent y:=by
 simp only[evOp,IArg.addr,hT,Option.map_eq_some_iff,Prod.mk.injEq,Option.some.injEq] at h
 obtain⟨s1,h,rfl,rfl⟩:=h
 unfold storeAV at h
 split at h
 ·cases h
 rename_i vs hvs
 obtain⟨h0,h⟩:=cond_some h
 simp only[hT,Nat.zero_add] at h
 obtain⟨h1,h⟩:=cond_some h
 injection h with h
 simp only[Bool.and_eq_true,nbeq,decide_eq_true_eq,Nat.ble_eq] at h0 h1
 exact⟨vs,hvs,h0,h1.1.2,h1.2,rfl,by rw[h]⟩
theorem store_back {s:AS} {sz d:Nat} {y:IArg} {g:Nat} {cs vs:List AV} (hT:s.T d=.lbox g cs) (h1:(y.eval G s.T).cells=some vs) (h2:vs.length=sz) (h3:sz≤cs.length) (h4:vs.all frameCell=true) :
  evOp G cf s (.store sz (.tmp d) y)=some (.undef,some ((s.setT d (.lbox g (putAt cs 0 vs))).spent y)):=by
 simp only[evOp,IArg.addr,hT]
 unfold storeAV
 rw[h1]
 simp only[hT,Nat.zero_add,h4,Bool.and_true]
 have e1:Nat.beq vs.length sz=true:=by rw[nbeq];simpa using h2
 have e2:Nat.beq g g=true:=by rw[nbeq];simp
 have e3:Nat.ble sz cs.length=true:=by simpa [Nat.ble_eq] using h3
 simp[e1,e2,e3]
end
section
variable {G:Nat→List AV} {cf:CallF}
theorem eval_eq {T T' : AFrame} {y:IArg} (h:∀ t,t∈y.tmps→T' t=T t):y.eval G T'=y.eval G T:=by
 cases y<;>try rfl
 exact h _ (by simp[IArg.tmps])
theorem spent_H' (s:AS) (y:IArg):(s.spent y).H=s.H∧(s.spent y).gen=s.gen∧(s.spent y).lo=s.lo:=by
 cases y<;>try exact⟨rfl,rfl,rfl⟩
 unfold AS.spent
 simp only
 split<;>exact⟨rfl,rfl,rfl⟩
theorem spent_other (s:AS) (y:IArg) {t:Nat} (h:t∉y.tmps):(s.spent y).T t=s.T t:=by
 cases y<;>try rfl
 rename_i u
 rw[spent_tmp,if_neg (by simpa [IArg.tmps] using h)]
theorem onlyS_ev {M:List Nat} : ∀ (l:List IOper) (s s' : AS),(∀ o,o∈l→(slotS M o).isSome=true) →
  (∀ (i j:Nat) (p q:IOper) (d:Nat) (y:IArg) (e:Nat) (x:IArg),l[i]?=some p→l[j]?=some q→i≠j→slotS M p=some (d,y)→slotS M q=some (e,x)→d≠e∧∀ t,t∈y.tmps→t∉x.tmps) →
  (∀ (p:IOper) (d:Nat) (y:IArg),p∈l→slotS M p=some (d,y)→∀ t,t∈y.tmps→t∉M)→(∀ d,d∈M→∃ g z,s.T d=.lbox g z)→evOps G cf false l s=some s' →
  s'.H=s.H∧s'.lo=s.lo∧s'.gen=s.gen ∧
  (∀ t,(∀ p d y,p∈l→slotS M p=some (d,y)→t≠d∧t∉y.tmps)→s'.T t=s.T t) ∧
  ∀ p d y,p∈l→slotS M p=some (d,y)→∃ sz g z vs,p=⟨none,none,.store sz (.tmp d) y⟩∧s.T d=.lbox g z∧(y.eval G s.T).cells=some vs∧vs.length=sz∧sz≤z.length∧vs.all frameCell=true ∧
   s'.T d=.lbox g (putAt z 0 vs)∧∀ t,t∈y.tmps→s'.T t=disown (s.T t)
 | [],s,s',_,_,_,_,h=>by
  simp only[evOps,Option.some.injEq] at h
  subst h
  exact⟨rfl,rfl,rfl,fun _ _=>rfl,fun p d y hp=>by cases hp⟩
 | o :: l,s,s',hl,hdis,hout,hbox,h=>by
  obtain⟨⟨d,y⟩,hd⟩:=Option.isSome_iff_exists.1 (hl o List.mem_cons_self)
  obtain⟨hdM,sz,ho⟩:=slotS_inv hd
  obtain⟨g,z,hT⟩:=hbox d hdM
  have hyM:=hout o d y List.mem_cons_self hd
  have hyd:d∉y.tmps:=fun hm=>hyM d hm hdM
  simp only[evOps,Option.bind_eq_some_iff] at h
  obtain⟨s1,h1,h⟩:=h
  rw[ho] at h1
  simp only[evOper,Option.bind_eq_some_iff] at h1
  obtain⟨⟨zv,s2⟩,hev,h1⟩:=h1
  have hs2:∃ s3,s2=some s3:=by
   cases s2 with
   | some s3=>exact⟨s3,rfl⟩
   | none=>simp[evOp] at hev
  obtain⟨s3,rfl⟩:=hs2
  obtain⟨vs,c1,c2,c3,c4,c5,c6⟩:=store_ev hev hT
  simp only[cond_false,AS.putD,Option.some.injEq] at h1
  subst h1
  subst c6
  have kT:∀ t,t∉y.tmps→((s.setT d (.lbox g (putAt z 0 vs))).spent y).T t=if t=d then .lbox g (putAt z 0 vs) else s.T t:=by
   intro t ht
   rw[spent_other _ _ ht]
   simp only[AS.setT,put_T]
  have kY:∀ t,t∈y.tmps→((s.setT d (.lbox g (putAt z 0 vs))).spent y).T t=disown (s.T t):=by
   intro t ht
   cases y with
   | tmp u =>
    simp only[IArg.tmps,List.mem_singleton] at ht
    subst ht
    rw[spent_tmp,if_pos rfl]
    have:t≠d:=fun h=>hyd (by simp[IArg.tmps,h])
    simp[AS.setT,put_T,this]
   | _=>simp[IArg.tmps] at ht
  have hrest:∀ p e x,p∈l→slotS M p=some (e,x)→d≠e∧(∀ t,t∈y.tmps→t∉x.tmps):=by
   intro p e x hp hq
   obtain⟨j,hj⟩:=List.mem_iff_getElem?.1 hp
   exact hdis 0 (j+1) o p d y e x rfl (by simpa using hj) (by omega) hd hq
  obtain⟨e1,e2,e3,e4,e5⟩:=onlyS_ev l _ s' (fun o ho=>hl o (List.mem_cons_of_mem _ ho)) (fun i j p q d y e x hi hj hij=>hdis (i+1) (j+1) p q d y e x (by simpa using hi) (by simpa using hj) (by omega))
   (fun p d y hp=>hout p d y (List.mem_cons_of_mem _ hp)) (fun e he=>by
    rw[kT e (fun hm=>hyM e hm he)]
    split
    ·exact⟨_,_,rfl⟩
    ·exact hbox e he) h
  refine⟨by rw[e1,(spent_H' _ _).1];rfl,by rw[e2,(spent_H' _ _).2.2];rfl,by rw[e3,(spent_H' _ _).2.1];rfl,fun t ht=>?_,fun p e x hp hq=>?_⟩
  ·have h0:=ht o d y List.mem_cons_self hd
   rw[e4 t (fun p d y hp hq=>ht p d y (List.mem_cons_of_mem _ hp) hq),kT t h0.2,if_neg h0.1]
  ·rcases List.mem_cons.1 hp with rfl|hp
   ·rw[hd] at hq
    injection hq with hq
    injection hq with q1 q2
    subst q1 q2
    refine⟨sz,g,z,vs,ho,hT,c1,c2,c3,c4,?_,fun t ht=>?_⟩
    ·rw[e4 d (fun p e x hp hq=>⟨(hrest p e x hp hq).1,fun hm=>hout p e x (List.mem_cons_of_mem _ hp) hq d hm hdM⟩),kT d hyd,if_pos rfl]
    ·rw[e4 t (fun p e x hp hq=>⟨fun h=>hyM t ht (by rw[h];exact (slotS_inv hq).1),(hrest p e x hp hq).2 t ht⟩),kY t ht]
   ·obtain⟨heM,_⟩:=slotS_inv hq
    obtain⟨hde,hyx⟩:=hrest p e x hp hq
    have hxM:=hout p e x (List.mem_cons_of_mem _ hp) hq
    obtain⟨sz',g',z',vs',f1,f2,f3,f4,f5,f6,f7,f8⟩:=e5 p e x hp hq
    rw[kT e (fun hm=>hyM e hm heM),if_neg (Ne.symm hde)] at f2
    have hsame:∀ t,t∈x.tmps→((s.setT d (.lbox g (putAt z 0 vs))).spent y).T t=s.T t:=by
     intro t ht
     rw[kT t (fun hm=>hyx t hm ht),if_neg (fun h=>hxM t ht (by rw[h];exact hdM))]
    rw[eval_eq hsame] at f3
    exact⟨sz',g',z',vs',f1,f2,f3,f4,f5,f6,f7,fun t ht=>by rw[f8 t ht,hsame t ht]⟩
end
section
variable {G:Nat→List AV} {base nt:Nat} {L:List Nat} {gh:Gh} {w w' : World} {a:Act} {s:AS}
theorem Inv.rename {H0:AHeap} {gh0:Gh} {w0:World} (hI:Inv G base nt L H0 gh0 w0 s gh w a) {d g:Nat} {cs:List AV} (hT:s.T d=.lbox g cs) (hd:d<nt) {k:Nat} (hk:s.gen≤k) :
  Inv G base nt L H0 gh0 w0 { s with T:=s.T.put d (.lbox k cs),gen:=k+1 } gh w a:=by
 refine⟨hI.W,?_,hI.E,hI.lo.same_HL rfl rfl⟩
 refine hI.F.update (touch:=fun _=>False) (Step.refl _ _ _ _ (fun b hb=>hI.W.not_outer b hb)) hI.F.defers hI.F.size (Nat.le_refl _) (Nat.le_succ_of_le hk) (fun i=>i=d) ?_ ?_ ?_
 ·intro i hi
  exact⟨by simp[put_T,hi],fun _=>⟨rfl,id,id,fun _=>id⟩⟩
 ·rintro i rfl
  exact .inr (.inr ⟨hI.F.obj i (by rw[hT];rfl),k,hk,by simp[put_T,genOf]⟩)
 ·rintro i rfl hi
  have h:=hI.F.slot i hi
  rw[hT] at h
  obtain⟨_,b,hv,hb⟩:=h
  simp only[put_T,if_true]
  exact⟨Nat.lt_succ_self _,b,hv,hb⟩
end
theorem nodup_sub:∀ (M l:List Nat),l.Nodup→(∀ x,x∈l→x∈M)→l.length≤M.length
 | [],l,_,h=>by
  cases l with
  | nil=>exact Nat.le_refl _
  | cons i l=>exact absurd (h i List.mem_cons_self) (by simp)
 | m :: M,l,hnd,h=>by
  have ih:=nodup_sub M (l.erase m) (hnd.erase m) (fun i hi=>by
   have:=(hnd.mem_erase_iff).1 hi
   rcases List.mem_cons.1 (h i this.2) with h|h
   ·exact absurd h this.1
   ·exact h)
  rw[List.length_erase] at ih
  simp only[List.length_cons]
  split at ih<;>omega
section
variable {G:Nat→List AV} {base nt:Nat} {L:List Nat} {gh:Gh} {w w' : World} {a:Act}
theorem Inv.renameAll {H0:AHeap} {gh0:Gh} {w0:World} : ∀ (l:List Nat) (x:AS) (g0:Nat),Inv G base nt L H0 gh0 w0 x gh w a→l.Nodup→(∀ d,d∈l→d<nt∧∃ g cs,x.T d=.lbox g cs)→x.gen≤g0→l≠[] →
  ∃ x',Inv G base nt L H0 gh0 w0 x' gh w a∧x'.H=x.H∧x'.lo=x.lo∧x'.gen=g0+l.length∧(∀ t,t∉l→x'.T t=x.T t)∧∀ (k d:Nat),l[k]?=some d→∀ g cs,x.T d=.lbox g cs→x'.T d=.lbox (g0+k) cs
 | [],x,g0,_,_,_,_,hne=>absurd rfl hne
 | d :: l,x,g0,hI,hnd,hb,hg,_=>by
  obtain⟨hn1,hn2⟩:=List.nodup_cons.1 hnd
  obtain⟨hdn,g,cs,hT⟩:=hb d List.mem_cons_self
  have hI1:=hI.rename hT hdn hg
  by_cases hl:l=[]
  ·subst hl
   refine⟨_,hI1,rfl,rfl,rfl,fun t ht=>?_,fun k e hk g' cs' he=>?_⟩
   ·simp only[List.mem_singleton] at ht
    simp[put_T,ht]
   ·cases k with
    | zero =>
     simp only[List.getElem?_cons_zero,Option.some.injEq] at hk
     subst hk
     rw[hT] at he
     injection he with h1 h2
     simp[put_T,h2]
    | succ k=>simp at hk
  ·obtain⟨x',r1,r2,r3,r4,r5,r6⟩:=Inv.renameAll l _ (g0+1) hI1 hn2 (fun e he=>by
    obtain⟨h1,g',cs',h2⟩:=hb e (List.mem_cons_of_mem _ he)
    have hne:e≠d:=fun h=>hn1 (h ▸ he)
    exact⟨h1,g',cs',by simp[put_T,hne,h2]⟩) (Nat.le_refl _) hl
   refine⟨x',r1,r2,r3,by rw[r4];simp;omega,fun t ht=>?_,fun k e hk g' cs' he=>?_⟩
   ·rw[List.mem_cons,not_or] at ht
    rw[r5 t ht.2]
    simp[put_T,ht.1]
   ·cases k with
    | zero =>
     simp only[List.getElem?_cons_zero,Option.some.injEq] at hk
     subst hk
     rw[hT] at he
     injection he with h1 h2
     rw[r5 d hn1]
     simp[put_T,h2]
    | succ k =>
     have hk' : l[k]?=some e:=by simpa using hk
     have hne:e≠d:=fun h=>hn1 (h ▸ List.mem_of_getElem? hk')
     rw[r6 k e hk' g' cs' (by simp[put_T,hne,he])]
     congr 1
     omega
end
structure Order2 (L:List Nat) (ops:Array Oper) (is:List IOper):Prop where
 len:ops.size=is.length
 back:∀ (i:Nat) (o:Oper),ops[i]?=some o→∀ e,e∈o.after→Region.binds .any e=true→e.on<i
 inL:∀ d,d∈boxesOf is→d∈L
 some:boxesOf is≠[]
 notL:∀ (i:Nat) (io:IOper) (d:Nat),is[i]?=.some io→isP (boxesOf is) io=true→io.dst=.some d→d∉L
 hide:∀ (i:Nat) (io:IOper),is[i]?=.some io→isP (boxesOf is) io=true→∀ t,t∈io.looks→t∉boxesOf is
 once:∀ (i j:Nat) (p q:IOper) (d:Nat),is[i]?=.some p→is[j]?=.some q→i≠j→q.dst=.some d→p.dst≠.some d
 look:∀ (i j:Nat) (o o' : Oper) (p q:IOper) (d:Nat),ops[i]?=.some o→ops[j]?=.some o'→is[i]?=.some p→is[j]?=.some q→i≠j→q.dst=.some d→d∈p.looks →
  (j<i∧∃ e,e∈o.after∧Region.binds .any e=true∧e.on=j)∨(i<j∧∃ e,e∈o'.after∧Region.binds .any e=true∧e.on=i)
 sY:∀ (i:Nat) (io:IOper) (d:Nat) (y:IArg),is[i]?=.some io→slotS (boxesOf is) io=.some (d,y)→∀ t,t∈y.tmps→t∉boxesOf is
 sOne:∀ (i j:Nat) (p q:IOper) (d:Nat) (y:IArg) (e:Nat) (x:IArg),is[i]?=.some p→is[j]?=.some q→i≠j→slotS (boxesOf is) p=.some (d,y)→slotS (boxesOf is) q=.some (e,x)→d≠e
 sAlone:∀ (i j:Nat) (p q:IOper) (d:Nat) (y:IArg),is[i]?=.some p→is[j]?=.some q→i≠j→slotS (boxesOf is) p=.some (d,y)→∀ t,t∈y.tmps→t∉q.looks
 sBack:∀ (i j:Nat) (p q:IOper) (d:Nat) (y:IArg) (t:Nat),is[i]?=.some p→is[j]?=.some q→slotS (boxesOf is) p=.some (d,y)→q.dst=.some t→t=d∨t∈y.tmps→j<i
theorem orderOk2_inv {L:List Nat} {ops:Array Oper} {is:List IOper} (hl:ops.size=is.length) (h:orderOk2 L (ops.toList.zip is)=true):Order2 L ops is:=by
 have mem:∀ (i:Nat) (o:Oper) (io:IOper),ops[i]?=some o→is[i]?=some io→((o,io),i)∈(ops.toList.zip is).zipIdx:=by
  intro i o io h1 h2
  rw[List.mem_iff_getElem?]
  refine⟨i,?_⟩
  rw[List.getElem?_zipIdx,(List.getElem?_zip_eq_some (z:=(o,io))).2 ⟨by simpa using h1,h2⟩]
  simp
 have opAt:∀ (i:Nat) (io:IOper),is[i]?=some io→∃ o,ops[i]?=some o:=by
  intro i io hi
  have:i<ops.size:=by rw[hl];exact (List.getElem?_eq_some_iff.1 hi).1
  exact⟨_,Array.getElem?_eq_getElem this⟩
 have ioAt:∀ (i:Nat) (o:Oper),ops[i]?=some o→∃ io,is[i]?=some io:=by
  intro i o hi
  have:i<is.length:=by rw[← hl];exact (Array.getElem?_eq_some_iff.1 hi).1
  exact⟨_,List.getElem?_eq_getElem this⟩
 have hM:(ops.toList.zip is).map (·.2)=is:=by
  apply List.map_snd_zip
  simp[hl]
 unfold orderOk2 at h
 simp only[hM,Bool.and_eq_true,List.all_eq_true,Bool.not_eq_true',List.isEmpty_eq_false_iff] at h
 obtain⟨⟨hne,hinL⟩,h⟩:=h
 have pairs:∀ (i j:Nat) (o o' : Oper) (p q:IOper),ops[i]?=some o→ops[j]?=some o'→is[i]?=some p→is[j]?=some q→i≠j→∀ d,q.dst=some d →
   p.dst≠some d∧(d∈p.looks→if j<i then edgeTo o j=true else edgeTo o' i=true):=by
  intro i j o o' p q h1 h2 h3 h4 hij d hd
  have:=(h _ (mem i o p h1 h3)).2 _ (mem j o' q h2 h4)
  simp only[Bool.or_eq_true,nbeq,decide_eq_true_eq,hd] at this
  rcases this with this|this
  ·exact absurd this hij
  simp only[Bool.and_eq_true] at this
  refine⟨fun hpd=>?_,fun hlk=>?_⟩
  ·rw[hpd] at this
   simp at this
  ·have h5:=this.2
   simp only[Bool.or_eq_true,Bool.not_eq_true',List.contains_eq_mem,decide_eq_false_iff_not] at h5
   rcases h5 with h5|h5
   ·exact absurd hlk h5
   ·by_cases hji:j<i
    ·rw[if_pos hji]
     rw[show Nat.blt j i=true by simpa [Nat.blt_eq] using hji] at h5
     exact h5
    ·rw[if_neg hji]
     rw[show Nat.blt j i=false by simpa [← Bool.not_eq_true,Nat.blt_eq] using hji] at h5
     exact h5
 have kindS:∀ (i:Nat) (p:IOper) (d:Nat) (y:IArg),is[i]?=some p→slotS (boxesOf is) p=some (d,y)→(∀ t,t∈y.tmps→t∉boxesOf is)∧∀ (j:Nat) (q:IOper),is[j]?=some q→i≠j →
   (∀ e x,slotS (boxesOf is) q=some (e,x)→d≠e)∧(∀ t,t∈y.tmps→t∉q.looks)∧∀ t,q.dst=some t→t=d∨t∈y.tmps→j<i:=by
  intro i p d y hi hs
  obtain⟨o,ho⟩:=opAt i p hi
  have:=(h _ (mem i o p ho hi)).1.2
  simp only[kindOk,hs,Bool.and_eq_true,List.all_eq_true,Bool.not_eq_true',List.contains_eq_mem,decide_eq_false_iff_not] at this
  refine⟨this.1,fun j q hj hij=>?_⟩
  obtain⟨o',ho'⟩:=opAt j q hj
  have h2:=this.2 _ (mem j o' q ho' hj)
  simp only[Bool.or_eq_true,nbeq,decide_eq_true_eq] at h2
  rcases h2 with h2|h2
  ·exact absurd h2 hij
  simp only[Bool.and_eq_true,List.all_eq_true,Bool.not_eq_true',decide_eq_false_iff_not] at h2
  refine⟨fun e x he hde=>?_,h2.1.2,fun t ht htd=>?_⟩
  ·have:=h2.1.1
   rw[he] at this
   simp[hde] at this
  ·have:=h2.2
   rw[ht] at this
   simp only[Bool.or_eq_true,Bool.not_eq_true',Bool.or_eq_false_iff,decide_eq_false_iff_not,Nat.blt_eq] at this
   rcases this with this|this
   ·rcases htd with h|h
    ·exact absurd h this.1
    ·exact absurd h this.2
   ·exact this
 have kindP:∀ (i:Nat) (p:IOper),is[i]?=some p→isP (boxesOf is) p=true→(∀ d,p.dst=some d→d∉L)∧∀ t,t∈p.looks→t∉boxesOf is:=by
  intro i p hi hp
  obtain⟨o,ho⟩:=opAt i p hi
  have:=(h _ (mem i o p ho hi)).1.2
  have hn:slotS (boxesOf is) p=none:=by
   simp only[isP,Bool.and_eq_true,Option.isNone_iff_eq_none] at hp
   exact hp.2
  simp only[kindOk,hn,hp,cond_true,Bool.and_eq_true,List.all_eq_true,Bool.not_eq_true',List.contains_eq_mem,decide_eq_false_iff_not] at this
  refine⟨fun d hd=>?_,this.2⟩
  have h1:=this.1
  rw[hd] at h1
  simpa using h1
 refine⟨hl,fun i o hi e he hb=>?_,fun d hd=>by simpa using hinL d hd,hne,fun i io d hi hp hd=>(kindP i io hi hp).1 d hd,fun i io hi hp=>(kindP i io hi hp).2,fun i j p q d hp hq hij hd=>?_,fun i j o o' p q d h1 h2 h3 h4 hij hd hlk=>?_,
  fun i io d y hi hs=>(kindS i io d y hi hs).1,fun i j p q d y e x hi hj hij hs hs'=>((kindS i p d y hi hs).2 j q hj hij).1 e x hs',fun i j p q d y hi hj hij hs=>((kindS i p d y hi hs).2 j q hj hij).2.1,fun i j p q d y t hi hj hs hq ht=>?_⟩
 ·obtain⟨io,hio⟩:=ioAt i o hi
  have:=(h _ (mem i o io hi hio)).1.1
  simp only[edgesBack] at this
  rw[Array.all_eq_true_iff_forall_mem] at this
  have:=this e he
  simpa [hb,Nat.blt_eq] using this
 ·obtain⟨o,ho⟩:=opAt i p hp
  obtain⟨o',ho'⟩:=opAt j q hq
  exact (pairs i j o o' p q ho ho' hp hq hij d hd).1
 ·have:=(pairs i j o o' p q h1 h2 h3 h4 hij d hd).2 hlk
  by_cases hji:j<i
  ·rw[if_pos hji] at this
   exact .inl ⟨hji,edgeTo_inv this⟩
  ·rw[if_neg hji] at this
   exact .inr ⟨by omega,edgeTo_inv this⟩
 ·by_cases hij:i=j
  ·subst hij
   rw[hi] at hj
   injection hj with hj
   subst hj
   obtain⟨_,sz,hp⟩:=slotS_inv hs
   rw[hp] at hq
   cases hq
  ·exact ((kindS i p d y hi hs).2 j q hj hij).2.2 t hq ht
end Go.Abs
end
