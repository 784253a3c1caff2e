/-
  A part of the proof of PrintForms: AbsRun, AbsDraw, AbsDraw2, AbsDraw3, AbsDraw4, AbsDraw5, AbsDraw6.
-/
import Derived.LoopN
import Derived.Scope
import Derived.Tactics
import Derived.Orders
import Derived.Test.YtbdnnjjcdcacnaaGreatDoorP04
set_option linter.unusedSimpArgs false
set_option linter.unusedVariables false
set_option linter.defProp false
namespace Go.Abs
section
structure fG (H0:ah) (s:AS):Prop where
 lo:s.lo<=H0.length
 len:H0.length<=s.H.length
 same:∀ l,l<s.lo->s.H[l]?=H0[l]?
def xg(s:AS)(c:gJ):Prop:=s.H.length<=c.heap.length/\∀ l,l<c.lo->c.heap[l]?=s.H[l]?
theorem fG.gk{H0:ah}{s:AS}(h:fG H0 s){c:gJ}(hc:xg s c):fG H0 (s.gk c):=by
 have e:(s.gk c).lo=if c.lo<s.lo then c.lo else s.lo:=by
  simp only[AS.gk]
  by_cases hb:c.lo<s.lo
  ·rw[if_pos hb,show Nat.blt c.lo s.lo=true by simpa [aoO] using hb];rfl
  ·rw[if_neg hb,show Nat.blt c.lo s.lo=false by simpa [<- aqn,aoO] using hb];rfl
 have:=h.lo
 refine⟨?_,aoS h.len hc.1,fun l hl=>?_⟩
 ·rw[e];split<;>omega
 ·rw[e] at hl
  have h1:l<c.lo/\l<s.lo:=by split at hl<;>omega
  exact (hc.2 l h1.1).trans (h.same l h1.2)
theorem fG.fK{H0:ah}{s s' : AS}(h:fG H0 s)(hH:s'.H=s.H)(hl:s'.lo=s.lo):fG H0 s' :=
 ⟨by rw[hl];exact h.lo,by rw[hH];exact h.len,fun l zS=>by rw[hH];exact h.same l (by rw[<- hl];exact zS)⟩
theorem nD(s:AS)(loc:Nat)(o:bZ):xg s ⟨s.H.set loc o,loc⟩:=⟨by simp,fun l hl=>by simp only at hl ⊢;rw[List.getElem?_set_ne (by omega)]⟩
theorem Mi(s:AS)(loc:Nat)(hl:loc<s.H.length)(o:bZ):xg s ⟨s.H.set loc .dead++[o],loc⟩:=⟨by simp,fun l zS=>by
 simp only at zS ⊢
 rw[aox (by simp;omega),List.getElem?_set_ne (by omega)]⟩
theorem kO(s:AS)(o:bZ):xg s ⟨s.H++[o],s.H.length⟩:=⟨by simp,fun l hl=>by simp only at hl ⊢;rw[aox hl]⟩
theorem KB{G:Nat->List AV}{cf:dq}(jH:∀ f args H r c,cf f args H=some (r,c)->kY H c){H0:ah}{s s' : AS}{o:fQ}{z:AV}(he:aE G cf s o=some (z,some s'))(h:fG H0 s):fG H0 s':=by
 have sT:∀ t X,fG H0 (s.cc t X):=fun t X=>h.fK rfl rfl
 cases o with
 | mov take obj x =>
  cases x<;>simp only[aE,mz] at he<;>try (cases he;done)
  split at he
  ·cases he
  ·cases take
   ·cases he
   ·cases obj
    ·simp only[cond_true,an8] at he
     obtain⟨_,he⟩:=ae he
     simp only[an2,an7] at he
     rw[<- he.2];exact sT _ _
    ·simp only[cond_true,an2,an7] at he
     rw[<- he.2];exact h.fK rfl rfl
  ·simp only[an2,an7] at he
   obtain⟨_,he⟩:=he
   obtain⟨_,he⟩:=ae he
   injection he with he
   rw[<- he];exact sT _ _
  ·cases he
  ·cases he
 | HR c x=>simp only[aE] at he;obtain⟨_,he⟩:=ae he;simp at he
 | boxL x =>
  simp only[aE,an0,an7,an2] at he
  obtain⟨cs,_,_,rfl⟩:=he
  exact h.fK rfl rfl
 | allocL z0 =>
  simp only[aE,an2,an7] at he
  rw[<- he.2];exact h.fK rfl rfl
 | pH ty z0 =>
  simp only[aE,an2,an7] at he
  rw[<- he.2];exact h.gk (kO s _)
 | box ty x =>
  simp only[aE,an1] at he
  obtain⟨cs,_,he⟩:=he
  obtain⟨_,he⟩:=ae he
  simp only[an2,an7] at he
  rw[<- he.2];exact h.gk (kO s _)
 | xO x =>
  simp only[aE,an1] at he
  obtain⟨cs,_,he⟩:=he
  obtain⟨_,he⟩:=ae he
  simp only[an2,an7] at he
  rw[<- he.2];exact h.gk (kO s _)
 | copyO x y =>
  simp only[aE,rJ] at he
  split at he
  ·split at he
   ·obtain⟨_,he⟩:=ae he
    simp only[an2,an7] at he
    rw[<- he.2];exact h.gk (nD s _ _)
   ·cases he
  ·simp at he
  ·cases he
 | nilS=>simp[aE] at he
 | load take agg sz x =>
  simp only[aE,aq] at he
  split at he
  ·simp at he
  ·split at he
   ·simp only[an0,an7] at he
    obtain⟨u,_,_,he⟩:=he
    obtain⟨_,he⟩:=ae he
    injection he with he
    rw[<- he];exact h.gk (nD s _ _)
   ·simp at he
   ·simp at he
   ·cases he
  ·split at he
   ·obtain⟨_,he⟩:=ae he
    simp only[an0,an7] at he
    obtain⟨u,_,_,he⟩:=he
    obtain⟨_,he⟩:=ae he
    injection he with he
    rw[<- he];exact sT _ _
   ·cases he
  ·split at he
   ·obtain⟨_,he⟩:=ae he
    simp only[an1] at he
    obtain⟨r,_,he⟩:=he
    obtain⟨_,he⟩:=ae he
    simp at he
   ·cases he
  ·cases he
 | store sz x y =>
  simp only[aE,an0,an7,an2] at he
  obtain⟨s1,he,_,rfl⟩:=he
  have h1:fG H0 s1:=by
   unfold br at he
   split at he
   ·cases he
   obtain⟨_,he⟩:=ae he
   split at he
   ·split at he
    ·obtain⟨_,he⟩:=ae he
     injection he with he
     rw[<- he];exact h.gk (nD s _ _)
    ·obtain⟨_,he⟩:=ae he
     injection he with he
     rw[<- he];exact h.gk (nD s _ _)
    ·cases he
   ·split at he
    ·obtain⟨_,he⟩:=ae he
     injection he with he
     rw[<- he];exact sT _ _
    ·cases he
   ·split at he
    ·obtain⟨_,he⟩:=ae he
     simp only[an1] at he
     obtain⟨r,_,he⟩:=he
     obtain⟨_,he⟩:=ae he
     injection he with he
     rw[<- he];exact sT _ _
    ·cases he
   ·cases he
  exact h1.fK (ia _ _).1 (ia _ _).2.2
 | append isB wr sz bytes x y =>
  simp only[aE,dG] at he
  split at he
  ·split at he
   ·simp only[an1] at he
    obtain⟨f,_,he⟩:=he
    obtain⟨_,he⟩:=ae he
    simp only[an2,an7] at he
    rw[<- he.2];exact h.fK rfl rfl
   ·cases wr
    ·simp only[an8,an0,an7,an2] at he
     obtain⟨_,_,_,rfl⟩:=he
     exact sT _ _
    ·simp only[cond_true,an1] at he
     obtain⟨f,_,he⟩:=he
     obtain⟨_,he⟩:=ae he
     simp only[an2,an7] at he
     rw[<- he.2];exact h.fK rfl rfl
   ·cases wr
    ·simp only[an8,an0,an7,an2] at he
     obtain⟨_,_,_,rfl⟩:=he
     exact h
    ·simp only[cond_true,an1] at he
     obtain⟨f,_,he⟩:=he
     obtain⟨_,he⟩:=ae he
     simp only[an2,an7] at he
     rw[<- he.2];exact h.fK rfl rfl
   ·cases he
  ·cases wr
   ·simp at he
   ·cases he
 | call f args =>
  simp only[aE] at he
  split at he
  ·obtain⟨_,he⟩:=ae he
   simp only[an0,an7] at he
   obtain⟨⟨r,c⟩,hr,_,he⟩:=he
   simp only[an0] at he
   obtain⟨c',rfl,rfl⟩:=he
   obtain⟨h1,h2⟩:=jH _ _ _ _ _ hr
   exact h.gk ⟨by simp only[nR] at h1;omega,(h2 c' rfl).2⟩
  ·cases he
 | AK f pre x post =>
  simp only[aE] at he
  obtain⟨_,he⟩:=ae he
  simp only[an1,an0,an7,an2] at he
  obtain⟨⟨xv,s1⟩,hx,⟨r,c⟩,hr,_,rfl⟩:=he
  have h1:fG H0 s1/\s1.H=s.H:=by
   unfold Yr at hx
   split at hx
   ·split at hx
    ·simp only[an2,an7] at hx
     obtain⟨_,rfl⟩:=hx
     exact⟨sT _ _,rfl⟩
    ·cases hx
   ·split at hx
    ·simp only[an2,an7] at hx
     obtain⟨_,rfl⟩:=hx
     exact⟨h,rfl⟩
    ·cases hx
   ·cases hx
  obtain⟨k1,k2⟩:=jH _ _ _ _ _ hr
  cases c with
  | none=>exact h1.1
  | some c' =>
   refine h1.1.gk ⟨?_,?_⟩
   ·have:=h1.1.len;simp only[nR] at k1;rw[h1.2];omega
   ·rw[h1.2];exact (k2 c' rfl).2
 | pick=>simp only[aE] at he;split at he<;>simp at he
 | build=>simp[aE] at he
 | mkslice =>
  simp only[aE,an1] at he
  obtain⟨_,_,he⟩:=he
  obtain⟨_,he⟩:=ae he
  simp at he
 | nilCheck=>simp only[aE] at he;obtain⟨_,he⟩:=ae he;simp at he
 | bin=>simp[aE] at he
 | un=>simp[aE] at he
 | mm=>simp[aE] at he
 | conv=>simp[aE] at he
 | xw=>simp[aE] at he
 | slice=>simp[aE] at he
 | fieldAddr=>simp only[aE] at he;obtain⟨_,he⟩:=ae he;simp at he
 | field=>simp only[aE] at he;split at he<;>simp at he
 | ixSl =>
  simp only[aE] at he
  split at he
  ·simp only[an1] at he
   obtain⟨_,_,_,_,he⟩:=he
   obtain⟨_,he⟩:=ae he
   simp at he
  ·simp only[an1] at he
   obtain⟨_,_,he⟩:=he
   obtain⟨_,he⟩:=ae he
   simp at he
  ·split at he
   ·obtain⟨_,he⟩:=ae he
    simp only[an1] at he
    obtain⟨_,_,_,_,he⟩:=he
    obtain⟨_,he⟩:=ae he
    simp at he
   ·cases he
  ·cases he
 | ixArr =>
  simp only[aE,an1] at he
  obtain⟨_,_,he⟩:=he
  obtain⟨_,he⟩:=ae he
  simp at he
 | index =>
  simp only[aE,an1] at he
  obtain⟨_,_,he⟩:=he
  obtain⟨_,he⟩:=ae he
  split at he<;>simp at he
 | indexStr =>
  simp only[aE] at he
  split at he
  ·simp only[an1,an0,an7] at he
   obtain⟨_,_,_,_,_,he⟩:=he
   cases he
  ·cases he
 | extract=>simp only[aE] at he;split at he<;>simp at he
 | len =>
  simp only[aE] at he
  split at he
  ·split at he
   ·obtain⟨_,he⟩:=ae he
    simp at he
   ·cases he
  ·simp at he
 | mkfunc=>simp only[aE] at he;obtain⟨_,he⟩:=ae he;simp at he
 | iw f xs =>
  simp only[aE] at he
  split at he
  ·obtain⟨_,he⟩:=ae he
   simp only[an1] at he
   obtain⟨r,_,he⟩:=he
   split at he<;>simp at he
  ·cases he
 | appendO sz bytes x y =>
  simp only[aE,iD] at he
  split at he
  ·simp at he
  simp only[iT,an1] at he
  obtain⟨f,_,he⟩:=he
  split at he
  ·obtain⟨_,he⟩:=ae he
   simp only[an2,an7] at he
   rw[<- he.2];exact h.gk (kO s _)
  ·obtain⟨_,he⟩:=ae he
   simp only[an2,an7] at he
   rw[<- he.2];exact h.gk (kO s _)
  ·split at he
   ·rename_i hH
    obtain⟨_,he⟩:=ae he
    simp only[an2,an7] at he
    rw[<- he.2];exact h.gk (Mi s _ (an9.1 hH).1 _)
   ·cases he
  ·cases he
 | nP sz zs ps =>
  simp only[aE,an1] at he
  obtain⟨f,_,he⟩:=he
  obtain⟨_,he⟩:=ae he
  simp only[an2,an7] at he
  rw[<- he.2];exact h.gk (kO s _)
 | wJ sz bytes zero n =>
  simp only[aE,rK,an1] at he
  obtain⟨f,_,he⟩:=he
  obtain⟨_,he⟩:=ae he
  simp only[an2,an7] at he
  rw[<- he.2];exact h.gk (kO s _)
 | uO kz ka va =>
  simp only[aE,an2,an7] at he
  rw[<- he.2];exact h.gk (kO s _)
 | look ok kz ka va ks zero m k =>
  simp only[aE,vD,an1] at he
  obtain⟨_,_,he⟩:=he
  obtain⟨_,he⟩:=ae he
  split at he
  ·simp at he
  ·obtain⟨_,he⟩:=ae he
   simp at he
  ·simp only[an1,an0,an7,reduceCtorEq,aqJ,aqO] at he
 | K3 kz ka ks zero m k =>
  simp only[aE,Cr] at he
  split at he
  ·split at he
   ·simp only[an1] at he
    obtain⟨_,_,he⟩:=he
    obtain⟨_,he⟩:=ae he
    simp only[an1] at he
    obtain⟨o,_,he⟩:=he
    cases o with
    | none=>simp at he
    | some i =>
     simp only[an0,an7,an2] at he
     obtain⟨_,_,_,he⟩:=he
     rw[<- he];exact h.gk (nD s _ _)
   ·cases he
  ·cases he
 | nQ kz ka va vz ks m k v =>
  simp only[aE,an0,an7,an2] at he
  obtain⟨s1,he,_,rfl⟩:=he
  have h1:fG H0 s1:=by
   unfold qG at he
   split at he
   ·split at he
    ·simp only[an1] at he
     obtain⟨_,_,_,_,he⟩:=he
     obtain⟨_,he⟩:=ae he
     simp only[an0] at he
     obtain⟨_,_,he⟩:=he
     rw[<- he];exact h.gk (nD s _ _)
    ·cases he
   ·cases he
  exact h1.fK (ia _ _).1 (ia _ _).2.2
 | Wn m =>
  simp only[aE] at he
  split at he
  ·simp at he
  ·simp at he
  ·split at he
   ·simp at he
   ·simp at he
   ·cases he
  ·cases he
 | rng kz ka va m =>
  simp only[aE] at he
  split at he
  ·simp only[an2,an7] at he
   rw[<- he.2];exact h.fK rfl rfl
  ·obtain⟨_,he⟩:=ae he
   simp only[an2,an7] at he
   rw[<- he.2];exact h.fK rfl rfl
  ·obtain⟨_,he⟩:=ae he
   simp only[an2,an7] at he
   rw[<- he.2];exact h.fK rfl rfl
  ·split at he
   ·obtain⟨_,he⟩:=ae he
    simp only[an2,an7] at he
    rw[<- he.2]
    exact (h.gk (nD s _ _)).fK rfl rfl
   ·cases he
  ·cases he
 | next it=>simp[aE] at he
 | TF it =>
  simp only[aE] at he
  split at he
  ·split at he
   ·obtain⟨_,he⟩:=ae he
    simp at he
   ·cases he
  ·cases he
section
variable {P:Program}{G:Nat->List AV}{base nt:Nat}{L:List Nat}{gh:Gh}{w w' : World}{a:Act}{s:AS}{H:ah}
structure Inv (G:Nat->List AV) (base nt:Nat) (L:List Nat) (H0:ah) (iV:Gh) (w0:World) (s:AS) (gh:Gh) (w:World) (a:Act):Prop where
 W:aX G base s.H gh w
 F:FR L nt gh w a s
 E:Ext H0.length iV w0 gh w
 lo:fG H0 s
theorem Inv.out{H0:ah}{iV aV:Gh}{w0 w' : World}{d:Option Nat}{x:AV}{s' : AS}{v' : Value}(h:Inv G base nt L H0 iV w0 s gh w a)(hO:Out G base nt L gh w a s d x s' v' aV w')(hl:fG H0 s') :
  Inv G base nt L H0 iV w0 (s'.cH d x) aV w' (a.put d v') :=
 ⟨by rw[(jk s' d x).1];exact hO.W,hO.F,h.E.trans hO.E h.lo.len,hl.fK (jk s' d x).1 (jk s' d x).2.2⟩
def nq(G:Nat->List AV)(cf:dq)(draw:Bool)(s:AS)(o:aM):Option (AV × AS) :=
 let run:Option (AV × AS):=(aE G cf s o.op).bind fun r=>match r.2 with
  | none=>cond (draw&&(bk r.1).isSome) none (some (r.1,s))
  | some s'=>cond draw none (some (r.1,s'))
 match o.guard with
 | none=>run
 | some (g,want)=>match s.T g with
  | .bool b=>cond (b==want) run (some (.undef,s))
  | .tuple []=>some (.undef,s)
  | _=>none
theorem nn{G:Nat->List AV}{cf:dq}{draw:Bool}{s:AS}{o:aM} : cd G cf draw s o=(nq G cf draw s o).map fun r=>r.2.cH o.dst r.1:=by
 have cZ:((aE G cf s o.op).bind fun r=>match r.2 with
   | none=>cond (draw&&(bk r.1).isSome) none (some (s.cH o.dst r.1))
   | some s'=>cond draw none (some (s'.cH o.dst r.1))) =
  ((aE G cf s o.op).bind fun r=>match r.2 with
   | none=>cond (draw&&(bk r.1).isSome) none (some (r.1,s))
   | some s'=>cond draw none (some (r.1,s'))).map fun r=>r.2.cH o.dst r.1:=by
  cases aE G cf s o.op with
  | none=>rfl
  | some r =>
   obtain⟨z,s'⟩:=r
   cases s' with
   | none=>simp only[aoe];cases (draw&&(bk z).isSome)<;>rfl
   | some s'=>cases draw<;>rfl
 unfold cd nq
 simp only
 cases o.guard with
 | none=>exact cZ
 | some g =>
  obtain⟨g,want⟩:=g
  simp only
  generalize s.T g=X
  cases X with
  | bool b =>
   simp only
   cases (b==want)
   ·rfl
   ·exact cZ
  | tuple vs=>cases vs<;>rfl
  | _=>rfl
theorem jS{ct locals muts:List Nat}{ops:Array Oper}{o:Oper}{io:aM}(h:qB P ct locals muts nt ops o=some io) :
  dc P ct locals muts nt o.dst o.op=some io.op/\oZ nt ops o.guard=some io.guard/\io.dst=o.dst/\∀ k,o.dst=some k->k<nt:=by
 simp only[qB,an1] at h
 obtain⟨p,hp,g,hg,h⟩:=h
 split at h
 ·rename_i hd
  injection h with h
  subst h
  exact⟨hp,hg,hd.symm,fun k hk=>by rw[hd] at hk;cases hk⟩
 ·rename_i d hd
  obtain⟨h0,h⟩:=ae h
  injection h with h
  subst h
  exact⟨hp,hg,hd.symm,fun k hk=>by rw[hd] at hk;injection hk with hk;subst hk;simpa [aoO] using h0⟩
theorem ph{cf:dq}(jH:fc P G cf){H0:ah}{iV:Gh}{w0:World}(hI:Inv G base nt L H0 iV w0 s gh w a){ct locals muts:List Nat}{ops:Array Oper}{o:Oper}{io:aM}
  (hc:qB P ct locals muts nt ops o=some io) (wY:∀ x,x∈locals->x∈L) (xq:∀ x,x∈muts->x∈L) {draw:Bool} {z:AV} {s1:AS} (he:nq G cf draw s io=some (z,s1)) (K:Act->World->Prop) (Q:Exit->Act->World->Prop)
  (hK:∀ a' aV w',Inv G base nt L H0 iV w0 (s1.cH o.dst z) aV w' a'->K a' w') :
  if Region.wanted o (yielded ops a.tmps) then o.wp P a w K Q\/(o.asks P a w/\LetsOut Q) else K (a.put o.dst undef) w:=by
 obtain⟨dB,hg,alI,hd⟩:=jS hc
 have YM:s1=s->z=.undef->K (a.put o.dst undef) w:=by
  rintro rfl rfl
  exact hK _ gh w (hI.out (Out.pure hI.W hI.F hd (.dC .undef)) hI.lo)
 have cZ:((aE G cf s io.op).bind fun r=>match r.2 with
   | none=>cond (draw&&(bk r.1).isSome) none (some (r.1,s))
   | some s'=>cond draw none (some (r.1,s')))=some (z,s1)->o.wp P a w K Q:=by
  intro h
  simp only[an1] at h
  obtain⟨⟨z',s'⟩,bH,h⟩:=h
  cases s' with
  | none =>
   simp only at h
   have h' : z'=z/\s=s1:=by
    cases hb:(draw&&(bk z').isSome) with
    | true=>rw[hb] at h;cases h
    | false=>rw[hb] at h;simpa using h
   obtain⟨rfl,rfl⟩:=h'
   exact yn jH hI.W hI.F dB wY xq bH hd K Q (fun v' aV w' hO=>hK _ aV w' (hI.out hO hI.lo))
  | some s' =>
   simp only at h
   have h' : z'=z/\s'=s1:=by
    cases draw with
    | true=>cases h
    | false=>simpa using h
   obtain⟨rfl,rfl⟩:=h'
   exact yn jH hI.W hI.F dB wY xq bH hd K Q (fun v' aV w' hO=>hK _ aV w' (hI.out hO (KB (fun f args H r c h=>(jH f args H r c h).2.1) bH hI.lo)))
 cases hog:o.guard with
 | none =>
  rw[hog] at hg
  simp only[oZ,an2] at hg
  have hw:Region.wanted o (yielded ops a.tmps)=true:=by simp[Region.wanted,hog]
  rw[if_pos hw]
  unfold nq at he
  rw[<- hg] at he
  exact .inl (cZ he)
 | some jw =>
  obtain⟨j,want⟩:=jw
  rw[hog] at hg
  simp only[oZ,an1] at hg
  obtain⟨t,⟨oj,hoj,NA⟩,hg⟩:=hg
  obtain⟨bf,hg⟩:=ae hg
  injection hg with hg
  have ht:t<nt:=by simpa [aoO] using bf
  have htm:a.tmps[t]?=some (fP a t):=by
   have:t<a.tmps.size:=by rw[hI.F.size];exact ht
   simp[fP,this]
  have hy:∀ v,fP a t=v->yielded ops a.tmps j=match v with|.bool b=>some b|_=>none:=by
   intro v hv
   unfold yielded
   rw[hoj]
   simp only[aoe,NA,htm,hv]
   cases v<;>rfl
  have uD:=hI.F.slot t ht
  change SR gh s.H.length nt w s.T s.gen (fP a) t (fP a t) (s.T t) at uD
  unfold nq at he
  rw[<- hg] at he
  simp only at he
  split at he
  ·rename_i b hT
   rw[hT] at uD
   have hv:=VR.jI (CR.dropped (uD:CR gh s.H.length w (.sl t) (fP a t) (.bool b)))
   have hw:Region.wanted o (yielded ops a.tmps)=(b==want):=by
    simp only[Region.wanted,hog,hy _ hv]
    cases b<;>cases want<;>rfl
   rw[hw]
   cases hb:(b==want) with
   | true =>
    rw[hb] at he
    rw[if_pos rfl]
    exact .inl (cZ he)
   | false =>
    rw[hb] at he
    simp only[an8,an2,an7] at he
    rw[if_neg (by simp)]
    exact YM he.2.symm he.1.symm
  ·rename_i hT
   rw[hT] at uD
   have hv:=VR.MC (CR.dropped (uD:CR gh s.H.length w (.sl t) (fP a t) (.tuple [])))
   have hw:Region.wanted o (yielded ops a.tmps)=false:=by
    simp only[Region.wanted,hog,hy _ hv]
    rfl
   rw[hw,if_neg (by simp)]
   simp only[an2,an7] at he
   exact YM he.2.symm he.1.symm
  ·cases he
theorem Bs{cf:dq}(jH:fc P G cf){H0:ah}{iV:Gh}{w0:World}{ct locals muts:List Nat}{ops:Array Oper}(wY:∀ x,x∈locals->x∈L)(xq:∀ x,x∈muts->x∈L)(Q:Exit->Act->World->Prop) :
  ∀ (l:List Oper) (is:List aM) (s s' : AS) (gh:Gh) (w:World) (a:Act),Inv G base nt L H0 iV w0 s gh w a->gl P ct locals muts nt ops l=some is->fA G cf false is s=some s' ->
   (∀ a' aV w',Inv G base nt L H0 iV w0 s' aV w' a'->Q .normal a' w')->wpList P ops Q l a w
 | [],is,s,s',gh,w,a,hI,hc,he,hQ=>by
  simp only[gl,an2] at hc
  subst hc
  simp only[fA,an2] at he
  subst he
  exact hQ a gh w hI
 | o :: l,is,s,s',gh,w,a,hI,hc,he,hQ=>by
  simp only[gl,an1,an0] at hc
  obtain⟨io,uz,is',HW,rfl⟩:=hc
  simp only[fA,an1,nn,an0] at he
  obtain⟨s1,⟨⟨z,s2⟩,hz,rfl⟩,he⟩:=he
  unfold wpList
  refine ph jH hI uz wY xq hz _ Q (fun a' aV w' kW=>?_)
  rw[(jS uz).2.2.1] at he
  exact Bs jH wY xq Q l is' _ s' aV w' a' kW HW he hQ
end
end
section
structure qu (s s' : AS) (ts:List Nat):Prop where
 H:s.H=s'.H
 T:∀ t,t∈ts->s.T t=s'.T t
 B:∀ b,s.T b=s'.T b\/bk (s.T b)=none
section
variable {G:Nat->List AV}{cf:dq}{s s' : AS}{ts:List Nat}
theorem qu.eval(h:qu s s' ts){y:aF}(hy:∀ t,t∈y.tmps->t∈ts):y.eval G s'.T=y.eval G s.T:=by
 cases y<;>try rfl
 rename_i t
 exact (h.T t (hy t (by simp[aF.tmps]))).symm
theorem qu.addr(h:qu s s' ts){y:aF}(hy:∀ t,t∈y.tmps->t∈ts):y.addr G s'.T=y.addr G s.T:=by
 cases y<;>try rfl
 rename_i t
 simp only[aF.addr]
 rw[h.T t (hy t (by simp[aF.tmps]))]
theorem qu.box(h:qu s s' ts)(b:Nat){g:Nat}{cs:List AV}(hb:s.T b=.lbox g cs):s'.T b=.lbox g cs:=by
 rcases h.B b with h|h
 ·rw[<- h,hb]
 ·rw[hb] at h;cases h
theorem qu.row(h:qu s s' ts)(b:Nat){g:Nat}{e:List (List AV)}(hb:s.T b=.lsl g e):s'.T b=.lsl g e:=by
 rcases h.B b with h|h
 ·rw[<- h,hb]
 ·rw[hb] at h;cases h
theorem qu.live(h:qu s s' ts){A:AV}(hl:bQ s A=true):bQ s' A=true:=by
 cases A<;>simp only[bQ] at hl ⊢<;>try (cases hl;done)
 ·split at hl
  ·rename_i hT;rw[h.box _ hT];exact hl
  ·cases hl
 ·split at hl
  ·rename_i hT;rw[h.row _ hT];exact hl
  ·cases hl
theorem qu.load(h:qu s s' ts){take agg:Bool}{sz:Nat}{A z:AV}(he:aq s take agg sz A=some (z,none)):aq s' take agg sz A=some (z,none):=by
 have key:∀ {X:Option AV} {x y:AS},X.map (fun v=>(v,cond (take&&!agg) (some x) none))=some (z,none)->X.map (fun v=>(v,cond (take&&!agg) (some y) none))=some (z,none):=by
  intro X x y hX
  cases X with
  | none=>cases hX
  | some v=>cases hb:(take&&!agg)<;>simp_all
 cases A<;>simp only[aq] at he ⊢<;>try (cases he;done)
 ·exact he
 ·rw[<- h.H]
  split at he
  ·exact key he
  ·exact he
  ·exact he
  ·cases he
 ·split at he
  ·rename_i hT
   rw[h.box _ hT]
   obtain⟨h0,he⟩:=ae he
   simp only[h0,cond_true]
   exact key he
  ·cases he
 ·split at he
  ·rename_i hT
   rw[h.row _ hT]
   exact he
  ·cases he
theorem qu.mov(h:qu s s' ts){take obj:Bool}{y:aF}{z:AV}(hy:∀ t,t∈y.tmps->t∈ts)(he:mz G s take obj y=some (z,none)):mz G s' take obj y=some (z,none):=by
 cases y with
 | tmp t =>
  have e:=h.T t (hy t (by simp[aF.tmps]))
  simp only[mz] at he ⊢
  rw[<- e]
  generalize s.T t=X at he ⊢
  cases X<;>try exact he
  ·rename_i el own
   cases take<;>cases own<;>simp_all
  ·cases take
   ·exact he
   ·cases obj
    ·simp only[cond_true,an8] at he
     obtain⟨_,he⟩:=ae he
     simp at he
    ·simp at he
 | _=>exact he
theorem IQ(h:qu s s' ts){op:fQ}(ht:∀ t,t∈op.tmps->t∈ts){z:AV}(he:aE G cf s op=some (z,none)):aE G cf s' op=some (z,none):=by
 cases op with
 | mov take obj x=>exact h.mov ht he
 | pick c x y =>
  have h1:=h.eval (G:=G) (y:=c) (fun t hm=>ht t (by simp[fQ.tmps,hm]))
  have h2:=h.addr (G:=G) (y:=x) (fun t hm=>ht t (by simp[fQ.tmps,hm]))
  have h3:=h.addr (G:=G) (y:=y) (fun t hm=>ht t (by simp[fQ.tmps,hm]))
  simp only[aE] at he ⊢
  rw[h1,h2,h3]
  exact he
 | HR c x =>
  have h1:=h.addr (G:=G) (y:=x) (fun t hm=>ht t (by simp[fQ.tmps,hm]))
  simp only[aE] at he ⊢
  rw[h1];exact he
 | boxL x=>simp[aE] at he
 | allocL z0=>simp[aE] at he
 | pH ty z0=>simp[aE] at he
 | box ty x =>
  simp only[aE,an1] at he
  obtain⟨_,_,he⟩:=he
  obtain⟨_,he⟩:=ae he
  simp at he
 | build z0 ps =>
  have e1:(ps.map fun p=>(p.1,p.2.1,(p.2.2.eval G s'.T).drop))=ps.map fun p=>(p.1,p.2.1,(p.2.2.eval G s.T).drop) :=
   aoD fun p hp=>by rw[h.eval (G:=G) (y:=p.2.2) (fun t hm=>ht t (by simp only[fQ.tmps,apw];exact⟨p,hp,hm⟩))]
  simp only[aE] at he ⊢
  rw[e1];exact he
 | mkslice isB sz zs ps =>
  have e1:(ps.map fun p=>(p.1,(p.2.eval G s'.T).drop))=ps.map fun p=>(p.1,(p.2.eval G s.T).drop) :=
   aoD fun p hp=>by rw[h.eval (G:=G) (y:=p.2) (fun t hm=>ht t (by simp only[fQ.tmps,apw];exact⟨p,hp,hm⟩))]
  simp only[aE] at he ⊢
  rw[e1];exact he
 | load take agg sz x =>
  simp only[aE] at he ⊢
  rw[h.addr (G:=G) (y:=x) ht]
  exact h.load he
 | store sz x y =>
  simp only[aE,an0,an7] at he
  obtain⟨_,_,_,he⟩:=he
  cases he
 | nilCheck x =>
  simp only[aE] at he ⊢
  rw[h.addr (G:=G) (y:=x) ht]
  obtain⟨h0,he⟩:=ae he
  rw[h.live h0];exact he
 | bin op q x y =>
  simp only[aE] at he ⊢
  rw[h.eval (G:=G) (y:=x) (fun t hm=>ht t (by simp[fQ.tmps,hm])),h.eval (G:=G) (y:=y) (fun t hm=>ht t (by simp[fQ.tmps,hm]))]
  exact he
 | un op x=>simp only[aE] at he ⊢;rw[h.eval (G:=G) (y:=x) ht];exact he
 | mm mx x y =>
  simp only[aE] at he ⊢
  rw[h.eval (G:=G) (y:=x) (fun t hm=>ht t (by simp[fQ.tmps,hm])),h.eval (G:=G) (y:=y) (fun t hm=>ht t (by simp[fQ.tmps,hm]))]
  exact he
 | conv c x=>simp only[aE] at he ⊢;rw[h.eval (G:=G) (y:=x) ht];exact he
 | xw t x=>simp only[aE] at he ⊢;rw[h.eval (G:=G) (y:=x) ht];exact he
 | slice k x lo hi mx =>
  have opt:∀ o:Option aF,(∀ t,t∈o.toList.flatMap aF.tmps->t∈ts)->o.map (·.eval G s'.T)=o.map (·.eval G s.T):=by
   intro o ho
   cases o with
   | none=>rfl
   | some y=>simp only[aok];rw[h.eval (G:=G) (y:=y) (fun t hm=>ho t (by simp[hm]))]
  simp only[aE] at he ⊢
  rw[h.eval (G:=G) (y:=x) (fun t hm=>ht t (by simp only[fQ.tmps,aog];exact .inl (.inl (.inl hm)))),
   opt lo (fun t hm=>ht t (by simp only[fQ.tmps,aog];exact .inl (.inl (.inr hm)))),
   opt hi (fun t hm=>ht t (by simp only[fQ.tmps,aog];exact .inl (.inr hm))),
   opt mx (fun t hm=>ht t (by simp only[fQ.tmps,aog];exact .inr hm))]
  exact he
 | fieldAddr off x =>
  simp only[aE] at he ⊢
  rw[h.addr (G:=G) (y:=x) ht]
  obtain⟨h0,he⟩:=ae he
  rw[h.live h0];exact he
 | field agg off sz x =>
  simp only[aE] at he ⊢
  rw[h.eval (G:=G) (y:=x) ht];exact he
 | ixSl sz x i =>
  simp only[aE] at he ⊢
  rw[h.addr (G:=G) (y:=x) (fun t hm=>ht t (by simp[fQ.tmps,hm])),h.eval (G:=G) (y:=i) (fun t hm=>ht t (by simp[fQ.tmps,hm]))]
  split at he
  ·exact he
  ·exact he
  ·split at he
   ·rename_i hT
    simp only[h.row _ hT]
    exact he
   ·cases he
  ·cases he
 | ixArr n sz x i =>
  simp only[aE] at he ⊢
  rw[h.addr (G:=G) (y:=x) (fun t hm=>ht t (by simp[fQ.tmps,hm])),h.eval (G:=G) (y:=i) (fun t hm=>ht t (by simp[fQ.tmps,hm]))]
  simp only[an1] at he ⊢
  obtain⟨k,hk,he⟩:=he
  refine⟨k,hk,?_⟩
  obtain⟨h0,he⟩:=ae he
  simp only[aod] at h0
  rw[h0.1,h.live h0.2];exact he
 | index agg n sz x i =>
  simp only[aE] at he ⊢
  rw[h.eval (G:=G) (y:=x) (fun t hm=>ht t (by simp[fQ.tmps,hm])),h.eval (G:=G) (y:=i) (fun t hm=>ht t (by simp[fQ.tmps,hm]))]
  exact he
 | indexStr x i =>
  simp only[aE] at he ⊢
  rw[h.eval (G:=G) (y:=x) (fun t hm=>ht t (by simp[fQ.tmps,hm])),h.eval (G:=G) (y:=i) (fun t hm=>ht t (by simp[fQ.tmps,hm]))]
  exact he
 | extract x i=>simp only[aE] at he ⊢;rw[h.eval (G:=G) (y:=x) ht];exact he
 | len k x =>
  simp only[aE] at he ⊢
  rw[h.addr (G:=G) (y:=x) ht]
  split at he
  ·split at he
   ·rename_i hT
    simp only[h.row _ hT]
    exact he
   ·cases he
  ·exact he
 | append isB wr sz bytes x y =>
  have h2:=h.eval (G:=G) (y:=y) (fun t hm=>ht t (by simp[fQ.tmps,hm]))
  have h1:=h.eval (G:=G) (y:=x) (fun t hm=>ht t (by simp[fQ.tmps,hm]))
  simp only[aE,dG] at he ⊢
  cases x with
  | tmp t =>
   exfalso
   simp only at he
   split at he
   ·simp only[an1] at he
    obtain⟨f,_,he⟩:=he
    obtain⟨_,he⟩:=ae he
    simp at he
   ·cases wr
    ·simp at he
    ·simp only[cond_true,an1] at he
     obtain⟨f,_,he⟩:=he
     obtain⟨_,he⟩:=ae he
     simp at he
   ·cases wr
    ·simp at he
    ·simp only[cond_true,an1] at he
     obtain⟨f,_,he⟩:=he
     obtain⟨_,he⟩:=ae he
     simp at he
   ·cases he
  | _=>simp only at he ⊢;rw[h2];exact he
 | call f args =>
  have hf:=h.eval (G:=G) (y:=f) (fun t hm=>ht t (by simp[fQ.tmps,hm]))
  have ha:∀ y,y∈args->y.addr G s'.T=y.addr G s.T:=fun y hy=>h.addr (G:=G) (fun t hm=>ht t (by
   simp only[fQ.tmps,aog,apw];exact .inr ⟨y,hy,hm⟩))
  have e1:(args.map fun a=>a.addr G s'.T)=args.map fun a=>a.addr G s.T:=aoD ha
  have e2:(args.map fun a=>(a.addr G s'.T).bD)=args.map fun a=>(a.addr G s.T).bD:=aoD fun y hy=>by rw[ha y hy]
  simp only[aE] at he ⊢
  rw[hf,e1,e2,<- h.H]
  split at he
  ·obtain⟨h0,he⟩:=ae he
   rw[h0]
   simp only[cond_true,an0,an7] at he ⊢
   obtain⟨⟨r,c⟩,hr,h1,h2⟩:=he
   refine⟨(r,c),hr,h1,?_⟩
   cases c with
   | none=>rfl
   | some c=>cases h2
  ·cases he
 | iw f args =>
  have hf:=h.eval (G:=G) (y:=f) (fun t hm=>ht t (by simp[fQ.tmps,hm]))
  have ha:∀ y,y∈args->y.addr G s'.T=y.addr G s.T:=fun y hy=>h.addr (G:=G) (fun t hm=>ht t (by
   simp only[fQ.tmps,aog,apw];exact .inr ⟨y,hy,hm⟩))
  have e1:(args.map fun a=>a.addr G s'.T)=args.map fun a=>a.addr G s.T:=aoD ha
  have e2:(args.map fun a=>(a.addr G s'.T).bD)=args.map fun a=>(a.addr G s.T).bD:=aoD fun y hy=>by rw[ha y hy]
  simp only[aE] at he ⊢
  rw[hf,e1,e2,<- h.H]
  exact he
 | AK f pre x post =>
  exfalso
  simp only[aE] at he
  obtain⟨_,he⟩:=ae he
  simp only[an1,an0,an7,reduceCtorEq,aqJ,aqO] at he
 | mkfunc f a b =>
  have ha:∀ y,y∈a->y.addr G s'.T=y.addr G s.T:=fun y hy=>h.addr (G:=G) (fun t hm=>ht t (by
   simp only[fQ.tmps,aog,apw];exact .inl ⟨y,hy,hm⟩))
  have hb:∀ y,y∈b->y.addr G s'.T=y.addr G s.T:=fun y hy=>h.addr (G:=G) (fun t hm=>ht t (by
   simp only[fQ.tmps,aog,apw];exact .inr ⟨y,hy,hm⟩))
  have e1:(a.map fun a=>a.addr G s'.T)=a.map fun a=>a.addr G s.T:=aoD ha
  have e2:(b.map fun a=>a.addr G s'.T)=b.map fun a=>a.addr G s.T:=aoD hb
  have e3:(a.map fun a=>(a.addr G s'.T).drop)=a.map fun a=>(a.addr G s.T).drop:=aoD fun y hy=>by rw[ha y hy]
  have e4:(b.map fun a=>(a.addr G s'.T).drop)=b.map fun a=>(a.addr G s.T).drop:=aoD fun y hy=>by rw[hb y hy]
  simp only[aE] at he ⊢
  rw[e1,e2,e3,e4];exact he
 | appendO sz bytes x y =>
  have h1:=h.addr (G:=G) (y:=x) (fun t hm=>ht t (by simp[fQ.tmps,hm]))
  have h2:=h.eval (G:=G) (y:=y) (fun t hm=>ht t (by simp[fQ.tmps,hm]))
  simp only[aE,iD,h1,h2] at he ⊢
  split at he
  ·exact he
  exfalso
  simp only[iT,an1] at he
  obtain⟨f,_,he⟩:=he
  split at he
  ·obtain⟨_,he⟩:=ae he
   simp at he
  ·obtain⟨_,he⟩:=ae he
   simp at he
  ·split at he
   ·obtain⟨_,he⟩:=ae he
    simp at he
   ·cases he
  ·cases he
 | nP sz zs ps =>
  exfalso
  simp only[aE,an1] at he
  obtain⟨f,_,he⟩:=he
  obtain⟨_,he⟩:=ae he
  simp at he
 | wJ sz bytes zero n =>
  exfalso
  simp only[aE,rK,an1] at he
  obtain⟨f,_,he⟩:=he
  obtain⟨_,he⟩:=ae he
  simp at he
 | xO x =>
  simp only[aE,an1] at he
  obtain⟨_,_,he⟩:=he
  obtain⟨_,he⟩:=ae he
  simp at he
 | copyO x y =>
  have h1:=h.addr (G:=G) (y:=x) (fun t hm=>ht t (by simp[fQ.tmps,hm]))
  have h2:=h.eval (G:=G) (y:=y) (fun t hm=>ht t (by simp[fQ.tmps,hm]))
  simp only[aE] at he ⊢
  rw[h1,h2]
  unfold rJ at he ⊢
  rw[<- h.H]
  split at he
  ·split at he
   ·obtain⟨_,he⟩:=ae he
    simp at he
   ·cases he
  ·exact he
  ·cases he
 | nilS neg x =>
  simp only[aE] at he ⊢
  rw[h.eval (G:=G) (y:=x) ht];exact he
 | uO kz ka va=>simp[aE] at he
 | look ok kz ka va ks zero m k =>
  have h1:=h.addr (G:=G) (y:=m) (fun t hm=>ht t (by simp[fQ.tmps,hm]))
  have h2:=h.eval (G:=G) (y:=k) (fun t hm=>ht t (by simp[fQ.tmps,hm]))
  simp only[aE] at he ⊢
  rw[h1,h2]
  unfold vD uN at he ⊢
  rw[<- h.H];exact he
 | K3 kz ka ks zero m k =>
  have h1:=h.addr (G:=G) (y:=m) (fun t hm=>ht t (by simp[fQ.tmps,hm]))
  have h2:=h.eval (G:=G) (y:=k) (fun t hm=>ht t (by simp[fQ.tmps,hm]))
  simp only[aE] at he ⊢
  rw[h1,h2]
  unfold Cr at he ⊢
  rw[<- h.H]
  split at he
  ·split at he
   ·simp only[an1] at he ⊢
    obtain⟨kc,qo,he⟩:=he
    obtain⟨h0,he⟩:=ae he
    refine⟨kc,qo,?_⟩
    rw[h0,cond_true]
    simp only[an1] at he ⊢
    obtain⟨o,ho,he⟩:=he
    refine⟨o,ho,?_⟩
    cases o with
    | none=>exact he
    | some i=>simp at he
   ·cases he
  ·cases he
 | nQ kz ka va vz ks m k v=>simp[aE] at he
 | Wn m =>
  have h1:=h.addr (G:=G) (y:=m) (fun t hm=>ht t (by simp[fQ.tmps,hm]))
  simp only[aE] at he ⊢
  rw[h1,<- h.H];exact he
 | rng kz ka va m =>
  simp only[aE] at he
  split at he
  ·simp at he
  ·obtain⟨_,he⟩:=ae he
   simp at he
  ·obtain⟨_,he⟩:=ae he
   simp at he
  ·split at he
   ·obtain⟨_,he⟩:=ae he
    simp at he
   ·cases he
  ·cases he
 | next it=>simp[aE] at he
 | TF it =>
  cases it with
  | tmp t =>
   have e:=h.T t (ht t (by simp[fQ.tmps,aF.tmps]))
   simp only[aE] at he ⊢
   rw[<- e];exact he
  | _=>simp only[aE] at he;cases he
theorem IT{o:aM}{z:AV}{s1:AS}(he:nq G cf true s o=some (z,s1)):s1=s/\bk z=none:=by
 have cZ:((aE G cf s o.op).bind fun r=>match r.2 with
   | none=>cond (true&&(bk r.1).isSome) none (some (r.1,s))
   | some s'=>cond true none (some (r.1,s')))=some (z,s1)->s1=s/\bk z=none:=by
  intro h
  simp only[an1] at h
  obtain⟨⟨z',s'⟩,_,h⟩:=h
  cases s' with
  | none =>
   simp only[aou] at h
   cases hb:bk z' with
   | none =>
    rw[hb] at h
    simp only[Option.isSome_none,an8,an2,an7] at h
    exact⟨h.2.symm,by rw[<- h.1,hb]⟩
   | some k=>rw[hb] at h;cases h
  | some s'=>cases h
 unfold nq at he
 split at he
 ·exact cZ he
 ·split at he
  ·rename_i want _ _ b _
   simp only at he
   cases hc:(b==want) with
   | false =>
    rw[hc] at he
    simp only[an8,an2,an7] at he
    exact⟨he.2.symm,by rw[<- he.1];rfl⟩
   | true =>
    rw[hc] at he
    exact cZ he
  ·simp only[an2,an7] at he
   exact⟨he.2.symm,by rw[<- he.1];rfl⟩
  ·cases he
theorem FE(h:qu s s' ts){o:aM}(ht:∀ t,t∈o.looks->t∈ts){z:AV}{s1:AS}(he:nq G cf true s o=some (z,s1)):nq G cf true s' o=some (z,s'):=by
 have cZ:((aE G cf s o.op).bind fun r=>match r.2 with
   | none=>cond (true&&(bk r.1).isSome) none (some (r.1,s))
   | some s'=>cond true none (some (r.1,s')))=some (z,s1)->((aE G cf s' o.op).bind fun r=>match r.2 with
   | none=>cond (true&&(bk r.1).isSome) none (some (r.1,s'))
   | some s'=>cond true none (some (r.1,s')))=some (z,s'):=by
  intro h1
  simp only[an1] at h1
  obtain⟨⟨z',s2⟩,he,h1⟩:=h1
  cases s2 with
  | some s2=>cases h1
  | none =>
   rw[IQ h (fun t hm=>ht t (by simp only[aM.looks,aog];exact .inl hm)) he]
   simp only[aou,aoe] at h1 ⊢
   cases hb:bk z' with
   | some k=>rw[hb] at h1;cases h1
   | none =>
    rw[hb] at h1
    simp only[Option.isSome_none,an8,an2,an7] at h1 ⊢
    exact⟨h1.1,trivial⟩
 unfold nq at he ⊢
 cases hg:o.guard with
 | none=>rw[hg] at he;exact cZ he
 | some gw =>
  obtain⟨g,want⟩:=gw
  rw[hg] at he
  have e:s'.T g=s.T g:=(h.T g (ht g (by simp[aM.looks,hg]))).symm
  simp only at he ⊢
  rw[e]
  generalize s.T g=X at he ⊢
  cases X with
  | bool b =>
   simp only at he ⊢
   cases hc:(b==want) with
   | false =>
    rw[hc] at he
    simp only[an8,an2,an7] at he ⊢
    exact⟨he.1,trivial⟩
   | true=>rw[hc] at he;exact cZ he
  | tuple vs =>
   cases vs with
   | nil=>simp only[an2,an7] at he ⊢;exact⟨he.1,trivial⟩
   | cons v vs=>cases he
  | _=>cases he
end
theorem uj{G:Nat->List AV}{cf:dq} : ∀ (is:List aM) (s s' : AS),fA G cf true is s=some s' ->
  ∃ (S:Nat->AS) (V:Nat->AV),S 0=s/\S is.length=s'/\∀ i io,is[i]?=some io->nq G cf true (S i) io=some (V i,S i)/\bk (V i)=none/\S (i+1)=(S i).cH io.dst (V i)
 | [],s,s',h=>by
  simp only[fA,an2] at h
  exact⟨fun _=>s,fun _=>.undef,rfl,h,fun i io h=>by simp at h⟩
 | o :: r,s,s',h=>by
  simp only[fA,an1,nn,an0] at h
  obtain⟨s1,⟨⟨z,s2⟩,hz,rfl⟩,h⟩:=h
  obtain⟨rfl,hg⟩:=IT hz
  obtain⟨S,V,h0,hn,hS⟩:=uj r _ s' h
  refine⟨fun i=>match i with|0=>s2|i+1=>S i,fun i=>match i with|0=>z|i+1=>V i,rfl,hn,fun i io hi=>?_⟩
  cases i with
  | zero =>
   simp only[aoB,an2] at hi
   subst hi
   exact⟨hz,hg,h0⟩
  | succ i=>exact hS i io (by simpa using hi)
structure Agree (s:AS) (D:Nat->Option Nat) (V:Nat->AV) (A:Nat->Prop) (x:AS):Prop where
 H:x.H=s.H
 gen:x.gen=s.gen
 lo:x.lo=s.lo
 TB:∀ i,A i->∀ d,D i=some d->x.T d=V i
 not:∀ t,(∀ i,A i->D i≠some t)->x.T t=s.T t
theorem Agree.put{s x:AS}{D:Nat->Option Nat}{V:Nat->AV}{A:Nat->Prop}(h:Agree s D V A x){i:Nat}(hd:∀ j,A j->j≠i->∀ d,D i=some d->D j≠some d):Agree s D V (fun j=>A j\/j=i) (x.cH (D i) (V i)):=by
 cases hD:D i with
 | none =>
  refine⟨h.H,h.gen,h.lo,fun j hj d NA=>?_,fun t ht=>h.not t (fun j hj=>ht j (.inl hj))⟩
  rcases hj with hj|rfl
  ·exact h.TB j hj d NA
  ·rw[hD] at NA;cases NA
 | some d =>
  refine⟨h.H,h.gen,h.lo,fun j hj d' NA=>?_,fun t ht=>?_⟩
  ·simp only[AS.cH,AS.cc,iO]
   by_cases pV:j=i
   ·subst pV
    rw[hD] at NA;injection NA with NA;subst NA
    simp
   ·rcases hj with hj|hj
    ·rw[if_neg]
     ·exact h.TB j hj d' NA
     ·rintro rfl
      exact hd j hj pV d' hD NA
    ·exact absurd hj pV
  ·simp only[AS.cH,AS.cc,iO]
   rw[if_neg]
   ·exact h.not t (fun j hj=>ht j (.inl hj))
   ·rintro rfl
    exact ht i (.inr rfl) hD
theorem Agree.eq{s x y:AS}{D:Nat->Option Nat}{V:Nat->AV}{A B:Nat->Prop}(hAB:∀ i,A i↔B i)(h:Agree s D V A x)(h' : Agree s D V B y):x=y:=by
 have hT:x.T=y.T:=by
  funext t
  by_cases hc:∃ i,A i/\D i=some t
  ·obtain⟨i,hi,hd⟩:=hc
   rw[h.TB i hi t hd,h'.TB i ((hAB i).1 hi) t hd]
  ·rw[h.not t (fun i hi hd=>hc ⟨i,hi,hd⟩),h'.not t (fun i hi hd=>hc ⟨i,(hAB i).2 hi,hd⟩)]
 cases x;cases y
 have:=h.H;have:=h.gen;have:=h.lo;have:=h'.H;have:=h'.gen;have:=h'.lo
 simp_all
theorem vR:∀ (n:Nat) (l:List Nat),l.Nodup->(∀ i,i∈l->i<n)->l.length<=n
 | 0,l,_,h=>by
  cases l with
  | nil=>exact aoa _
  | cons i l=>exact absurd (h i aoF) (aqV _)
 | n+1,l,KS,h=>by
  have ih:=vR n (l.erase n) (KS.erase n) (fun i hi=>by
   have:=(KS.mem_erase_iff).1 hi
   have:=h i this.2
   omega)
  rw[List.length_erase] at ih
  split at ih<;>omega
structure Order (L:List Nat) (ops:Array Oper) (is:List aM):Prop where
 len:ops.size=is.length
 back:∀ (i:Nat) (o:Oper),ops[i]?=some o->∀ e,e∈o.after->Region.binds .any e=true->e.on<i
 ajd:∀ (i:Nat) (io:aM) (d:Nat),is[i]?=some io->io.dst=some d->d∉L
 once:∀ (i j:Nat) (p q:aM) (d:Nat),is[i]?=some p->is[j]?=some q->i≠j->q.dst=some d->p.dst≠some d
 look:∀ (i j:Nat) (o o' : Oper) (p q:aM) (d:Nat),ops[i]?=some o->ops[j]?=some o'->is[i]?=some p->is[j]?=some q->i≠j->q.dst=some d->d∈p.looks ->
  (j<i/\∃ e,e∈o.after/\Region.binds .any e=true/\e.on=j)\/(i<j/\∃ e,e∈o'.after/\Region.binds .any e=true/\e.on=i)
theorem yj{o:Oper}{j:Nat}(h:vA o j=true):∃ e,e∈o.after/\Region.binds .any e=true/\e.on=j:=by
 unfold vA at h
 rw[Array.any_eq_true] at h
 obtain⟨k,hk,h⟩:=h
 simp only[aod,fW,aov] at h
 exact⟨o.after[k],Array.getElem_mem hk,h.1,h.2⟩
theorem G3{L:List Nat}{ops:Array Oper}{is:List aM}(hl:ops.size=is.length)(h:uS L (ops.toList.zip is)=true):Order L ops is:=by
 have mem:∀ (i:Nat) (o:Oper) (io:aM),ops[i]?=some o->is[i]?=some io->((o,io),i)∈(ops.toList.zip is).zipIdx:=by
  intro i o io h1 h2
  rw[aqj]
  refine⟨i,?_⟩
  rw[aqo,(ap5 (z:=(o,io))).2 ⟨by simpa using h1,h2⟩]
  simp
 have abO:∀ (i:Nat) (io:aM),is[i]?=some io->∃ o,ops[i]?=some o:=by
  intro i io hi
  have:i<ops.size:=by rw[hl];exact (an9.1 hi).1
  exact⟨_,aop this⟩
 have ai7:∀ (i:Nat) (o:Oper),ops[i]?=some o->∃ io,is[i]?=some io:=by
  intro i o hi
  have:i<is.length:=by rw[<- hl];exact (aoi.1 hi).1
  exact⟨_,an' this⟩
 unfold uS at h
 simp only[aof] at h
 have YW:∀ (i j:Nat) (o o' : Oper) (p q:aM),ops[i]?=some o->ops[j]?=some o'->is[i]?=some p->is[j]?=some q->i≠j->∀ d,q.dst=some d ->
   p.dst≠some d/\(d∈p.looks->if j<i then vA o j=true else vA o' i=true):=by
  intro i j o o' p q h1 h2 h3 h4 xu d hd
  have:=h _ (mem i o p h1 h3)
  simp only[aod,aof] at this
  have:=this.2 _ (mem j o' q h2 h4)
  simp only[apZ,fW,aov,hd] at this
  rcases this with this|this
  ·exact absurd this xu
  simp only[aod] at this
  refine⟨fun hpd=>?_,fun hlk=>?_⟩
  ·rw[hpd] at this
   simp at this
  ·have h5:=this.2
   simp only[apZ,ao7,List.contains_eq_mem,aoY] at h5
   rcases h5 with h5|h5
   ·exact absurd hlk h5
   ·by_cases pV:j<i
    ·rw[if_pos pV]
     rw[show Nat.blt j i=true by simpa [aoO] using pV] at h5
     exact h5
    ·rw[if_neg pV]
     rw[show Nat.blt j i=false by simpa [<- aqn,aoO] using pV] at h5
     exact h5
 refine⟨hl,fun i o hi e he hb=>?_,fun i io d hi hd=>?_,fun i j p q d hp hq xu hd=>?_,fun i j o o' p q d h1 h2 h3 h4 xu hd hlk=>?_⟩
 ·obtain⟨io,uz⟩:=ai7 i o hi
  have:=h _ (mem i o io hi uz)
  simp only[aod,aof] at this
  have:=this.1.1
  rw[aqF] at this
  have:=this e he
  simpa [hb,aoO] using this
 ·obtain⟨o,ho⟩:=abO i io hi
  have:=h _ (mem i o io ho hi)
  simp only[aod,aof,hd] at this
  simpa using this.1.2
 ·obtain⟨o,ho⟩:=abO i p hp
  obtain⟨o',rP⟩:=abO j q hq
  exact (YW i j o o' p q ho rP hp hq xu d hd).1
 ·have:=(YW i j o o' p q h1 h2 h3 h4 xu d hd).2 hlk
  by_cases pV:j<i
  ·rw[if_pos pV] at this
   exact .inl ⟨pV,yj this⟩
  ·rw[if_neg pV] at this
   exact .inr ⟨by omega,yj this⟩
section
variable {P:Program}{G:Nat->List AV}{base nt:Nat}{L:List Nat}{gh:Gh}{w w' : World}{a:Act}{s:AS}{H:ah}
theorem je{ct locals muts:List Nat}{ops:Array Oper} : ∀ {l:List Oper} {is:List aM},gl P ct locals muts nt ops l=some is->l.length=is.length /\
  ∀ (i:Nat) (o:Oper),l[i]?=some o->∃ io,is[i]?=some io/\qB P ct locals muts nt ops o=some io
 | [],is,h=>by simp[gl] at h;subst h;exact⟨rfl,fun i o h=>by simp at h⟩
 | o :: l,is,h=>by
  simp only[gl,an1,an0] at h
  obtain⟨io,uz,is',HW,rfl⟩:=h
  obtain⟨h1,h2⟩:=je HW
  refine⟨by simp[h1],fun i o' hi=>?_⟩
  cases i with
  | zero=>simp only[aoB,an2] at hi;subst hi;exact⟨io,rfl,uz⟩
  | succ i=>exact h2 i o' (by simpa using hi)
theorem II{cf:dq}(jH:fc P G cf){H0:ah}{iV:Gh}{w0:World}{ct locals muts:List Nat}{ops:Array Oper}(wY:∀ x,x∈locals->x∈L)(xq:∀ x,x∈muts->x∈L)(Q:Exit->Act->World->Prop)
  {is:List aM} (hI:Inv G base nt L H0 iV w0 s gh w a) (hc:gl P ct locals muts nt ops ops.toList=some is) (tg:Order L ops is) {s' : AS} (he:fA G cf true is s=some s')
  (hQ:∀ a' aV w',Inv G base nt L H0 iV w0 s' aV w' a'->Q .normal a' w'):wpAny P .any ops Q ops.size (Array.replicate ops.size false) a w:=by
 obtain⟨S,V,h0,hn,hS⟩:=uj is s s' he
 obtain⟨hlen,F6⟩:=je hc
 let D:Nat->Option Nat:=fun i=>(is[i]?).bind (·.dst)
 have hD:∀ i io,is[i]?=some io->D i=io.dst:=fun i io h=>by simp[D,h]
 have FZ:∀ i d,D i=some d->∃ io,is[i]?=some io/\io.dst=some d:=by
  intro i d h
  simp only[D,an1] at h
  exact h
 have KU:∀ i j d,i≠j->D i=some d->D j≠some d:=by
  intro i j d xu hi hj
  obtain⟨p,hp,hpd⟩:=FZ i d hi
  obtain⟨q,hq,hqd⟩:=FZ j d hj
  exact tg.once i j p q d hp hq xu hqd hpd
 have yJ:∀ k,k<=is.length->Agree s D V (fun i=>i<k) (S k):=by
  intro k
  induction k with
  | zero=>intro _;rw[h0];exact⟨rfl,rfl,rfl,fun i hi=>absurd hi (aqV _),fun t _=>rfl⟩
  | succ k ih =>
   intro hk
   have uz:=an' (show k<is.length by omega)
   obtain⟨_,_,h3⟩:=hS k _ uz
   rw[h3,<- hD k _ uz]
   have:=(ih (by omega)).put (i:=k) (fun j hj dn d hd=>KU k j d (apX dn) hd)
   refine⟨this.H,this.gen,this.lo,fun i hi=>this.TB i (by rcases apL i k with h|h;exact .inl h;exact .inr (by omega)),fun t ht=>this.not t (fun i hi=>ht i (by rcases hi with h|h<;>omega))⟩
 have aeK:∀ i d,D i=some d->bk (V i)=none:=by
  intro i d hd
  obtain⟨io,uz,_⟩:=FZ i d hd
  exact (hS i io uz).2.1
 have main:∀ (n:Nat) (listed:Array Bool) (x:AS) (gh:Gh) (w:World) (a:Act),listed.size=ops.size->(∀ l:List Nat,l.Nodup->(∀ i,i∈l->i<ops.size/\listed.getD i true=false)->l.length<=n) ->
   (∀ j o,ops[j]?=some o->listed.getD j false=true->∀ e,e∈o.after->Region.binds .any e=true->listed.getD e.on false=true) ->
   Agree s D V (fun i=>listed.getD i false=true) x->Inv G base nt L H0 iV w0 x gh w a->wpAny P .any ops Q n listed a w:=by
  intro n
  induction n with
  | zero =>
   intro listed x gh w a gO Jj pU hA hI
   have dA:∀ i,i<ops.size->listed.getD i false=true:=by
    intro i hi
    cases hb:listed.getD i true with
    | true =>
     have:i<listed.size:=by omega
     simpa [this] using hb
    | false =>
     have:=Jj [i] (by simp) (fun j hj=>by simp at hj;subst hj;exact⟨hi,hb⟩)
     simp at this
   have tn:Region.ready .any ops listed=[]:=by
    cases hr:Region.ready .any ops listed with
    | nil=>rfl
    | cons i r =>
     have hm:i∈Region.ready .any ops listed:=by rw[hr];exact aoF
     obtain⟨h1,o,h2,_⟩:=mem_ready.1 hm
     have bf:=(aoi.1 h2).1
     have:=dA i bf
     have oa:i<listed.size:=by omega
     simp[oa] at this h1
     rw[this] at h1
     cases h1
   refine⟨tn,?_⟩
   have hx:x=s':=by
    rw[<- hn]
    refine hA.eq (B:=fun i=>i<is.length) (fun i=>?_) (yJ _ (aoa _))
    constructor
    ·intro h
     have bf:i<listed.size:=by
      rcases apL i listed.size with h'|h'
      ·exact h'
      ·simp[apF h'] at h
     rw[<- tg.len];omega
    ·intro h
     exact dA i (by rw[tg.len];exact h)
   rw[hx] at hI
   exact hQ a gh w hI
  | succ n ih =>
   intro listed x gh w a gO Jj pU hA hI
   refine⟨fun tn=>?_,fun i hi=>?_⟩
   ·
    have dA:∀ i,i<ops.size->listed.getD i false=true:=by
     intro i
     induction i using Nat.strongRecOn with
     | _ i HY =>
      intro bf
      have oa:i<listed.size:=by omega
      cases hb:listed.getD i true with
      | true=>simpa [oa] using hb
      | false =>
       exfalso
       have ho:=aop bf
       have:i∈Region.ready .any ops listed:=mem_ready.2 ⟨hb,_,ho,fun e he o7=>by
        have Pk:=tg.back i _ ho e he o7
        exact HY e.on Pk (by omega)⟩
       rw[tn] at this
       cases this
    have hx:x=s':=by
     rw[<- hn]
     refine hA.eq (B:=fun i=>i<is.length) (fun i=>?_) (yJ _ (aoa _))
     constructor
     ·intro h
      have bf:i<listed.size:=by
       rcases apL i listed.size with h'|h'
       ·exact h'
       ·simp[apF h'] at h
      rw[<- tg.len];omega
     ·intro h
      exact dA i (by rw[tg.len];exact h)
    rw[hx] at hI
    exact hQ a gh w hI
   ·obtain⟨ja,o,ho,yC⟩:=mem_ready.1 hi
    have bf:=(aoi.1 ho).1
    have oa:i<listed.size:=by omega
    obtain⟨io,uz,bL⟩:=F6 i o (by simpa using ho)
    have Mw:¬ (listed.getD i false=true):=by
     simp[oa] at ja ⊢
     exact ja
    have Yt:=yJ i (by rw[<- tg.len];omega)
    have Ba:qu (S i) x io.looks:=by
     refine⟨by rw[Yt.H,hA.H],fun t ht=>?_,fun b=>?_⟩
     ·by_cases hw:∃ j,D j=some t
      ·obtain⟨j,hj⟩:=hw
       have uniq:∀ k,D k=some t->k=j:=by
        intro k hk
        by_cases Tc:k=j
        ·exact Tc
        ·exact absurd hj (KU k j t Tc hk)
       obtain⟨q,hq,hqd⟩:=FZ j t hj
       by_cases xu:i=j
       ·subst xu
        rw[Yt.not t (fun k hk hd=>by have:=uniq k hd;omega),hA.not t (fun k hk hd=>by rw[uniq k hd] at hk;exact Mw hk)]
       ·have hoj:∃ o',ops[j]?=some o':=⟨_,aop (show j<ops.size by rw[tg.len];exact (an9.1 hq).1)⟩
        obtain⟨o',rP⟩:=hoj
        rcases tg.look i j o o' io q t ho rP uz hq xu hqd ht with ⟨pV,e,he,o7,hon⟩|⟨pV,e,he,o7,hon⟩
        ·have hjA:=yC e he o7
         rw[hon] at hjA
         rw[Yt.TB j pV t hj,hA.TB j hjA t hj]
        ·have hjA:¬ (listed.getD j false=true):=by
          intro h
          have:=pU j o' rP h e he o7
          rw[hon] at this
          exact Mw this
         rw[Yt.not t (fun k hk hd=>by have:=uniq k hd;omega),hA.not t (fun k hk hd=>by rw[uniq k hd] at hk;exact hjA hk)]
      ·rw[Yt.not t (fun k _ hd=>hw ⟨k,hd⟩),hA.not t (fun k _ hd=>hw ⟨k,hd⟩)]
     ·by_cases hw:∃ j,D j=some b
      ·obtain⟨j,hj⟩:=hw
       obtain⟨q,hq,hqd⟩:=FZ j b hj
       have hbL:=tg.ajd j q b hq hqd
       have h1:bk (x.T b)=none:=by
        cases hg:bk (x.T b) with
        | none=>rfl
        | some k=>exact absurd (hI.F.obj b (by rw[hg];rfl)) hbL
       have hsb:bk (s.T b)=none:=by
        cases hg:bk (s.T b) with
        | none=>rfl
        | some k=>exact absurd (‹Inv G base nt L H0 iV w0 s _ _ _›.F.obj b (by rw[hg];rfl)) hbL
       refine .inr ?_
       by_cases pV:j<i
       ·rw[Yt.TB j pV b hj];exact aeK j b hj
       ·rw[Yt.not b (fun k hk hd=>by
         by_cases Tc:k=j
         ·omega
         ·exact KU k j b Tc hd hj)]
        exact hsb
      ·exact .inl (by rw[Yt.not b (fun k _ hd=>hw ⟨k,hd⟩),hA.not b (fun k _ hd=>hw ⟨k,hd⟩)])
    have bH:=FE Ba (fun t h=>h) (hS i io uz).1
    unfold wpOp
    rw[ho]
    refine ph jH hI bL wY xq bH _ Q (fun a' aV w' kW=>?_)
    rw[<- (jS bL).2.2.1,<- hD i io uz] at kW
    have uC:∀ j,(listed.setIfInBounds i true).getD j false=true↔(listed.getD j false=true\/j=i):=by
     intro j
     by_cases pV:i=j
     ·subst pV
      simp[oa]
     ·rw[getD_set_ne false pV]
      simp[apX pV]
    refine ih (listed.setIfInBounds i true) _ aV w' a' (by simpa using gO) (fun l KS hl=>?_) (fun j o' rP hj e he o7=>?_) ?_ kW
    ·have Ud:i∉l:=by
      intro hm
      have:=(hl i hm).2
      simp[oa] at this
     have:=Jj (i :: l) (List.nodup_cons.2 ⟨Ud,KS⟩) (fun j hj=>by
      rcases aoN.1 hj with rfl|hj
      ·exact⟨bf,ja⟩
      ·have h1:=hl j hj
       have pV:i≠j:=by rintro rfl;exact Ud hj
       rw[getD_set_ne true pV] at h1
       exact h1)
     simp at this
     omega
    ·rcases (uC j).1 hj with h|rfl
     ·exact (uC _).2 (.inl (pU j o' rP h e he o7))
     ·rw[ho] at rP
      injection rP with rP
      subst rP
      exact (uC _).2 (.inl (yC e he o7))
    ·have:=hA.put (i:=i) (fun j hj dn d hd=>KU i j d (apX dn) hd)
     exact⟨this.H,this.gen,this.lo,fun j hj=>this.TB j ((uC j).1 hj),fun t ht=>this.not t (fun j hj=>ht j ((uC j).2 hj))⟩
 refine main ops.size _ s gh w a (by simp) (fun l KS hl=>?_) (fun j o hj h=>?_) ?_ hI
 ·exact vR ops.size l KS (fun i hi=>(hl i hi).1)
 ·exfalso
  have:(Array.replicate ops.size false).getD j false=false:=by
   by_cases h:j<ops.size<;>simp[h]
  rw[this] at h
  cases h
 ·have lY:∀ i,¬ ((Array.replicate ops.size false).getD i false=true):=by
   intro i h
   have:(Array.replicate ops.size false).getD i false=false:=by
    by_cases h:i<ops.size<;>simp[h]
   rw[this] at h
   cases h
  exact⟨rfl,rfl,rfl,fun i hi=>absurd hi (lY i),fun t _=>rfl⟩
end
end
section
section
variable {G:Nat->List AV}{cf:dq}
end
section
variable {G:Nat->List AV}{cf:dq}
end
section
variable {G:Nat->List AV}{base nt:Nat}{L:List Nat}{gh:Gh}{w w' : World}{a:Act}{s:AS}
end
section
variable {G:Nat->List AV}{base nt:Nat}{L:List Nat}{gh:Gh}{w w' : World}{a:Act}
end
end
section
section
variable {G:Nat->List AV}{is:List aM}{L:List Nat}{ops:Array Oper}{s s2 s3 x:AS}{D:Nat->Option Nat}{V:Nat->AV}{A:Nat->Prop}
end
end
section
section
variable {P:Program}{G:Nat->List AV}{base nt:Nat}{L:List Nat}{gh:Gh}{w w' : World}{a:Act}{s:AS}{H:ah}
end
end
section
structure Zf (e:rC) (s x:AS):Prop where
 T:∀ t,t∈e.rs->x.T t=s.T t
 H:e.rh=true\/e.wh=true->x.H=s.H/\x.lo=s.lo
 G:e.wg=true->x.gen=s.gen
structure fR (e:rC) (s1 x x1:AS):Prop where
 T:∀ t,t∈e.ws->x1.T t=s1.T t
 T' : ∀ t,t∉e.ws->x1.T t=x.T t
 H:e.wh=true->x1.H=s1.H/\x1.lo=s1.lo
 H' : e.wh=false->x1.H=x.H/\x1.lo=x.lo
 G:e.wg=true->x1.gen=s1.gen
 G' : e.wg=false->x1.gen=x.gen
theorem fR.stay{e:rC}{s x:AS}(h:Zf e s x)(hw:∀ t,t∈e.ws->t∈e.rs):fR e s x x :=
 ⟨fun t ht=>h.T t (hw t ht),fun _ _=>rfl,fun hh=>h.H (.inr hh),fun _=>⟨rfl,rfl⟩,fun hg=>h.G hg,fun _=>rfl⟩
section
variable {G:Nat->List AV}{cf:dq}{s x:AS}{e:rC}
theorem NX(h:∀ t,t∈e.rs->x.T t=s.T t){y:aF}(hy:∀ t,t∈y.tmps->t∈e.rs):y.eval G x.T=y.eval G s.T:=by
 cases y<;>try rfl
 rename_i t
 exact h t (hy t (by simp[aF.tmps]))
theorem NW(h:∀ t,t∈e.rs->x.T t=s.T t){y:aF}(hy:∀ t,t∈y.tmps->t∈e.rs):y.addr G x.T=y.addr G s.T:=by
 cases y<;>try rfl
 rename_i t
 simp only[aF.addr]
 rw[h t (hy t (by simp[aF.tmps]))]
def dN(pc:Bool):fQ->fQ
 | .call f xs=>cond pc (.iw f xs) (.call f xs)
 | o=>o
theorem wM(pc:Bool)(o:aM):jL pc o=⟨o.dst,o.guard,dN pc o.op⟩:=by
 obtain⟨d,g,op⟩:=o
 cases op<;>simp only[jL,dN]
 cases pc<;>rfl
theorem fM(s:AS)(t:Nat)(v:AV)(k:Nat):(s.cc t v).T k=if k=t then v else s.T k:=iO s.T t v k
theorem y3{c:Nw}{Y:AV}(h:bQ s Y=true)(hc:gN c Y=true)(hT:∀ b,b∈gK c->x.T b=s.T b):bQ x Y=true:=by
 cases Y<;>simp only[bQ] at h ⊢<;>try (cases h;done)
 case lref b g off =>
  cases c with
  | frame b' =>
   simp only[gN,fW,aov] at hc
   subst hc
   rw[hT b' (aos.2 rfl)];exact h
  | _=>cases hc
 case eref=>cases c<;>cases hc
theorem V7{pc:Bool}{c:Nw}{op:fQ}(he:AR pc c op=some e)(hc:∀ y,(∃ t a z,op=.load t a z y)\/(∃ z v,op=.store z y v)\/op=.nilCheck y\/(∃ f,op=.fieldAddr f y)\/(∃ n z i,op=.ixArr n z y i)->gN c (y.addr G s.T)=true)
  (gR:∀ y,(∃ z i,op=.ixSl z y i)\/(∃ k,op=.len k y)->gN .heap (y.addr G s.T)=true)
  {z:AV} {so:Option AS} (bH:aE G cf s (dN pc op)=some (z,so)) (ha:Zf e s x) :
  ∃ xo,aE G cf x op=some (z,xo)/\fR e (so.getD s) x (xo.getD x)/\(∀ t,t∈e.ws->t∈e.rs):=by
 have stay:(∀ t,t∈e.ws->t∈e.rs)->so=none->aE G cf x op=some (z,none)->∃ xo,aE G cf x op=some (z,xo)/\fR e (so.getD s) x (xo.getD x)/\(∀ t,t∈e.ws->t∈e.rs):=by
  rintro hw rfl h
  exact⟨none,h,fR.stay ha hw,hw⟩
 have ev:∀ {y:aF},(∀ t,t∈y.tmps->t∈e.rs)->y.eval G x.T=y.eval G s.T:=fun hy=>NX ha.T hy
 have ad:∀ {y:aF},(∀ t,t∈y.tmps->t∈e.rs)->y.addr G x.T=y.addr G s.T:=fun hy=>NW ha.T hy
 have rj:∀ {X:Option AV} {w:AV} {o:Option AS},X.map (fun v=>(v,(none:Option AS)))=some (w,o)->o=none:=by
  intro X w o h
  cases X with
  | none=>cases h
  | some v=>simp at h;exact h.2.symm
 cases op<;>simp only[AR] at he<;>try (cases he;done)
 case mov take obj y =>
  cases obj with
  | true=>cases he
  | false =>
   simp only[an8,an2] at he
   subst he
   have hw:∀ t,t∈(cond take y.tmps [])->t∈y.tmps:=by cases take<;>simp
   simp only[dN,aE] at bH ⊢
   cases y with
   | tmp t =>
    have ht:=ha.T t (by simp[aF.tmps])
    simp only[mz] at bH ⊢
    rw[ht]
    generalize s.T t=X at bH ht
    cases X
    case slice el own =>
     cases hto:(take&&own) with
     | false =>
      simp only[hto,an8,an2,an7] at bH
      obtain⟨rfl,rfl⟩:=bH
      exact⟨none,by simp only[hto,an8],fR.stay ha hw,hw⟩
     | true =>
      simp only[aod] at hto
      obtain⟨rfl,rfl⟩:=hto
      simp only[apb,cond_true,an2,an7] at bH
      obtain⟨rfl,rfl⟩:=bH
      refine⟨some (x.cc t (.slice el false)),rfl,⟨fun k hk=>?_,fun k hk=>?_,fun h=>(by cases h),fun _=>⟨rfl,rfl⟩,fun h=>(by cases h),fun _=>rfl⟩,hw⟩
      ·simp only[cond_true,aF.tmps,aos] at hk
       simp only[apf,fM,hk,apB]
      ·simp only[cond_true,aF.tmps,aos] at hk
       simp only[apf,fM,if_neg hk]
    case lsl g el =>
     cases take with
     | true =>
      simp only[cond_true,an8] at bH
      obtain⟨h0,bH⟩:=ae bH
      simp only[an2,an7] at bH
      obtain⟨rfl,rfl⟩:=bH
      refine⟨some (x.cc t .any),by simp only[h0,cond_true,an8],⟨fun k hk=>?_,fun k hk=>?_,fun h=>(by cases h),fun _=>⟨rfl,rfl⟩,fun h=>(by cases h),fun _=>rfl⟩,hw⟩
      ·simp only[cond_true,aF.tmps,aos] at hk
       simp only[apf,fM,hk,apB]
      ·simp only[cond_true,aF.tmps,aos] at hk
       simp only[apf,fM,if_neg hk]
     | false =>
      simp only[an8,an2,an7] at bH
      obtain⟨rfl,rfl⟩:=bH
      exact⟨none,rfl,fR.stay ha hw,hw⟩
    case iter=>cases bH
    all_goals
     simp only[an2,an7] at bH
     obtain⟨rfl,rfl⟩:=bH
     exact⟨none,rfl,fR.stay ha hw,hw⟩
   | _ =>
    simp only[mz,an2,an7] at bH
    obtain⟨rfl,rfl⟩:=bH
    exact⟨none,rfl,fR.stay ha hw,hw⟩
 case allocL zs =>
  simp only[an2] at he
  subst he
  simp only[dN,aE,an2,an7] at bH
  obtain⟨rfl,rfl⟩:=bH
  have hg:=ha.G rfl
  refine⟨some { x with gen:=x.gen+1 },by simp only[aE,hg],⟨fun k hk=>(by cases hk),fun _ _=>rfl,fun h=>(by cases h),fun _=>⟨rfl,rfl⟩,fun _=>?_,fun h=>(by cases h)⟩,fun k hk=>(by cases hk)⟩
  simp[hg]
 case boxL y =>
  simp only[an2] at he
  subst he
  simp only[dN,aE,an0,an7] at bH
  obtain⟨cs,gC,rfl,rfl⟩:=bH
  have hg:=ha.G rfl
  refine⟨some { x with gen:=x.gen+1 },by simp only[aE,hg,ev (y:=y) (fun t h=>h),gC,aok],⟨fun k hk=>(by cases hk),fun _ _=>rfl,fun h=>(by cases h),fun _=>⟨rfl,rfl⟩,fun _=>?_,fun h=>(by cases h)⟩,fun k hk=>(by cases hk)⟩
  simp[hg]
 case build zs ps =>
  simp only[an2] at he
  subst he
  have e1:(ps.map fun p=>(p.1,p.2.1,(p.2.2.eval G x.T).drop))=ps.map fun p=>(p.1,p.2.1,(p.2.2.eval G s.T).drop):=aoD fun p hp=>by
   rw[ev (y:=p.2.2) (fun t h=>by simp only[fQ.tmps,apw];exact⟨p,hp,h⟩)]
  simp only[dN,aE,an0,an7] at bH
  obtain⟨E,hE,rfl,rfl⟩:=bH
  exact stay (fun t h=>by cases h) rfl (by simp only[aE,e1,hE,aok])
 case mkslice b sz zs ps =>
  simp only[an2] at he
  subst he
  have e1:(ps.map fun p=>(p.1,(p.2.eval G x.T).drop))=ps.map fun p=>(p.1,(p.2.eval G s.T).drop):=aoD fun p hp=>by
   rw[ev (y:=p.2) (fun t h=>by simp only[fQ.tmps,apw];exact⟨p,hp,h⟩)]
  simp only[dN,aE,an1] at bH
  obtain⟨E,hE,bH⟩:=bH
  obtain⟨h0,bH⟩:=ae bH
  simp only[an2,an7] at bH
  obtain⟨rfl,rfl⟩:=bH
  exact stay (fun t h=>by cases h) rfl (by simp only[aE,e1,hE,aoe,h0,cond_true])
 case bin o q y1 y2 =>
  simp only[an2] at he
  subst he
  simp only[dN,aE] at bH
  have rR:=rj bH
  subst rR
  exact stay (fun t h=>by cases h) rfl (by simp only[aE];rw[ev (y:=y1) (fun t h=>aog.2 (.inl h)),ev (y:=y2) (fun t h=>aog.2 (.inr h))];exact bH)
 case mm o y1 y2 =>
  simp only[an2] at he
  subst he
  simp only[dN,aE] at bH
  have rR:=rj bH
  subst rR
  exact stay (fun t h=>by cases h) rfl (by simp only[aE];rw[ev (y:=y1) (fun t h=>aog.2 (.inl h)),ev (y:=y2) (fun t h=>aog.2 (.inr h))];exact bH)
 case un o y =>
  simp only[an2] at he
  subst he
  simp only[dN,aE] at bH
  have rR:=rj bH
  subst rR
  exact stay (fun t h=>by cases h) rfl (by simp only[aE];rw[ev (y:=y) (fun t h=>h)];exact bH)
 case nilS o y =>
  simp only[an2] at he
  subst he
  simp only[dN,aE] at bH
  have rR:so=none:=by
   simp only[an0,an7] at bH
   obtain⟨_,_,_,h⟩:=bH
   exact h.symm
  subst rR
  exact stay (fun t h=>by cases h) rfl (by simp only[aE];rw[ev (y:=y) (fun t h=>h)];exact bH)
 case slice k y lo hi mx =>
  simp only[an2] at he
  subst he
  simp only[dN,aE] at bH
  have rR:=rj bH
  subst rR
  have opt:∀ o:Option aF,(∀ t,t∈o.toList.flatMap aF.tmps->t∈(fQ.slice k y lo hi mx).tmps)->o.map (·.eval G x.T)=o.map (·.eval G s.T):=by
   intro o ho
   cases o with
   | none=>rfl
   | some q=>simp only[aok];rw[ev (y:=q) (fun t hm=>ho t (by simp[hm]))]
  exact stay (fun t h=>by cases h) rfl (by
   simp only[aE]
   rw[ev (y:=y) (fun t hm=>by simp only[fQ.tmps,aog];exact .inl (.inl (.inl hm))),
    opt lo (fun t hm=>by simp only[fQ.tmps,aog];exact .inl (.inl (.inr hm))),
    opt hi (fun t hm=>by simp only[fQ.tmps,aog];exact .inl (.inr hm)),
    opt mx (fun t hm=>by simp only[fQ.tmps,aog];exact .inr hm)]
   exact bH)
 case conv o y =>
  simp only[an2] at he
  subst he
  simp only[dN,aE] at bH
  have rR:=rj bH
  subst rR
  exact stay (fun t h=>by cases h) rfl (by simp only[aE];rw[ev (y:=y) (fun t h=>h)];exact bH)
 case pick c0 a0 b0 =>
  simp only[an2] at he
  subst he
  simp only[dN,aE] at bH
  have h1:=ev (y:=c0) (fun t h=>by simp[h])
  have h2:=ad (y:=a0) (fun t h=>by simp[h])
  have h3:=ad (y:=b0) (fun t h=>by simp[h])
  split at bH
  ·rename_i hb
   simp only[an2,an7] at bH
   obtain⟨rfl,rfl⟩:=bH
   exact stay (fun t h=>by cases h) rfl (by simp only[aE,h1,h2,h3,hb])
  ·cases bH
 case field agg off sz y =>
  simp only[an2] at he
  subst he
  simp only[dN,aE] at bH
  have h1:=ev (y:=y) (fun t h=>h)
  split at bH
  ·rename_i hb
   have rR:=rj bH
   subst rR
   exact stay (fun t h=>by cases h) rfl (by simp only[aE,h1,hb];exact bH)
  ·cases bH
 case index agg n sz y i =>
  simp only[an2] at he
  subst he
  simp only[dN,aE,an1] at bH
  obtain⟨k,hk,bH⟩:=bH
  obtain⟨h0,bH⟩:=ae bH
  have h1:=ev (y:=y) (fun t h=>by simp[h])
  have h2:=ev (y:=i) (fun t h=>by simp[h])
  split at bH
  ·rename_i hb
   have rR:=rj bH
   subst rR
   exact stay (fun t h=>by cases h) rfl (by simp only[aE,h1,h2,hk,aoe,h0,cond_true,hb];exact bH)
  ·cases bH
 case indexStr y i =>
  simp only[an2] at he
  subst he
  simp only[dN,aE] at bH
  have h1:=ev (y:=y) (fun t h=>by simp[h])
  have h2:=ev (y:=i) (fun t h=>by simp[h])
  split at bH
  ·rename_i l hb
   simp only[an1,an0,an7] at bH
   obtain⟨k,hk,b,A2,rfl,rfl⟩:=bH
   exact stay (fun t h=>by cases h) rfl (by simp only[aE,h1,h2,hb,hk,aoe,A2,aok])
  ·cases bH
 case extract y i =>
  simp only[an2] at he
  subst he
  simp only[dN,aE] at bH
  have h1:=ev (y:=y) (fun t h=>h)
  split at bH
  ·rename_i vs hb
   simp only[an0,an7] at bH
   obtain⟨v,hv,rfl,rfl⟩:=bH
   exact stay (fun t h=>by cases h) rfl (by simp only[aE,h1,hb,hv,aok])
  ·cases bH
 case mkfunc f a b =>
  simp only[an2] at he
  subst he
  simp only[dN,aE] at bH
  obtain⟨h0,bH⟩:=ae bH
  simp only[an2,an7] at bH
  obtain⟨rfl,rfl⟩:=bH
  have ha:∀ y,y∈a->y.addr G x.T=y.addr G s.T:=fun y hy=>ad (y:=y) (fun t h=>by
   simp only[fQ.tmps,aog,apw];exact .inl ⟨y,hy,h⟩)
  have hb:∀ y,y∈b->y.addr G x.T=y.addr G s.T:=fun y hy=>ad (y:=y) (fun t h=>by
   simp only[fQ.tmps,aog,apw];exact .inr ⟨y,hy,h⟩)
  have e1:(a.map fun a=>a.addr G x.T)=a.map fun a=>a.addr G s.T:=aoD ha
  have e2:(b.map fun a=>a.addr G x.T)=b.map fun a=>a.addr G s.T:=aoD hb
  have e3:(a.map fun a=>(a.addr G x.T).drop)=a.map fun a=>(a.addr G s.T).drop:=aoD fun y hy=>by rw[ha y hy]
  have e4:(b.map fun a=>(a.addr G x.T).drop)=b.map fun a=>(a.addr G s.T).drop:=aoD fun y hy=>by rw[hb y hy]
  exact stay (fun t h=>by cases h) rfl (by simp only[aE];rw[e1,e2,e3,e4,h0,cond_true])
 case load take agg sz y =>
  simp only[an2] at he
  subst he
  have jW:=hc y (.inl ⟨take,agg,sz,rfl⟩)
  simp only[dN,aE] at bH ⊢
  rw[ad (y:=y) (fun t h=>aog.2 (.inl h))]
  generalize y.addr G s.T=Y at bH jW
  have hw:∀ t,t∈(cond (take&&!agg) (gK c) [])->t∈y.tmps++gK c:=by
   intro t ht
   cases hb:(take&&!agg) with
   | false=>rw[hb] at ht;cases ht
   | true=>rw[hb] at ht;exact aog.2 (.inr ht)
  cases Y<;>simp only[aq] at bH<;>try (cases bH;done)
  case eptr cs =>
   simp only[an0,an7] at bH
   obtain⟨v,hv,rfl,rfl⟩:=bH
   exact⟨none,by simp only[aq,hv,aok],fR.stay ha hw,hw⟩
  case ref loc off =>
   cases c with
   | frame b=>cases jW
   | Ut=>cases jW
   | heap =>
    obtain⟨hH,hl⟩:=ha.H (.inl rfl)
    split at bH
    ·rename_i ty cs KM
     simp only[an0,an7] at bH
     obtain⟨v,hv,rfl,rfl⟩:=bH
     by_cases hta:take=true/\agg=false
     ·obtain⟨rfl,rfl⟩:=hta
      refine⟨some (x.gk ⟨s.H.set loc (.box ty (ak off cs)),loc⟩),by simp only[aq,hH,KM,hv,aok,aoj,apb,cond_true],⟨fun k hk=>(by cases hk),fun k hk=>rfl,fun _=>⟨rfl,?_⟩,fun h=>(by cases h),fun h=>(by cases h),fun _=>rfl⟩,hw⟩
      simp only[aoj,apb,cond_true,apf,AS.gk,hl]
     ·have hb:(take&&!agg)=false:=by cases take<;>cases agg<;>simp_all
      have rR:∀ A:AS,(cond (take&&!agg) (some A) none:Option AS)=none:=fun A=>by rw[hb];rfl
      rw[rR]
      exact⟨none,by simp only[aq,hH,KM,hv,aok,rR],fR.stay ha hw,hw⟩
    ·rename_i cs KM
     simp only[an0,an7] at bH
     obtain⟨v,hv,rfl,rfl⟩:=bH
     exact⟨none,by simp only[aq,hH,KM,hv,aok],fR.stay ha hw,hw⟩
    ·rename_i cs KM
     simp only[an0,an7] at bH
     obtain⟨v,hv,rfl,rfl⟩:=bH
     exact⟨none,by simp only[aq,hH,KM,hv,aok],fR.stay ha hw,hw⟩
    ·cases bH
  case lref b g off =>
   cases c with
   | Ut=>cases jW
   | heap=>cases jW
   | frame b' =>
    simp only[gN,fW,aov] at jW
    subst jW
    have hTb:=ha.T b' (aog.2 (.inr (aos.2 rfl)))
    split at bH
    ·rename_i g' cs hT
     obtain⟨h0,bH⟩:=ae bH
     simp only[an0,an7] at bH
     obtain⟨v,hv,rfl,rfl⟩:=bH
     rw[hT] at hTb
     by_cases hta:take=true/\agg=false
     ·obtain⟨rfl,rfl⟩:=hta
      refine⟨some (x.cc b' (.lbox g (ak off cs))),by simp only[aq,hTb,h0,cond_true,hv,aok,aoj,apb],⟨fun k hk=>?_,fun k hk=>?_,fun h=>(by cases h),fun _=>⟨rfl,rfl⟩,fun h=>(by cases h),fun _=>rfl⟩,hw⟩
      ·simp only[aoj,apb,cond_true,gK,aos] at hk
       simp only[aoj,apb,cond_true,apf,fM,hk,apB]
      ·simp only[aoj,apb,cond_true,gK,aos] at hk
       simp only[apf,fM,if_neg hk]
     ·have hb:(take&&!agg)=false:=by cases take<;>cases agg<;>simp_all
      have rR:∀ A:AS,(cond (take&&!agg) (some A) none:Option AS)=none:=fun A=>by rw[hb];rfl
      rw[rR]
      exact⟨none,by simp only[aq,hTb,h0,cond_true,hv,aok,rR],fR.stay ha hw,hw⟩
    ·cases bH
  case eref=>cases c<;>cases jW
 case nilCheck y =>
  simp only[an2] at he
  subst he
  have jW:=hc y (.inr (.inr (.inl rfl)))
  simp only[dN,aE] at bH ⊢
  rw[ad (y:=y) (fun t h=>aog.2 (.inl h))]
  generalize y.addr G s.T=Y at bH jW
  obtain⟨h0,bH⟩:=ae bH
  simp only[an2,an7] at bH
  obtain⟨rfl,rfl⟩:=bH
  have h1:=y3 h0 jW (fun b hb=>ha.T b (aog.2 (.inr hb)))
  exact⟨none,by simp only[h1,cond_true],fR.stay ha (fun t h=>by cases h),fun t h=>by cases h⟩
 case fieldAddr off y =>
  simp only[an2] at he
  subst he
  have jW:=hc y (.inr (.inr (.inr (.inl ⟨off,rfl⟩))))
  simp only[dN,aE] at bH ⊢
  rw[ad (y:=y) (fun t h=>aog.2 (.inl h))]
  generalize y.addr G s.T=Y at bH jW
  obtain⟨h0,bH⟩:=ae bH
  have rR:=rj bH
  subst rR
  have h1:=y3 h0 jW (fun b hb=>ha.T b (aog.2 (.inr hb)))
  exact⟨none,by simp only[h1,cond_true];exact bH,fR.stay ha (fun t h=>by cases h),fun t h=>by cases h⟩
 case ixArr n sz y i =>
  simp only[an2] at he
  subst he
  have jW:=hc y (.inr (.inr (.inr (.inr ⟨n,sz,i,rfl⟩))))
  simp only[dN,aE,an1] at bH ⊢
  obtain⟨k,hk,bH⟩:=bH
  rw[ad (y:=y) (fun t h=>by simp[h]),ev (y:=i) (fun t h=>by simp[h])]
  generalize y.addr G s.T=Y at bH jW
  obtain⟨h0,bH⟩:=ae bH
  simp only[aod] at h0
  have rR:=rj bH
  subst rR
  have h1:=y3 h0.2 jW (fun b hb=>ha.T b (by simp[hb]))
  exact⟨none,⟨k,hk,by simp only[h0.1,h1,apb,cond_true];exact bH⟩,fR.stay ha (fun t h=>by cases h),fun t h=>by cases h⟩
 case ixSl sz y i =>
  simp only[an2] at he
  subst he
  have jW:=gR y (.inl ⟨sz,i,rfl⟩)
  simp only[dN,aE] at bH ⊢
  rw[ad (y:=y) (fun t h=>aog.2 (.inl h)),ev (y:=i) (fun t h=>aog.2 (.inr h))]
  generalize y.addr G s.T=Y at bH jW
  cases Y<;>try (cases bH;done)
  case slice el own =>
   simp only[an1] at bH
   obtain⟨k,hk,r,hr,bH⟩:=bH
   obtain⟨h0,bH⟩:=ae bH
   simp only[an2,an7] at bH
   obtain⟨rfl,rfl⟩:=bH
   exact⟨none,by simp only[hk,aoe,hr,h0,cond_true],fR.stay ha (fun t h=>by cases h),fun t h=>by cases h⟩
  case sref l o m zz =>
   simp only[an1] at bH
   obtain⟨k,hk,bH⟩:=bH
   obtain⟨h0,bH⟩:=ae bH
   simp only[an2,an7] at bH
   obtain⟨rfl,rfl⟩:=bH
   exact⟨none,by simp only[hk,aoe,h0,cond_true],fR.stay ha (fun t h=>by cases h),fun t h=>by cases h⟩
  case lsr=>cases jW
 case len k y =>
  simp only[an2] at he
  subst he
  have jW:=gR y (.inr ⟨k,rfl⟩)
  simp only[dN,aE] at bH ⊢
  rw[ad (y:=y) (fun t h=>h)]
  generalize y.addr G s.T=Y at bH jW
  cases Y
  case lsr=>cases jW
  all_goals
   have rR:=rj bH
   subst rR
   exact⟨none,bH,fR.stay ha (fun t h=>by cases h),fun t h=>by cases h⟩
 case store sz y v =>
  simp only[an2] at he
  subst he
  have jW:=hc y (.inr (.inl ⟨sz,v,rfl⟩))
  have hw:∀ t,t∈v.tmps++gK c->t∈y.tmps++v.tmps++gK c:=fun t ht=>by
   rcases aog.1 ht with h|h
   ·exact aog.2 (.inl (aog.2 (.inr h)))
   ·exact aog.2 (.inr h)
  have hv:=ev (y:=v) (fun t h=>aog.2 (.inl (aog.2 (.inr h))))
  have hvT:∀ t,t∈v.tmps->x.T t=s.T t:=fun t h=>ha.T t (aog.2 (.inl (aog.2 (.inr h))))
  simp only[dN,aE,an0,an7] at bH ⊢
  obtain⟨s1,bH,rfl,rfl⟩:=bH
  rw[ad (y:=y) (fun t h=>aog.2 (.inl (aog.2 (.inl h)))),hv]
  generalize y.addr G s.T=Y at bH jW
  have sp:∀ (s1 x1:AS),(∀ t,t∈v.tmps->x1.T t=s1.T t)->(∀ t,t∈v.tmps->(x1.cI v).T t=(s1.cI v).T t)/\(∀ t,t∉v.tmps->(x1.cI v).T t=x1.T t)/\(∀ t,t∉v.tmps->(s1.cI v).T t=s1.T t):=by
   intro s1 x1 h
   cases v with
   | tmp t0 =>
    have h0:=h t0 (by simp[aF.tmps])
    by_cases ho:∃ el,s1.T t0=.slice el true
    ·obtain⟨el,ho⟩:=ho
     rw[se s1 t0 ho,se x1 t0 (h0.trans ho)]
     refine⟨fun t ht=>?_,fun t ht=>?_,fun t ht=>?_⟩
     ·simp only[aF.tmps,aos] at ht
      rw[fM,fM,if_pos ht,if_pos ht]
     ·simp only[aF.tmps,aos] at ht
      rw[fM,if_neg ht]
     ·simp only[aF.tmps,aos] at ht
      rw[fM,if_neg ht]
    ·have rP:∀ el,s1.T t0≠.slice el true:=fun el h=>ho ⟨el,h⟩
     rw[mX s1 t0 rP,mX x1 t0 (fun el h=>rP el (h0.symm.trans h))]
     exact⟨h,fun _ _=>rfl,fun _ _=>rfl⟩
   | _=>exact⟨fun t ht=>by simp[aF.tmps] at ht,fun _ _=>rfl,fun _ _=>rfl⟩
  simp only[br] at bH ⊢
  split at bH
  ·cases bH
  rename_i vs ve
  obtain⟨h0,aeG⟩:=ae bH
  clear bH
  have bH:=aeG
  clear aeG
  cases Y<;>(try dsimp only at bH ⊢)<;>try (cases bH;done)
  case ref loc off =>
   cases c with
   | frame b=>cases jW
   | Ut=>cases jW
   | heap =>
    obtain⟨hH,hl⟩:=ha.H (.inl rfl)
    split at bH
    ·rename_i ty cs KM
     obtain⟨h1,bH⟩:=ae bH
     injection bH with bH
     subst bH
     obtain⟨k1,k2,k3⟩:=sp (s.gk ⟨s.H.set loc (.box ty (putAt cs off vs)),loc⟩) (x.gk ⟨x.H.set loc (.box ty (putAt cs off vs)),loc⟩) hvT
     refine⟨some ((x.gk ⟨x.H.set loc (.box ty (putAt cs off vs)),loc⟩).cI v),⟨x.gk ⟨x.H.set loc (.box ty (putAt cs off vs)),loc⟩,by simp only[ve,h0,cond_true,hH,KM,h1],trivial,rfl⟩,⟨fun k hk=>?_,fun k hk=>?_,fun _=>?_,fun h=>(by cases h),fun h=>(by cases h),fun _=>?_⟩,hw⟩
     ·exact k1 k (by simpa [gK] using hk)
     ·exact k2 k (by simpa [gK] using hk)
     ·obtain⟨q1,_,q3⟩:=ia (x.gk ⟨x.H.set loc (.box ty (putAt cs off vs)),loc⟩) v
      obtain⟨r1,_,r3⟩:=ia (s.gk ⟨s.H.set loc (.box ty (putAt cs off vs)),loc⟩) v
      exact⟨q1.trans (Eq.trans (by simp only[AS.gk,hH]) r1.symm),q3.trans (Eq.trans (by simp only[AS.gk,hl]) r3.symm)⟩
     ·obtain⟨_,q2,_⟩:=ia (x.gk ⟨x.H.set loc (.box ty (putAt cs off vs)),loc⟩) v
      exact q2.trans rfl
    ·rename_i cs KM
     obtain⟨h1,bH⟩:=ae bH
     injection bH with bH
     subst bH
     obtain⟨k1,k2,k3⟩:=sp (s.gk ⟨s.H.set loc (.cS (putAt cs off vs)),loc⟩) (x.gk ⟨x.H.set loc (.cS (putAt cs off vs)),loc⟩) hvT
     refine⟨some ((x.gk ⟨x.H.set loc (.cS (putAt cs off vs)),loc⟩).cI v),⟨x.gk ⟨x.H.set loc (.cS (putAt cs off vs)),loc⟩,by simp only[ve,h0,cond_true,hH,KM,h1],trivial,rfl⟩,⟨fun k hk=>?_,fun k hk=>?_,fun _=>?_,fun h=>(by cases h),fun h=>(by cases h),fun _=>?_⟩,hw⟩
     ·exact k1 k (by simpa [gK] using hk)
     ·exact k2 k (by simpa [gK] using hk)
     ·obtain⟨q1,_,q3⟩:=ia (x.gk ⟨x.H.set loc (.cS (putAt cs off vs)),loc⟩) v
      obtain⟨r1,_,r3⟩:=ia (s.gk ⟨s.H.set loc (.cS (putAt cs off vs)),loc⟩) v
      exact⟨q1.trans (Eq.trans (by simp only[AS.gk,hH]) r1.symm),q3.trans (Eq.trans (by simp only[AS.gk,hl]) r3.symm)⟩
     ·obtain⟨_,q2,_⟩:=ia (x.gk ⟨x.H.set loc (.cS (putAt cs off vs)),loc⟩) v
      exact q2.trans rfl
    ·cases bH
  case lref b g off =>
   cases c with
   | Ut=>cases jW
   | heap=>cases jW
   | frame b' =>
    simp only[gN,fW,aov] at jW
    subst jW
    have hTb:=ha.T b' (aog.2 (.inr (aos.2 rfl)))
    split at bH
    ·rename_i g' cs hT
     obtain⟨h1,bH⟩:=ae bH
     injection bH with bH
     subst bH
     rw[hT] at hTb
     have aiS:∀ t,t∈v.tmps->(x.cc b' (.lbox g (putAt cs off vs))).T t=(s.cc b' (.lbox g (putAt cs off vs))).T t:=fun t ht=>by rw[fM,fM,hvT t ht]
     obtain⟨k1,k2,k3⟩:=sp _ _ aiS
     refine⟨some ((x.cc b' (.lbox g (putAt cs off vs))).cI v),⟨x.cc b' (.lbox g (putAt cs off vs)),by simp only[ve,h0,cond_true,hTb,h1],trivial,rfl⟩,⟨fun k hk=>?_,fun k hk=>?_,fun h=>(by cases h),fun _=>?_,fun h=>(by cases h),fun _=>?_⟩,hw⟩
     ·by_cases Td:k∈v.tmps
      ·exact k1 k Td
      ·have Am:k=b':=by
        rcases aog.1 hk with h|h
        ·exact absurd h Td
        ·exact aos.1 h
       show ((x.cc b' _).cI v).T k=((s.cc b' _).cI v).T k
       rw[k2 k Td,k3 k Td,fM,fM,if_pos Am,if_pos Am]
     ·have Td:k∉v.tmps:=fun h=>hk (aog.2 (.inl h))
      have Am:k≠b':=fun h=>hk (aog.2 (.inr (aos.2 h)))
      show ((x.cc b' _).cI v).T k=x.T k
      rw[k2 k Td,fM,if_neg Am]
     ·obtain⟨q1,_,q3⟩:=ia (x.cc b' (.lbox g (putAt cs off vs))) v
      exact⟨q1.trans rfl,q3.trans rfl⟩
     ·obtain⟨_,q2,_⟩:=ia (x.cc b' (.lbox g (putAt cs off vs))) v
      exact q2.trans rfl
    ·cases bH
  case eref=>cases c<;>cases jW
 case append isB wr sz bytes y1 y2 =>
  cases wr with
  | true=>cases he
  | false =>
   simp only[an8,an2] at he
   subst he
   have hw:∀ t,t∈y1.tmps->t∈y1.tmps++y2.tmps:=fun t h=>aog.2 (.inl h)
   have h2:=ev (y:=y2) (fun t h=>aog.2 (.inr h))
   simp only[dN,aE] at bH ⊢
   cases y1 with
   | tmp t =>
    have ht:=ha.T t (by simp[aF.tmps])
    simp only[dG] at bH ⊢
    rw[ht,h2]
    split at bH
    ·simp only[an1] at bH
     obtain⟨f,_,bH⟩:=bH
     simp at bH
    ·rename_i el own hT
     simp only[an8,an0,an7] at bH
     obtain⟨z',hz,rfl,rfl⟩:=bH
     refine⟨some (x.cc t (.slice el false)),by simp only[an8,hz,aok],⟨fun k hk=>?_,fun k hk=>?_,fun h=>(by cases h),fun _=>⟨rfl,rfl⟩,fun h=>(by cases h),fun _=>rfl⟩,hw⟩
     ·simp only[aF.tmps,aos] at hk
      simp only[apf,fM,hk,apB]
     ·simp only[aF.tmps,aos] at hk
      simp only[apf,fM,if_neg hk]
    ·simp only[an8,an0,an7] at bH
     obtain⟨z',hz,rfl,rfl⟩:=bH
     exact⟨some x,by simp only[an8,hz,aok],fR.stay ha hw,hw⟩
    ·cases bH
   | _ =>
    simp only[dG,an8] at bH ⊢
    have rR:=rj bH
    subst rR
    rw[h2]
    exact⟨none,bH,fR.stay ha hw,hw⟩
 case appendO sz bytes y1 y2 =>
  simp only[an2] at he
  subst he
  obtain⟨hH,hl⟩:=ha.H (.inl rfl)
  simp only[dN,aE] at bH ⊢
  rw[ad (y:=y1) (fun t h=>aog.2 (.inl h)),ev (y:=y2) (fun t h=>aog.2 (.inr h))]
  simp only[iD] at bH ⊢
  split at bH
  ·rename_i v hn
   simp only[an2,an7] at bH
   obtain⟨rfl,rfl⟩:=bH
   exact⟨none,rfl,fR.stay ha (fun t h=>by cases h),fun t h=>by cases h⟩
  simp only[iT,an1] at bH ⊢
  obtain⟨f,hf,bH⟩:=bH
  have fin:∀ (c0:gJ),fR ⟨y1.tmps++y2.tmps,[],true,true,false⟩ (s.gk c0) x (x.gk c0):=fun c0=>⟨fun k hk=>(by cases hk),fun _ _=>rfl,fun _=>⟨rfl,by simp only[AS.gk,hl]⟩,fun h=>(by cases h),fun h=>(by cases h),fun _=>rfl⟩
  split at bH
  ·obtain⟨h0,bH⟩:=ae bH
   simp only[an2,an7] at bH
   obtain⟨rfl,rfl⟩:=bH
   rename_i hY
   exact⟨some (x.gk ⟨s.H++[bZ.box bV f.flatten],s.H.length⟩),⟨f,hf,by simp only[h0,cond_true,hH]⟩,fin ⟨s.H++[bZ.box bV f.flatten],s.H.length⟩,fun t h=>by cases h⟩
  ·obtain⟨h0,bH⟩:=ae bH
   simp only[an2,an7] at bH
   obtain⟨rfl,rfl⟩:=bH
   rename_i hY
   exact⟨some (x.gk ⟨s.H++[bZ.box bV f.flatten],s.H.length⟩),⟨f,hf,by simp only[h0,cond_true,hH]⟩,fin ⟨s.H++[bZ.box bV f.flatten],s.H.length⟩,fun t h=>by cases h⟩
  ·rename_i l o n zz hY
   split at bH
   ·rename_i ty cs KM
    obtain⟨h0,bH⟩:=ae bH
    simp only[an2,an7] at bH
    obtain⟨rfl,rfl⟩:=bH
    exact⟨some (x.gk ⟨s.H.set l .dead++[bZ.box bV (cs++f.flatten)],l⟩),⟨f,hf,by simp only[hH,KM,h0,cond_true]⟩,fin ⟨s.H.set l .dead++[bZ.box bV (cs++f.flatten)],l⟩,fun t h=>by cases h⟩
   ·cases bH
  ·cases bH
 case copyO y1 y2 =>
  simp only[an2] at he
  subst he
  obtain⟨hH,hl⟩:=ha.H (.inl rfl)
  simp only[dN,aE] at bH ⊢
  rw[ad (y:=y1) (fun t h=>aog.2 (.inl h)),ev (y:=y2) (fun t h=>aog.2 (.inr h))]
  simp only[rJ] at bH ⊢
  have fin:∀ (c0:gJ),fR ⟨y1.tmps++y2.tmps,[],true,true,false⟩ (s.gk c0) x (x.gk c0):=fun c0=>⟨fun k hk=>(by cases hk),fun _ _=>rfl,fun _=>⟨rfl,by simp only[AS.gk,hl]⟩,fun h=>(by cases h),fun h=>(by cases h),fun _=>rfl⟩
  split at bH
  ·rename_i l o n zz f own hY hZ
   split at bH
   ·rename_i cs KM
    obtain⟨h0,bH⟩:=ae bH
    simp only[an2,an7] at bH
    obtain⟨rfl,rfl⟩:=bH
    exact⟨some (x.gk ⟨s.H.set l (.cS (putAt cs o (f.take (Nat.min f.length n)).flatten)),l⟩),by simp only[hH,KM,h0,cond_true],fin ⟨s.H.set l (.cS (putAt cs o (f.take (Nat.min f.length n)).flatten)),l⟩,fun t h=>by cases h⟩
   ·cases bH
  ·simp only[an2,an7] at bH
   obtain⟨rfl,rfl⟩:=bH
   exact⟨none,rfl,fR.stay ha (fun t h=>by cases h),fun t h=>by cases h⟩
  ·cases bH
 case call f args =>
  simp only[an2] at he
  subst he
  obtain⟨hH,hl⟩:=ha.H (.inl rfl)
  have hf:=ev (y:=f) (fun t h=>by simp only[fQ.tmps,aog];exact .inl h)
  have had:∀ y,y∈args->y.addr G x.T=y.addr G s.T:=fun y hy=>ad (y:=y) (fun t h=>by simp only[fQ.tmps,aog,apw];exact .inr ⟨y,hy,h⟩)
  have e1:(args.map fun a=>a.addr G x.T)=args.map fun a=>a.addr G s.T:=aoD had
  have e2:(args.map fun a=>(a.addr G x.T).bD)=args.map fun a=>(a.addr G s.T).bD:=aoD fun y hy=>by rw[had y hy]
  have KX:∀ t,t∈([]:List Nat)->t∈(fQ.call f args).tmps:=fun t h=>by cases h
  cases pc with
  | true =>
   simp only[dN,cond_true,aE] at bH ⊢
   rw[hf,e1,e2,hH]
   split at bH
   ·obtain⟨h0,bH⟩:=ae bH
    simp only[an1] at bH
    obtain⟨r,hr,bH⟩:=bH
    split at bH
    ·rename_i h2
     simp only[an2,an7] at bH
     obtain⟨rfl,rfl⟩:=bH
     exact⟨none,by simp only[h0,cond_true,hr,aok,h2,aqf],fR.stay ha KX,KX⟩
    ·cases bH
   ·cases bH
  | false =>
   simp only[dN,an8,aE] at bH ⊢
   rw[hf,e1,e2,hH]
   split at bH
   ·obtain⟨h0,bH⟩:=ae bH
    simp only[an0,an7] at bH
    obtain⟨r,hr,rfl,rfl⟩:=bH
    refine⟨r.2.map x.gk,by simp only[h0,cond_true,hr,aok],?_,KX⟩
    cases h2:r.2 with
    | none=>exact fR.stay ha KX
    | some c0=>exact⟨fun k hk=>(by cases hk),fun _ _=>rfl,fun _=>⟨rfl,by simp only[aok,apf,AS.gk,hl]⟩,fun h=>(by cases h),fun h=>(by cases h),fun _=>rfl⟩
   ·cases bH
theorem Fv{pc:Bool}{c:Nw}{op:fQ}(he:AR pc c op=some e):∀ t,t∈e.ws->t∈e.rs:=by
 intro t ht
 cases op<;>simp only[AR] at he<;>try (cases he;done)
 case mov take obj y =>
  cases obj with
  | true=>cases he
  | false =>
   simp only[an8,an2] at he
   subst he
   cases take with
   | true=>exact ht
   | false=>cases ht
 case load take agg sz y =>
  simp only[an2] at he
  subst he
  cases hb:(take&&!agg) with
  | true=>simp only[hb,cond_true] at ht;exact aog.2 (.inr ht)
  | false=>simp only[hb,an8] at ht;cases ht
 case store sz y v =>
  simp only[an2] at he
  subst he
  rcases aog.1 ht with h|h
  ·exact aog.2 (.inl (aog.2 (.inr h)))
  ·exact aog.2 (.inr h)
 case append isB wr sz bytes y1 y2 =>
  cases wr with
  | true=>cases he
  | false =>
   simp only[an8,an2] at he
   subst he
   exact aog.2 (.inl ht)
 all_goals
  simp only[an2] at he
  subst he
  cases ht
theorem y5{mode pc:Bool}{is:List aM}{L:List Nat}{o:aM}(he:Fu mode pc is L o=some e)
  (hc:∀ c y,wo mode is L o.op=some (c,y)->(∀ g w,o.guard=some (g,w)->s.T g=.bool w)->gN c (y.addr G s.T)=true) {s1:AS}
  (bH:cd G cf false s (jL pc o)=some s1) (ha:Zf e s x):∃ x1,cd G cf false x o=some x1/\fR e s1 x x1/\(∀ t,t∈e.ws->t∈o.dst.toList\/t∈e.rs):=by
 simp only[Fu,an0] at he
 obtain⟨e0,he0,rfl⟩:=he
 rw[wM] at bH
 have ha0:Zf e0 s x:=⟨fun t ht=>ha.T t (aog.2 (.inr ht)),ha.H,ha.G⟩
 have Dm:∀ (q:AS) (d:Option Nat) (v:AV) (k:Nat),(q.cH d v).T k=if k∈d.toList then v else q.T k:=by
  intro q d v k
  cases d with
  | none=>simp[AS.cH]
  | some d=>simp only[AS.cH,fM,Option.toList_some,aos]
 have put:∀ (v:AV) (s2 x2:AS),fR e0 s2 x x2->(∀ t,t∈e0.ws->t∈e0.rs) ->
   fR ⟨(match o.guard with|some (g,_)=>[g]|none=>[])++e0.rs,o.dst.toList++e0.ws,e0.rh,e0.wh,e0.wg⟩ (s2.cH o.dst v) x (x2.cH o.dst v)/\(∀ t,t∈o.dst.toList++e0.ws->t∈o.dst.toList\/t∈(match o.guard with|some (g,_)=>[g]|none=>[])++e0.rs):=by
  intro v s2 x2 hM hw
  refine⟨⟨fun t ht=>?_,fun t ht=>?_,fun h=>?_,fun h=>?_,fun h=>?_,fun h=>?_⟩,fun t ht=>?_⟩
  ·rw[Dm,Dm]
   by_cases hd:t∈o.dst.toList
   ·rw[if_pos hd,if_pos hd]
   ·rw[if_neg hd,if_neg hd]
    rcases aog.1 ht with h|h
    ·exact absurd h hd
    ·exact hM.T t h
  ·rw[Dm,if_neg (fun h=>ht (aog.2 (.inl h)))]
   exact hM.T' t (fun h=>ht (aog.2 (.inr h)))
  ·rw[(jk s2 o.dst v).1,(jk s2 o.dst v).2.2,(jk x2 o.dst v).1,(jk x2 o.dst v).2.2];exact hM.H h
  ·rw[(jk x2 o.dst v).1,(jk x2 o.dst v).2.2];exact hM.H' h
  ·rw[(jk s2 o.dst v).2.1,(jk x2 o.dst v).2.1];exact hM.G h
  ·rw[(jk x2 o.dst v).2.1];exact hM.G' h
  ·rcases aog.1 ht with h|h
   ·exact .inl h
   ·exact .inr (aog.2 (.inr (hw t h)))
 have run:(∀ g w,o.guard=some (g,w)->s.T g=.bool w)->((aE G cf s (dN pc o.op)).bind fun r=>match r.2 with
   | none=>cond (false&&(bk r.1).isSome) none (some (s.cH o.dst r.1))
   | some s'=>cond false none (some (s'.cH o.dst r.1)))=some s1 ->
   ∃ x1,((aE G cf x o.op).bind fun r=>match r.2 with
    | none=>cond (false&&(bk r.1).isSome) none (some (x.cH o.dst r.1))
    | some s'=>cond false none (some (s'.cH o.dst r.1)))=some x1/\fR ⟨(match o.guard with|some (g,_)=>[g]|none=>[])++e0.rs,o.dst.toList++e0.ws,e0.rh,e0.wh,e0.wg⟩ s1 x x1 /\
    (∀ t,t∈o.dst.toList++e0.ws->t∈o.dst.toList\/t∈(match o.guard with|some (g,_)=>[g]|none=>[])++e0.rs):=by
  intro hg hr
  simp only[an1] at hr
  obtain⟨⟨z,so⟩,hz,hr⟩:=hr
  obtain⟨xo,h1,h2,h3⟩:=V7 he0 (fun y hy=>by
    have key:∃ c,wo mode is L o.op=some (c,y):=by
     rcases hy with ⟨t,a,z,h⟩|⟨z,v,h⟩|h|⟨f,h⟩|⟨n,z,i,h⟩<;>rw[h]<;>exact⟨_,rfl⟩
    obtain⟨c,hk⟩:=key
    rw[hk]
    exact hc c y hk hg)
   (fun y hy=>by
    have key:wo mode is L o.op=some (.heap,y):=by
     rcases hy with ⟨z,i,h⟩|⟨k,h⟩<;>rw[h]<;>rfl
    exact hc _ y key hg) hz ha0
  have An:s1=(so.getD s).cH o.dst z:=by
   cases so with
   | none=>simp only[aoq,an8,an2] at hr;exact hr.symm
   | some s2=>simp only[an8,an2] at hr;exact hr.symm
  subst An
  obtain⟨p1,p2⟩:=put z _ _ h2 h3
  refine⟨(xo.getD x).cH o.dst z,?_,p1,p2⟩
  rw[h1]
  cases xo with
  | none=>rfl
  | some x2=>rfl
 unfold cd at bH ⊢
 cases zR:o.guard with
 | none =>
  rw[zR] at run
  simp only[zR] at bH ⊢
  exact run (fun g w h=>by cases h) bH
 | some gw =>
  obtain⟨g,w⟩:=gw
  have hxg:x.T g=s.T g:=ha.T g (by rw[zR];exact aog.2 (.inl (aos.2 rfl)))
  simp only[zR] at bH ⊢
  rw[hxg]
  rw[zR] at run put
  have skip:some (s.cH o.dst .undef)=some s1->∃ x1,some (x.cH o.dst .undef)=some x1/\fR ⟨[g]++e0.rs,o.dst.toList++e0.ws,e0.rh,e0.wh,e0.wg⟩ s1 x x1/\(∀ t,t∈o.dst.toList++e0.ws->t∈o.dst.toList\/t∈[g]++e0.rs):=by
   intro h
   injection h with h
   subst h
   obtain⟨p1,p2⟩:=put .undef s x (fR.stay ha0 (Fv he0)) (Fv he0)
   exact⟨_,rfl,p1,p2⟩
  generalize hX:s.T g=X at bH
  cases X with
  | bool b =>
   simp only at bH ⊢
   cases hb:(b==w) with
   | true =>
    rw[hb] at bH
    simp only[cond_true] at bH ⊢
    exact run (fun g' w' h=>by injection h with h;injection h with h1 h2;subst h1 h2;rw[hX];congr 1;simpa using hb) bH
   | false =>
    rw[hb] at bH
    simp only[an8] at bH ⊢
    exact skip bH
  | tuple vs =>
   cases vs with
   | nil=>exact skip bH
   | cons v vs=>cases bH
  | _=>cases bH
end
section
variable {α:Type}{S:Nat->AS}{f:AS->α}{w X:Nat->Prop}{n k:Nat}{x x1:AS}
def BK(S:Nat->AS)(f:AS->α)(w X:Nat->Prop)(x:AS):Prop :=
 (∃ i,X i/\w i/\(∀ j,X j->w j->j<=i)/\f x=f (S (i+1)))\/((∀ j,X j->¬ w j)/\f x=f (S 0))
theorem xX(hf:∀ j,j<n->¬ w j->f (S (j+1))=f (S j)){a:Nat} : ∀ (b:Nat),a<=b->b<=n->(∀ j,a<=j->j<b->¬ w j)->f (S b)=f (S a):=by
 intro b
 induction b with
 | zero=>intro h _ _;rw[show a=0 by omega]
 | succ b ih =>
  intro h1 h2 h3
  rcases apL b a with h|h
  ·rw[show a=b+1 by omega]
  ·rw[hf b (by omega) (h3 b h (by omega)),ih h (by omega) (fun j a1 a2=>h3 j a1 (by omega))]
theorem rH(hf:∀ j,j<n->¬ w j->f (S (j+1))=f (S j))(hk:k<=n)(hC:BK S f w X x)(h1:∀ j,j<k->w j->X j)(h2:∀ j,X j->w j->j<k):f x=f (S k):=by
 rcases hC with ⟨i,hX,hw,hm,he⟩|⟨lY,he⟩
 ·rw[he]
  refine (xX hf k (h2 i hX hw) hk (fun j a b My=>?_)).symm
  have:=hm j (h1 j b My) My
  omega
 ·rw[he]
  exact (xX hf k (ao9 _) hk (fun j a b My=>lY j (h1 j b My) My)).symm
theorem sU(hw:w k)(hm:∀ j,X j->w j->j<=k)(he:f x1=f (S (k+1))):BK S f w (fun j=>X j\/j=k) x1 :=
 .inl ⟨k,.inr rfl,hw,fun j hj My=>by rcases hj with h|h;exact hm j h My;omega,he⟩
theorem vw(hw:¬ w k)(hC:BK S f w X x)(he:f x1=f x):BK S f w (fun j=>X j\/j=k) x1:=by
 rcases hC with ⟨i,hX,hwi,hm,h⟩|⟨lY,h⟩
 ·exact .inl ⟨i,.inl hX,hwi,fun j hj My=>by
   rcases hj with h'|h'
   ·exact hm j h' My
   ·subst h';exact absurd My hw,by rw[he,h]⟩
 ·exact .inr ⟨fun j hj My=>by
   rcases hj with h'|h'
   ·exact lY j h' My
   ·subst h';exact hw My,by rw[he,h]⟩
theorem sS{Y:Nat->Prop}(h:∀ j,X j↔Y j)(hC:BK S f w X x):BK S f w Y x:=by
 rcases hC with ⟨i,hX,hwi,hm,h'⟩|⟨lY,h'⟩
 ·exact .inl ⟨i,(h i).1 hX,hwi,fun j hj=>hm j ((h j).2 hj),h'⟩
 ·exact .inr ⟨fun j hj=>lY j ((h j).2 hj),h'⟩
structure sP (S:Nat->AS) (E:Nat->rC) (X:Nat->Prop) (x:AS):Prop where
 T:∀ t,BK S (fun s=>s.T t) (fun j=>t∈(E j).ws) X x
 H:BK S (fun s=>(s.H,s.lo)) (fun j=>(E j).wh=true) X x
 G:BK S (fun s=>s.gen) (fun j=>(E j).wg=true) X x
structure NP (S:Nat->AS) (E:Nat->rC) (n:Nat):Prop where
 T:∀ t j,j<n->¬ (t∈(E j).ws)->(S (j+1)).T t=(S j).T t
 H:∀ j,j<n->¬ ((E j).wh=true)->((S (j+1)).H,(S (j+1)).lo)=((S j).H,(S j).lo)
 G:∀ j,j<n->¬ ((E j).wg=true)->(S (j+1)).gen=(S j).gen
theorem vP{x y:List Nat}{t:Nat}(h1:t∈x)(h2:t∈y):meets x y=true:=by
 simp only[meets,List.any_eq_true]
 exact⟨t,h1,by simpa using h2⟩
theorem Im{E:Nat->rC}(hK:NP S E n)(hk:k<n)(hB:sP S E X x)(hX:¬ X k)(h1:∀ j,j<k->conflict (E k) (E j)=true->X j)(h2:∀ j,k<j->conflict (E j) (E k)=true->¬ X j):Zf (E k) (S k) x:=by
 have lt:∀ j,X j->j<k\/k<j:=fun j h=>by
  rcases aqD j k with a|a|a
  ·exact .inl a
  ·subst a;exact absurd h hX
  ·exact .inr a
 refine⟨fun t ht=>?_,fun hh=>?_,fun hg=>?_⟩
 ·refine rH (fun j=>hK.T t j) (aqN hk) (hB.T t) (fun j hj hw=>h1 j hj ?_) (fun j hj hw=>?_)
  ·simp only[conflict,vP hw ht,aoL,aoH]
  ·rcases lt j hj with a|a
   ·exact a
   ·exact absurd hj (h2 j a (by simp only[conflict,vP hw ht,aoL,aoH]))
 ·have:=rH (fun j=>hK.H j) (aqN hk) hB.H (fun j hj hw=>h1 j hj (by
   rcases hh with h|h<;>simp[conflict,hw,h])) (fun j hj hw=>by
   rcases lt j hj with a|a
   ·exact a
   ·exact absurd hj (h2 j a (by rcases hh with h|h<;>simp[conflict,hw,h])))
  simp only[an7] at this
  exact this
 ·exact rH (fun j=>hK.G j) (aqN hk) hB.G (fun j hj hw=>h1 j hj (by simp[conflict,hw,hg])) (fun j hj hw=>by
   rcases lt j hj with a|a
   ·exact a
   ·exact absurd hj (h2 j a (by simp[conflict,hw,hg])))
theorem DW{E:Nat->rC}(hB:sP S E X x)(hX:¬ X k)(h2:∀ j,k<j->conflict (E j) (E k)=true->¬ X j)(hM:fR (E k) (S (k+1)) x x1):sP S E (fun j=>X j\/j=k) x1:=by
 have le:∀ j,X j->(k<j->conflict (E j) (E k)=true)->j<=k:=fun j h hc=>by
  rcases apL k j with a|a
  ·exact absurd h (h2 j a (hc a))
  ·exact a
 refine⟨fun t=>?_,?_,?_⟩
 ·by_cases ht:t∈(E k).ws
  ·exact sU ht (fun j hj hw=>le j hj fun _=>by simp only[conflict,vP hw ht,aoL,aoH]) (hM.T t ht)
  ·exact vw ht (hB.T t) (hM.T' t ht)
 ·by_cases hh:(E k).wh=true
  ·exact sU hh (fun j hj hw=>le j hj fun _=>by simp[conflict,hw,hh]) (by simp only[hM.H hh])
  ·have:=hM.H' (by simpa using hh)
   exact vw hh hB.H (by simp only[this])
 ·by_cases hg:(E k).wg=true
  ·exact sU hg (fun j hj hw=>le j hj fun _=>by simp[conflict,hw,hg]) (hM.G hg)
  ·exact vw hg hB.G (hM.G' (by simpa using hg))
theorem Io{E:Nat->rC}(hK:NP S E n)(hB:sP S E X x)(hX:∀ j,X j↔j<n):x=S n:=by
 have hT:x.T=(S n).T:=funext fun t=>rH (fun j=>hK.T t j) (aoa _) (hB.T t) (fun j hj _=>(hX j).2 hj) (fun j hj _=>(hX j).1 hj)
 have hH:=rH (fun j=>hK.H j) (aoa _) hB.H (fun j hj _=>(hX j).2 hj) (fun j hj _=>(hX j).1 hj)
 have hG:=rH (fun j=>hK.G j) (aoa _) hB.G (fun j hj _=>(hX j).2 hj) (fun j hj _=>(hX j).1 hj)
 simp only[an7] at hH
 obtain⟨h1,h2⟩:=hH
 cases x
 generalize S n=y at hT h1 h2 hG
 cases y
 simp only at hT h1 h2 hG
 subst hT h1 h2 hG
 rfl
theorem DV{E:Nat->rC}(hX:∀ j,¬ X j):sP S E X (S 0) :=
 ⟨fun _=>.inr ⟨fun j h=>absurd h (hX j),rfl⟩,.inr ⟨fun j h=>absurd h (hX j),rfl⟩,.inr ⟨fun j h=>absurd h (hX j),rfl⟩⟩
end
theorem zh(ops:List Oper):∀ (k:Nat) (o:Oper),ops[k]?=some o->∀ p,p∈(pX ops).getD k []->∃ e,e∈o.after.toList/\Region.binds .any e=true/\(p=e.on\/p∈(pX ops).getD e.on []):=by
 have key:∀ (l r:List Oper) (t:List (List Nat)),t.length=l.length->(∀ (k:Nat) (o:Oper),l[k]?=some o->∀ p,p∈t.getD k []->∃ e,e∈o.after.toList/\Region.binds .any e=true/\(p=e.on\/p∈t.getD e.on [])) ->
   let t':=r.foldl (fun t o=>t++[(o.after.toList.flatMap fun e=>cond (Region.binds .any e) (e.on :: t.getD e.on []) []).eraseDups]) t
   ∀ (k:Nat) (o:Oper),(l++r)[k]?=some o->∀ p,p∈t'.getD k []->∃ e,e∈o.after.toList/\Region.binds .any e=true/\(p=e.on\/p∈t'.getD e.on []):=by
  intro l r
  induction r generalizing l with
  | nil=>intro t hl h;simpa using h
  | cons o r ih =>
   intro t hl h
   have:=ih (l++[o]) (t++[(o.after.toList.flatMap fun e=>cond (Region.binds .any e) (e.on :: t.getD e.on []) []).eraseDups]) (by simp[hl]) (fun k o' hk p hp=>?_)
   ·simpa using this
   ·have grow:∀ (v:List Nat) (i q:Nat),q∈t.getD i []->q∈(t++[v]).getD i []:=by
     intro v i q hq
     have:i<t.length:=by
      rcases apL i t.length with h|h
      ·exact h
      ·rw[ao0,ape h] at hq;cases hq
     rw[ao0,aox this,<- ao0];exact hq
    rcases aqD k l.length with a|a|a
    ·rw[aox a] at hk
     rw[ao0,aox (by omega),<- ao0] at hp
     obtain⟨e,h1,h2,h3⟩:=h k o' hk p hp
     exact⟨e,h1,h2,h3.imp id (grow _ _ _)⟩
    ·subst a
     simp only[aoz (aoa _),aqa,aoB,an2] at hk
     subst hk
     rw[ao0,aoz (by omega),hl,aqa] at hp
     simp only[aoB,apf,List.mem_eraseDups,apw] at hp
     obtain⟨e,h1,hp⟩:=hp
     cases hb:Region.binds .any e with
     | false=>rw[hb] at hp;cases hp
     | true =>
      rw[hb] at hp
      simp only[cond_true,aoN] at hp
      exact⟨e,h1,hb,hp.imp id (grow _ _ _)⟩
    ·rw[aoz (by omega)] at hk
     have:k-l.length≠0:=by omega
     obtain⟨m,hm⟩:=Nat.exists_eq_succ_of_ne_zero this
     rw[hm] at hk
     simp at hk
 have:=key [] ops [] rfl (fun k o hk=>by simp at hk)
 simpa [pX] using this
theorem uV{ops:List Oper}{X:Nat->Prop}(ur:∀ (i:Nat) (o:Oper),ops[i]?=some o->∀ e,e∈o.after.toList->Region.binds .any e=true->e.on<i)
  (hX:∀ (i:Nat) (o:Oper),ops[i]?=some o->X i->∀ e,e∈o.after.toList->Region.binds .any e=true->X e.on) :
  ∀ (k:Nat),X k->∀ p,p∈(pX ops).getD k []->X p:=by
 intro k
 induction k using Nat.strongRecOn with
 | _ k ih =>
  intro hk p hp
  cases ho:ops[k]? with
  | none =>
   exfalso
   have hlen:∀ (r:List Oper) (t:List (List Nat)),(r.foldl (fun t o=>t++[(o.after.toList.flatMap fun e=>cond (Region.binds .any e) (e.on :: t.getD e.on []) []).eraseDups]) t).length=t.length+r.length:=by
    intro r
    induction r with
    | nil=>intro t;simp
    | cons o r ih=>intro t;rw[aqK,ih];simp;omega
   have h1:(pX ops).length=ops.length:=by rw[pX,hlen];simp
   rw[ao0,ape (by rw[h1];exact List.getElem?_eq_none_iff.1 ho)] at hp
   cases hp
  | some o =>
   obtain⟨e,h1,h2,h3⟩:=zh ops k o ho p hp
   have h4:=hX k o ho hk e h1 h2
   rcases h3 with h3|h3
   ·rw[h3];exact h4
   ·exact ih e.on (ur k o ho e h1 h2) h4 p h3
theorem Hh{ops:List Oper}{X:Nat->Prop}(ur:∀ (i:Nat) (o:Oper),ops[i]?=some o->∀ e,e∈o.after.toList->Region.binds .any e=true->e.on<i)
  (hX:∀ (i:Nat) (o:Oper),ops[i]?=some o->X i->∀ e,e∈o.after.toList->Region.binds .any e=true->X e.on)
  {k:Nat} {o:Oper} (ho:ops[k]?=some o) (hr:∀ e,e∈o.after.toList->Region.binds .any e=true->X e.on):∀ p,p∈(pX ops).getD k []->X p:=by
 intro p hp
 obtain⟨e,h1,h2,h3⟩:=zh ops k o ho p hp
 rcases h3 with h3|h3
 ·rw[h3];exact hr e h1 h2
 ·exact uV ur hX e.on (hr e h1 h2) p h3
section
variable {G:Nat->List AV}{cf:dq}
theorem J8{pc:Bool}{op:fQ}{s:AS}{r:AV × Option AS}(h:aE G cf s (dN pc op)=some r):aE G cf s op=some r:=by
 cases op<;>try exact h
 rename_i f xs
 cases pc with
 | false=>exact h
 | true =>
  simp only[dN,cond_true,aE] at h ⊢
  split at h
  ·obtain⟨h0,h⟩:=ae h
   simp only[an1] at h
   obtain⟨⟨v,c⟩,h1,h⟩:=h
   simp only[h0,cond_true,h1,aok]
   cases c with
   | none=>exact h
   | some c=>cases h
  ·cases h
theorem Dl{pc:Bool}{o:aM}{s s1:AS}(h:cd G cf false s (jL pc o)=some s1):cd G cf false s o=some s1:=by
 rw[wM] at h
 have run:((aE G cf s (dN pc o.op)).bind fun r=>match r.2 with
   | none=>cond (false&&(bk r.1).isSome) none (some (s.cH o.dst r.1))
   | some s'=>cond false none (some (s'.cH o.dst r.1)))=some s1->((aE G cf s o.op).bind fun r=>match r.2 with
   | none=>cond (false&&(bk r.1).isSome) none (some (s.cH o.dst r.1))
   | some s'=>cond false none (some (s'.cH o.dst r.1)))=some s1:=by
  intro h
  simp only[an1] at h
  obtain⟨r,hr,h⟩:=h
  rw[J8 hr]
  exact h
 unfold cd at h ⊢
 cases zR:o.guard with
 | none=>simp only[zR] at h ⊢;exact run h
 | some gw =>
  obtain⟨g,w⟩:=gw
  simp only[zR] at h ⊢
  generalize s.T g=X at h ⊢
  cases X with
  | bool b =>
   simp only at h ⊢
   cases hb:(b==w) with
   | true=>rw[hb] at h;simp only[cond_true] at h ⊢;exact run h
   | false=>rw[hb] at h;exact h
  | tuple vs=>cases vs with
   | nil=>exact h
   | cons v vs=>cases h
  | _=>cases h
theorem CG{mode pc:Bool}{is:List aM}{L:List Nat} : ∀ (l:List aM) (s s' : AS),fA G cf false (inter mode pc is L l) s=some s' ->
  ∃ S:Nat->AS,S 0=s/\S l.length=s'/\∀ (i:Nat) (o:aM),l[i]?=some o->(∀ c y,wo mode is L o.op=some (c,y)->(∀ g w,o.guard=some (g,w)->(S i).T g=.bool w)->gN c (y.addr G (S i).T)=true) /\
   cd G cf false (S i) (jL pc o)=some (S (i+1)):=by
 intro l
 induction l with
 | nil =>
  intro s s' h
  simp only[inter,fA,an2] at h
  exact⟨fun _=>s,rfl,h,fun i o hi=>by simp at hi⟩
 | cons o l ih =>
  intro s s' h
  have body:∀ s1,cd G cf false s (jL pc o)=some s1->fA G cf false (inter mode pc is L l) s1=some s'->(∀ c y,wo mode is L o.op=some (c,y)->(∀ g w,o.guard=some (g,w)->s.T g=.bool w)->gN c (y.addr G s.T)=true) ->
    ∃ S:Nat->AS,S 0=s/\S (o :: l).length=s'/\∀ (i:Nat) (o' : aM),(o :: l)[i]?=some o'->(∀ c y,wo mode is L o'.op=some (c,y)->(∀ g w,o'.guard=some (g,w)->(S i).T g=.bool w)->gN c (y.addr G (S i).T)=true) /\
     cd G cf false (S i) (jL pc o')=some (S (i+1)):=by
   intro s1 h1 h2 h3
   obtain⟨S,a,b,c⟩:=ih s1 s' h2
   refine⟨fun i=>match i with|0=>s|i+1=>S i,rfl,b,fun i o' hi=>?_⟩
   cases i with
   | zero =>
    simp only[aoB,an2] at hi
    subst hi
    exact⟨h3,by rw[h1];exact apS some a.symm⟩
   | succ i=>exact c i o' (by simpa using hi)
  simp only[inter] at h
  split at h
  ·rename_i c x hk
   simp only[fA,an1] at h
   obtain⟨s0,h0,s1,h1,h2⟩:=h
   have HR:s0=s/\((∀ g w,o.guard=some (g,w)->s.T g=.bool w)->gN c (x.addr G s.T)=true):=by
    have run:((aE G cf s (.HR c x)).bind fun r=>match r.2 with
      | none=>cond (false&&(bk r.1).isSome) none (some (s.cH none r.1))
      | some s'=>cond false none (some (s'.cH none r.1)))=some s0->s0=s/\gN c (x.addr G s.T)=true:=by
     intro h
     simp only[aE] at h
     cases hc:gN c (x.addr G s.T) with
     | false=>rw[hc] at h;cases h
     | true=>rw[hc] at h;simp[AS.cH] at h;exact⟨h.symm,rfl⟩
    unfold cd at h0
    cases zR:o.guard with
    | none=>simp only[zR] at h0;exact⟨(run h0).1,fun _=>(run h0).2⟩
    | some gw =>
     obtain⟨g,w⟩:=gw
     simp only[zR] at h0
     generalize hX:s.T g=X at h0
     cases X with
     | bool b =>
      simp only at h0
      cases hb:(b==w) with
      | true=>rw[hb] at h0;exact⟨(run h0).1,fun _=>(run h0).2⟩
      | false =>
       rw[hb] at h0
       simp only[an8,AS.cH,an2] at h0
       refine⟨h0.symm,fun hg=>?_⟩
       have:=hg g w rfl
       rw[hX] at this
       injection this with this
       subst this
       simp at hb
     | tuple vs =>
      cases vs with
      | nil =>
       simp only[AS.cH,an2] at h0
       refine⟨h0.symm,fun hg=>?_⟩
       have:=hg g w rfl
       rw[hX] at this
       cases this
      | cons v vs=>cases h0
     | _=>cases h0
   obtain⟨rfl,ah3⟩:=HR
   refine body s1 h1 h2 (fun c' y qN=>?_)
   rw[hk] at qN
   injection qN with qN
   injection qN with e1 e2
   subst e1 e2
   exact ah3
  ·rename_i hk
   simp only[fA,an1] at h
   obtain⟨s1,h1,h2⟩:=h
   exact body s1 h1 h2 (fun c' y qN=>by rw[hk] at qN;cases qN)
theorem yl{mode pc:Bool}{is:List aM}{L:List Nat} : ∀ {l:List aM} {es:List rC},oD mode pc is L l=some es->es.length=l.length/\∀ (i:Nat) (o:aM),l[i]?=some o->Fu mode pc is L o=some (es.getD i default)
 | [],es,h=>by simp[oD] at h;subst h;exact⟨rfl,fun i o hi=>by simp at hi⟩
 | o :: l,es,h=>by
  simp only[oD,an1,an0] at h
  obtain⟨e,he,vb,h',rfl⟩:=h
  obtain⟨h1,h2⟩:=yl h'
  refine⟨by simp[h1],fun i o' hi=>?_⟩
  cases i with
  | zero=>simp only[aoB,an2] at hi;subst hi;simpa using he
  | succ i=>simpa using h2 i o' (by simpa using hi)
theorem FD{s s1:AS}{o:aM}(h:cd G cf false s o=some s1):∃ z s2,nq G cf false s o=some (z,s2)/\s1=s2.cH o.dst z:=by
 have run:((aE G cf s o.op).bind fun r=>match r.2 with
   | none=>cond (false&&(bk r.1).isSome) none (some (s.cH o.dst r.1))
   | some s'=>cond false none (some (s'.cH o.dst r.1)))=some s1->∃ z s2,((aE G cf s o.op).bind fun r=>match r.2 with
   | none=>cond (false&&(bk r.1).isSome) none (some (r.1,s))
   | some s'=>cond false none (some (r.1,s')))=some (z,s2)/\s1=s2.cH o.dst z:=by
  intro h
  simp only[an1] at h
  obtain⟨⟨z,so⟩,hr,h⟩:=h
  rw[hr]
  cases so with
  | none=>simp at h;exact⟨z,s,rfl,h.symm⟩
  | some s2=>simp at h;exact⟨z,s2,rfl,h.symm⟩
 unfold cd at h
 unfold nq
 cases zR:o.guard with
 | none=>simp only[zR] at h ⊢;exact run h
 | some gw =>
  obtain⟨g,w⟩:=gw
  simp only[zR] at h ⊢
  generalize s.T g=X at h ⊢
  cases X with
  | bool b =>
   simp only at h ⊢
   cases hb:(b==w) with
   | true=>rw[hb] at h;simp only[cond_true] at h ⊢;exact run h
   | false=>rw[hb] at h;simp only[an8,an2] at h ⊢;exact⟨_,_,rfl,h.symm⟩
  | tuple vs=>cases vs with
   | nil=>simp only[an2] at h ⊢;exact⟨_,_,rfl,h.symm⟩
   | cons v vs=>cases h
  | _=>cases h
end
section
variable {P:Program}{G:Nat->List AV}{base nt:Nat}{L:List Nat}{gh:Gh}{w w' : World}{a:Act}{s:AS}{H:ah}
theorem Fh{cf:dq}(jH:fc P G cf){H0:ah}{iV:Gh}{w0:World}{ct locals muts:List Nat}{ops:Array Oper}(wY:∀ x,x∈locals->x∈L)(xq:∀ x,x∈muts->x∈L)(Q:Exit->Act->World->Prop)
  {is:List aM} {mode pc:Bool} {M:List Nat} {es:List rC} (hI:Inv G base nt L H0 iV w0 s gh w a) (hc:gl P ct locals muts nt ops ops.toList=some is) (hes:oD mode pc is M is=some es) (tg:rp ops.toList es=true)
  {s' : AS} (he:fA G cf false (inter mode pc is M is) s=some s')
  (hQ:∀ a' aV w',Inv G base nt L H0 iV w0 s' aV w' a'->Q .normal a' w'):wpAny P .any ops Q ops.size (Array.replicate ops.size false) a w:=by
 obtain⟨S,h0,hn,hS⟩:=CG is s s' he
 obtain⟨hlen,F6⟩:=je hc
 obtain⟨aj1,aeE⟩:=yl hes
 have gO:ops.size=is.length:=by simpa using hlen
 let E:Nat->rC:=fun i=>es.getD i default
 simp only[rp,aod,aof] at tg
 obtain⟨hb0,tg⟩:=tg
 have ur:∀ (i:Nat) (o:Oper),ops.toList[i]?=some o->∀ e,e∈o.after.toList->Region.binds .any e=true->e.on<i:=by
  intro i o hi e he hb
  have:=hb0 (o,i) (by rw[aqj];exact⟨i,by rw[aqo,hi];simp⟩)
  rw[aqF] at this
  have:=this e (by simpa using he)
  simpa [hb,aoO] using this
 have Yu:∀ i j,j<i->i<is.length->conflict (E i) (E j)=true->j∈(pX ops.toList).getD i []:=by
  intro i j pV hi jH
  have gi:es[i]?=some (E i):=by
   have:i<es.length:=by omega
   simp[E,this]
  have gj:es[j]?=some (E j):=by
   have:j<es.length:=by omega
   simp[E,this]
  have:=tg (E i,i) (by rw[aqj];exact⟨i,by rw[aqo,gi];simp⟩) (E j,j) (by rw[aqj];exact⟨j,by rw[aqo,gj];simp⟩)
  simp only[jH,show Nat.blt j i=true by simpa [aoO] using pV,aom,aon,aow] at this
  simpa using this
 have uz:∀ i,i<is.length->∃ io,is[i]?=some io:=fun i hi=>⟨_,an' hi⟩
 have NY:∀ (e:rC) (q:AS),Zf e q q:=fun e q=>⟨fun _ _=>rfl,fun _=>⟨rfl,rfl⟩,fun _=>rfl⟩
 have hK:NP S E is.length:=by
  have mv:∀ j,j<is.length->fR (E j) (S (j+1)) (S j) (S (j+1)):=by
   intro j hj
   obtain⟨io,hi⟩:=uz j hj
   obtain⟨x1,h1,h2,_⟩:=y5 (aeE j io hi) (hS j io hi).1 (hS j io hi).2 (NY _ (S j))
   rw[Dl (hS j io hi).2] at h1
   injection h1 with h1
   rw[<- h1] at h2
   exact h2
  refine⟨fun t j hj hw=>(mv j hj).T' t hw,fun j hj hw=>?_,fun j hj hw=>(mv j hj).G' (by simpa using hw)⟩
  have:=(mv j hj).H' (by simpa using hw)
  simp only[this]
 have fin:∀ (listed:Array Bool) (x:AS),listed.size=ops.size->(∀ i,i<ops.size->listed.getD i false=true)->sP S E (fun i=>listed.getD i false=true) x->x=s':=by
  intro listed x hls dA hB
  rw[<- hn]
  refine Io hK hB (fun i=>⟨fun h=>?_,fun h=>dA i (by omega)⟩)
  have bf:i<listed.size:=by
   rcases apL i listed.size with h'|h'
   ·exact h'
   ·simp[apF h'] at h
  omega
 have main:∀ (n:Nat) (listed:Array Bool) (x:AS) (gh:Gh) (w:World) (a:Act),listed.size=ops.size->(∀ l:List Nat,l.Nodup->(∀ i,i∈l->i<ops.size/\listed.getD i true=false)->l.length<=n) ->
   (∀ j o,ops[j]?=some o->listed.getD j false=true->∀ e,e∈o.after->Region.binds .any e=true->listed.getD e.on false=true) ->
   sP S E (fun i=>listed.getD i false=true) x->Inv G base nt L H0 iV w0 x gh w a->wpAny P .any ops Q n listed a w:=by
  intro n
  induction n with
  | zero =>
   intro listed x gh w a hls Jj pU hB hI
   have dA:∀ i,i<ops.size->listed.getD i false=true:=by
    intro i hi
    cases hb:listed.getD i true with
    | true =>
     have:i<listed.size:=by omega
     simpa [this] using hb
    | false =>
     have:=Jj [i] (by simp) (fun j hj=>by simp at hj;subst hj;exact⟨hi,hb⟩)
     simp at this
   have tn:Region.ready .any ops listed=[]:=by
    cases hr:Region.ready .any ops listed with
    | nil=>rfl
    | cons i r =>
     have hm:i∈Region.ready .any ops listed:=by rw[hr];exact aoF
     obtain⟨h1,o,h2,_⟩:=mem_ready.1 hm
     have bf:=(aoi.1 h2).1
     have:=dA i bf
     have oa:i<listed.size:=by omega
     simp[oa] at this h1
     rw[this] at h1
     cases h1
   refine⟨tn,?_⟩
   rw[fin listed x hls dA hB] at hI
   exact hQ a gh w hI
  | succ n ih =>
   intro listed x gh w a hls Jj pU hB hI
   refine⟨fun tn=>?_,fun i hi=>?_⟩
   ·have dA:∀ i,i<ops.size->listed.getD i false=true:=by
     intro i
     induction i using Nat.strongRecOn with
     | _ i HY =>
      intro bf
      have oa:i<listed.size:=by omega
      cases hb:listed.getD i true with
      | true=>simpa [oa] using hb
      | false =>
       exfalso
       have ho:=aop bf
       have:i∈Region.ready .any ops listed:=mem_ready.2 ⟨hb,_,ho,fun e he o7=>by
        have Pk:=ur i _ (by rw[aoX];exact ho) e (by simpa using he) o7
        exact HY e.on Pk (by omega)⟩
       rw[tn] at this
       cases this
    rw[fin listed x hls dA hB] at hI
    exact hQ a gh w hI
   ·obtain⟨ja,o,ho,yC⟩:=mem_ready.1 hi
    have bf:=(aoi.1 ho).1
    have oa:i<listed.size:=by omega
    obtain⟨io,uz,bL⟩:=F6 i o (by simpa using ho)
    have Mw:¬ (listed.getD i false=true):=by
     simp[oa] at ja ⊢
     exact ja
    have F5:∀ (j:Nat) (o:Oper),ops.toList[j]?=some o->listed.getD j false=true->∀ e,e∈o.after.toList->Region.binds .any e=true->listed.getD e.on false=true :=
     fun j o ho h e he hb=>pU j o (by simpa using ho) h e (by simpa using he) hb
    have ready:=Hh (X:=fun i=>listed.getD i false=true) ur F5 (k:=i) (o:=o) (by simpa using ho) (fun e he hb=>yC e (by simpa using he) hb)
    have later:∀ j,i<j->conflict (E j) (E i)=true->¬ (listed.getD j false=true):=by
     intro j xu hcj hj
     have hjs:j<is.length:=by
      rcases apL j listed.size with h'|h'
      ·omega
      ·simp[apF h'] at hj
     exact Mw (uV (X:=fun i=>listed.getD i false=true) ur F5 j hj i (Yu j i xu hjs hcj))
    have hA:Zf (E i) (S i) x:=Im hK (by omega) hB Mw (fun j hj hcj=>ready j (Yu i j hj (by omega) hcj)) later
    obtain⟨x1,uE,hM,_⟩:=y5 (aeE i io uz) (hS i io uz).1 (hS i io uz).2 hA
    obtain⟨z,s2,bH,rfl⟩:=FD uE
    unfold wpOp
    rw[ho]
    refine ph jH hI bL wY xq bH _ Q (fun a' aV w' kW=>?_)
    rw[<- (jS bL).2.2.1] at kW
    have uC:∀ j,(listed.setIfInBounds i true).getD j false=true↔(listed.getD j false=true\/j=i):=by
     intro j
     by_cases pV:i=j
     ·subst pV
      simp[oa]
     ·rw[getD_set_ne false pV]
      simp[apX pV]
    have hB':=DW hB Mw later hM
    refine ih (listed.setIfInBounds i true) _ aV w' a' (by simpa using hls) (fun l KS hl=>?_) (fun j o' rP hj e he o7=>?_) ?_ kW
    ·have Ud:i∉l:=by
      intro hm
      have:=(hl i hm).2
      simp[oa] at this
     have:=Jj (i :: l) (List.nodup_cons.2 ⟨Ud,KS⟩) (fun j hj=>by
      rcases aoN.1 hj with rfl|hj
      ·exact⟨bf,ja⟩
      ·have h1:=hl j hj
       have pV:i≠j:=by rintro rfl;exact Ud hj
       rw[getD_set_ne true pV] at h1
       exact h1)
     simp at this
     omega
    ·rcases (uC j).1 hj with h|rfl
     ·exact (uC _).2 (.inl (pU j o' rP h e he o7))
     ·rw[ho] at rP
      injection rP with rP
      subst rP
      exact (uC _).2 (.inl (yC e he o7))
    ·have aav:∀ j,(listed.getD j false=true\/j=i)↔(listed.setIfInBounds i true).getD j false=true:=fun j=>(uC j).symm
     exact⟨fun t=>sS aav (hB'.T t),sS aav hB'.H,sS aav hB'.G⟩
 refine main ops.size _ s gh w a (by simp) (fun l KS hl=>?_) (fun j o hj h=>?_) ?_ hI
 ·exact vR ops.size l KS (fun i hi=>(hl i hi).1)
 ·exfalso
  have:(Array.replicate ops.size false).getD j false=false:=by
   by_cases h:j<ops.size<;>simp[h]
  rw[this] at h
  cases h
 ·have lY:∀ i,¬ ((Array.replicate ops.size false).getD i false=true):=by
   intro i h
   have:(Array.replicate ops.size false).getD i false=false:=by
    by_cases h:i<ops.size<;>simp[h]
   rw[this] at h
   cases h
  rw[<- h0]
  exact DV lY
end
theorem yd{draw:Bool}{L:List Nat}{ops:List Oper}{is:List aM}{c:aY}(h:cond draw (x9 L ops is) none=some c) :
  draw=true/\∃ mode pc es,oD mode pc is L is=some es/\rp ops es=true/\c=.region false (inter mode pc is L is):=by
 cases draw with
 | false=>cases h
 | true =>
  refine⟨rfl,?_⟩
  simp only[cond_true,x9] at h
  obtain⟨_,h⟩:=ae h
  have one:∀ mode pc,Su mode pc L ops is=some c->∃ mode pc es,oD mode pc is L is=some es/\rp ops es=true/\c=.region false (inter mode pc is L is):=by
   intro mode pc h
   simp only[Su,an1] at h
   obtain⟨es,h1,h⟩:=h
   obtain⟨h2,h⟩:=ae h
   injection h with h
   exact⟨mode,pc,es,h1,h2,h.symm⟩
  split at h
  ·rename_i c' hc;injection h with h;subst h;exact one _ _ hc
  ·split at h
   ·rename_i c' hc
    injection h with h
    subst h
    cases hc7:L.elem 999997 with
    | true=>rw[hc7] at hc;cases hc
    | false=>rw[hc7] at hc;exact one _ _ hc
   ·cases hb:L.elem 999999 with
    | true=>rw[hb] at h;cases h
    | false=>rw[hb] at h;exact one _ _ h
end
end Go.Abs
