/-
  A part of the proof of PrintScans: AbsRun, AbsDraw, AbsDraw2, AbsDraw3, AbsDraw4, AbsDraw5, AbsDraw6.
-/
import Derived.LoopN
import Derived.Scope
import Derived.Tactics
import Derived.Orders
import Derived.Test.YtocbgffdpfiidaaGreatDoorP04
set_option linter.unusedSimpArgs false
set_option linter.unusedVariables false
set_option linter.defProp false
namespace Go.Abs
section
structure dG (H0:ag) (s:AS):Prop where
 lo:s.lo<=H0.length
 len:H0.length<=s.H.length
 same:∀ l,l<s.lo->s.H[l]?=H0[l]?
def uk(s:AS)(c:fD):Prop:=s.H.length<=c.heap.length/\∀ l,l<c.lo->c.heap[l]?=s.H[l]?
theorem dG.fa{H0:ag}{s:AS}(h:dG H0 s){c:fD}(hc:uk s c):dG H0 (s.fa c):=by
 have e:(s.fa c).lo=if c.lo<s.lo then c.lo else s.lo:=by
  simp only[AS.fa]
  by_cases hb:c.lo<s.lo
  ·rw[if_pos hb,show Nat.blt c.lo s.lo=true by simpa [aih] using hb];rfl
  ·rw[if_neg hb,show Nat.blt c.lo s.lo=false by simpa [<- ajS,aih] using hb];rfl
 have:=h.lo
 refine⟨?_,ait h.len hc.1,fun l hl=>?_⟩
 ·rw[e];split<;>omega
 ·rw[e] at hl
  have h1:l<c.lo/\l<s.lo:=by split at hl<;>omega
  exact (hc.2 l h1.1).trans (h.same l h1.2)
theorem dG.dK{H0:ag}{s s' : AS}(h:dG H0 s)(hH:s'.H=s.H)(hl:s'.lo=s.lo):dG H0 s' :=
 ⟨by rw[hl];exact h.lo,by rw[hH];exact h.len,fun l zM=>by rw[hH];exact h.same l (by rw[<- hl];exact zM)⟩
theorem lI(s:AS)(loc:Nat)(o:dm):uk s ⟨s.H.set loc o,loc⟩:=⟨by simp,fun l hl=>by simp only at hl ⊢;rw[ajU (by omega)]⟩
theorem IU(s:AS)(loc:Nat)(hl:loc<s.H.length)(o:dm):uk s ⟨s.H.set loc .dead++[o],loc⟩:=⟨by simp,fun l zM=>by
 simp only at zM ⊢
 rw[ah6 (by simp;omega),ajU (by omega)]⟩
theorem jn(s:AS)(o:dm):uk s ⟨s.H++[o],s.H.length⟩:=⟨by simp,fun l hl=>by simp only at hl ⊢;rw[ah6 hl]⟩
theorem G7{G:Nat->List AV}{cf:cz}(ij:∀ f args H r c,cf f args H=some (r,c)->j8 H c){H0:ag}{s s' : AS}{o:dR}{z:AV}(he:ai G cf s o=some (z,some s'))(h:dG H0 s):dG H0 s':=by
 have sT:∀ t X,dG H0 (s.br t X):=fun t X=>h.dK rfl rfl
 cases o with
 | mov take obj x =>
  cases x<;>simp only[ai,kN] at he<;>try (cases he;done)
  split at he
  ·cases he
  ·cases take
   ·cases he
   ·cases obj
    ·simp only[cond_true,ahW] at he
     obtain⟨_,he⟩:=ab he
     simp only[ahM,ahN] at he
     rw[<- he.2];exact sT _ _
    ·simp only[cond_true,ahM,ahN] at he
     rw[<- he.2];exact h.dK rfl rfl
  ·simp only[ahM,ahN] at he
   obtain⟨_,he⟩:=he
   obtain⟨_,he⟩:=ab he
   injection he with he
   rw[<- he];exact sT _ _
  ·cases he
  ·cases he
 | Ds c x=>simp only[ai] at he;obtain⟨_,he⟩:=ab he;simp at he
 | boxL x =>
  simp only[ai,ahK,ahN,ahM] at he
  obtain⟨cs,_,_,rfl⟩:=he
  exact h.dK rfl rfl
 | allocL z0 =>
  simp only[ai,ahM,ahN] at he
  rw[<- he.2];exact h.dK rfl rfl
 | pW ty z0 =>
  simp only[ai,ahM,ahN] at he
  rw[<- he.2];exact h.fa (jn s _)
 | box ty x =>
  simp only[ai,ahL] at he
  obtain⟨cs,_,he⟩:=he
  obtain⟨_,he⟩:=ab he
  simp only[ahM,ahN] at he
  rw[<- he.2];exact h.fa (jn s _)
 | H8 x =>
  simp only[ai,ahL] at he
  obtain⟨cs,_,he⟩:=he
  obtain⟨_,he⟩:=ab he
  simp only[ahM,ahN] at he
  rw[<- he.2];exact h.fa (jn s _)
 | copyO x y =>
  simp only[ai,kS] at he
  split at he
  ·split at he
   ·obtain⟨_,he⟩:=ab he
    simp only[ahM,ahN] at he
    rw[<- he.2];exact h.fa (lI s _ _)
   ·cases he
  ·simp at he
  ·cases he
 | nilS=>simp[ai] at he
 | load take agg sz x =>
  simp only[ai,cO] at he
  split at he
  ·simp at he
  ·split at he
   ·simp only[ahK,ahN] at he
    obtain⟨u,_,_,he⟩:=he
    obtain⟨_,he⟩:=ab he
    injection he with he
    rw[<- he];exact h.fa (lI s _ _)
   ·simp at he
   ·simp at he
   ·cases he
  ·split at he
   ·obtain⟨_,he⟩:=ab he
    simp only[ahK,ahN] at he
    obtain⟨u,_,_,he⟩:=he
    obtain⟨_,he⟩:=ab he
    injection he with he
    rw[<- he];exact sT _ _
   ·cases he
  ·split at he
   ·obtain⟨_,he⟩:=ab he
    simp only[ahL] at he
    obtain⟨r,_,he⟩:=he
    obtain⟨_,he⟩:=ab he
    simp at he
   ·cases he
  ·cases he
 | store sz x y =>
  simp only[ai,ahK,ahN,ahM] at he
  obtain⟨s1,he,_,rfl⟩:=he
  have h1:dG H0 s1:=by
   unfold a8 at he
   split at he
   ·cases he
   obtain⟨_,he⟩:=ab he
   split at he
   ·split at he
    ·obtain⟨_,he⟩:=ab he
     injection he with he
     rw[<- he];exact h.fa (lI s _ _)
    ·obtain⟨_,he⟩:=ab he
     injection he with he
     rw[<- he];exact h.fa (lI s _ _)
    ·cases he
   ·split at he
    ·obtain⟨_,he⟩:=ab he
     injection he with he
     rw[<- he];exact sT _ _
    ·cases he
   ·split at he
    ·obtain⟨_,he⟩:=ab he
     simp only[ahL] at he
     obtain⟨r,_,he⟩:=he
     obtain⟨_,he⟩:=ab he
     injection he with he
     rw[<- he];exact sT _ _
    ·cases he
   ·cases he
  exact h1.dK (fM _ _).1 (fM _ _).2.2
 | append isB wr sz bytes x y =>
  simp only[ai,dX] at he
  split at he
  ·split at he
   ·simp only[ahL] at he
    obtain⟨f,_,he⟩:=he
    obtain⟨_,he⟩:=ab he
    simp only[ahM,ahN] at he
    rw[<- he.2];exact h.dK rfl rfl
   ·cases wr
    ·simp only[ahW,ahK,ahN,ahM] at he
     obtain⟨_,_,_,rfl⟩:=he
     exact sT _ _
    ·simp only[cond_true,ahL] at he
     obtain⟨f,_,he⟩:=he
     obtain⟨_,he⟩:=ab he
     simp only[ahM,ahN] at he
     rw[<- he.2];exact h.dK rfl rfl
   ·cases wr
    ·simp only[ahW,ahK,ahN,ahM] at he
     obtain⟨_,_,_,rfl⟩:=he
     exact h
    ·simp only[cond_true,ahL] at he
     obtain⟨f,_,he⟩:=he
     obtain⟨_,he⟩:=ab he
     simp only[ahM,ahN] at he
     rw[<- he.2];exact h.dK rfl rfl
   ·cases he
  ·cases wr
   ·simp at he
   ·cases he
 | call f args =>
  simp only[ai] at he
  split at he
  ·obtain⟨_,he⟩:=ab he
   simp only[ahK,ahN] at he
   obtain⟨⟨r,c⟩,hr,_,he⟩:=he
   simp only[ahK] at he
   obtain⟨c',rfl,rfl⟩:=he
   obtain⟨h1,h2⟩:=ij _ _ _ _ _ hr
   exact h.fa ⟨by simp only[lP] at h1;omega,(h2 c' rfl).2⟩
  ·cases he
 | xF f pre x post =>
  simp only[ai] at he
  obtain⟨_,he⟩:=ab he
  simp only[ahL,ahK,ahN,ahM] at he
  obtain⟨⟨xv,s1⟩,hx,⟨r,c⟩,hr,_,rfl⟩:=he
  have h1:dG H0 s1/\s1.H=s.H:=by
   unfold T9 at hx
   split at hx
   ·split at hx
    ·simp only[ahM,ahN] at hx
     obtain⟨_,rfl⟩:=hx
     exact⟨sT _ _,rfl⟩
    ·cases hx
   ·split at hx
    ·simp only[ahM,ahN] at hx
     obtain⟨_,rfl⟩:=hx
     exact⟨h,rfl⟩
    ·cases hx
   ·cases hx
  obtain⟨k1,k2⟩:=ij _ _ _ _ _ hr
  cases c with
  | none=>exact h1.1
  | some c' =>
   refine h1.1.fa ⟨?_,?_⟩
   ·have:=h1.1.len;simp only[lP] at k1;rw[h1.2];omega
   ·rw[h1.2];exact (k2 c' rfl).2
 | pick=>simp only[ai] at he;split at he<;>simp at he
 | build=>simp[ai] at he
 | mkslice =>
  simp only[ai,ahL] at he
  obtain⟨_,_,he⟩:=he
  obtain⟨_,he⟩:=ab he
  simp at he
 | nilCheck=>simp only[ai] at he;obtain⟨_,he⟩:=ab he;simp at he
 | bin=>simp[ai] at he
 | un=>simp[ai] at he
 | mm=>simp[ai] at he
 | conv=>simp[ai] at he
 | uz=>simp[ai] at he
 | slice=>simp[ai] at he
 | fieldAddr=>simp only[ai] at he;obtain⟨_,he⟩:=ab he;simp at he
 | field=>simp only[ai] at he;split at he<;>simp at he
 | ixSl =>
  simp only[ai] at he
  split at he
  ·simp only[ahL] at he
   obtain⟨_,_,_,_,he⟩:=he
   obtain⟨_,he⟩:=ab he
   simp at he
  ·simp only[ahL] at he
   obtain⟨_,_,he⟩:=he
   obtain⟨_,he⟩:=ab he
   simp at he
  ·split at he
   ·obtain⟨_,he⟩:=ab he
    simp only[ahL] at he
    obtain⟨_,_,_,_,he⟩:=he
    obtain⟨_,he⟩:=ab he
    simp at he
   ·cases he
  ·cases he
 | ixArr =>
  simp only[ai,ahL] at he
  obtain⟨_,_,he⟩:=he
  obtain⟨_,he⟩:=ab he
  simp at he
 | index =>
  simp only[ai,ahL] at he
  obtain⟨_,_,he⟩:=he
  obtain⟨_,he⟩:=ab he
  split at he<;>simp at he
 | indexStr =>
  simp only[ai] at he
  split at he
  ·simp only[ahL,ahK,ahN] at he
   obtain⟨_,_,_,_,_,he⟩:=he
   cases he
  ·cases he
 | extract=>simp only[ai] at he;split at he<;>simp at he
 | len =>
  simp only[ai] at he
  split at he
  ·split at he
   ·obtain⟨_,he⟩:=ab he
    simp at he
   ·cases he
  ·simp at he
 | mkfunc=>simp only[ai] at he;obtain⟨_,he⟩:=ab he;simp at he
 | iL f xs =>
  simp only[ai] at he
  split at he
  ·obtain⟨_,he⟩:=ab he
   simp only[ahL] at he
   obtain⟨r,_,he⟩:=he
   split at he<;>simp at he
  ·cases he
 | appendO sz bytes x y =>
  simp only[ai,jl] at he
  split at he
  ·simp at he
  simp only[ja,ahL] at he
  obtain⟨f,_,he⟩:=he
  split at he
  ·obtain⟨_,he⟩:=ab he
   simp only[ahM,ahN] at he
   rw[<- he.2];exact h.fa (jn s _)
  ·obtain⟨_,he⟩:=ab he
   simp only[ahM,ahN] at he
   rw[<- he.2];exact h.fa (jn s _)
  ·split at he
   ·rename_i hH
    obtain⟨_,he⟩:=ab he
    simp only[ahM,ahN] at he
    rw[<- he.2];exact h.fa (IU s _ (ahO.1 hH).1 _)
   ·cases he
  ·cases he
 | lO sz zs ps =>
  simp only[ai,ahL] at he
  obtain⟨f,_,he⟩:=he
  obtain⟨_,he⟩:=ab he
  simp only[ahM,ahN] at he
  rw[<- he.2];exact h.fa (jn s _)
 | tI sz bytes zero n =>
  simp only[ai,o8,ahL] at he
  obtain⟨f,_,he⟩:=he
  obtain⟨_,he⟩:=ab he
  simp only[ahM,ahN] at he
  rw[<- he.2];exact h.fa (jn s _)
 | yo kz ka va =>
  simp only[ai,ahM,ahN] at he
  rw[<- he.2];exact h.fa (jn s _)
 | look ok kz ka va ks zero m k =>
  simp only[ai,sB,ahL] at he
  obtain⟨_,_,he⟩:=he
  obtain⟨_,he⟩:=ab he
  split at he
  ·simp at he
  ·obtain⟨_,he⟩:=ab he
   simp at he
  ·simp only[ahL,ahK,ahN,reduceCtorEq,akd,akh] at he
 | Hx kz ka ks zero m k =>
  simp only[ai,zx] at he
  split at he
  ·split at he
   ·simp only[ahL] at he
    obtain⟨_,_,he⟩:=he
    obtain⟨_,he⟩:=ab he
    simp only[ahL] at he
    obtain⟨o,_,he⟩:=he
    cases o with
    | none=>simp at he
    | some i =>
     simp only[ahK,ahN,ahM] at he
     obtain⟨_,_,_,he⟩:=he
     rw[<- he];exact h.fa (lI s _ _)
   ·cases he
  ·cases he
 | Jp kz ka va vz ks m k v =>
  simp only[ai,ahK,ahN,ahM] at he
  obtain⟨s1,he,_,rfl⟩:=he
  have h1:dG H0 s1:=by
   unfold sC at he
   split at he
   ·split at he
    ·simp only[ahL] at he
     obtain⟨_,_,_,_,he⟩:=he
     obtain⟨_,he⟩:=ab he
     simp only[ahK] at he
     obtain⟨_,_,he⟩:=he
     rw[<- he];exact h.fa (lI s _ _)
    ·cases he
   ·cases he
  exact h1.dK (fM _ _).1 (fM _ _).2.2
 | Sq m =>
  simp only[ai] at he
  split at he
  ·simp at he
  ·simp at he
  ·split at he
   ·simp at he
   ·simp at he
   ·cases he
  ·cases he
 | Y9 kz ka va m =>
  simp only[ai] at he
  split at he
  ·simp only[ahM,ahN] at he
   rw[<- he.2];exact h.dK rfl rfl
  ·obtain⟨_,he⟩:=ab he
   simp only[ahM,ahN] at he
   rw[<- he.2];exact h.dK rfl rfl
  ·obtain⟨_,he⟩:=ab he
   simp only[ahM,ahN] at he
   rw[<- he.2];exact h.dK rfl rfl
  ·split at he
   ·obtain⟨_,he⟩:=ab he
    simp only[ahM,ahN] at he
    rw[<- he.2]
    exact (h.fa (lI s _ _)).dK rfl rfl
   ·cases he
  ·cases he
 | next it=>simp[ai] at he
 | YQ it =>
  simp only[ai] at he
  split at he
  ·split at he
   ·obtain⟨_,he⟩:=ab he
    simp at he
   ·cases he
  ·cases he
section
variable {P:Program}{G:Nat->List AV}{base nt:Nat}{L:List Nat}{gh:Gh}{w w' : World}{a:Act}{s:AS}{H:ag}
structure Inv (G:Nat->List AV) (base nt:Nat) (L:List Nat) (H0:ag) (gr:Gh) (w0:World) (s:AS) (gh:Gh) (w:World) (a:Act):Prop where
 W:aF G base s.H gh w
 F:FR L nt gh w a s
 E:Ext H0.length gr w0 gh w
 lo:dG H0 s
theorem Inv.out{H0:ag}{gr aD:Gh}{w0 w' : World}{d:Option Nat}{x:AV}{s' : AS}{v' : Value}(h:Inv G base nt L H0 gr w0 s gh w a)(hO:Out G base nt L gh w a s d x s' v' aD w')(hl:dG H0 s') :
  Inv G base nt L H0 gr w0 (s'.b9 d x) aD w' (a.put d v') :=
 ⟨by rw[(gN s' d x).1];exact hO.W,hO.F,h.E.trans hO.E h.lo.len,hl.dK (gN s' d x).1 (gN s' d x).2.2⟩
def lD(G:Nat->List AV)(cf:cz)(draw:Bool)(s:AS)(o:az):Option (AV × AS) :=
 let run:Option (AV × AS):=(ai G cf s o.op).bind fun r=>match r.2 with
  | none=>cond (draw&&(aQ r.1).isSome) none (some (r.1,s))
  | some s'=>cond draw none (some (r.1,s'))
 match o.guard with
 | none=>run
 | some (g,want)=>match s.T g with
  | .bool b=>cond (b==want) run (some (.undef,s))
  | .tuple []=>some (.undef,s)
  | _=>none
theorem lC{G:Nat->List AV}{cf:cz}{draw:Bool}{s:AS}{o:az} : bO G cf draw s o=(lD G cf draw s o).map fun r=>r.2.b9 o.dst r.1:=by
 have cg:((ai G cf s o.op).bind fun r=>match r.2 with
   | none=>cond (draw&&(aQ r.1).isSome) none (some (s.b9 o.dst r.1))
   | some s'=>cond draw none (some (s'.b9 o.dst r.1))) =
  ((ai G cf s o.op).bind fun r=>match r.2 with
   | none=>cond (draw&&(aQ r.1).isSome) none (some (r.1,s))
   | some s'=>cond draw none (some (r.1,s'))).map fun r=>r.2.b9 o.dst r.1:=by
  cases ai G cf s o.op with
  | none=>rfl
  | some r =>
   obtain⟨z,s'⟩:=r
   cases s' with
   | none=>simp only[ahV];cases (draw&&(aQ z).isSome)<;>rfl
   | some s'=>cases draw<;>rfl
 unfold bO lD
 simp only
 cases o.guard with
 | none=>exact cg
 | some g =>
  obtain⟨g,want⟩:=g
  simp only
  generalize s.T g=X
  cases X with
  | bool b =>
   simp only
   cases (b==want)
   ·rfl
   ·exact cg
  | tuple vs=>cases vs<;>rfl
  | _=>rfl
theorem iG{bR locals muts:List Nat}{ops:Array Oper}{o:Oper}{io:az}(h:ox P bR locals muts nt ops o=some io) :
  cn P bR locals muts nt o.dst o.op=some io.op/\mQ nt ops o.guard=some io.guard/\io.dst=o.dst/\∀ k,o.dst=some k->k<nt:=by
 simp only[ox,ahL] at h
 obtain⟨p,hp,g,hg,h⟩:=h
 split at h
 ·rename_i hd
  injection h with h
  subst h
  exact⟨hp,hg,hd.symm,fun k hk=>by rw[hd] at hk;cases hk⟩
 ·rename_i d hd
  obtain⟨h0,h⟩:=ab h
  injection h with h
  subst h
  exact⟨hp,hg,hd.symm,fun k hk=>by rw[hd] at hk;injection hk with hk;subst hk;simpa [aih] using h0⟩
theorem mX{cf:cz}(ij:dn P G cf){H0:ag}{gr:Gh}{w0:World}(hI:Inv G base nt L H0 gr w0 s gh w a){bR locals muts:List Nat}{ops:Array Oper}{o:Oper}{io:az}
  (hc:ox P bR locals muts nt ops o=some io) (vp:∀ x,x∈locals->x∈L) (uu:∀ x,x∈muts->x∈L) {draw:Bool} {z:AV} {s1:AS} (he:lD G cf draw s io=some (z,s1)) (K:Act->World->Prop) (Q:Exit->Act->World->Prop)
  (hK:∀ a' aD w',Inv G base nt L H0 gr w0 (s1.b9 o.dst z) aD w' a'->K a' w') :
  if Region.wanted o (yielded ops a.tmps) then o.wp P a w K Q\/(o.asks P a w/\LetsOut Q) else K (a.put o.dst undef) w:=by
 obtain⟨cE,hg,afM,hd⟩:=iG hc
 have Ux:s1=s->z=.undef->K (a.put o.dst undef) w:=by
  rintro rfl rfl
  exact hK _ gh w (hI.out (Out.pure hI.W hI.F hd (.cB .undef)) hI.lo)
 have cg:((ai G cf s io.op).bind fun r=>match r.2 with
   | none=>cond (draw&&(aQ r.1).isSome) none (some (r.1,s))
   | some s'=>cond draw none (some (r.1,s')))=some (z,s1)->o.wp P a w K Q:=by
  intro h
  simp only[ahL] at h
  obtain⟨⟨z',s'⟩,bb,h⟩:=h
  cases s' with
  | none =>
   simp only at h
   have h' : z'=z/\s=s1:=by
    cases hb:(draw&&(aQ z').isSome) with
    | true=>rw[hb] at h;cases h
    | false=>rw[hb] at h;simpa using h
   obtain⟨rfl,rfl⟩:=h'
   exact u9 ij hI.W hI.F cE vp uu bb hd K Q (fun v' aD w' hO=>hK _ aD w' (hI.out hO hI.lo))
  | some s' =>
   simp only at h
   have h' : z'=z/\s'=s1:=by
    cases draw with
    | true=>cases h
    | false=>simpa using h
   obtain⟨rfl,rfl⟩:=h'
   exact u9 ij hI.W hI.F cE vp uu bb hd K Q (fun v' aD w' hO=>hK _ aD w' (hI.out hO (G7 (fun f args H r c h=>(ij f args H r c h).2.1) bb hI.lo)))
 cases V8:o.guard with
 | none =>
  rw[V8] at hg
  simp only[mQ,ahM] at hg
  have hw:Region.wanted o (yielded ops a.tmps)=true:=by simp[Region.wanted,V8]
  rw[if_pos hw]
  unfold lD at he
  rw[<- hg] at he
  exact .inl (cg he)
 | some jw =>
  obtain⟨j,want⟩:=jw
  rw[V8] at hg
  simp only[mQ,ahL] at hg
  obtain⟨t,⟨oj,hoj,JX⟩,hg⟩:=hg
  obtain⟨aZ,hg⟩:=ab hg
  injection hg with hg
  have ht:t<nt:=by simpa [aih] using aZ
  have htm:a.tmps[t]?=some (dQ a t):=by
   have:t<a.tmps.size:=by rw[hI.F.size];exact ht
   simp[dQ,this]
  have hy:∀ v,dQ a t=v->yielded ops a.tmps j=match v with|.bool b=>some b|_=>none:=by
   intro v hv
   unfold yielded
   rw[hoj]
   simp only[ahV,JX,htm,hv]
   cases v<;>rfl
  have tC:=hI.F.slot t ht
  change SR gh s.H.length nt w s.T s.gen (dQ a) t (dQ a t) (s.T t) at tC
  unfold lD at he
  rw[<- hg] at he
  simp only at he
  split at he
  ·rename_i b hT
   rw[hT] at tC
   have hv:=VR.ik (CR.dropped (tC:CR gh s.H.length w (.sl t) (dQ a t) (.bool b)))
   have hw:Region.wanted o (yielded ops a.tmps)=(b==want):=by
    simp only[Region.wanted,V8,hy _ hv]
    cases b<;>cases want<;>rfl
   rw[hw]
   cases hb:(b==want) with
   | true =>
    rw[hb] at he
    rw[if_pos rfl]
    exact .inl (cg he)
   | false =>
    rw[hb] at he
    simp only[ahW,ahM,ahN] at he
    rw[if_neg (by simp)]
    exact Ux he.2.symm he.1.symm
  ·rename_i hT
   rw[hT] at tC
   have hv:=VR.Ja (CR.dropped (tC:CR gh s.H.length w (.sl t) (dQ a t) (.tuple [])))
   have hw:Region.wanted o (yielded ops a.tmps)=false:=by
    simp only[Region.wanted,V8,hy _ hv]
    rfl
   rw[hw,if_neg (by simp)]
   simp only[ahM,ahN] at he
   exact Ux he.2.symm he.1.symm
  ·cases he
theorem yw{cf:cz}(ij:dn P G cf){H0:ag}{gr:Gh}{w0:World}{bR locals muts:List Nat}{ops:Array Oper}(vp:∀ x,x∈locals->x∈L)(uu:∀ x,x∈muts->x∈L)(Q:Exit->Act->World->Prop) :
  ∀ (l:List Oper) (is:List az) (s s' : AS) (gh:Gh) (w:World) (a:Act),Inv G base nt L H0 gr w0 s gh w a->fe P bR locals muts nt ops l=some is->dU G cf false is s=some s' ->
   (∀ a' aD w',Inv G base nt L H0 gr w0 s' aD w' a'->Q .normal a' w')->wpList P ops Q l a w
 | [],is,s,s',gh,w,a,hI,hc,he,hQ=>by
  simp only[fe,ahM] at hc
  subst hc
  simp only[dU,ahM] at he
  subst he
  exact hQ a gh w hI
 | o :: l,is,s,s',gh,w,a,hI,hc,he,hQ=>by
  simp only[fe,ahL,ahK] at hc
  obtain⟨io,ri,Y8,Dv,rfl⟩:=hc
  simp only[dU,ahL,lC,ahK] at he
  obtain⟨s1,⟨⟨z,s2⟩,hz,rfl⟩,he⟩:=he
  unfold wpList
  refine mX ij hI ri vp uu hz _ Q (fun a' aD w' jM=>?_)
  rw[(iG ri).2.2.1] at he
  exact yw ij vp uu Q l Y8 _ s' aD w' a' jM Dv he hQ
end
end
section
structure od (s s' : AS) (ts:List Nat):Prop where
 H:s.H=s'.H
 T:∀ t,t∈ts->s.T t=s'.T t
 B:∀ b,s.T b=s'.T b\/aQ (s.T b)=none
section
variable {G:Nat->List AV}{cf:cz}{s s' : AS}{ts:List Nat}
theorem od.eval(h:od s s' ts){y:ak}(hy:∀ t,t∈y.tmps->t∈ts):y.eval G s'.T=y.eval G s.T:=by
 cases y<;>try rfl
 rename_i t
 exact (h.T t (hy t (by simp[ak.tmps]))).symm
theorem od.addr(h:od s s' ts){y:ak}(hy:∀ t,t∈y.tmps->t∈ts):y.addr G s'.T=y.addr G s.T:=by
 cases y<;>try rfl
 rename_i t
 simp only[ak.addr]
 rw[h.T t (hy t (by simp[ak.tmps]))]
theorem od.box(h:od s s' ts)(b:Nat){g:Nat}{cs:List AV}(hb:s.T b=.lbox g cs):s'.T b=.lbox g cs:=by
 rcases h.B b with h|h
 ·rw[<- h,hb]
 ·rw[hb] at h;cases h
theorem od.row(h:od s s' ts)(b:Nat){g:Nat}{e:List (List AV)}(hb:s.T b=.lsl g e):s'.T b=.lsl g e:=by
 rcases h.B b with h|h
 ·rw[<- h,hb]
 ·rw[hb] at h;cases h
theorem od.live(h:od s s' ts){A:AV}(hl:bM s A=true):bM s' A=true:=by
 cases A<;>simp only[bM] at hl ⊢<;>try (cases hl;done)
 ·split at hl
  ·rename_i hT;rw[h.box _ hT];exact hl
  ·cases hl
 ·split at hl
  ·rename_i hT;rw[h.row _ hT];exact hl
  ·cases hl
theorem od.load(h:od s s' ts){take agg:Bool}{sz:Nat}{A z:AV}(he:cO s take agg sz A=some (z,none)):cO s' take agg sz A=some (z,none):=by
 have key:∀ {X:Option AV} {x y:AS},X.map (fun v=>(v,cond (take&&!agg) (some x) none))=some (z,none)->X.map (fun v=>(v,cond (take&&!agg) (some y) none))=some (z,none):=by
  intro X x y hX
  cases X with
  | none=>cases hX
  | some v=>cases hb:(take&&!agg)<;>simp_all
 cases A<;>simp only[cO] at he ⊢<;>try (cases he;done)
 ·exact he
 ·rw[<- h.H]
  split at he
  ·exact key he
  ·exact he
  ·exact he
  ·cases he
 ·split at he
  ·rename_i hT
   rw[h.box _ hT]
   obtain⟨h0,he⟩:=ab he
   simp only[h0,cond_true]
   exact key he
  ·cases he
 ·split at he
  ·rename_i hT
   rw[h.row _ hT]
   exact he
  ·cases he
theorem od.mov(h:od s s' ts){take obj:Bool}{y:ak}{z:AV}(hy:∀ t,t∈y.tmps->t∈ts)(he:kN G s take obj y=some (z,none)):kN G s' take obj y=some (z,none):=by
 cases y with
 | tmp t =>
  have e:=h.T t (hy t (by simp[ak.tmps]))
  simp only[kN] at he ⊢
  rw[<- e]
  generalize s.T t=X at he ⊢
  cases X<;>try exact he
  ·rename_i el own
   cases take<;>cases own<;>simp_all
  ·cases take
   ·exact he
   ·cases obj
    ·simp only[cond_true,ahW] at he
     obtain⟨_,he⟩:=ab he
     simp at he
    ·simp at he
 | _=>exact he
theorem Fg(h:od s s' ts){op:dR}(ht:∀ t,t∈op.tmps->t∈ts){z:AV}(he:ai G cf s op=some (z,none)):ai G cf s' op=some (z,none):=by
 cases op with
 | mov take obj x=>exact h.mov ht he
 | pick c x y =>
  have h1:=h.eval (G:=G) (y:=c) (fun t hm=>ht t (by simp[dR.tmps,hm]))
  have h2:=h.addr (G:=G) (y:=x) (fun t hm=>ht t (by simp[dR.tmps,hm]))
  have h3:=h.addr (G:=G) (y:=y) (fun t hm=>ht t (by simp[dR.tmps,hm]))
  simp only[ai] at he ⊢
  rw[h1,h2,h3]
  exact he
 | Ds c x =>
  have h1:=h.addr (G:=G) (y:=x) (fun t hm=>ht t (by simp[dR.tmps,hm]))
  simp only[ai] at he ⊢
  rw[h1];exact he
 | boxL x=>simp[ai] at he
 | allocL z0=>simp[ai] at he
 | pW ty z0=>simp[ai] at he
 | box ty x =>
  simp only[ai,ahL] at he
  obtain⟨_,_,he⟩:=he
  obtain⟨_,he⟩:=ab he
  simp at he
 | build z0 ps =>
  have e1:(ps.map fun p=>(p.1,p.2.1,(p.2.2.eval G s'.T).drop))=ps.map fun p=>(p.1,p.2.1,(p.2.2.eval G s.T).drop) :=
   aib fun p hp=>by rw[h.eval (G:=G) (y:=p.2.2) (fun t hm=>ht t (by simp only[dR.tmps,aiR];exact⟨p,hp,hm⟩))]
  simp only[ai] at he ⊢
  rw[e1];exact he
 | mkslice isB sz zs ps =>
  have e1:(ps.map fun p=>(p.1,(p.2.eval G s'.T).drop))=ps.map fun p=>(p.1,(p.2.eval G s.T).drop) :=
   aib fun p hp=>by rw[h.eval (G:=G) (y:=p.2) (fun t hm=>ht t (by simp only[dR.tmps,aiR];exact⟨p,hp,hm⟩))]
  simp only[ai] at he ⊢
  rw[e1];exact he
 | load take agg sz x =>
  simp only[ai] at he ⊢
  rw[h.addr (G:=G) (y:=x) ht]
  exact h.load he
 | store sz x y =>
  simp only[ai,ahK,ahN] at he
  obtain⟨_,_,_,he⟩:=he
  cases he
 | nilCheck x =>
  simp only[ai] at he ⊢
  rw[h.addr (G:=G) (y:=x) ht]
  obtain⟨h0,he⟩:=ab he
  rw[h.live h0];exact he
 | bin op q x y =>
  simp only[ai] at he ⊢
  rw[h.eval (G:=G) (y:=x) (fun t hm=>ht t (by simp[dR.tmps,hm])),h.eval (G:=G) (y:=y) (fun t hm=>ht t (by simp[dR.tmps,hm]))]
  exact he
 | un op x=>simp only[ai] at he ⊢;rw[h.eval (G:=G) (y:=x) ht];exact he
 | mm mx x y =>
  simp only[ai] at he ⊢
  rw[h.eval (G:=G) (y:=x) (fun t hm=>ht t (by simp[dR.tmps,hm])),h.eval (G:=G) (y:=y) (fun t hm=>ht t (by simp[dR.tmps,hm]))]
  exact he
 | conv c x=>simp only[ai] at he ⊢;rw[h.eval (G:=G) (y:=x) ht];exact he
 | uz t x=>simp only[ai] at he ⊢;rw[h.eval (G:=G) (y:=x) ht];exact he
 | slice k x lo hi mx =>
  have opt:∀ o:Option ak,(∀ t,t∈o.toList.flatMap ak.tmps->t∈ts)->o.map (·.eval G s'.T)=o.map (·.eval G s.T):=by
   intro o ho
   cases o with
   | none=>rfl
   | some y=>simp only[ah0];rw[h.eval (G:=G) (y:=y) (fun t hm=>ho t (by simp[hm]))]
  simp only[ai] at he ⊢
  rw[h.eval (G:=G) (y:=x) (fun t hm=>ht t (by simp only[dR.tmps,ahS];exact .inl (.inl (.inl hm)))),
   opt lo (fun t hm=>ht t (by simp only[dR.tmps,ahS];exact .inl (.inl (.inr hm)))),
   opt hi (fun t hm=>ht t (by simp only[dR.tmps,ahS];exact .inl (.inr hm))),
   opt mx (fun t hm=>ht t (by simp only[dR.tmps,ahS];exact .inr hm))]
  exact he
 | fieldAddr off x =>
  simp only[ai] at he ⊢
  rw[h.addr (G:=G) (y:=x) ht]
  obtain⟨h0,he⟩:=ab he
  rw[h.live h0];exact he
 | field agg off sz x =>
  simp only[ai] at he ⊢
  rw[h.eval (G:=G) (y:=x) ht];exact he
 | ixSl sz x i =>
  simp only[ai] at he ⊢
  rw[h.addr (G:=G) (y:=x) (fun t hm=>ht t (by simp[dR.tmps,hm])),h.eval (G:=G) (y:=i) (fun t hm=>ht t (by simp[dR.tmps,hm]))]
  split at he
  ·exact he
  ·exact he
  ·split at he
   ·rename_i hT
    simp only[h.row _ hT]
    exact he
   ·cases he
  ·cases he
 | ixArr n sz x i =>
  simp only[ai] at he ⊢
  rw[h.addr (G:=G) (y:=x) (fun t hm=>ht t (by simp[dR.tmps,hm])),h.eval (G:=G) (y:=i) (fun t hm=>ht t (by simp[dR.tmps,hm]))]
  simp only[ahL] at he ⊢
  obtain⟨k,hk,he⟩:=he
  refine⟨k,hk,?_⟩
  obtain⟨h0,he⟩:=ab he
  simp only[ahR] at h0
  rw[h0.1,h.live h0.2];exact he
 | index agg n sz x i =>
  simp only[ai] at he ⊢
  rw[h.eval (G:=G) (y:=x) (fun t hm=>ht t (by simp[dR.tmps,hm])),h.eval (G:=G) (y:=i) (fun t hm=>ht t (by simp[dR.tmps,hm]))]
  exact he
 | indexStr x i =>
  simp only[ai] at he ⊢
  rw[h.eval (G:=G) (y:=x) (fun t hm=>ht t (by simp[dR.tmps,hm])),h.eval (G:=G) (y:=i) (fun t hm=>ht t (by simp[dR.tmps,hm]))]
  exact he
 | extract x i=>simp only[ai] at he ⊢;rw[h.eval (G:=G) (y:=x) ht];exact he
 | len k x =>
  simp only[ai] at he ⊢
  rw[h.addr (G:=G) (y:=x) ht]
  split at he
  ·split at he
   ·rename_i hT
    simp only[h.row _ hT]
    exact he
   ·cases he
  ·exact he
 | append isB wr sz bytes x y =>
  have h2:=h.eval (G:=G) (y:=y) (fun t hm=>ht t (by simp[dR.tmps,hm]))
  have h1:=h.eval (G:=G) (y:=x) (fun t hm=>ht t (by simp[dR.tmps,hm]))
  simp only[ai,dX] at he ⊢
  cases x with
  | tmp t =>
   exfalso
   simp only at he
   split at he
   ·simp only[ahL] at he
    obtain⟨f,_,he⟩:=he
    obtain⟨_,he⟩:=ab he
    simp at he
   ·cases wr
    ·simp at he
    ·simp only[cond_true,ahL] at he
     obtain⟨f,_,he⟩:=he
     obtain⟨_,he⟩:=ab he
     simp at he
   ·cases wr
    ·simp at he
    ·simp only[cond_true,ahL] at he
     obtain⟨f,_,he⟩:=he
     obtain⟨_,he⟩:=ab he
     simp at he
   ·cases he
  | _=>simp only at he ⊢;rw[h2];exact he
 | call f args =>
  have hf:=h.eval (G:=G) (y:=f) (fun t hm=>ht t (by simp[dR.tmps,hm]))
  have ha:∀ y,y∈args->y.addr G s'.T=y.addr G s.T:=fun y hy=>h.addr (G:=G) (fun t hm=>ht t (by
   simp only[dR.tmps,ahS,aiR];exact .inr ⟨y,hy,hm⟩))
  have e1:(args.map fun a=>a.addr G s'.T)=args.map fun a=>a.addr G s.T:=aib ha
  have e2:(args.map fun a=>(a.addr G s'.T).bc)=args.map fun a=>(a.addr G s.T).bc:=aib fun y hy=>by rw[ha y hy]
  simp only[ai] at he ⊢
  rw[hf,e1,e2,<- h.H]
  split at he
  ·obtain⟨h0,he⟩:=ab he
   rw[h0]
   simp only[cond_true,ahK,ahN] at he ⊢
   obtain⟨⟨r,c⟩,hr,h1,h2⟩:=he
   refine⟨(r,c),hr,h1,?_⟩
   cases c with
   | none=>rfl
   | some c=>cases h2
  ·cases he
 | iL f args =>
  have hf:=h.eval (G:=G) (y:=f) (fun t hm=>ht t (by simp[dR.tmps,hm]))
  have ha:∀ y,y∈args->y.addr G s'.T=y.addr G s.T:=fun y hy=>h.addr (G:=G) (fun t hm=>ht t (by
   simp only[dR.tmps,ahS,aiR];exact .inr ⟨y,hy,hm⟩))
  have e1:(args.map fun a=>a.addr G s'.T)=args.map fun a=>a.addr G s.T:=aib ha
  have e2:(args.map fun a=>(a.addr G s'.T).bc)=args.map fun a=>(a.addr G s.T).bc:=aib fun y hy=>by rw[ha y hy]
  simp only[ai] at he ⊢
  rw[hf,e1,e2,<- h.H]
  exact he
 | xF f pre x post =>
  exfalso
  simp only[ai] at he
  obtain⟨_,he⟩:=ab he
  simp only[ahL,ahK,ahN,reduceCtorEq,akd,akh] at he
 | mkfunc f a b =>
  have ha:∀ y,y∈a->y.addr G s'.T=y.addr G s.T:=fun y hy=>h.addr (G:=G) (fun t hm=>ht t (by
   simp only[dR.tmps,ahS,aiR];exact .inl ⟨y,hy,hm⟩))
  have hb:∀ y,y∈b->y.addr G s'.T=y.addr G s.T:=fun y hy=>h.addr (G:=G) (fun t hm=>ht t (by
   simp only[dR.tmps,ahS,aiR];exact .inr ⟨y,hy,hm⟩))
  have e1:(a.map fun a=>a.addr G s'.T)=a.map fun a=>a.addr G s.T:=aib ha
  have e2:(b.map fun a=>a.addr G s'.T)=b.map fun a=>a.addr G s.T:=aib hb
  have e3:(a.map fun a=>(a.addr G s'.T).drop)=a.map fun a=>(a.addr G s.T).drop:=aib fun y hy=>by rw[ha y hy]
  have e4:(b.map fun a=>(a.addr G s'.T).drop)=b.map fun a=>(a.addr G s.T).drop:=aib fun y hy=>by rw[hb y hy]
  simp only[ai] at he ⊢
  rw[e1,e2,e3,e4];exact he
 | appendO sz bytes x y =>
  have h1:=h.addr (G:=G) (y:=x) (fun t hm=>ht t (by simp[dR.tmps,hm]))
  have h2:=h.eval (G:=G) (y:=y) (fun t hm=>ht t (by simp[dR.tmps,hm]))
  simp only[ai,jl,h1,h2] at he ⊢
  split at he
  ·exact he
  exfalso
  simp only[ja,ahL] at he
  obtain⟨f,_,he⟩:=he
  split at he
  ·obtain⟨_,he⟩:=ab he
   simp at he
  ·obtain⟨_,he⟩:=ab he
   simp at he
  ·split at he
   ·obtain⟨_,he⟩:=ab he
    simp at he
   ·cases he
  ·cases he
 | lO sz zs ps =>
  exfalso
  simp only[ai,ahL] at he
  obtain⟨f,_,he⟩:=he
  obtain⟨_,he⟩:=ab he
  simp at he
 | tI sz bytes zero n =>
  exfalso
  simp only[ai,o8,ahL] at he
  obtain⟨f,_,he⟩:=he
  obtain⟨_,he⟩:=ab he
  simp at he
 | H8 x =>
  simp only[ai,ahL] at he
  obtain⟨_,_,he⟩:=he
  obtain⟨_,he⟩:=ab he
  simp at he
 | copyO x y =>
  have h1:=h.addr (G:=G) (y:=x) (fun t hm=>ht t (by simp[dR.tmps,hm]))
  have h2:=h.eval (G:=G) (y:=y) (fun t hm=>ht t (by simp[dR.tmps,hm]))
  simp only[ai] at he ⊢
  rw[h1,h2]
  unfold kS at he ⊢
  rw[<- h.H]
  split at he
  ·split at he
   ·obtain⟨_,he⟩:=ab he
    simp at he
   ·cases he
  ·exact he
  ·cases he
 | nilS neg x =>
  simp only[ai] at he ⊢
  rw[h.eval (G:=G) (y:=x) ht];exact he
 | yo kz ka va=>simp[ai] at he
 | look ok kz ka va ks zero m k =>
  have h1:=h.addr (G:=G) (y:=m) (fun t hm=>ht t (by simp[dR.tmps,hm]))
  have h2:=h.eval (G:=G) (y:=k) (fun t hm=>ht t (by simp[dR.tmps,hm]))
  simp only[ai] at he ⊢
  rw[h1,h2]
  unfold sB rF at he ⊢
  rw[<- h.H];exact he
 | Hx kz ka ks zero m k =>
  have h1:=h.addr (G:=G) (y:=m) (fun t hm=>ht t (by simp[dR.tmps,hm]))
  have h2:=h.eval (G:=G) (y:=k) (fun t hm=>ht t (by simp[dR.tmps,hm]))
  simp only[ai] at he ⊢
  rw[h1,h2]
  unfold zx at he ⊢
  rw[<- h.H]
  split at he
  ·split at he
   ·simp only[ahL] at he ⊢
    obtain⟨kc,oa,he⟩:=he
    obtain⟨h0,he⟩:=ab he
    refine⟨kc,oa,?_⟩
    rw[h0,cond_true]
    simp only[ahL] at he ⊢
    obtain⟨o,ho,he⟩:=he
    refine⟨o,ho,?_⟩
    cases o with
    | none=>exact he
    | some i=>simp at he
   ·cases he
  ·cases he
 | Jp kz ka va vz ks m k v=>simp[ai] at he
 | Sq m =>
  have h1:=h.addr (G:=G) (y:=m) (fun t hm=>ht t (by simp[dR.tmps,hm]))
  simp only[ai] at he ⊢
  rw[h1,<- h.H];exact he
 | Y9 kz ka va m =>
  simp only[ai] at he
  split at he
  ·simp at he
  ·obtain⟨_,he⟩:=ab he
   simp at he
  ·obtain⟨_,he⟩:=ab he
   simp at he
  ·split at he
   ·obtain⟨_,he⟩:=ab he
    simp at he
   ·cases he
  ·cases he
 | next it=>simp[ai] at he
 | YQ it =>
  cases it with
  | tmp t =>
   have e:=h.T t (ht t (by simp[dR.tmps,ak.tmps]))
   simp only[ai] at he ⊢
   rw[<- e];exact he
  | _=>simp only[ai] at he;cases he
theorem Fi{o:az}{z:AV}{s1:AS}(he:lD G cf true s o=some (z,s1)):s1=s/\aQ z=none:=by
 have cg:((ai G cf s o.op).bind fun r=>match r.2 with
   | none=>cond (true&&(aQ r.1).isSome) none (some (r.1,s))
   | some s'=>cond true none (some (r.1,s')))=some (z,s1)->s1=s/\aQ z=none:=by
  intro h
  simp only[ahL] at h
  obtain⟨⟨z',s'⟩,_,h⟩:=h
  cases s' with
  | none =>
   simp only[ais] at h
   cases hb:aQ z' with
   | none =>
    rw[hb] at h
    simp only[Option.isSome_none,ahW,ahM,ahN] at h
    exact⟨h.2.symm,by rw[<- h.1,hb]⟩
   | some k=>rw[hb] at h;cases h
  | some s'=>cases h
 unfold lD at he
 split at he
 ·exact cg he
 ·split at he
  ·rename_i want _ _ b _
   simp only at he
   cases hc:(b==want) with
   | false =>
    rw[hc] at he
    simp only[ahW,ahM,ahN] at he
    exact⟨he.2.symm,by rw[<- he.1];rfl⟩
   | true =>
    rw[hc] at he
    exact cg he
  ·simp only[ahM,ahN] at he
   exact⟨he.2.symm,by rw[<- he.1];rfl⟩
  ·cases he
theorem BC(h:od s s' ts){o:az}(ht:∀ t,t∈o.looks->t∈ts){z:AV}{s1:AS}(he:lD G cf true s o=some (z,s1)):lD G cf true s' o=some (z,s'):=by
 have cg:((ai G cf s o.op).bind fun r=>match r.2 with
   | none=>cond (true&&(aQ r.1).isSome) none (some (r.1,s))
   | some s'=>cond true none (some (r.1,s')))=some (z,s1)->((ai G cf s' o.op).bind fun r=>match r.2 with
   | none=>cond (true&&(aQ r.1).isSome) none (some (r.1,s'))
   | some s'=>cond true none (some (r.1,s')))=some (z,s'):=by
  intro h1
  simp only[ahL] at h1
  obtain⟨⟨z',s2⟩,he,h1⟩:=h1
  cases s2 with
  | some s2=>cases h1
  | none =>
   rw[Fg h (fun t hm=>ht t (by simp only[az.looks,ahS];exact .inl hm)) he]
   simp only[ais,ahV] at h1 ⊢
   cases hb:aQ z' with
   | some k=>rw[hb] at h1;cases h1
   | none =>
    rw[hb] at h1
    simp only[Option.isSome_none,ahW,ahM,ahN] at h1 ⊢
    exact⟨h1.1,trivial⟩
 unfold lD at he ⊢
 cases hg:o.guard with
 | none=>rw[hg] at he;exact cg he
 | some gw =>
  obtain⟨g,want⟩:=gw
  rw[hg] at he
  have e:s'.T g=s.T g:=(h.T g (ht g (by simp[az.looks,hg]))).symm
  simp only at he ⊢
  rw[e]
  generalize s.T g=X at he ⊢
  cases X with
  | bool b =>
   simp only at he ⊢
   cases hc:(b==want) with
   | false =>
    rw[hc] at he
    simp only[ahW,ahM,ahN] at he ⊢
    exact⟨he.1,trivial⟩
   | true=>rw[hc] at he;exact cg he
  | tuple vs =>
   cases vs with
   | nil=>simp only[ahM,ahN] at he ⊢;exact⟨he.1,trivial⟩
   | cons v vs=>cases he
  | _=>cases he
end
theorem qU{G:Nat->List AV}{cf:cz} : ∀ (is:List az) (s s' : AS),dU G cf true is s=some s' ->
  ∃ (S:Nat->AS) (V:Nat->AV),S 0=s/\S is.length=s'/\∀ i io,is[i]?=some io->lD G cf true (S i) io=some (V i,S i)/\aQ (V i)=none/\S (i+1)=(S i).b9 io.dst (V i)
 | [],s,s',h=>by
  simp only[dU,ahM] at h
  exact⟨fun _=>s,fun _=>.undef,rfl,h,fun i io h=>by simp at h⟩
 | o :: r,s,s',h=>by
  simp only[dU,ahL,lC,ahK] at h
  obtain⟨s1,⟨⟨z,s2⟩,hz,rfl⟩,h⟩:=h
  obtain⟨rfl,hg⟩:=Fi hz
  obtain⟨S,V,h0,hn,hS⟩:=qU r _ s' h
  refine⟨fun i=>match i with|0=>s2|i+1=>S i,fun i=>match i with|0=>z|i+1=>V i,rfl,hn,fun i io hi=>?_⟩
  cases i with
  | zero =>
   simp only[ah',ahM] at hi
   subst hi
   exact⟨hz,hg,h0⟩
  | succ i=>exact hS i io (by simpa using hi)
structure Agree (s:AS) (D:Nat->Option Nat) (V:Nat->AV) (A:Nat->Prop) (x:AS):Prop where
 H:x.H=s.H
 gen:x.gen=s.gen
 lo:x.lo=s.lo
 PK:∀ i,A i->∀ d,D i=some d->x.T d=V i
 not:∀ t,(∀ i,A i->D i≠some t)->x.T t=s.T t
theorem Agree.put{s x:AS}{D:Nat->Option Nat}{V:Nat->AV}{A:Nat->Prop}(h:Agree s D V A x){i:Nat}(hd:∀ j,A j->j≠i->∀ d,D i=some d->D j≠some d):Agree s D V (fun j=>A j\/j=i) (x.b9 (D i) (V i)):=by
 cases hD:D i with
 | none =>
  refine⟨h.H,h.gen,h.lo,fun j hj d JX=>?_,fun t ht=>h.not t (fun j hj=>ht j (.inl hj))⟩
  rcases hj with hj|rfl
  ·exact h.PK j hj d JX
  ·rw[hD] at JX;cases JX
 | some d =>
  refine⟨h.H,h.gen,h.lo,fun j hj d' JX=>?_,fun t ht=>?_⟩
  ·simp only[AS.b9,AS.br,gn]
   by_cases my:j=i
   ·subst my
    rw[hD] at JX;injection JX with JX;subst JX
    simp
   ·rcases hj with hj|hj
    ·rw[if_neg]
     ·exact h.PK j hj d' JX
     ·rintro rfl
      exact hd j hj my d' hD JX
    ·exact absurd hj my
  ·simp only[AS.b9,AS.br,gn]
   rw[if_neg]
   ·exact h.not t (fun j hj=>ht j (.inl hj))
   ·rintro rfl
    exact ht i (.inr rfl) hD
theorem Agree.eq{s x y:AS}{D:Nat->Option Nat}{V:Nat->AV}{A B:Nat->Prop}(hAB:∀ i,A i↔B i)(h:Agree s D V A x)(h' : Agree s D V B y):x=y:=by
 have hT:x.T=y.T:=by
  funext t
  by_cases hc:∃ i,A i/\D i=some t
  ·obtain⟨i,hi,hd⟩:=hc
   rw[h.PK i hi t hd,h'.PK i ((hAB i).1 hi) t hd]
  ·rw[h.not t (fun i hi hd=>hc ⟨i,hi,hd⟩),h'.not t (fun i hi hd=>hc ⟨i,(hAB i).2 hi,hd⟩)]
 cases x;cases y
 have:=h.H;have:=h.gen;have:=h.lo;have:=h'.H;have:=h'.gen;have:=h'.lo
 simp_all
theorem sN:∀ (n:Nat) (l:List Nat),l.Nodup->(∀ i,i∈l->i<n)->l.length<=n
 | 0,l,_,h=>by
  cases l with
  | nil=>exact ahQ _
  | cons i l=>exact absurd (h i aid) (ajv _)
 | n+1,l,Ho,h=>by
  have ih:=sN n (l.erase n) (Ho.erase n) (fun i hi=>by
   have:=(Ho.mem_erase_iff).1 hi
   have:=h i this.2
   omega)
  rw[List.length_erase] at ih
  split at ih<;>omega
structure Order (L:List Nat) (ops:Array Oper) (is:List az):Prop where
 len:ops.size=is.length
 back:∀ (i:Nat) (o:Oper),ops[i]?=some o->∀ e,e∈o.after->Region.binds .any e=true->e.on<i
 adS:∀ (i:Nat) (io:az) (d:Nat),is[i]?=some io->io.dst=some d->d∉L
 once:∀ (i j:Nat) (p q:az) (d:Nat),is[i]?=some p->is[j]?=some q->i≠j->q.dst=some d->p.dst≠some d
 look:∀ (i j:Nat) (o o' : Oper) (p q:az) (d:Nat),ops[i]?=some o->ops[j]?=some o'->is[i]?=some p->is[j]?=some q->i≠j->q.dst=some d->d∈p.looks ->
  (j<i/\∃ e,e∈o.after/\Region.binds .any e=true/\e.on=j)\/(i<j/\∃ e,e∈o'.after/\Region.binds .any e=true/\e.on=i)
theorem u6{o:Oper}{j:Nat}(h:sx o j=true):∃ e,e∈o.after/\Region.binds .any e=true/\e.on=j:=by
 unfold sx at h
 rw[Array.any_eq_true] at h
 obtain⟨k,hk,h⟩:=h
 simp only[ahR,dV,ah8] at h
 exact⟨o.after[k],Array.getElem_mem hk,h.1,h.2⟩
theorem CB{L:List Nat}{ops:Array Oper}{is:List az}(hl:ops.size=is.length)(h:rI L (ops.toList.zip is)=true):Order L ops is:=by
 have mem:∀ (i:Nat) (o:Oper) (io:az),ops[i]?=some o->is[i]?=some io->((o,io),i)∈(ops.toList.zip is).zipIdx:=by
  intro i o io h1 h2
  rw[ajN]
  refine⟨i,?_⟩
  rw[ajV,(ajx (z:=(o,io))).2 ⟨by simpa using h1,h2⟩]
  simp
 have XA:∀ (i:Nat) (io:az),is[i]?=some io->∃ o,ops[i]?=some o:=by
  intro i io hi
  have:i<ops.size:=by rw[hl];exact (ahO.1 hi).1
  exact⟨_,ahY this⟩
 have adM:∀ (i:Nat) (o:Oper),ops[i]?=some o->∃ io,is[i]?=some io:=by
  intro i o hi
  have:i<is.length:=by rw[<- hl];exact (ahT.1 hi).1
  exact⟨_,ahP this⟩
 unfold rI at h
 simp only[ahU] at h
 have UG:∀ (i j:Nat) (o o' : Oper) (p q:az),ops[i]?=some o->ops[j]?=some o'->is[i]?=some p->is[j]?=some q->i≠j->∀ d,q.dst=some d ->
   p.dst≠some d/\(d∈p.looks->if j<i then sx o j=true else sx o' i=true):=by
  intro i j o o' p q h1 h2 h3 h4 ux d hd
  have:=h _ (mem i o p h1 h3)
  simp only[ahR,ahU] at this
  have:=this.2 _ (mem j o' q h2 h4)
  simp only[ajk,dV,ah8,hd] at this
  rcases this with this|this
  ·exact absurd this ux
  simp only[ahR] at this
  refine⟨fun hpd=>?_,fun hlk=>?_⟩
  ·rw[hpd] at this
   simp at this
  ·have h5:=this.2
   simp only[ajk,ajn,List.contains_eq_mem,aje] at h5
   rcases h5 with h5|h5
   ·exact absurd hlk h5
   ·by_cases my:j<i
    ·rw[if_pos my]
     rw[show Nat.blt j i=true by simpa [aih] using my] at h5
     exact h5
    ·rw[if_neg my]
     rw[show Nat.blt j i=false by simpa [<- ajS,aih] using my] at h5
     exact h5
 refine⟨hl,fun i o hi e he hb=>?_,fun i io d hi hd=>?_,fun i j p q d hp hq ux hd=>?_,fun i j o o' p q d h1 h2 h3 h4 ux hd hlk=>?_⟩
 ·obtain⟨io,ri⟩:=adM i o hi
  have:=h _ (mem i o io hi ri)
  simp only[ahR,ahU] at this
  have:=this.1.1
  rw[akb] at this
  have:=this e he
  simpa [hb,aih] using this
 ·obtain⟨o,ho⟩:=XA i io hi
  have:=h _ (mem i o io ho hi)
  simp only[ahR,ahU,hd] at this
  simpa using this.1.2
 ·obtain⟨o,ho⟩:=XA i p hp
  obtain⟨o',mi⟩:=XA j q hq
  exact (UG i j o o' p q ho mi hp hq ux d hd).1
 ·have:=(UG i j o o' p q h1 h2 h3 h4 ux d hd).2 hlk
  by_cases my:j<i
  ·rw[if_pos my] at this
   exact .inl ⟨my,u6 this⟩
  ·rw[if_neg my] at this
   exact .inr ⟨by omega,u6 this⟩
section
variable {P:Program}{G:Nat->List AV}{base nt:Nat}{L:List Nat}{gh:Gh}{w w' : World}{a:Act}{s:AS}{H:ag}
theorem gG{bR locals muts:List Nat}{ops:Array Oper} : ∀ {l:List Oper} {is:List az},fe P bR locals muts nt ops l=some is->l.length=is.length /\
  ∀ (i:Nat) (o:Oper),l[i]?=some o->∃ io,is[i]?=some io/\ox P bR locals muts nt ops o=some io
 | [],is,h=>by simp[fe] at h;subst h;exact⟨rfl,fun i o h=>by simp at h⟩
 | o :: l,is,h=>by
  simp only[fe,ahL,ahK] at h
  obtain⟨io,ri,Y8,Dv,rfl⟩:=h
  obtain⟨h1,h2⟩:=gG Dv
  refine⟨by simp[h1],fun i o' hi=>?_⟩
  cases i with
  | zero=>simp only[ah',ahM] at hi;subst hi;exact⟨io,rfl,ri⟩
  | succ i=>exact h2 i o' (by simpa using hi)
theorem D8{cf:cz}(ij:dn P G cf){H0:ag}{gr:Gh}{w0:World}{bR locals muts:List Nat}{ops:Array Oper}(vp:∀ x,x∈locals->x∈L)(uu:∀ x,x∈muts->x∈L)(Q:Exit->Act->World->Prop)
  {is:List az} (hI:Inv G base nt L H0 gr w0 s gh w a) (hc:fe P bR locals muts nt ops ops.toList=some is) (qi:Order L ops is) {s' : AS} (he:dU G cf true is s=some s')
  (hQ:∀ a' aD w',Inv G base nt L H0 gr w0 s' aD w' a'->Q .normal a' w'):wpAny P .any ops Q ops.size (Array.replicate ops.size false) a w:=by
 obtain⟨S,V,h0,hn,hS⟩:=qU is s s' he
 obtain⟨hlen,B4⟩:=gG hc
 let D:Nat->Option Nat:=fun i=>(is[i]?).bind (·.dst)
 have hD:∀ i io,is[i]?=some io->D i=io.dst:=fun i io h=>by simp[D,h]
 have BX:∀ i d,D i=some d->∃ io,is[i]?=some io/\io.dst=some d:=by
  intro i d h
  simp only[D,ahL] at h
  exact h
 have Hq:∀ i j d,i≠j->D i=some d->D j≠some d:=by
  intro i j d ux hi hj
  obtain⟨p,hp,hpd⟩:=BX i d hi
  obtain⟨q,hq,hqd⟩:=BX j d hj
  exact qi.once i j p q d hp hq ux hqd hpd
 have vA:∀ k,k<=is.length->Agree s D V (fun i=>i<k) (S k):=by
  intro k
  induction k with
  | zero=>intro _;rw[h0];exact⟨rfl,rfl,rfl,fun i hi=>absurd hi (ajv _),fun t _=>rfl⟩
  | succ k ih =>
   intro hk
   have ri:=ahP (show k<is.length by omega)
   obtain⟨_,_,h3⟩:=hS k _ ri
   rw[h3,<- hD k _ ri]
   have:=(ih (by omega)).put (i:=k) (fun j hj cS d hd=>Hq k j d (ajs cS) hd)
   refine⟨this.H,this.gen,this.lo,fun i hi=>this.PK i (by rcases aja i k with h|h;exact .inl h;exact .inr (by omega)),fun t ht=>this.not t (fun i hi=>ht i (by rcases hi with h|h<;>omega))⟩
 have Z3:∀ i d,D i=some d->aQ (V i)=none:=by
  intro i d hd
  obtain⟨io,ri,_⟩:=BX i d hd
  exact (hS i io ri).2.1
 have main:∀ (n:Nat) (listed:Array Bool) (x:AS) (gh:Gh) (w:World) (a:Act),listed.size=ops.size->(∀ l:List Nat,l.Nodup->(∀ i,i∈l->i<ops.size/\listed.getD i true=false)->l.length<=n) ->
   (∀ j o,ops[j]?=some o->listed.getD j false=true->∀ e,e∈o.after->Region.binds .any e=true->listed.getD e.on false=true) ->
   Agree s D V (fun i=>listed.getD i false=true) x->Inv G base nt L H0 gr w0 x gh w a->wpAny P .any ops Q n listed a w:=by
  intro n
  induction n with
  | zero =>
   intro listed x gh w a fA FK nD hA hI
   have fh:∀ i,i<ops.size->listed.getD i false=true:=by
    intro i hi
    cases hb:listed.getD i true with
    | true =>
     have:i<listed.size:=by omega
     simpa [this] using hb
    | false =>
     have:=FK [i] (by simp) (fun j hj=>by simp at hj;subst hj;exact⟨hi,hb⟩)
     simp at this
   have qj:Region.ready .any ops listed=[]:=by
    cases hr:Region.ready .any ops listed with
    | nil=>rfl
    | cons i r =>
     have hm:i∈Region.ready .any ops listed:=by rw[hr];exact aid
     obtain⟨h1,o,h2,_⟩:=mem_ready.1 hm
     have aZ:=(ahT.1 h2).1
     have:=fh i aZ
     have ma:i<listed.size:=by omega
     simp[ma] at this h1
     rw[this] at h1
     cases h1
   refine⟨qj,?_⟩
   have hx:x=s':=by
    rw[<- hn]
    refine hA.eq (B:=fun i=>i<is.length) (fun i=>?_) (vA _ (ahQ _))
    constructor
    ·intro h
     have aZ:i<listed.size:=by
      rcases aja i listed.size with h'|h'
      ·exact h'
      ·simp[ai5 h'] at h
     rw[<- qi.len];omega
    ·intro h
     exact fh i (by rw[qi.len];exact h)
   rw[hx] at hI
   exact hQ a gh w hI
  | succ n ih =>
   intro listed x gh w a fA FK nD hA hI
   refine⟨fun qj=>?_,fun i hi=>?_⟩
   ·
    have fh:∀ i,i<ops.size->listed.getD i false=true:=by
     intro i
     induction i using Nat.strongRecOn with
     | _ i Dy =>
      intro aZ
      have ma:i<listed.size:=by omega
      cases hb:listed.getD i true with
      | true=>simpa [ma] using hb
      | false =>
       exfalso
       have ho:=ahY aZ
       have:i∈Region.ready .any ops listed:=mem_ready.2 ⟨hb,_,ho,fun e he mT=>by
        have Lx:=qi.back i _ ho e he mT
        exact Dy e.on Lx (by omega)⟩
       rw[qj] at this
       cases this
    have hx:x=s':=by
     rw[<- hn]
     refine hA.eq (B:=fun i=>i<is.length) (fun i=>?_) (vA _ (ahQ _))
     constructor
     ·intro h
      have aZ:i<listed.size:=by
       rcases aja i listed.size with h'|h'
       ·exact h'
       ·simp[ai5 h'] at h
      rw[<- qi.len];omega
     ·intro h
      exact fh i (by rw[qi.len];exact h)
    rw[hx] at hI
    exact hQ a gh w hI
   ·obtain⟨Wk,o,ho,vq⟩:=mem_ready.1 hi
    have aZ:=(ahT.1 ho).1
    have ma:i<listed.size:=by omega
    obtain⟨io,ri,bn⟩:=B4 i o (by simpa using ho)
    have I6:¬ (listed.getD i false=true):=by
     simp[ma] at Wk ⊢
     exact Wk
    have Uc:=vA i (by rw[<- qi.len];omega)
    have LG:od (S i) x io.looks:=by
     refine⟨by rw[Uc.H,hA.H],fun t ht=>?_,fun b=>?_⟩
     ·by_cases hw:∃ j,D j=some t
      ·obtain⟨j,hj⟩:=hw
       have uniq:∀ k,D k=some t->k=j:=by
        intro k hk
        by_cases Po:k=j
        ·exact Po
        ·exact absurd hj (Hq k j t Po hk)
       obtain⟨q,hq,hqd⟩:=BX j t hj
       by_cases ux:i=j
       ·subst ux
        rw[Uc.not t (fun k hk hd=>by have:=uniq k hd;omega),hA.not t (fun k hk hd=>by rw[uniq k hd] at hk;exact I6 hk)]
       ·have hoj:∃ o',ops[j]?=some o':=⟨_,ahY (show j<ops.size by rw[qi.len];exact (ahO.1 hq).1)⟩
        obtain⟨o',mi⟩:=hoj
        rcases qi.look i j o o' io q t ho mi ri hq ux hqd ht with ⟨my,e,he,mT,hon⟩|⟨my,e,he,mT,hon⟩
        ·have hjA:=vq e he mT
         rw[hon] at hjA
         rw[Uc.PK j my t hj,hA.PK j hjA t hj]
        ·have hjA:¬ (listed.getD j false=true):=by
          intro h
          have:=nD j o' mi h e he mT
          rw[hon] at this
          exact I6 this
         rw[Uc.not t (fun k hk hd=>by have:=uniq k hd;omega),hA.not t (fun k hk hd=>by rw[uniq k hd] at hk;exact hjA hk)]
      ·rw[Uc.not t (fun k _ hd=>hw ⟨k,hd⟩),hA.not t (fun k _ hd=>hw ⟨k,hd⟩)]
     ·by_cases hw:∃ j,D j=some b
      ·obtain⟨j,hj⟩:=hw
       obtain⟨q,hq,hqd⟩:=BX j b hj
       have hbL:=qi.adS j q b hq hqd
       have h1:aQ (x.T b)=none:=by
        cases hg:aQ (x.T b) with
        | none=>rfl
        | some k=>exact absurd (hI.F.obj b (by rw[hg];rfl)) hbL
       have hsb:aQ (s.T b)=none:=by
        cases hg:aQ (s.T b) with
        | none=>rfl
        | some k=>exact absurd (‹Inv G base nt L H0 gr w0 s _ _ _›.F.obj b (by rw[hg];rfl)) hbL
       refine .inr ?_
       by_cases my:j<i
       ·rw[Uc.PK j my b hj];exact Z3 j b hj
       ·rw[Uc.not b (fun k hk hd=>by
         by_cases Po:k=j
         ·omega
         ·exact Hq k j b Po hd hj)]
        exact hsb
      ·exact .inl (by rw[Uc.not b (fun k _ hd=>hw ⟨k,hd⟩),hA.not b (fun k _ hd=>hw ⟨k,hd⟩)])
    have bb:=BC LG (fun t h=>h) (hS i io ri).1
    unfold wpOp
    rw[ho]
    refine mX ij hI bn vp uu bb _ Q (fun a' aD w' jM=>?_)
    rw[<- (iG bn).2.2.1,<- hD i io ri] at jM
    have xh:∀ j,(listed.setIfInBounds i true).getD j false=true↔(listed.getD j false=true\/j=i):=by
     intro j
     by_cases my:i=j
     ·subst my
      simp[ma]
     ·rw[getD_set_ne false my]
      simp[ajs my]
    refine ih (listed.setIfInBounds i true) _ aD w' a' (by simpa using fA) (fun l Ho hl=>?_) (fun j o' mi hj e he mT=>?_) ?_ jM
    ·have VY:i∉l:=by
      intro hm
      have:=(hl i hm).2
      simp[ma] at this
     have:=FK (i :: l) (List.nodup_cons.2 ⟨VY,Ho⟩) (fun j hj=>by
      rcases aii.1 hj with rfl|hj
      ·exact⟨aZ,Wk⟩
      ·have h1:=hl j hj
       have my:i≠j:=by rintro rfl;exact VY hj
       rw[getD_set_ne true my] at h1
       exact h1)
     simp at this
     omega
    ·rcases (xh j).1 hj with h|rfl
     ·exact (xh _).2 (.inl (nD j o' mi h e he mT))
     ·rw[ho] at mi
      injection mi with mi
      subst mi
      exact (xh _).2 (.inl (vq e he mT))
    ·have:=hA.put (i:=i) (fun j hj cS d hd=>Hq i j d (ajs cS) hd)
     exact⟨this.H,this.gen,this.lo,fun j hj=>this.PK j ((xh j).1 hj),fun t ht=>this.not t (fun j hj=>ht j ((xh j).2 hj))⟩
 refine main ops.size _ s gh w a (by simp) (fun l Ho hl=>?_) (fun j o hj h=>?_) ?_ hI
 ·exact sN ops.size l Ho (fun i hi=>(hl i hi).1)
 ·exfalso
  have:(Array.replicate ops.size false).getD j false=false:=by
   by_cases h:j<ops.size<;>simp[h]
  rw[this] at h
  cases h
 ·have j6:∀ i,¬ ((Array.replicate ops.size false).getD i false=true):=by
   intro i h
   have:(Array.replicate ops.size false).getD i false=false:=by
    by_cases h:i<ops.size<;>simp[h]
   rw[this] at h
   cases h
  exact⟨rfl,rfl,rfl,fun i hi=>absurd hi (j6 i),fun t _=>rfl⟩
end
end
section
section
variable {G:Nat->List AV}{cf:cz}
end
section
variable {G:Nat->List AV}{cf:cz}
end
section
variable {G:Nat->List AV}{base nt:Nat}{L:List Nat}{gh:Gh}{w w' : World}{a:Act}{s:AS}
end
section
variable {G:Nat->List AV}{base nt:Nat}{L:List Nat}{gh:Gh}{w w' : World}{a:Act}
end
end
section
section
variable {G:Nat->List AV}{is:List az}{L:List Nat}{ops:Array Oper}{s s2 s3 x:AS}{D:Nat->Option Nat}{V:Nat->AV}{A:Nat->Prop}
end
end
section
section
variable {P:Program}{G:Nat->List AV}{base nt:Nat}{L:List Nat}{gh:Gh}{w w' : World}{a:Act}{s:AS}{H:ag}
end
end
section
structure UQ (e:xx) (s x:AS):Prop where
 T:∀ t,t∈e.rs->x.T t=s.T t
 H:e.rh=true\/e.wh=true->x.H=s.H/\x.lo=s.lo
 G:e.wg=true->x.gen=s.gen
structure dS (e:xx) (s1 x x1:AS):Prop where
 T:∀ t,t∈e.ws->x1.T t=s1.T t
 T' : ∀ t,t∉e.ws->x1.T t=x.T t
 H:e.wh=true->x1.H=s1.H/\x1.lo=s1.lo
 H' : e.wh=false->x1.H=x.H/\x1.lo=x.lo
 G:e.wg=true->x1.gen=s1.gen
 G' : e.wg=false->x1.gen=x.gen
theorem dS.stay{e:xx}{s x:AS}(h:UQ e s x)(hw:∀ t,t∈e.ws->t∈e.rs):dS e s x x :=
 ⟨fun t ht=>h.T t (hw t ht),fun _ _=>rfl,fun hh=>h.H (.inr hh),fun _=>⟨rfl,rfl⟩,fun hg=>h.G hg,fun _=>rfl⟩
section
variable {G:Nat->List AV}{cf:cz}{s x:AS}{e:xx}
theorem Kg(h:∀ t,t∈e.rs->x.T t=s.T t){y:ak}(hy:∀ t,t∈y.tmps->t∈e.rs):y.eval G x.T=y.eval G s.T:=by
 cases y<;>try rfl
 rename_i t
 exact h t (hy t (by simp[ak.tmps]))
theorem Kf(h:∀ t,t∈e.rs->x.T t=s.T t){y:ak}(hy:∀ t,t∈y.tmps->t∈e.rs):y.addr G x.T=y.addr G s.T:=by
 cases y<;>try rfl
 rename_i t
 simp only[ak.addr]
 rw[h t (hy t (by simp[ak.tmps]))]
def cU(pc:Bool):dR->dR
 | .call f xs=>cond pc (.iL f xs) (.call f xs)
 | o=>o
theorem tK(pc:Bool)(o:az):iw pc o=⟨o.dst,o.guard,cU pc o.op⟩:=by
 obtain⟨d,g,op⟩:=o
 cases op<;>simp only[iw,cU]
 cases pc<;>rfl
theorem dN(s:AS)(t:Nat)(v:AV)(k:Nat):(s.br t v).T k=if k=t then v else s.T k:=gn s.T t v k
theorem vL{c:JT}{Y:AV}(h:bM s Y=true)(hc:fy c Y=true)(hT:∀ b,b∈fw c->x.T b=s.T b):bM x Y=true:=by
 cases Y<;>simp only[bM] at h ⊢<;>try (cases h;done)
 case lref b g off =>
  cases c with
  | frame b' =>
   simp only[fy,dV,ah8] at hc
   subst hc
   rw[hT b' (ah4.2 rfl)];exact h
  | _=>cases hc
 case eref=>cases c<;>cases hc
theorem R9{pc:Bool}{c:JT}{op:dR}(he:xM pc c op=some e)(hc:∀ y,(∃ t a z,op=.load t a z y)\/(∃ z v,op=.store z y v)\/op=.nilCheck y\/(∃ f,op=.fieldAddr f y)\/(∃ n z i,op=.ixArr n z y i)->fy c (y.addr G s.T)=true)
  (gu:∀ y,(∃ z i,op=.ixSl z y i)\/(∃ k,op=.len k y)->fy .heap (y.addr G s.T)=true)
  {z:AV} {so:Option AS} (bb:ai G cf s (cU pc op)=some (z,so)) (ha:UQ e s x) :
  ∃ xo,ai G cf x op=some (z,xo)/\dS e (so.getD s) x (xo.getD x)/\(∀ t,t∈e.ws->t∈e.rs):=by
 have stay:(∀ t,t∈e.ws->t∈e.rs)->so=none->ai G cf x op=some (z,none)->∃ xo,ai G cf x op=some (z,xo)/\dS e (so.getD s) x (xo.getD x)/\(∀ t,t∈e.ws->t∈e.rs):=by
  rintro hw rfl h
  exact⟨none,h,dS.stay ha hw,hw⟩
 have ev:∀ {y:ak},(∀ t,t∈y.tmps->t∈e.rs)->y.eval G x.T=y.eval G s.T:=fun hy=>Kg ha.T hy
 have ad:∀ {y:ak},(∀ t,t∈y.tmps->t∈e.rs)->y.addr G x.T=y.addr G s.T:=fun hy=>Kf ha.T hy
 have oP:∀ {X:Option AV} {w:AV} {o:Option AS},X.map (fun v=>(v,(none:Option AS)))=some (w,o)->o=none:=by
  intro X w o h
  cases X with
  | none=>cases h
  | some v=>simp at h;exact h.2.symm
 cases op<;>simp only[xM] at he<;>try (cases he;done)
 case mov take obj y =>
  cases obj with
  | true=>cases he
  | false =>
   simp only[ahW,ahM] at he
   subst he
   have hw:∀ t,t∈(cond take y.tmps [])->t∈y.tmps:=by cases take<;>simp
   simp only[cU,ai] at bb ⊢
   cases y with
   | tmp t =>
    have ht:=ha.T t (by simp[ak.tmps])
    simp only[kN] at bb ⊢
    rw[ht]
    generalize s.T t=X at bb ht
    cases X
    case slice el own =>
     cases Wj:(take&&own) with
     | false =>
      simp only[Wj,ahW,ahM,ahN] at bb
      obtain⟨rfl,rfl⟩:=bb
      exact⟨none,by simp only[Wj,ahW],dS.stay ha hw,hw⟩
     | true =>
      simp only[ahR] at Wj
      obtain⟨rfl,rfl⟩:=Wj
      simp only[ai1,cond_true,ahM,ahN] at bb
      obtain⟨rfl,rfl⟩:=bb
      refine⟨some (x.br t (.slice el false)),rfl,⟨fun k hk=>?_,fun k hk=>?_,fun h=>(by cases h),fun _=>⟨rfl,rfl⟩,fun h=>(by cases h),fun _=>rfl⟩,hw⟩
      ·simp only[cond_true,ak.tmps,ah4] at hk
       simp only[aiC,dN,hk,ai3]
      ·simp only[cond_true,ak.tmps,ah4] at hk
       simp only[aiC,dN,if_neg hk]
    case lsl g el =>
     cases take with
     | true =>
      simp only[cond_true,ahW] at bb
      obtain⟨h0,bb⟩:=ab bb
      simp only[ahM,ahN] at bb
      obtain⟨rfl,rfl⟩:=bb
      refine⟨some (x.br t .any),by simp only[h0,cond_true,ahW],⟨fun k hk=>?_,fun k hk=>?_,fun h=>(by cases h),fun _=>⟨rfl,rfl⟩,fun h=>(by cases h),fun _=>rfl⟩,hw⟩
      ·simp only[cond_true,ak.tmps,ah4] at hk
       simp only[aiC,dN,hk,ai3]
      ·simp only[cond_true,ak.tmps,ah4] at hk
       simp only[aiC,dN,if_neg hk]
     | false =>
      simp only[ahW,ahM,ahN] at bb
      obtain⟨rfl,rfl⟩:=bb
      exact⟨none,rfl,dS.stay ha hw,hw⟩
    case iter=>cases bb
    all_goals
     simp only[ahM,ahN] at bb
     obtain⟨rfl,rfl⟩:=bb
     exact⟨none,rfl,dS.stay ha hw,hw⟩
   | _ =>
    simp only[kN,ahM,ahN] at bb
    obtain⟨rfl,rfl⟩:=bb
    exact⟨none,rfl,dS.stay ha hw,hw⟩
 case allocL zs =>
  simp only[ahM] at he
  subst he
  simp only[cU,ai,ahM,ahN] at bb
  obtain⟨rfl,rfl⟩:=bb
  have hg:=ha.G rfl
  refine⟨some { x with gen:=x.gen+1 },by simp only[ai,hg],⟨fun k hk=>(by cases hk),fun _ _=>rfl,fun h=>(by cases h),fun _=>⟨rfl,rfl⟩,fun _=>?_,fun h=>(by cases h)⟩,fun k hk=>(by cases hk)⟩
  simp[hg]
 case boxL y =>
  simp only[ahM] at he
  subst he
  simp only[cU,ai,ahK,ahN] at bb
  obtain⟨cs,fq,rfl,rfl⟩:=bb
  have hg:=ha.G rfl
  refine⟨some { x with gen:=x.gen+1 },by simp only[ai,hg,ev (y:=y) (fun t h=>h),fq,ah0],⟨fun k hk=>(by cases hk),fun _ _=>rfl,fun h=>(by cases h),fun _=>⟨rfl,rfl⟩,fun _=>?_,fun h=>(by cases h)⟩,fun k hk=>(by cases hk)⟩
  simp[hg]
 case build zs ps =>
  simp only[ahM] at he
  subst he
  have e1:(ps.map fun p=>(p.1,p.2.1,(p.2.2.eval G x.T).drop))=ps.map fun p=>(p.1,p.2.1,(p.2.2.eval G s.T).drop):=aib fun p hp=>by
   rw[ev (y:=p.2.2) (fun t h=>by simp only[dR.tmps,aiR];exact⟨p,hp,h⟩)]
  simp only[cU,ai,ahK,ahN] at bb
  obtain⟨E,hE,rfl,rfl⟩:=bb
  exact stay (fun t h=>by cases h) rfl (by simp only[ai,e1,hE,ah0])
 case mkslice b sz zs ps =>
  simp only[ahM] at he
  subst he
  have e1:(ps.map fun p=>(p.1,(p.2.eval G x.T).drop))=ps.map fun p=>(p.1,(p.2.eval G s.T).drop):=aib fun p hp=>by
   rw[ev (y:=p.2) (fun t h=>by simp only[dR.tmps,aiR];exact⟨p,hp,h⟩)]
  simp only[cU,ai,ahL] at bb
  obtain⟨E,hE,bb⟩:=bb
  obtain⟨h0,bb⟩:=ab bb
  simp only[ahM,ahN] at bb
  obtain⟨rfl,rfl⟩:=bb
  exact stay (fun t h=>by cases h) rfl (by simp only[ai,e1,hE,ahV,h0,cond_true])
 case bin o q y1 y2 =>
  simp only[ahM] at he
  subst he
  simp only[cU,ai] at bb
  have pd:=oP bb
  subst pd
  exact stay (fun t h=>by cases h) rfl (by simp only[ai];rw[ev (y:=y1) (fun t h=>ahS.2 (.inl h)),ev (y:=y2) (fun t h=>ahS.2 (.inr h))];exact bb)
 case mm o y1 y2 =>
  simp only[ahM] at he
  subst he
  simp only[cU,ai] at bb
  have pd:=oP bb
  subst pd
  exact stay (fun t h=>by cases h) rfl (by simp only[ai];rw[ev (y:=y1) (fun t h=>ahS.2 (.inl h)),ev (y:=y2) (fun t h=>ahS.2 (.inr h))];exact bb)
 case un o y =>
  simp only[ahM] at he
  subst he
  simp only[cU,ai] at bb
  have pd:=oP bb
  subst pd
  exact stay (fun t h=>by cases h) rfl (by simp only[ai];rw[ev (y:=y) (fun t h=>h)];exact bb)
 case nilS o y =>
  simp only[ahM] at he
  subst he
  simp only[cU,ai] at bb
  have pd:so=none:=by
   simp only[ahK,ahN] at bb
   obtain⟨_,_,_,h⟩:=bb
   exact h.symm
  subst pd
  exact stay (fun t h=>by cases h) rfl (by simp only[ai];rw[ev (y:=y) (fun t h=>h)];exact bb)
 case slice k y lo hi mx =>
  simp only[ahM] at he
  subst he
  simp only[cU,ai] at bb
  have pd:=oP bb
  subst pd
  have opt:∀ o:Option ak,(∀ t,t∈o.toList.flatMap ak.tmps->t∈(dR.slice k y lo hi mx).tmps)->o.map (·.eval G x.T)=o.map (·.eval G s.T):=by
   intro o ho
   cases o with
   | none=>rfl
   | some q=>simp only[ah0];rw[ev (y:=q) (fun t hm=>ho t (by simp[hm]))]
  exact stay (fun t h=>by cases h) rfl (by
   simp only[ai]
   rw[ev (y:=y) (fun t hm=>by simp only[dR.tmps,ahS];exact .inl (.inl (.inl hm))),
    opt lo (fun t hm=>by simp only[dR.tmps,ahS];exact .inl (.inl (.inr hm))),
    opt hi (fun t hm=>by simp only[dR.tmps,ahS];exact .inl (.inr hm)),
    opt mx (fun t hm=>by simp only[dR.tmps,ahS];exact .inr hm)]
   exact bb)
 case conv o y =>
  simp only[ahM] at he
  subst he
  simp only[cU,ai] at bb
  have pd:=oP bb
  subst pd
  exact stay (fun t h=>by cases h) rfl (by simp only[ai];rw[ev (y:=y) (fun t h=>h)];exact bb)
 case pick c0 a0 b0 =>
  simp only[ahM] at he
  subst he
  simp only[cU,ai] at bb
  have h1:=ev (y:=c0) (fun t h=>by simp[h])
  have h2:=ad (y:=a0) (fun t h=>by simp[h])
  have h3:=ad (y:=b0) (fun t h=>by simp[h])
  split at bb
  ·rename_i hb
   simp only[ahM,ahN] at bb
   obtain⟨rfl,rfl⟩:=bb
   exact stay (fun t h=>by cases h) rfl (by simp only[ai,h1,h2,h3,hb])
  ·cases bb
 case field agg off sz y =>
  simp only[ahM] at he
  subst he
  simp only[cU,ai] at bb
  have h1:=ev (y:=y) (fun t h=>h)
  split at bb
  ·rename_i hb
   have pd:=oP bb
   subst pd
   exact stay (fun t h=>by cases h) rfl (by simp only[ai,h1,hb];exact bb)
  ·cases bb
 case index agg n sz y i =>
  simp only[ahM] at he
  subst he
  simp only[cU,ai,ahL] at bb
  obtain⟨k,hk,bb⟩:=bb
  obtain⟨h0,bb⟩:=ab bb
  have h1:=ev (y:=y) (fun t h=>by simp[h])
  have h2:=ev (y:=i) (fun t h=>by simp[h])
  split at bb
  ·rename_i hb
   have pd:=oP bb
   subst pd
   exact stay (fun t h=>by cases h) rfl (by simp only[ai,h1,h2,hk,ahV,h0,cond_true,hb];exact bb)
  ·cases bb
 case indexStr y i =>
  simp only[ahM] at he
  subst he
  simp only[cU,ai] at bb
  have h1:=ev (y:=y) (fun t h=>by simp[h])
  have h2:=ev (y:=i) (fun t h=>by simp[h])
  split at bb
  ·rename_i l hb
   simp only[ahL,ahK,ahN] at bb
   obtain⟨k,hk,b,AI,rfl,rfl⟩:=bb
   exact stay (fun t h=>by cases h) rfl (by simp only[ai,h1,h2,hb,hk,ahV,AI,ah0])
  ·cases bb
 case extract y i =>
  simp only[ahM] at he
  subst he
  simp only[cU,ai] at bb
  have h1:=ev (y:=y) (fun t h=>h)
  split at bb
  ·rename_i vs hb
   simp only[ahK,ahN] at bb
   obtain⟨v,hv,rfl,rfl⟩:=bb
   exact stay (fun t h=>by cases h) rfl (by simp only[ai,h1,hb,hv,ah0])
  ·cases bb
 case mkfunc f a b =>
  simp only[ahM] at he
  subst he
  simp only[cU,ai] at bb
  obtain⟨h0,bb⟩:=ab bb
  simp only[ahM,ahN] at bb
  obtain⟨rfl,rfl⟩:=bb
  have ha:∀ y,y∈a->y.addr G x.T=y.addr G s.T:=fun y hy=>ad (y:=y) (fun t h=>by
   simp only[dR.tmps,ahS,aiR];exact .inl ⟨y,hy,h⟩)
  have hb:∀ y,y∈b->y.addr G x.T=y.addr G s.T:=fun y hy=>ad (y:=y) (fun t h=>by
   simp only[dR.tmps,ahS,aiR];exact .inr ⟨y,hy,h⟩)
  have e1:(a.map fun a=>a.addr G x.T)=a.map fun a=>a.addr G s.T:=aib ha
  have e2:(b.map fun a=>a.addr G x.T)=b.map fun a=>a.addr G s.T:=aib hb
  have e3:(a.map fun a=>(a.addr G x.T).drop)=a.map fun a=>(a.addr G s.T).drop:=aib fun y hy=>by rw[ha y hy]
  have e4:(b.map fun a=>(a.addr G x.T).drop)=b.map fun a=>(a.addr G s.T).drop:=aib fun y hy=>by rw[hb y hy]
  exact stay (fun t h=>by cases h) rfl (by simp only[ai];rw[e1,e2,e3,e4,h0,cond_true])
 case load take agg sz y =>
  simp only[ahM] at he
  subst he
  have jb:=hc y (.inl ⟨take,agg,sz,rfl⟩)
  simp only[cU,ai] at bb ⊢
  rw[ad (y:=y) (fun t h=>ahS.2 (.inl h))]
  generalize y.addr G s.T=Y at bb jb
  have hw:∀ t,t∈(cond (take&&!agg) (fw c) [])->t∈y.tmps++fw c:=by
   intro t ht
   cases hb:(take&&!agg) with
   | false=>rw[hb] at ht;cases ht
   | true=>rw[hb] at ht;exact ahS.2 (.inr ht)
  cases Y<;>simp only[cO] at bb<;>try (cases bb;done)
  case eptr cs =>
   simp only[ahK,ahN] at bb
   obtain⟨v,hv,rfl,rfl⟩:=bb
   exact⟨none,by simp only[cO,hv,ah0],dS.stay ha hw,hw⟩
  case ref loc off =>
   cases c with
   | frame b=>cases jb
   | QA=>cases jb
   | heap =>
    obtain⟨hH,hl⟩:=ha.H (.inl rfl)
    split at bb
    ·rename_i ty cs Hh
     simp only[ahK,ahN] at bb
     obtain⟨v,hv,rfl,rfl⟩:=bb
     by_cases hta:take=true/\agg=false
     ·obtain⟨rfl,rfl⟩:=hta
      refine⟨some (x.fa ⟨s.H.set loc (.box ty (bV off cs)),loc⟩),by simp only[cO,hH,Hh,hv,ah0,aiH,ai1,cond_true],⟨fun k hk=>(by cases hk),fun k hk=>rfl,fun _=>⟨rfl,?_⟩,fun h=>(by cases h),fun h=>(by cases h),fun _=>rfl⟩,hw⟩
      simp only[aiH,ai1,cond_true,aiC,AS.fa,hl]
     ·have hb:(take&&!agg)=false:=by cases take<;>cases agg<;>simp_all
      have pd:∀ A:AS,(cond (take&&!agg) (some A) none:Option AS)=none:=fun A=>by rw[hb];rfl
      rw[pd]
      exact⟨none,by simp only[cO,hH,Hh,hv,ah0,pd],dS.stay ha hw,hw⟩
    ·rename_i cs Hh
     simp only[ahK,ahN] at bb
     obtain⟨v,hv,rfl,rfl⟩:=bb
     exact⟨none,by simp only[cO,hH,Hh,hv,ah0],dS.stay ha hw,hw⟩
    ·rename_i cs Hh
     simp only[ahK,ahN] at bb
     obtain⟨v,hv,rfl,rfl⟩:=bb
     exact⟨none,by simp only[cO,hH,Hh,hv,ah0],dS.stay ha hw,hw⟩
    ·cases bb
  case lref b g off =>
   cases c with
   | QA=>cases jb
   | heap=>cases jb
   | frame b' =>
    simp only[fy,dV,ah8] at jb
    subst jb
    have YS:=ha.T b' (ahS.2 (.inr (ah4.2 rfl)))
    split at bb
    ·rename_i g' cs hT
     obtain⟨h0,bb⟩:=ab bb
     simp only[ahK,ahN] at bb
     obtain⟨v,hv,rfl,rfl⟩:=bb
     rw[hT] at YS
     by_cases hta:take=true/\agg=false
     ·obtain⟨rfl,rfl⟩:=hta
      refine⟨some (x.br b' (.lbox g (bV off cs))),by simp only[cO,YS,h0,cond_true,hv,ah0,aiH,ai1],⟨fun k hk=>?_,fun k hk=>?_,fun h=>(by cases h),fun _=>⟨rfl,rfl⟩,fun h=>(by cases h),fun _=>rfl⟩,hw⟩
      ·simp only[aiH,ai1,cond_true,fw,ah4] at hk
       simp only[aiH,ai1,cond_true,aiC,dN,hk,ai3]
      ·simp only[aiH,ai1,cond_true,fw,ah4] at hk
       simp only[aiC,dN,if_neg hk]
     ·have hb:(take&&!agg)=false:=by cases take<;>cases agg<;>simp_all
      have pd:∀ A:AS,(cond (take&&!agg) (some A) none:Option AS)=none:=fun A=>by rw[hb];rfl
      rw[pd]
      exact⟨none,by simp only[cO,YS,h0,cond_true,hv,ah0,pd],dS.stay ha hw,hw⟩
    ·cases bb
  case eref=>cases c<;>cases jb
 case nilCheck y =>
  simp only[ahM] at he
  subst he
  have jb:=hc y (.inr (.inr (.inl rfl)))
  simp only[cU,ai] at bb ⊢
  rw[ad (y:=y) (fun t h=>ahS.2 (.inl h))]
  generalize y.addr G s.T=Y at bb jb
  obtain⟨h0,bb⟩:=ab bb
  simp only[ahM,ahN] at bb
  obtain⟨rfl,rfl⟩:=bb
  have h1:=vL h0 jb (fun b hb=>ha.T b (ahS.2 (.inr hb)))
  exact⟨none,by simp only[h1,cond_true],dS.stay ha (fun t h=>by cases h),fun t h=>by cases h⟩
 case fieldAddr off y =>
  simp only[ahM] at he
  subst he
  have jb:=hc y (.inr (.inr (.inr (.inl ⟨off,rfl⟩))))
  simp only[cU,ai] at bb ⊢
  rw[ad (y:=y) (fun t h=>ahS.2 (.inl h))]
  generalize y.addr G s.T=Y at bb jb
  obtain⟨h0,bb⟩:=ab bb
  have pd:=oP bb
  subst pd
  have h1:=vL h0 jb (fun b hb=>ha.T b (ahS.2 (.inr hb)))
  exact⟨none,by simp only[h1,cond_true];exact bb,dS.stay ha (fun t h=>by cases h),fun t h=>by cases h⟩
 case ixArr n sz y i =>
  simp only[ahM] at he
  subst he
  have jb:=hc y (.inr (.inr (.inr (.inr ⟨n,sz,i,rfl⟩))))
  simp only[cU,ai,ahL] at bb ⊢
  obtain⟨k,hk,bb⟩:=bb
  rw[ad (y:=y) (fun t h=>by simp[h]),ev (y:=i) (fun t h=>by simp[h])]
  generalize y.addr G s.T=Y at bb jb
  obtain⟨h0,bb⟩:=ab bb
  simp only[ahR] at h0
  have pd:=oP bb
  subst pd
  have h1:=vL h0.2 jb (fun b hb=>ha.T b (by simp[hb]))
  exact⟨none,⟨k,hk,by simp only[h0.1,h1,ai1,cond_true];exact bb⟩,dS.stay ha (fun t h=>by cases h),fun t h=>by cases h⟩
 case ixSl sz y i =>
  simp only[ahM] at he
  subst he
  have jb:=gu y (.inl ⟨sz,i,rfl⟩)
  simp only[cU,ai] at bb ⊢
  rw[ad (y:=y) (fun t h=>ahS.2 (.inl h)),ev (y:=i) (fun t h=>ahS.2 (.inr h))]
  generalize y.addr G s.T=Y at bb jb
  cases Y<;>try (cases bb;done)
  case slice el own =>
   simp only[ahL] at bb
   obtain⟨k,hk,r,hr,bb⟩:=bb
   obtain⟨h0,bb⟩:=ab bb
   simp only[ahM,ahN] at bb
   obtain⟨rfl,rfl⟩:=bb
   exact⟨none,by simp only[hk,ahV,hr,h0,cond_true],dS.stay ha (fun t h=>by cases h),fun t h=>by cases h⟩
  case sref l o m zz =>
   simp only[ahL] at bb
   obtain⟨k,hk,bb⟩:=bb
   obtain⟨h0,bb⟩:=ab bb
   simp only[ahM,ahN] at bb
   obtain⟨rfl,rfl⟩:=bb
   exact⟨none,by simp only[hk,ahV,h0,cond_true],dS.stay ha (fun t h=>by cases h),fun t h=>by cases h⟩
  case lsr=>cases jb
 case len k y =>
  simp only[ahM] at he
  subst he
  have jb:=gu y (.inr ⟨k,rfl⟩)
  simp only[cU,ai] at bb ⊢
  rw[ad (y:=y) (fun t h=>h)]
  generalize y.addr G s.T=Y at bb jb
  cases Y
  case lsr=>cases jb
  all_goals
   have pd:=oP bb
   subst pd
   exact⟨none,bb,dS.stay ha (fun t h=>by cases h),fun t h=>by cases h⟩
 case store sz y v =>
  simp only[ahM] at he
  subst he
  have jb:=hc y (.inr (.inl ⟨sz,v,rfl⟩))
  have hw:∀ t,t∈v.tmps++fw c->t∈y.tmps++v.tmps++fw c:=fun t ht=>by
   rcases ahS.1 ht with h|h
   ·exact ahS.2 (.inl (ahS.2 (.inr h)))
   ·exact ahS.2 (.inr h)
  have hv:=ev (y:=v) (fun t h=>ahS.2 (.inl (ahS.2 (.inr h))))
  have hvT:∀ t,t∈v.tmps->x.T t=s.T t:=fun t h=>ha.T t (ahS.2 (.inl (ahS.2 (.inr h))))
  simp only[cU,ai,ahK,ahN] at bb ⊢
  obtain⟨s1,bb,rfl,rfl⟩:=bb
  rw[ad (y:=y) (fun t h=>ahS.2 (.inl (ahS.2 (.inl h)))),hv]
  generalize y.addr G s.T=Y at bb jb
  have sp:∀ (s1 x1:AS),(∀ t,t∈v.tmps->x1.T t=s1.T t)->(∀ t,t∈v.tmps->(x1.cm v).T t=(s1.cm v).T t)/\(∀ t,t∉v.tmps->(x1.cm v).T t=x1.T t)/\(∀ t,t∉v.tmps->(s1.cm v).T t=s1.T t):=by
   intro s1 x1 h
   cases v with
   | tmp t0 =>
    have h0:=h t0 (by simp[ak.tmps])
    by_cases ho:∃ el,s1.T t0=.slice el true
    ·obtain⟨el,ho⟩:=ho
     rw[pq s1 t0 ho,pq x1 t0 (h0.trans ho)]
     refine⟨fun t ht=>?_,fun t ht=>?_,fun t ht=>?_⟩
     ·simp only[ak.tmps,ah4] at ht
      rw[dN,dN,if_pos ht,if_pos ht]
     ·simp only[ak.tmps,ah4] at ht
      rw[dN,if_neg ht]
     ·simp only[ak.tmps,ah4] at ht
      rw[dN,if_neg ht]
    ·have mi:∀ el,s1.T t0≠.slice el true:=fun el h=>ho ⟨el,h⟩
     rw[lk s1 t0 mi,lk x1 t0 (fun el h=>mi el (h0.symm.trans h))]
     exact⟨h,fun _ _=>rfl,fun _ _=>rfl⟩
   | _=>exact⟨fun t ht=>by simp[ak.tmps] at ht,fun _ _=>rfl,fun _ _=>rfl⟩
  simp only[a8] at bb ⊢
  split at bb
  ·cases bb
  rename_i vs tD
  obtain⟨h0,ZZ⟩:=ab bb
  clear bb
  have bb:=ZZ
  clear ZZ
  cases Y<;>(try dsimp only at bb ⊢)<;>try (cases bb;done)
  case ref loc off =>
   cases c with
   | frame b=>cases jb
   | QA=>cases jb
   | heap =>
    obtain⟨hH,hl⟩:=ha.H (.inl rfl)
    split at bb
    ·rename_i ty cs Hh
     obtain⟨h1,bb⟩:=ab bb
     injection bb with bb
     subst bb
     obtain⟨k1,k2,k3⟩:=sp (s.fa ⟨s.H.set loc (.box ty (putAt cs off vs)),loc⟩) (x.fa ⟨x.H.set loc (.box ty (putAt cs off vs)),loc⟩) hvT
     refine⟨some ((x.fa ⟨x.H.set loc (.box ty (putAt cs off vs)),loc⟩).cm v),⟨x.fa ⟨x.H.set loc (.box ty (putAt cs off vs)),loc⟩,by simp only[tD,h0,cond_true,hH,Hh,h1],trivial,rfl⟩,⟨fun k hk=>?_,fun k hk=>?_,fun _=>?_,fun h=>(by cases h),fun h=>(by cases h),fun _=>?_⟩,hw⟩
     ·exact k1 k (by simpa [fw] using hk)
     ·exact k2 k (by simpa [fw] using hk)
     ·obtain⟨q1,_,q3⟩:=fM (x.fa ⟨x.H.set loc (.box ty (putAt cs off vs)),loc⟩) v
      obtain⟨r1,_,r3⟩:=fM (s.fa ⟨s.H.set loc (.box ty (putAt cs off vs)),loc⟩) v
      exact⟨q1.trans (Eq.trans (by simp only[AS.fa,hH]) r1.symm),q3.trans (Eq.trans (by simp only[AS.fa,hl]) r3.symm)⟩
     ·obtain⟨_,q2,_⟩:=fM (x.fa ⟨x.H.set loc (.box ty (putAt cs off vs)),loc⟩) v
      exact q2.trans rfl
    ·rename_i cs Hh
     obtain⟨h1,bb⟩:=ab bb
     injection bb with bb
     subst bb
     obtain⟨k1,k2,k3⟩:=sp (s.fa ⟨s.H.set loc (.dM (putAt cs off vs)),loc⟩) (x.fa ⟨x.H.set loc (.dM (putAt cs off vs)),loc⟩) hvT
     refine⟨some ((x.fa ⟨x.H.set loc (.dM (putAt cs off vs)),loc⟩).cm v),⟨x.fa ⟨x.H.set loc (.dM (putAt cs off vs)),loc⟩,by simp only[tD,h0,cond_true,hH,Hh,h1],trivial,rfl⟩,⟨fun k hk=>?_,fun k hk=>?_,fun _=>?_,fun h=>(by cases h),fun h=>(by cases h),fun _=>?_⟩,hw⟩
     ·exact k1 k (by simpa [fw] using hk)
     ·exact k2 k (by simpa [fw] using hk)
     ·obtain⟨q1,_,q3⟩:=fM (x.fa ⟨x.H.set loc (.dM (putAt cs off vs)),loc⟩) v
      obtain⟨r1,_,r3⟩:=fM (s.fa ⟨s.H.set loc (.dM (putAt cs off vs)),loc⟩) v
      exact⟨q1.trans (Eq.trans (by simp only[AS.fa,hH]) r1.symm),q3.trans (Eq.trans (by simp only[AS.fa,hl]) r3.symm)⟩
     ·obtain⟨_,q2,_⟩:=fM (x.fa ⟨x.H.set loc (.dM (putAt cs off vs)),loc⟩) v
      exact q2.trans rfl
    ·cases bb
  case lref b g off =>
   cases c with
   | QA=>cases jb
   | heap=>cases jb
   | frame b' =>
    simp only[fy,dV,ah8] at jb
    subst jb
    have YS:=ha.T b' (ahS.2 (.inr (ah4.2 rfl)))
    split at bb
    ·rename_i g' cs hT
     obtain⟨h1,bb⟩:=ab bb
     injection bb with bb
     subst bb
     rw[hT] at YS
     have adA:∀ t,t∈v.tmps->(x.br b' (.lbox g (putAt cs off vs))).T t=(s.br b' (.lbox g (putAt cs off vs))).T t:=fun t ht=>by rw[dN,dN,hvT t ht]
     obtain⟨k1,k2,k3⟩:=sp _ _ adA
     refine⟨some ((x.br b' (.lbox g (putAt cs off vs))).cm v),⟨x.br b' (.lbox g (putAt cs off vs)),by simp only[tD,h0,cond_true,YS,h1],trivial,rfl⟩,⟨fun k hk=>?_,fun k hk=>?_,fun h=>(by cases h),fun _=>?_,fun h=>(by cases h),fun _=>?_⟩,hw⟩
     ·by_cases Pp:k∈v.tmps
      ·exact k1 k Pp
      ·have uy:k=b':=by
        rcases ahS.1 hk with h|h
        ·exact absurd h Pp
        ·exact ah4.1 h
       show ((x.br b' _).cm v).T k=((s.br b' _).cm v).T k
       rw[k2 k Pp,k3 k Pp,dN,dN,if_pos uy,if_pos uy]
     ·have Pp:k∉v.tmps:=fun h=>hk (ahS.2 (.inl h))
      have uy:k≠b':=fun h=>hk (ahS.2 (.inr (ah4.2 h)))
      show ((x.br b' _).cm v).T k=x.T k
      rw[k2 k Pp,dN,if_neg uy]
     ·obtain⟨q1,_,q3⟩:=fM (x.br b' (.lbox g (putAt cs off vs))) v
      exact⟨q1.trans rfl,q3.trans rfl⟩
     ·obtain⟨_,q2,_⟩:=fM (x.br b' (.lbox g (putAt cs off vs))) v
      exact q2.trans rfl
    ·cases bb
  case eref=>cases c<;>cases jb
 case append isB wr sz bytes y1 y2 =>
  cases wr with
  | true=>cases he
  | false =>
   simp only[ahW,ahM] at he
   subst he
   have hw:∀ t,t∈y1.tmps->t∈y1.tmps++y2.tmps:=fun t h=>ahS.2 (.inl h)
   have h2:=ev (y:=y2) (fun t h=>ahS.2 (.inr h))
   simp only[cU,ai] at bb ⊢
   cases y1 with
   | tmp t =>
    have ht:=ha.T t (by simp[ak.tmps])
    simp only[dX] at bb ⊢
    rw[ht,h2]
    split at bb
    ·simp only[ahL] at bb
     obtain⟨f,_,bb⟩:=bb
     simp at bb
    ·rename_i el own hT
     simp only[ahW,ahK,ahN] at bb
     obtain⟨z',hz,rfl,rfl⟩:=bb
     refine⟨some (x.br t (.slice el false)),by simp only[ahW,hz,ah0],⟨fun k hk=>?_,fun k hk=>?_,fun h=>(by cases h),fun _=>⟨rfl,rfl⟩,fun h=>(by cases h),fun _=>rfl⟩,hw⟩
     ·simp only[ak.tmps,ah4] at hk
      simp only[aiC,dN,hk,ai3]
     ·simp only[ak.tmps,ah4] at hk
      simp only[aiC,dN,if_neg hk]
    ·simp only[ahW,ahK,ahN] at bb
     obtain⟨z',hz,rfl,rfl⟩:=bb
     exact⟨some x,by simp only[ahW,hz,ah0],dS.stay ha hw,hw⟩
    ·cases bb
   | _ =>
    simp only[dX,ahW] at bb ⊢
    have pd:=oP bb
    subst pd
    rw[h2]
    exact⟨none,bb,dS.stay ha hw,hw⟩
 case appendO sz bytes y1 y2 =>
  simp only[ahM] at he
  subst he
  obtain⟨hH,hl⟩:=ha.H (.inl rfl)
  simp only[cU,ai] at bb ⊢
  rw[ad (y:=y1) (fun t h=>ahS.2 (.inl h)),ev (y:=y2) (fun t h=>ahS.2 (.inr h))]
  simp only[jl] at bb ⊢
  split at bb
  ·rename_i v hn
   simp only[ahM,ahN] at bb
   obtain⟨rfl,rfl⟩:=bb
   exact⟨none,rfl,dS.stay ha (fun t h=>by cases h),fun t h=>by cases h⟩
  simp only[ja,ahL] at bb ⊢
  obtain⟨f,hf,bb⟩:=bb
  have fin:∀ (c0:fD),dS ⟨y1.tmps++y2.tmps,[],true,true,false⟩ (s.fa c0) x (x.fa c0):=fun c0=>⟨fun k hk=>(by cases hk),fun _ _=>rfl,fun _=>⟨rfl,by simp only[AS.fa,hl]⟩,fun h=>(by cases h),fun h=>(by cases h),fun _=>rfl⟩
  split at bb
  ·obtain⟨h0,bb⟩:=ab bb
   simp only[ahM,ahN] at bb
   obtain⟨rfl,rfl⟩:=bb
   rename_i hY
   exact⟨some (x.fa ⟨s.H++[dm.box cN f.flatten],s.H.length⟩),⟨f,hf,by simp only[h0,cond_true,hH]⟩,fin ⟨s.H++[dm.box cN f.flatten],s.H.length⟩,fun t h=>by cases h⟩
  ·obtain⟨h0,bb⟩:=ab bb
   simp only[ahM,ahN] at bb
   obtain⟨rfl,rfl⟩:=bb
   rename_i hY
   exact⟨some (x.fa ⟨s.H++[dm.box cN f.flatten],s.H.length⟩),⟨f,hf,by simp only[h0,cond_true,hH]⟩,fin ⟨s.H++[dm.box cN f.flatten],s.H.length⟩,fun t h=>by cases h⟩
  ·rename_i l o n zz hY
   split at bb
   ·rename_i ty cs Hh
    obtain⟨h0,bb⟩:=ab bb
    simp only[ahM,ahN] at bb
    obtain⟨rfl,rfl⟩:=bb
    exact⟨some (x.fa ⟨s.H.set l .dead++[dm.box cN (cs++f.flatten)],l⟩),⟨f,hf,by simp only[hH,Hh,h0,cond_true]⟩,fin ⟨s.H.set l .dead++[dm.box cN (cs++f.flatten)],l⟩,fun t h=>by cases h⟩
   ·cases bb
  ·cases bb
 case copyO y1 y2 =>
  simp only[ahM] at he
  subst he
  obtain⟨hH,hl⟩:=ha.H (.inl rfl)
  simp only[cU,ai] at bb ⊢
  rw[ad (y:=y1) (fun t h=>ahS.2 (.inl h)),ev (y:=y2) (fun t h=>ahS.2 (.inr h))]
  simp only[kS] at bb ⊢
  have fin:∀ (c0:fD),dS ⟨y1.tmps++y2.tmps,[],true,true,false⟩ (s.fa c0) x (x.fa c0):=fun c0=>⟨fun k hk=>(by cases hk),fun _ _=>rfl,fun _=>⟨rfl,by simp only[AS.fa,hl]⟩,fun h=>(by cases h),fun h=>(by cases h),fun _=>rfl⟩
  split at bb
  ·rename_i l o n zz f own hY hZ
   split at bb
   ·rename_i cs Hh
    obtain⟨h0,bb⟩:=ab bb
    simp only[ahM,ahN] at bb
    obtain⟨rfl,rfl⟩:=bb
    exact⟨some (x.fa ⟨s.H.set l (.dM (putAt cs o (f.take (Nat.min f.length n)).flatten)),l⟩),by simp only[hH,Hh,h0,cond_true],fin ⟨s.H.set l (.dM (putAt cs o (f.take (Nat.min f.length n)).flatten)),l⟩,fun t h=>by cases h⟩
   ·cases bb
  ·simp only[ahM,ahN] at bb
   obtain⟨rfl,rfl⟩:=bb
   exact⟨none,rfl,dS.stay ha (fun t h=>by cases h),fun t h=>by cases h⟩
  ·cases bb
 case call f args =>
  simp only[ahM] at he
  subst he
  obtain⟨hH,hl⟩:=ha.H (.inl rfl)
  have hf:=ev (y:=f) (fun t h=>by simp only[dR.tmps,ahS];exact .inl h)
  have had:∀ y,y∈args->y.addr G x.T=y.addr G s.T:=fun y hy=>ad (y:=y) (fun t h=>by simp only[dR.tmps,ahS,aiR];exact .inr ⟨y,hy,h⟩)
  have e1:(args.map fun a=>a.addr G x.T)=args.map fun a=>a.addr G s.T:=aib had
  have e2:(args.map fun a=>(a.addr G x.T).bc)=args.map fun a=>(a.addr G s.T).bc:=aib fun y hy=>by rw[had y hy]
  have Hs:∀ t,t∈([]:List Nat)->t∈(dR.call f args).tmps:=fun t h=>by cases h
  cases pc with
  | true =>
   simp only[cU,cond_true,ai] at bb ⊢
   rw[hf,e1,e2,hH]
   split at bb
   ·obtain⟨h0,bb⟩:=ab bb
    simp only[ahL] at bb
    obtain⟨r,hr,bb⟩:=bb
    split at bb
    ·rename_i h2
     simp only[ahM,ahN] at bb
     obtain⟨rfl,rfl⟩:=bb
     exact⟨none,by simp only[h0,cond_true,hr,ah0,h2,akg],dS.stay ha Hs,Hs⟩
    ·cases bb
   ·cases bb
  | false =>
   simp only[cU,ahW,ai] at bb ⊢
   rw[hf,e1,e2,hH]
   split at bb
   ·obtain⟨h0,bb⟩:=ab bb
    simp only[ahK,ahN] at bb
    obtain⟨r,hr,rfl,rfl⟩:=bb
    refine⟨r.2.map x.fa,by simp only[h0,cond_true,hr,ah0],?_,Hs⟩
    cases h2:r.2 with
    | none=>exact dS.stay ha Hs
    | some c0=>exact⟨fun k hk=>(by cases hk),fun _ _=>rfl,fun _=>⟨rfl,by simp only[ah0,aiC,AS.fa,hl]⟩,fun h=>(by cases h),fun h=>(by cases h),fun _=>rfl⟩
   ·cases bb
theorem Bu{pc:Bool}{c:JT}{op:dR}(he:xM pc c op=some e):∀ t,t∈e.ws->t∈e.rs:=by
 intro t ht
 cases op<;>simp only[xM] at he<;>try (cases he;done)
 case mov take obj y =>
  cases obj with
  | true=>cases he
  | false =>
   simp only[ahW,ahM] at he
   subst he
   cases take with
   | true=>exact ht
   | false=>cases ht
 case load take agg sz y =>
  simp only[ahM] at he
  subst he
  cases hb:(take&&!agg) with
  | true=>simp only[hb,cond_true] at ht;exact ahS.2 (.inr ht)
  | false=>simp only[hb,ahW] at ht;cases ht
 case store sz y v =>
  simp only[ahM] at he
  subst he
  rcases ahS.1 ht with h|h
  ·exact ahS.2 (.inl (ahS.2 (.inr h)))
  ·exact ahS.2 (.inr h)
 case append isB wr sz bytes y1 y2 =>
  cases wr with
  | true=>cases he
  | false =>
   simp only[ahW,ahM] at he
   subst he
   exact ahS.2 (.inl ht)
 all_goals
  simp only[ahM] at he
  subst he
  cases ht
theorem vN{mode pc:Bool}{is:List az}{L:List Nat}{o:az}(he:Bt mode pc is L o=some e)
  (hc:∀ c y,tf mode is L o.op=some (c,y)->(∀ g w,o.guard=some (g,w)->s.T g=.bool w)->fy c (y.addr G s.T)=true) {s1:AS}
  (bb:bO G cf false s (iw pc o)=some s1) (ha:UQ e s x):∃ x1,bO G cf false x o=some x1/\dS e s1 x x1/\(∀ t,t∈e.ws->t∈o.dst.toList\/t∈e.rs):=by
 simp only[Bt,ahK] at he
 obtain⟨e0,he0,rfl⟩:=he
 rw[tK] at bb
 have ha0:UQ e0 s x:=⟨fun t ht=>ha.T t (ahS.2 (.inr ht)),ha.H,ha.G⟩
 have Aq:∀ (q:AS) (d:Option Nat) (v:AV) (k:Nat),(q.b9 d v).T k=if k∈d.toList then v else q.T k:=by
  intro q d v k
  cases d with
  | none=>simp[AS.b9]
  | some d=>simp only[AS.b9,dN,Option.toList_some,ah4]
 have put:∀ (v:AV) (s2 x2:AS),dS e0 s2 x x2->(∀ t,t∈e0.ws->t∈e0.rs) ->
   dS ⟨(match o.guard with|some (g,_)=>[g]|none=>[])++e0.rs,o.dst.toList++e0.ws,e0.rh,e0.wh,e0.wg⟩ (s2.b9 o.dst v) x (x2.b9 o.dst v)/\(∀ t,t∈o.dst.toList++e0.ws->t∈o.dst.toList\/t∈(match o.guard with|some (g,_)=>[g]|none=>[])++e0.rs):=by
  intro v s2 x2 hM hw
  refine⟨⟨fun t ht=>?_,fun t ht=>?_,fun h=>?_,fun h=>?_,fun h=>?_,fun h=>?_⟩,fun t ht=>?_⟩
  ·rw[Aq,Aq]
   by_cases hd:t∈o.dst.toList
   ·rw[if_pos hd,if_pos hd]
   ·rw[if_neg hd,if_neg hd]
    rcases ahS.1 ht with h|h
    ·exact absurd h hd
    ·exact hM.T t h
  ·rw[Aq,if_neg (fun h=>ht (ahS.2 (.inl h)))]
   exact hM.T' t (fun h=>ht (ahS.2 (.inr h)))
  ·rw[(gN s2 o.dst v).1,(gN s2 o.dst v).2.2,(gN x2 o.dst v).1,(gN x2 o.dst v).2.2];exact hM.H h
  ·rw[(gN x2 o.dst v).1,(gN x2 o.dst v).2.2];exact hM.H' h
  ·rw[(gN s2 o.dst v).2.1,(gN x2 o.dst v).2.1];exact hM.G h
  ·rw[(gN x2 o.dst v).2.1];exact hM.G' h
  ·rcases ahS.1 ht with h|h
   ·exact .inl h
   ·exact .inr (ahS.2 (.inr (hw t h)))
 have run:(∀ g w,o.guard=some (g,w)->s.T g=.bool w)->((ai G cf s (cU pc o.op)).bind fun r=>match r.2 with
   | none=>cond (false&&(aQ r.1).isSome) none (some (s.b9 o.dst r.1))
   | some s'=>cond false none (some (s'.b9 o.dst r.1)))=some s1 ->
   ∃ x1,((ai G cf x o.op).bind fun r=>match r.2 with
    | none=>cond (false&&(aQ r.1).isSome) none (some (x.b9 o.dst r.1))
    | some s'=>cond false none (some (s'.b9 o.dst r.1)))=some x1/\dS ⟨(match o.guard with|some (g,_)=>[g]|none=>[])++e0.rs,o.dst.toList++e0.ws,e0.rh,e0.wh,e0.wg⟩ s1 x x1 /\
    (∀ t,t∈o.dst.toList++e0.ws->t∈o.dst.toList\/t∈(match o.guard with|some (g,_)=>[g]|none=>[])++e0.rs):=by
  intro hg hr
  simp only[ahL] at hr
  obtain⟨⟨z,so⟩,hz,hr⟩:=hr
  obtain⟨xo,h1,h2,h3⟩:=R9 he0 (fun y hy=>by
    have key:∃ c,tf mode is L o.op=some (c,y):=by
     rcases hy with ⟨t,a,z,h⟩|⟨z,v,h⟩|h|⟨f,h⟩|⟨n,z,i,h⟩<;>rw[h]<;>exact⟨_,rfl⟩
    obtain⟨c,hk⟩:=key
    rw[hk]
    exact hc c y hk hg)
   (fun y hy=>by
    have key:tf mode is L o.op=some (.heap,y):=by
     rcases hy with ⟨z,i,h⟩|⟨k,h⟩<;>rw[h]<;>rfl
    exact hc _ y key hg) hz ha0
  have zO:s1=(so.getD s).b9 o.dst z:=by
   cases so with
   | none=>simp only[aiu,ahW,ahM] at hr;exact hr.symm
   | some s2=>simp only[ahW,ahM] at hr;exact hr.symm
  subst zO
  obtain⟨p1,p2⟩:=put z _ _ h2 h3
  refine⟨(xo.getD x).b9 o.dst z,?_,p1,p2⟩
  rw[h1]
  cases xo with
  | none=>rfl
  | some x2=>rfl
 unfold bO at bb ⊢
 cases AK:o.guard with
 | none =>
  rw[AK] at run
  simp only[AK] at bb ⊢
  exact run (fun g w h=>by cases h) bb
 | some gw =>
  obtain⟨g,w⟩:=gw
  have hxg:x.T g=s.T g:=ha.T g (by rw[AK];exact ahS.2 (.inl (ah4.2 rfl)))
  simp only[AK] at bb ⊢
  rw[hxg]
  rw[AK] at run put
  have skip:some (s.b9 o.dst .undef)=some s1->∃ x1,some (x.b9 o.dst .undef)=some x1/\dS ⟨[g]++e0.rs,o.dst.toList++e0.ws,e0.rh,e0.wh,e0.wg⟩ s1 x x1/\(∀ t,t∈o.dst.toList++e0.ws->t∈o.dst.toList\/t∈[g]++e0.rs):=by
   intro h
   injection h with h
   subst h
   obtain⟨p1,p2⟩:=put .undef s x (dS.stay ha0 (Bu he0)) (Bu he0)
   exact⟨_,rfl,p1,p2⟩
  generalize hX:s.T g=X at bb
  cases X with
  | bool b =>
   simp only at bb ⊢
   cases hb:(b==w) with
   | true =>
    rw[hb] at bb
    simp only[cond_true] at bb ⊢
    exact run (fun g' w' h=>by injection h with h;injection h with h1 h2;subst h1 h2;rw[hX];congr 1;simpa using hb) bb
   | false =>
    rw[hb] at bb
    simp only[ahW] at bb ⊢
    exact skip bb
  | tuple vs =>
   cases vs with
   | nil=>exact skip bb
   | cons v vs=>cases bb
  | _=>cases bb
end
section
variable {α:Type}{S:Nat->AS}{f:AS->α}{w X:Nat->Prop}{n k:Nat}{x x1:AS}
def yR(S:Nat->AS)(f:AS->α)(w X:Nat->Prop)(x:AS):Prop :=
 (∃ i,X i/\w i/\(∀ j,X j->w j->j<=i)/\f x=f (S (i+1)))\/((∀ j,X j->¬ w j)/\f x=f (S 0))
theorem uR(hf:∀ j,j<n->¬ w j->f (S (j+1))=f (S j)){a:Nat} : ∀ (b:Nat),a<=b->b<=n->(∀ j,a<=j->j<b->¬ w j)->f (S b)=f (S a):=by
 intro b
 induction b with
 | zero=>intro h _ _;rw[show a=0 by omega]
 | succ b ih =>
  intro h1 h2 h3
  rcases aja b a with h|h
  ·rw[show a=b+1 by omega]
  ·rw[hf b (by omega) (h3 b h (by omega)),ih h (by omega) (fun j a1 a2=>h3 j a1 (by omega))]
theorem o6(hf:∀ j,j<n->¬ w j->f (S (j+1))=f (S j))(hk:k<=n)(hC:yR S f w X x)(h1:∀ j,j<k->w j->X j)(h2:∀ j,X j->w j->j<k):f x=f (S k):=by
 rcases hC with ⟨i,hX,hw,hm,he⟩|⟨j6,he⟩
 ·rw[he]
  refine (uR hf k (h2 i hX hw) hk (fun j a b I7=>?_)).symm
  have:=hm j (h1 j b I7) I7
  omega
 ·rw[he]
  exact (uR hf k (aiB _) hk (fun j a b I7=>j6 j (h1 j b I7) I7)).symm
theorem pZ(hw:w k)(hm:∀ j,X j->w j->j<=k)(he:f x1=f (S (k+1))):yR S f w (fun j=>X j\/j=k) x1 :=
 .inl ⟨k,.inr rfl,hw,fun j hj I7=>by rcases hj with h|h;exact hm j h I7;omega,he⟩
theorem sq(hw:¬ w k)(hC:yR S f w X x)(he:f x1=f x):yR S f w (fun j=>X j\/j=k) x1:=by
 rcases hC with ⟨i,hX,hwi,hm,h⟩|⟨j6,h⟩
 ·exact .inl ⟨i,.inl hX,hwi,fun j hj I7=>by
   rcases hj with h'|h'
   ·exact hm j h' I7
   ·subst h';exact absurd I7 hw,by rw[he,h]⟩
 ·exact .inr ⟨fun j hj I7=>by
   rcases hj with h'|h'
   ·exact j6 j h' I7
   ·subst h';exact hw I7,by rw[he,h]⟩
theorem pY{Y:Nat->Prop}(h:∀ j,X j↔Y j)(hC:yR S f w X x):yR S f w Y x:=by
 rcases hC with ⟨i,hX,hwi,hm,h'⟩|⟨j6,h'⟩
 ·exact .inl ⟨i,(h i).1 hX,hwi,fun j hj=>hm j ((h j).2 hj),h'⟩
 ·exact .inr ⟨fun j hj=>j6 j ((h j).2 hj),h'⟩
structure pU (S:Nat->AS) (E:Nat->xx) (X:Nat->Prop) (x:AS):Prop where
 T:∀ t,yR S (fun s=>s.T t) (fun j=>t∈(E j).ws) X x
 H:yR S (fun s=>(s.H,s.lo)) (fun j=>(E j).wh=true) X x
 G:yR S (fun s=>s.gen) (fun j=>(E j).wg=true) X x
structure J9 (S:Nat->AS) (E:Nat->xx) (n:Nat):Prop where
 T:∀ t j,j<n->¬ (t∈(E j).ws)->(S (j+1)).T t=(S j).T t
 H:∀ j,j<n->¬ ((E j).wh=true)->((S (j+1)).H,(S (j+1)).lo)=((S j).H,(S j).lo)
 G:∀ j,j<n->¬ ((E j).wg=true)->(S (j+1)).gen=(S j).gen
theorem sK{x y:List Nat}{t:Nat}(h1:t∈x)(h2:t∈y):meets x y=true:=by
 simp only[meets,List.any_eq_true]
 exact⟨t,h1,by simpa using h2⟩
theorem DN{E:Nat->xx}(hK:J9 S E n)(hk:k<n)(hB:pU S E X x)(hX:¬ X k)(h1:∀ j,j<k->conflict (E k) (E j)=true->X j)(h2:∀ j,k<j->conflict (E j) (E k)=true->¬ X j):UQ (E k) (S k) x:=by
 have lt:∀ j,X j->j<k\/k<j:=fun j h=>by
  rcases ajJ j k with a|a|a
  ·exact .inl a
  ·subst a;exact absurd h hX
  ·exact .inr a
 refine⟨fun t ht=>?_,fun hh=>?_,fun hg=>?_⟩
 ·refine o6 (fun j=>hK.T t j) (ako hk) (hB.T t) (fun j hj hw=>h1 j hj ?_) (fun j hj hw=>?_)
  ·simp only[conflict,sK hw ht,akx,ajL]
  ·rcases lt j hj with a|a
   ·exact a
   ·exact absurd hj (h2 j a (by simp only[conflict,sK hw ht,akx,ajL]))
 ·have:=o6 (fun j=>hK.H j) (ako hk) hB.H (fun j hj hw=>h1 j hj (by
   rcases hh with h|h<;>simp[conflict,hw,h])) (fun j hj hw=>by
   rcases lt j hj with a|a
   ·exact a
   ·exact absurd hj (h2 j a (by rcases hh with h|h<;>simp[conflict,hw,h])))
  simp only[ahN] at this
  exact this
 ·exact o6 (fun j=>hK.G j) (ako hk) hB.G (fun j hj hw=>h1 j hj (by simp[conflict,hw,hg])) (fun j hj hw=>by
   rcases lt j hj with a|a
   ·exact a
   ·exact absurd hj (h2 j a (by simp[conflict,hw,hg])))
theorem A3{E:Nat->xx}(hB:pU S E X x)(hX:¬ X k)(h2:∀ j,k<j->conflict (E j) (E k)=true->¬ X j)(hM:dS (E k) (S (k+1)) x x1):pU S E (fun j=>X j\/j=k) x1:=by
 have le:∀ j,X j->(k<j->conflict (E j) (E k)=true)->j<=k:=fun j h hc=>by
  rcases aja k j with a|a
  ·exact absurd h (h2 j a (hc a))
  ·exact a
 refine⟨fun t=>?_,?_,?_⟩
 ·by_cases ht:t∈(E k).ws
  ·exact pZ ht (fun j hj hw=>le j hj fun _=>by simp only[conflict,sK hw ht,akx,ajL]) (hM.T t ht)
  ·exact sq ht (hB.T t) (hM.T' t ht)
 ·by_cases hh:(E k).wh=true
  ·exact pZ hh (fun j hj hw=>le j hj fun _=>by simp[conflict,hw,hh]) (by simp only[hM.H hh])
  ·have:=hM.H' (by simpa using hh)
   exact sq hh hB.H (by simp only[this])
 ·by_cases hg:(E k).wg=true
  ·exact pZ hg (fun j hj hw=>le j hj fun _=>by simp[conflict,hw,hg]) (hM.G hg)
  ·exact sq hg hB.G (hM.G' (by simpa using hg))
theorem DO{E:Nat->xx}(hK:J9 S E n)(hB:pU S E X x)(hX:∀ j,X j↔j<n):x=S n:=by
 have hT:x.T=(S n).T:=funext fun t=>o6 (fun j=>hK.T t j) (ahQ _) (hB.T t) (fun j hj _=>(hX j).2 hj) (fun j hj _=>(hX j).1 hj)
 have hH:=o6 (fun j=>hK.H j) (ahQ _) hB.H (fun j hj _=>(hX j).2 hj) (fun j hj _=>(hX j).1 hj)
 have hG:=o6 (fun j=>hK.G j) (ahQ _) hB.G (fun j hj _=>(hX j).2 hj) (fun j hj _=>(hX j).1 hj)
 simp only[ahN] at hH
 obtain⟨h1,h2⟩:=hH
 cases x
 generalize S n=y at hT h1 h2 hG
 cases y
 simp only at hT h1 h2 hG
 subst hT h1 h2 hG
 rfl
theorem A2{E:Nat->xx}(hX:∀ j,¬ X j):pU S E X (S 0) :=
 ⟨fun _=>.inr ⟨fun j h=>absurd h (hX j),rfl⟩,.inr ⟨fun j h=>absurd h (hX j),rfl⟩,.inr ⟨fun j h=>absurd h (hX j),rfl⟩⟩
end
theorem vV(ops:List Oper):∀ (k:Nat) (o:Oper),ops[k]?=some o->∀ p,p∈(nH ops).getD k []->∃ e,e∈o.after.toList/\Region.binds .any e=true/\(p=e.on\/p∈(nH ops).getD e.on []):=by
 have key:∀ (l r:List Oper) (t:List (List Nat)),t.length=l.length->(∀ (k:Nat) (o:Oper),l[k]?=some o->∀ p,p∈t.getD k []->∃ e,e∈o.after.toList/\Region.binds .any e=true/\(p=e.on\/p∈t.getD e.on [])) ->
   let t':=r.foldl (fun t o=>t++[(o.after.toList.flatMap fun e=>cond (Region.binds .any e) (e.on :: t.getD e.on []) []).eraseDups]) t
   ∀ (k:Nat) (o:Oper),(l++r)[k]?=some o->∀ p,p∈t'.getD k []->∃ e,e∈o.after.toList/\Region.binds .any e=true/\(p=e.on\/p∈t'.getD e.on []):=by
  intro l r
  induction r generalizing l with
  | nil=>intro t hl h;simpa using h
  | cons o r ih =>
   intro t hl h
   have:=ih (l++[o]) (t++[(o.after.toList.flatMap fun e=>cond (Region.binds .any e) (e.on :: t.getD e.on []) []).eraseDups]) (by simp[hl]) (fun k o' hk p hp=>?_)
   ·simpa using this
   ·have grow:∀ (v:List Nat) (i q:Nat),q∈t.getD i []->q∈(t++[v]).getD i []:=by
     intro v i q hq
     have:i<t.length:=by
      rcases aja i t.length with h|h
      ·exact h
      ·rw[aim,air h] at hq;cases hq
     rw[aim,ah6 this,<- aim];exact hq
    rcases ajJ k l.length with a|a|a
    ·rw[ah6 a] at hk
     rw[aim,ah6 (by omega),<- aim] at hp
     obtain⟨e,h1,h2,h3⟩:=h k o' hk p hp
     exact⟨e,h1,h2,h3.imp id (grow _ _ _)⟩
    ·subst a
     simp only[aic (ahQ _),ajO,ah',ahM] at hk
     subst hk
     rw[aim,aic (by omega),hl,ajO] at hp
     simp only[ah',aiC,List.mem_eraseDups,aiR] at hp
     obtain⟨e,h1,hp⟩:=hp
     cases hb:Region.binds .any e with
     | false=>rw[hb] at hp;cases hp
     | true =>
      rw[hb] at hp
      simp only[cond_true,aii] at hp
      exact⟨e,h1,hb,hp.imp id (grow _ _ _)⟩
    ·rw[aic (by omega)] at hk
     have:k-l.length≠0:=by omega
     obtain⟨m,hm⟩:=Nat.exists_eq_succ_of_ne_zero this
     rw[hm] at hk
     simp at hk
 have:=key [] ops [] rfl (fun k o hk=>by simp at hk)
 simpa [nH] using this
theorem rL{ops:List Oper}{X:Nat->Prop}(ra:∀ (i:Nat) (o:Oper),ops[i]?=some o->∀ e,e∈o.after.toList->Region.binds .any e=true->e.on<i)
  (hX:∀ (i:Nat) (o:Oper),ops[i]?=some o->X i->∀ e,e∈o.after.toList->Region.binds .any e=true->X e.on) :
  ∀ (k:Nat),X k->∀ p,p∈(nH ops).getD k []->X p:=by
 intro k
 induction k using Nat.strongRecOn with
 | _ k ih =>
  intro hk p hp
  cases ho:ops[k]? with
  | none =>
   exfalso
   have hlen:∀ (r:List Oper) (t:List (List Nat)),(r.foldl (fun t o=>t++[(o.after.toList.flatMap fun e=>cond (Region.binds .any e) (e.on :: t.getD e.on []) []).eraseDups]) t).length=t.length+r.length:=by
    intro r
    induction r with
    | nil=>intro t;simp
    | cons o r ih=>intro t;rw[akf,ih];simp;omega
   have h1:(nH ops).length=ops.length:=by rw[nH,hlen];simp
   rw[aim,air (by rw[h1];exact List.getElem?_eq_none_iff.1 ho)] at hp
   cases hp
  | some o =>
   obtain⟨e,h1,h2,h3⟩:=vV ops k o ho p hp
   have h4:=hX k o ho hk e h1 h2
   rcases h3 with h3|h3
   ·rw[h3];exact h4
   ·exact ih e.on (ra k o ho e h1 h2) h4 p h3
theorem CQ{ops:List Oper}{X:Nat->Prop}(ra:∀ (i:Nat) (o:Oper),ops[i]?=some o->∀ e,e∈o.after.toList->Region.binds .any e=true->e.on<i)
  (hX:∀ (i:Nat) (o:Oper),ops[i]?=some o->X i->∀ e,e∈o.after.toList->Region.binds .any e=true->X e.on)
  {k:Nat} {o:Oper} (ho:ops[k]?=some o) (hr:∀ e,e∈o.after.toList->Region.binds .any e=true->X e.on):∀ p,p∈(nH ops).getD k []->X p:=by
 intro p hp
 obtain⟨e,h1,h2,h3⟩:=vV ops k o ho p hp
 rcases h3 with h3|h3
 ·rw[h3];exact hr e h1 h2
 ·exact rL ra hX e.on (hr e h1 h2) p h3
section
variable {G:Nat->List AV}{cf:cz}
theorem GB{pc:Bool}{op:dR}{s:AS}{r:AV × Option AS}(h:ai G cf s (cU pc op)=some r):ai G cf s op=some r:=by
 cases op<;>try exact h
 rename_i f xs
 cases pc with
 | false=>exact h
 | true =>
  simp only[cU,cond_true,ai] at h ⊢
  split at h
  ·obtain⟨h0,h⟩:=ab h
   simp only[ahL] at h
   obtain⟨⟨v,c⟩,h1,h⟩:=h
   simp only[h0,cond_true,h1,ah0]
   cases c with
   | none=>exact h
   | some c=>cases h
  ·cases h
theorem Ap{pc:Bool}{o:az}{s s1:AS}(h:bO G cf false s (iw pc o)=some s1):bO G cf false s o=some s1:=by
 rw[tK] at h
 have run:((ai G cf s (cU pc o.op)).bind fun r=>match r.2 with
   | none=>cond (false&&(aQ r.1).isSome) none (some (s.b9 o.dst r.1))
   | some s'=>cond false none (some (s'.b9 o.dst r.1)))=some s1->((ai G cf s o.op).bind fun r=>match r.2 with
   | none=>cond (false&&(aQ r.1).isSome) none (some (s.b9 o.dst r.1))
   | some s'=>cond false none (some (s'.b9 o.dst r.1)))=some s1:=by
  intro h
  simp only[ahL] at h
  obtain⟨r,hr,h⟩:=h
  rw[GB hr]
  exact h
 unfold bO at h ⊢
 cases AK:o.guard with
 | none=>simp only[AK] at h ⊢;exact run h
 | some gw =>
  obtain⟨g,w⟩:=gw
  simp only[AK] at h ⊢
  generalize s.T g=X at h ⊢
  cases X with
  | bool b =>
   simp only at h ⊢
   cases hb:(b==w) with
   | true=>rw[hb] at h;simp only[cond_true] at h ⊢;exact run h
   | false=>rw[hb] at h;exact h
  | tuple vs=>cases vs with
   | nil=>exact h
   | cons v vs=>cases h
  | _=>cases h
theorem zQ{mode pc:Bool}{is:List az}{L:List Nat} : ∀ (l:List az) (s s' : AS),dU G cf false (inter mode pc is L l) s=some s' ->
  ∃ S:Nat->AS,S 0=s/\S l.length=s'/\∀ (i:Nat) (o:az),l[i]?=some o->(∀ c y,tf mode is L o.op=some (c,y)->(∀ g w,o.guard=some (g,w)->(S i).T g=.bool w)->fy c (y.addr G (S i).T)=true) /\
   bO G cf false (S i) (iw pc o)=some (S (i+1)):=by
 intro l
 induction l with
 | nil =>
  intro s s' h
  simp only[inter,dU,ahM] at h
  exact⟨fun _=>s,rfl,h,fun i o hi=>by simp at hi⟩
 | cons o l ih =>
  intro s s' h
  have body:∀ s1,bO G cf false s (iw pc o)=some s1->dU G cf false (inter mode pc is L l) s1=some s'->(∀ c y,tf mode is L o.op=some (c,y)->(∀ g w,o.guard=some (g,w)->s.T g=.bool w)->fy c (y.addr G s.T)=true) ->
    ∃ S:Nat->AS,S 0=s/\S (o :: l).length=s'/\∀ (i:Nat) (o' : az),(o :: l)[i]?=some o'->(∀ c y,tf mode is L o'.op=some (c,y)->(∀ g w,o'.guard=some (g,w)->(S i).T g=.bool w)->fy c (y.addr G (S i).T)=true) /\
     bO G cf false (S i) (iw pc o')=some (S (i+1)):=by
   intro s1 h1 h2 h3
   obtain⟨S,a,b,c⟩:=ih s1 s' h2
   refine⟨fun i=>match i with|0=>s|i+1=>S i,rfl,b,fun i o' hi=>?_⟩
   cases i with
   | zero =>
    simp only[ah',ahM] at hi
    subst hi
    exact⟨h3,by rw[h1];exact aj8 some a.symm⟩
   | succ i=>exact c i o' (by simpa using hi)
  simp only[inter] at h
  split at h
  ·rename_i c x hk
   simp only[dU,ahL] at h
   obtain⟨s0,h0,s1,h1,h2⟩:=h
   have Ds:s0=s/\((∀ g w,o.guard=some (g,w)->s.T g=.bool w)->fy c (x.addr G s.T)=true):=by
    have run:((ai G cf s (.Ds c x)).bind fun r=>match r.2 with
      | none=>cond (false&&(aQ r.1).isSome) none (some (s.b9 none r.1))
      | some s'=>cond false none (some (s'.b9 none r.1)))=some s0->s0=s/\fy c (x.addr G s.T)=true:=by
     intro h
     simp only[ai] at h
     cases hc:fy c (x.addr G s.T) with
     | false=>rw[hc] at h;cases h
     | true=>rw[hc] at h;simp[AS.b9] at h;exact⟨h.symm,rfl⟩
    unfold bO at h0
    cases AK:o.guard with
    | none=>simp only[AK] at h0;exact⟨(run h0).1,fun _=>(run h0).2⟩
    | some gw =>
     obtain⟨g,w⟩:=gw
     simp only[AK] at h0
     generalize hX:s.T g=X at h0
     cases X with
     | bool b =>
      simp only at h0
      cases hb:(b==w) with
      | true=>rw[hb] at h0;exact⟨(run h0).1,fun _=>(run h0).2⟩
      | false =>
       rw[hb] at h0
       simp only[ahW,AS.b9,ahM] at h0
       refine⟨h0.symm,fun hg=>?_⟩
       have:=hg g w rfl
       rw[hX] at this
       injection this with this
       subst this
       simp at hb
     | tuple vs =>
      cases vs with
      | nil =>
       simp only[AS.b9,ahM] at h0
       refine⟨h0.symm,fun hg=>?_⟩
       have:=hg g w rfl
       rw[hX] at this
       cases this
      | cons v vs=>cases h0
     | _=>cases h0
   obtain⟨rfl,acL⟩:=Ds
   refine body s1 h1 h2 (fun c' y pz=>?_)
   rw[hk] at pz
   injection pz with pz
   injection pz with e1 e2
   subst e1 e2
   exact acL
  ·rename_i hk
   simp only[dU,ahL] at h
   obtain⟨s1,h1,h2⟩:=h
   exact body s1 h1 h2 (fun c' y pz=>by rw[hk] at pz;cases pz)
theorem u7{mode pc:Bool}{is:List az}{L:List Nat} : ∀ {l:List az} {es:List xx},mr mode pc is L l=some es->es.length=l.length/\∀ (i:Nat) (o:az),l[i]?=some o->Bt mode pc is L o=some (es.getD i default)
 | [],es,h=>by simp[mr] at h;subst h;exact⟨rfl,fun i o hi=>by simp at hi⟩
 | o :: l,es,h=>by
  simp only[mr,ahL,ahK] at h
  obtain⟨e,he,rS,h',rfl⟩:=h
  obtain⟨h1,h2⟩:=u7 h'
  refine⟨by simp[h1],fun i o' hi=>?_⟩
  cases i with
  | zero=>simp only[ah',ahM] at hi;subst hi;simpa using he
  | succ i=>simpa using h2 i o' (by simpa using hi)
theorem BB{s s1:AS}{o:az}(h:bO G cf false s o=some s1):∃ z s2,lD G cf false s o=some (z,s2)/\s1=s2.b9 o.dst z:=by
 have run:((ai G cf s o.op).bind fun r=>match r.2 with
   | none=>cond (false&&(aQ r.1).isSome) none (some (s.b9 o.dst r.1))
   | some s'=>cond false none (some (s'.b9 o.dst r.1)))=some s1->∃ z s2,((ai G cf s o.op).bind fun r=>match r.2 with
   | none=>cond (false&&(aQ r.1).isSome) none (some (r.1,s))
   | some s'=>cond false none (some (r.1,s')))=some (z,s2)/\s1=s2.b9 o.dst z:=by
  intro h
  simp only[ahL] at h
  obtain⟨⟨z,so⟩,hr,h⟩:=h
  rw[hr]
  cases so with
  | none=>simp at h;exact⟨z,s,rfl,h.symm⟩
  | some s2=>simp at h;exact⟨z,s2,rfl,h.symm⟩
 unfold bO at h
 unfold lD
 cases AK:o.guard with
 | none=>simp only[AK] at h ⊢;exact run h
 | some gw =>
  obtain⟨g,w⟩:=gw
  simp only[AK] at h ⊢
  generalize s.T g=X at h ⊢
  cases X with
  | bool b =>
   simp only at h ⊢
   cases hb:(b==w) with
   | true=>rw[hb] at h;simp only[cond_true] at h ⊢;exact run h
   | false=>rw[hb] at h;simp only[ahW,ahM] at h ⊢;exact⟨_,_,rfl,h.symm⟩
  | tuple vs=>cases vs with
   | nil=>simp only[ahM] at h ⊢;exact⟨_,_,rfl,h.symm⟩
   | cons v vs=>cases h
  | _=>cases h
end
section
variable {P:Program}{G:Nat->List AV}{base nt:Nat}{L:List Nat}{gh:Gh}{w w' : World}{a:Act}{s:AS}{H:ag}
theorem Bj{cf:cz}(ij:dn P G cf){H0:ag}{gr:Gh}{w0:World}{bR locals muts:List Nat}{ops:Array Oper}(vp:∀ x,x∈locals->x∈L)(uu:∀ x,x∈muts->x∈L)(Q:Exit->Act->World->Prop)
  {is:List az} {mode pc:Bool} {M:List Nat} {es:List xx} (hI:Inv G base nt L H0 gr w0 s gh w a) (hc:fe P bR locals muts nt ops ops.toList=some is) (hes:mr mode pc is M is=some es) (qi:oQ ops.toList es=true)
  {s' : AS} (he:dU G cf false (inter mode pc is M is) s=some s')
  (hQ:∀ a' aD w',Inv G base nt L H0 gr w0 s' aD w' a'->Q .normal a' w'):wpAny P .any ops Q ops.size (Array.replicate ops.size false) a w:=by
 obtain⟨S,h0,hn,hS⟩:=zQ is s s' he
 obtain⟨hlen,B4⟩:=gG hc
 obtain⟨aeI,ZY⟩:=u7 hes
 have fA:ops.size=is.length:=by simpa using hlen
 let E:Nat->xx:=fun i=>es.getD i default
 simp only[oQ,ahR,ahU] at qi
 obtain⟨hb0,qi⟩:=qi
 have ra:∀ (i:Nat) (o:Oper),ops.toList[i]?=some o->∀ e,e∈o.after.toList->Region.binds .any e=true->e.on<i:=by
  intro i o hi e he hb
  have:=hb0 (o,i) (by rw[ajN];exact⟨i,by rw[ajV,hi];simp⟩)
  rw[akb] at this
  have:=this e (by simpa using he)
  simpa [hb,aih] using this
 have Ue:∀ i j,j<i->i<is.length->conflict (E i) (E j)=true->j∈(nH ops.toList).getD i []:=by
  intro i j my hi ij
  have gi:es[i]?=some (E i):=by
   have:i<es.length:=by omega
   simp[E,this]
  have gj:es[j]?=some (E j):=by
   have:j<es.length:=by omega
   simp[E,this]
  have:=qi (E i,i) (by rw[ajN];exact⟨i,by rw[ajV,gi];simp⟩) (E j,j) (by rw[ajN];exact⟨j,by rw[ajV,gj];simp⟩)
  simp only[ij,show Nat.blt j i=true by simpa [aih] using my,aiW,ajD,Bool.or_false] at this
  simpa using this
 have ri:∀ i,i<is.length->∃ io,is[i]?=some io:=fun i hi=>⟨_,ahP hi⟩
 have Kh:∀ (e:xx) (q:AS),UQ e q q:=fun e q=>⟨fun _ _=>rfl,fun _=>⟨rfl,rfl⟩,fun _=>rfl⟩
 have hK:J9 S E is.length:=by
  have mv:∀ j,j<is.length->dS (E j) (S (j+1)) (S j) (S (j+1)):=by
   intro j hj
   obtain⟨io,hi⟩:=ri j hj
   obtain⟨x1,h1,h2,_⟩:=vN (ZY j io hi) (hS j io hi).1 (hS j io hi).2 (Kh _ (S j))
   rw[Ap (hS j io hi).2] at h1
   injection h1 with h1
   rw[<- h1] at h2
   exact h2
  refine⟨fun t j hj hw=>(mv j hj).T' t hw,fun j hj hw=>?_,fun j hj hw=>(mv j hj).G' (by simpa using hw)⟩
  have:=(mv j hj).H' (by simpa using hw)
  simp only[this]
 have fin:∀ (listed:Array Bool) (x:AS),listed.size=ops.size->(∀ i,i<ops.size->listed.getD i false=true)->pU S E (fun i=>listed.getD i false=true) x->x=s':=by
  intro listed x hls fh hB
  rw[<- hn]
  refine DO hK hB (fun i=>⟨fun h=>?_,fun h=>fh i (by omega)⟩)
  have aZ:i<listed.size:=by
   rcases aja i listed.size with h'|h'
   ·exact h'
   ·simp[ai5 h'] at h
  omega
 have main:∀ (n:Nat) (listed:Array Bool) (x:AS) (gh:Gh) (w:World) (a:Act),listed.size=ops.size->(∀ l:List Nat,l.Nodup->(∀ i,i∈l->i<ops.size/\listed.getD i true=false)->l.length<=n) ->
   (∀ j o,ops[j]?=some o->listed.getD j false=true->∀ e,e∈o.after->Region.binds .any e=true->listed.getD e.on false=true) ->
   pU S E (fun i=>listed.getD i false=true) x->Inv G base nt L H0 gr w0 x gh w a->wpAny P .any ops Q n listed a w:=by
  intro n
  induction n with
  | zero =>
   intro listed x gh w a hls FK nD hB hI
   have fh:∀ i,i<ops.size->listed.getD i false=true:=by
    intro i hi
    cases hb:listed.getD i true with
    | true =>
     have:i<listed.size:=by omega
     simpa [this] using hb
    | false =>
     have:=FK [i] (by simp) (fun j hj=>by simp at hj;subst hj;exact⟨hi,hb⟩)
     simp at this
   have qj:Region.ready .any ops listed=[]:=by
    cases hr:Region.ready .any ops listed with
    | nil=>rfl
    | cons i r =>
     have hm:i∈Region.ready .any ops listed:=by rw[hr];exact aid
     obtain⟨h1,o,h2,_⟩:=mem_ready.1 hm
     have aZ:=(ahT.1 h2).1
     have:=fh i aZ
     have ma:i<listed.size:=by omega
     simp[ma] at this h1
     rw[this] at h1
     cases h1
   refine⟨qj,?_⟩
   rw[fin listed x hls fh hB] at hI
   exact hQ a gh w hI
  | succ n ih =>
   intro listed x gh w a hls FK nD hB hI
   refine⟨fun qj=>?_,fun i hi=>?_⟩
   ·have fh:∀ i,i<ops.size->listed.getD i false=true:=by
     intro i
     induction i using Nat.strongRecOn with
     | _ i Dy =>
      intro aZ
      have ma:i<listed.size:=by omega
      cases hb:listed.getD i true with
      | true=>simpa [ma] using hb
      | false =>
       exfalso
       have ho:=ahY aZ
       have:i∈Region.ready .any ops listed:=mem_ready.2 ⟨hb,_,ho,fun e he mT=>by
        have Lx:=ra i _ (by rw[aik];exact ho) e (by simpa using he) mT
        exact Dy e.on Lx (by omega)⟩
       rw[qj] at this
       cases this
    rw[fin listed x hls fh hB] at hI
    exact hQ a gh w hI
   ·obtain⟨Wk,o,ho,vq⟩:=mem_ready.1 hi
    have aZ:=(ahT.1 ho).1
    have ma:i<listed.size:=by omega
    obtain⟨io,ri,bn⟩:=B4 i o (by simpa using ho)
    have I6:¬ (listed.getD i false=true):=by
     simp[ma] at Wk ⊢
     exact Wk
    have B3:∀ (j:Nat) (o:Oper),ops.toList[j]?=some o->listed.getD j false=true->∀ e,e∈o.after.toList->Region.binds .any e=true->listed.getD e.on false=true :=
     fun j o ho h e he hb=>nD j o (by simpa using ho) h e (by simpa using he) hb
    have ready:=CQ (X:=fun i=>listed.getD i false=true) ra B3 (k:=i) (o:=o) (by simpa using ho) (fun e he hb=>vq e (by simpa using he) hb)
    have later:∀ j,i<j->conflict (E j) (E i)=true->¬ (listed.getD j false=true):=by
     intro j ux hcj hj
     have hjs:j<is.length:=by
      rcases aja j listed.size with h'|h'
      ·omega
      ·simp[ai5 h'] at hj
     exact I6 (rL (X:=fun i=>listed.getD i false=true) ra B3 j hj i (Ue j i ux hjs hcj))
    have hA:UQ (E i) (S i) x:=DN hK (by omega) hB I6 (fun j hj hcj=>ready j (Ue i j hj (by omega) hcj)) later
    obtain⟨x1,rr,hM,_⟩:=vN (ZY i io ri) (hS i io ri).1 (hS i io ri).2 hA
    obtain⟨z,s2,bb,rfl⟩:=BB rr
    unfold wpOp
    rw[ho]
    refine mX ij hI bn vp uu bb _ Q (fun a' aD w' jM=>?_)
    rw[<- (iG bn).2.2.1] at jM
    have xh:∀ j,(listed.setIfInBounds i true).getD j false=true↔(listed.getD j false=true\/j=i):=by
     intro j
     by_cases my:i=j
     ·subst my
      simp[ma]
     ·rw[getD_set_ne false my]
      simp[ajs my]
    have hB':=A3 hB I6 later hM
    refine ih (listed.setIfInBounds i true) _ aD w' a' (by simpa using hls) (fun l Ho hl=>?_) (fun j o' mi hj e he mT=>?_) ?_ jM
    ·have VY:i∉l:=by
      intro hm
      have:=(hl i hm).2
      simp[ma] at this
     have:=FK (i :: l) (List.nodup_cons.2 ⟨VY,Ho⟩) (fun j hj=>by
      rcases aii.1 hj with rfl|hj
      ·exact⟨aZ,Wk⟩
      ·have h1:=hl j hj
       have my:i≠j:=by rintro rfl;exact VY hj
       rw[getD_set_ne true my] at h1
       exact h1)
     simp at this
     omega
    ·rcases (xh j).1 hj with h|rfl
     ·exact (xh _).2 (.inl (nD j o' mi h e he mT))
     ·rw[ho] at mi
      injection mi with mi
      subst mi
      exact (xh _).2 (.inl (vq e he mT))
    ·have VX:∀ j,(listed.getD j false=true\/j=i)↔(listed.setIfInBounds i true).getD j false=true:=fun j=>(xh j).symm
     exact⟨fun t=>pY VX (hB'.T t),pY VX hB'.H,pY VX hB'.G⟩
 refine main ops.size _ s gh w a (by simp) (fun l Ho hl=>?_) (fun j o hj h=>?_) ?_ hI
 ·exact sN ops.size l Ho (fun i hi=>(hl i hi).1)
 ·exfalso
  have:(Array.replicate ops.size false).getD j false=false:=by
   by_cases h:j<ops.size<;>simp[h]
  rw[this] at h
  cases h
 ·have j6:∀ i,¬ ((Array.replicate ops.size false).getD i false=true):=by
   intro i h
   have:(Array.replicate ops.size false).getD i false=false:=by
    by_cases h:i<ops.size<;>simp[h]
   rw[this] at h
   cases h
  rw[<- h0]
  exact A2 j6
end
theorem uX{draw:Bool}{L:List Nat}{ops:List Oper}{is:List az}{c:a7}(h:cond draw (uW L ops is) none=some c) :
  draw=true/\∃ mode pc es,mr mode pc is L is=some es/\oQ ops es=true/\c=.region false (inter mode pc is L is):=by
 cases draw with
 | false=>cases h
 | true =>
  refine⟨rfl,?_⟩
  simp only[cond_true,uW] at h
  obtain⟨_,h⟩:=ab h
  have one:∀ mode pc,OW mode pc L ops is=some c->∃ mode pc es,mr mode pc is L is=some es/\oQ ops es=true/\c=.region false (inter mode pc is L is):=by
   intro mode pc h
   simp only[OW,ahL] at h
   obtain⟨es,h1,h⟩:=h
   obtain⟨h2,h⟩:=ab h
   injection h with h
   exact⟨mode,pc,es,h1,h2,h.symm⟩
  split at h
  ·rename_i c' hc;injection h with h;subst h;exact one _ _ hc
  ·split at h
   ·rename_i c' hc
    injection h with h
    subst h
    cases hc7:L.elem 999997 with
    | true=>rw[hc7] at hc;cases hc
    | false=>rw[hc7] at hc;exact one _ _ hc
   ·cases hb:L.elem 999999 with
    | true=>rw[hb] at h;cases h
    | false=>rw[hb] at h;exact one _ _ h
end
end Go.Abs
