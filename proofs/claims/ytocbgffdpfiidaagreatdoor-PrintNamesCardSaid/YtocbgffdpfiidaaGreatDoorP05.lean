/-
  A part of the proof of PrintNames: AbsRun, AbsDraw, AbsDraw2, AbsDraw3, AbsDraw4, AbsDraw5, AbsDraw6.
-/
import Derived.LoopN
import Derived.Scope
import Derived.Tactics
import Derived.Orders
import Derived.Test.YtocbgffdpfiidaaGreatDoorP04
set_option linter.unusedSimpArgs false
set_option linter.unusedVariables false
set_option linter.defProp false
namespace Go.Abs
section
structure dI (H0:ag) (s:AS):Prop where
 lo:s.lo<=H0.length
 len:H0.length<=s.H.length
 same:∀ l,l<s.lo->s.H[l]?=H0[l]?
def uC(s:AS)(c:fz):Prop:=s.H.length<=c.heap.length/\∀ l,l<c.lo->c.heap[l]?=s.H[l]?
theorem dI.dZ{H0:ag}{s:AS}(h:dI H0 s){c:fz}(hc:uC s c):dI H0 (s.dZ c):=by
 have e:(s.dZ c).lo=if c.lo<s.lo then c.lo else s.lo:=by
  simp only[AS.dZ]
  by_cases hb:c.lo<s.lo
  ·rw[if_pos hb,show Nat.blt c.lo s.lo=true by simpa [ajb] using hb];rfl
  ·rw[if_neg hb,show Nat.blt c.lo s.lo=false by simpa [<- akN,ajb] using hb];rfl
 have:=h.lo
 refine⟨?_,ajt h.len hc.1,fun l hl=>?_⟩
 ·rw[e];split<;>omega
 ·rw[e] at hl
  have h1:l<c.lo/\l<s.lo:=by split at hl<;>omega
  exact (hc.2 l h1.1).trans (h.same l h1.2)
theorem dI.dM{H0:ag}{s s' : AS}(h:dI H0 s)(hH:s'.H=s.H)(hl:s'.lo=s.lo):dI H0 s' :=
 ⟨by rw[hl];exact h.lo,by rw[hH];exact h.len,fun l Aa=>by rw[hH];exact h.same l (by rw[<- hl];exact Aa)⟩
theorem lM(s:AS)(loc:Nat)(o:de):uC s ⟨s.H.set loc o,loc⟩:=⟨by simp,fun l hl=>by simp only at hl ⊢;rw[aj' (by omega)]⟩
theorem I9(s:AS)(loc:Nat)(hl:loc<s.H.length)(o:de):uC s ⟨s.H.set loc .dead++[o],loc⟩:=⟨by simp,fun l Aa=>by
 simp only at Aa ⊢
 rw[ai1 (by simp;omega),aj' (by omega)]⟩
theorem jt(s:AS)(o:de):uC s ⟨s.H++[o],s.H.length⟩:=⟨by simp,fun l hl=>by simp only at hl ⊢;rw[ai1 hl]⟩
theorem Hq{G:Nat->List AV}{cf:cC}(iv:∀ f args H r c,cf f args H=some (r,c)->ke H c){H0:ag}{s s' : AS}{o:dQ}{z:AV}(he:ai G cf s o=some (z,some s'))(h:dI H0 s):dI H0 s':=by
 have sT:∀ t X,dI H0 (s.bz t X):=fun t X=>h.dM rfl rfl
 cases o with
 | mov take obj x =>
  cases x<;>simp only[ai,kO] at he<;>try (cases he;done)
  split at he
  ·cases he
  ·cases take
   ·cases he
   ·cases obj
    ·simp only[cond_true,aiQ] at he
     obtain⟨_,he⟩:=ab he
     simp only[aiG,aiH] at he
     rw[<- he.2];exact sT _ _
    ·simp only[cond_true,aiG,aiH] at he
     rw[<- he.2];exact h.dM rfl rfl
  ·simp only[aiG,aiH] at he
   obtain⟨_,he⟩:=he
   obtain⟨_,he⟩:=ab he
   injection he with he
   rw[<- he];exact sT _ _
  ·cases he
  ·cases he
 | qN c x=>simp only[ai] at he;obtain⟨_,he⟩:=ab he;simp at he
 | boxL x =>
  simp only[ai,aiE,aiH,aiG] at he
  obtain⟨cs,_,_,rfl⟩:=he
  exact h.dM rfl rfl
 | allocL z0 =>
  simp only[ai,aiG,aiH] at he
  rw[<- he.2];exact h.dM rfl rfl
 | ot ty z0 =>
  simp only[ai,aiG,aiH] at he
  rw[<- he.2];exact h.dZ (jt s _)
 | box ty x =>
  simp only[ai,aiF] at he
  obtain⟨cs,_,he⟩:=he
  obtain⟨_,he⟩:=ab he
  simp only[aiG,aiH] at he
  rw[<- he.2];exact h.dZ (jt s _)
 | It x =>
  simp only[ai,aiF] at he
  obtain⟨cs,_,he⟩:=he
  obtain⟨_,he⟩:=ab he
  simp only[aiG,aiH] at he
  rw[<- he.2];exact h.dZ (jt s _)
 | copyO x y =>
  simp only[ai,kT] at he
  split at he
  ·split at he
   ·obtain⟨_,he⟩:=ab he
    simp only[aiG,aiH] at he
    rw[<- he.2];exact h.dZ (lM s _ _)
   ·cases he
  ·simp at he
  ·cases he
 | nilS=>simp[ai] at he
 | load take agg sz x =>
  simp only[ai,cG] at he
  split at he
  ·simp at he
  ·split at he
   ·simp only[aiE,aiH] at he
    obtain⟨u,_,_,he⟩:=he
    obtain⟨_,he⟩:=ab he
    injection he with he
    rw[<- he];exact h.dZ (lM s _ _)
   ·simp at he
   ·simp at he
   ·cases he
  ·split at he
   ·obtain⟨_,he⟩:=ab he
    simp only[aiE,aiH] at he
    obtain⟨u,_,_,he⟩:=he
    obtain⟨_,he⟩:=ab he
    injection he with he
    rw[<- he];exact sT _ _
   ·cases he
  ·split at he
   ·obtain⟨_,he⟩:=ab he
    simp only[aiF] at he
    obtain⟨r,_,he⟩:=he
    obtain⟨_,he⟩:=ab he
    simp at he
   ·cases he
  ·cases he
 | store sz x y =>
  simp only[ai,aiE,aiH,aiG] at he
  obtain⟨s1,he,_,rfl⟩:=he
  have h1:dI H0 s1:=by
   unfold ba at he
   split at he
   ·cases he
   obtain⟨_,he⟩:=ab he
   split at he
   ·split at he
    ·obtain⟨_,he⟩:=ab he
     injection he with he
     rw[<- he];exact h.dZ (lM s _ _)
    ·obtain⟨_,he⟩:=ab he
     injection he with he
     rw[<- he];exact h.dZ (lM s _ _)
    ·cases he
   ·split at he
    ·obtain⟨_,he⟩:=ab he
     injection he with he
     rw[<- he];exact sT _ _
    ·cases he
   ·split at he
    ·obtain⟨_,he⟩:=ab he
     simp only[aiF] at he
     obtain⟨r,_,he⟩:=he
     obtain⟨_,he⟩:=ab he
     injection he with he
     rw[<- he];exact sT _ _
    ·cases he
   ·cases he
  exact h1.dM (fM _ _).1 (fM _ _).2.2
 | append isB wr sz bytes x y =>
  simp only[ai,dX] at he
  split at he
  ·split at he
   ·simp only[aiF] at he
    obtain⟨f,_,he⟩:=he
    obtain⟨_,he⟩:=ab he
    simp only[aiG,aiH] at he
    rw[<- he.2];exact h.dM rfl rfl
   ·cases wr
    ·simp only[aiQ,aiE,aiH,aiG] at he
     obtain⟨_,_,_,rfl⟩:=he
     exact sT _ _
    ·simp only[cond_true,aiF] at he
     obtain⟨f,_,he⟩:=he
     obtain⟨_,he⟩:=ab he
     simp only[aiG,aiH] at he
     rw[<- he.2];exact h.dM rfl rfl
   ·cases wr
    ·simp only[aiQ,aiE,aiH,aiG] at he
     obtain⟨_,_,_,rfl⟩:=he
     exact h
    ·simp only[cond_true,aiF] at he
     obtain⟨f,_,he⟩:=he
     obtain⟨_,he⟩:=ab he
     simp only[aiG,aiH] at he
     rw[<- he.2];exact h.dM rfl rfl
   ·cases he
  ·cases wr
   ·simp at he
   ·cases he
 | call f args =>
  simp only[ai] at he
  split at he
  ·obtain⟨_,he⟩:=ab he
   simp only[aiE,aiH] at he
   obtain⟨⟨r,c⟩,hr,_,he⟩:=he
   simp only[aiE] at he
   obtain⟨c',rfl,rfl⟩:=he
   obtain⟨h1,h2⟩:=iv _ _ _ _ _ hr
   exact h.dZ ⟨by simp only[lT] at h1;omega,(h2 c' rfl).2⟩
  ·cases he
 | xW f pre x post =>
  simp only[ai] at he
  obtain⟨_,he⟩:=ab he
  simp only[aiF,aiE,aiH,aiG] at he
  obtain⟨⟨xv,s1⟩,hx,⟨r,c⟩,hr,_,rfl⟩:=he
  have h1:dI H0 s1/\s1.H=s.H:=by
   unfold UJ at hx
   split at hx
   ·split at hx
    ·simp only[aiG,aiH] at hx
     obtain⟨_,rfl⟩:=hx
     exact⟨sT _ _,rfl⟩
    ·cases hx
   ·split at hx
    ·simp only[aiG,aiH] at hx
     obtain⟨_,rfl⟩:=hx
     exact⟨h,rfl⟩
    ·cases hx
   ·cases hx
  obtain⟨k1,k2⟩:=iv _ _ _ _ _ hr
  cases c with
  | none=>exact h1.1
  | some c' =>
   refine h1.1.dZ ⟨?_,?_⟩
   ·have:=h1.1.len;simp only[lT] at k1;rw[h1.2];omega
   ·rw[h1.2];exact (k2 c' rfl).2
 | pick=>simp only[ai] at he;split at he<;>simp at he
 | build=>simp[ai] at he
 | mkslice =>
  simp only[ai,aiF] at he
  obtain⟨_,_,he⟩:=he
  obtain⟨_,he⟩:=ab he
  simp at he
 | nilCheck=>simp only[ai] at he;obtain⟨_,he⟩:=ab he;simp at he
 | bin=>simp[ai] at he
 | un=>simp[ai] at he
 | mm=>simp[ai] at he
 | conv=>simp[ai] at he
 | uJ=>simp[ai] at he
 | slice=>simp[ai] at he
 | fieldAddr=>simp only[ai] at he;obtain⟨_,he⟩:=ab he;simp at he
 | field=>simp only[ai] at he;split at he<;>simp at he
 | ixSl =>
  simp only[ai] at he
  split at he
  ·simp only[aiF] at he
   obtain⟨_,_,_,_,he⟩:=he
   obtain⟨_,he⟩:=ab he
   simp at he
  ·simp only[aiF] at he
   obtain⟨_,_,he⟩:=he
   obtain⟨_,he⟩:=ab he
   simp at he
  ·split at he
   ·obtain⟨_,he⟩:=ab he
    simp only[aiF] at he
    obtain⟨_,_,_,_,he⟩:=he
    obtain⟨_,he⟩:=ab he
    simp at he
   ·cases he
  ·cases he
 | ixArr =>
  simp only[ai,aiF] at he
  obtain⟨_,_,he⟩:=he
  obtain⟨_,he⟩:=ab he
  simp at he
 | index =>
  simp only[ai,aiF] at he
  obtain⟨_,_,he⟩:=he
  obtain⟨_,he⟩:=ab he
  split at he<;>simp at he
 | indexStr =>
  simp only[ai] at he
  split at he
  ·simp only[aiF,aiE,aiH] at he
   obtain⟨_,_,_,_,_,he⟩:=he
   cases he
  ·cases he
 | extract=>simp only[ai] at he;split at he<;>simp at he
 | len =>
  simp only[ai] at he
  split at he
  ·split at he
   ·obtain⟨_,he⟩:=ab he
    simp at he
   ·cases he
  ·simp at he
 | mkfunc=>simp only[ai] at he;obtain⟨_,he⟩:=ab he;simp at he
 | iP f xs =>
  simp only[ai] at he
  split at he
  ·obtain⟨_,he⟩:=ab he
   simp only[aiF] at he
   obtain⟨r,_,he⟩:=he
   split at he<;>simp at he
  ·cases he
 | appendO sz bytes x y =>
  simp only[ai,jr] at he
  split at he
  ·simp at he
  simp only[je,aiF] at he
  obtain⟨f,_,he⟩:=he
  split at he
  ·obtain⟨_,he⟩:=ab he
   simp only[aiG,aiH] at he
   rw[<- he.2];exact h.dZ (jt s _)
  ·obtain⟨_,he⟩:=ab he
   simp only[aiG,aiH] at he
   rw[<- he.2];exact h.dZ (jt s _)
  ·split at he
   ·rename_i hH
    obtain⟨_,he⟩:=ab he
    simp only[aiG,aiH] at he
    rw[<- he.2];exact h.dZ (I9 s _ (aiI.1 hH).1 _)
   ·cases he
  ·cases he
 | lS sz zs ps =>
  simp only[ai,aiF] at he
  obtain⟨f,_,he⟩:=he
  obtain⟨_,he⟩:=ab he
  simp only[aiG,aiH] at he
  rw[<- he.2];exact h.dZ (jt s _)
 | tU sz bytes zero n =>
  simp only[ai,pg,aiF] at he
  obtain⟨f,_,he⟩:=he
  obtain⟨_,he⟩:=ab he
  simp only[aiG,aiH] at he
  rw[<- he.2];exact h.dZ (jt s _)
 | yI kz ka va =>
  simp only[ai,aiG,aiH] at he
  rw[<- he.2];exact h.dZ (jt s _)
 | look ok kz ka va ks zero m k =>
  simp only[ai,sH,aiF] at he
  obtain⟨_,_,he⟩:=he
  obtain⟨_,he⟩:=ab he
  split at he
  ·simp at he
  ·obtain⟨_,he⟩:=ab he
   simp at he
  ·simp only[aiF,aiE,aiH,reduceCtorEq,ak7,ala] at he
 | HR kz ka ks zero m k =>
  simp only[ai,zR] at he
  split at he
  ·split at he
   ·simp only[aiF] at he
    obtain⟨_,_,he⟩:=he
    obtain⟨_,he⟩:=ab he
    simp only[aiF] at he
    obtain⟨o,_,he⟩:=he
    cases o with
    | none=>simp at he
    | some i =>
     simp only[aiE,aiH,aiG] at he
     obtain⟨_,_,_,he⟩:=he
     rw[<- he];exact h.dZ (lM s _ _)
   ·cases he
  ·cases he
 | JD kz ka va vz ks m k v =>
  simp only[ai,aiE,aiH,aiG] at he
  obtain⟨s1,he,_,rfl⟩:=he
  have h1:dI H0 s1:=by
   unfold sI at he
   split at he
   ·split at he
    ·simp only[aiF] at he
     obtain⟨_,_,_,_,he⟩:=he
     obtain⟨_,he⟩:=ab he
     simp only[aiE] at he
     obtain⟨_,_,he⟩:=he
     rw[<- he];exact h.dZ (lM s _ _)
    ·cases he
   ·cases he
  exact h1.dM (fM _ _).1 (fM _ _).2.2
 | SZ m =>
  simp only[ai] at he
  split at he
  ·simp at he
  ·simp at he
  ·split at he
   ·simp at he
   ·simp at he
   ·cases he
  ·cases he
 | ZJ kz ka va m =>
  simp only[ai] at he
  split at he
  ·simp only[aiG,aiH] at he
   rw[<- he.2];exact h.dM rfl rfl
  ·obtain⟨_,he⟩:=ab he
   simp only[aiG,aiH] at he
   rw[<- he.2];exact h.dM rfl rfl
  ·obtain⟨_,he⟩:=ab he
   simp only[aiG,aiH] at he
   rw[<- he.2];exact h.dM rfl rfl
  ·split at he
   ·obtain⟨_,he⟩:=ab he
    simp only[aiG,aiH] at he
    rw[<- he.2]
    exact (h.dZ (lM s _ _)).dM rfl rfl
   ·cases he
  ·cases he
 | next it=>simp[ai] at he
 | Zr it =>
  simp only[ai] at he
  split at he
  ·split at he
   ·obtain⟨_,he⟩:=ab he
    simp at he
   ·cases he
  ·cases he
section
variable {P:Program}{G:Nat->List AV}{base nt:Nat}{L:List Nat}{gh:Gh}{w w' : World}{a:Act}{s:AS}{H:ag}
structure Inv (G:Nat->List AV) (base nt:Nat) (L:List Nat) (H0:ag) (gy:Gh) (w0:World) (s:AS) (gh:Gh) (w:World) (a:Act):Prop where
 W:aG G base s.H gh w
 F:FR L nt gh w a s
 E:Ext H0.length gy w0 gh w
 lo:dI H0 s
theorem Inv.out{H0:ag}{gy aF:Gh}{w0 w' : World}{d:Option Nat}{x:AV}{s' : AS}{v' : Value}(h:Inv G base nt L H0 gy w0 s gh w a)(hO:Out G base nt L gh w a s d x s' v' aF w')(hl:dI H0 s') :
  Inv G base nt L H0 gy w0 (s'.ca d x) aF w' (a.put d v') :=
 ⟨by rw[(gS s' d x).1];exact hO.W,hO.F,h.E.trans hO.E h.lo.len,hl.dM (gS s' d x).1 (gS s' d x).2.2⟩
def lI(G:Nat->List AV)(cf:cC)(draw:Bool)(s:AS)(o:az):Option (AV × AS) :=
 let run:Option (AV × AS):=(ai G cf s o.op).bind fun r=>match r.2 with
  | none=>cond (draw&&(aQ r.1).isSome) none (some (r.1,s))
  | some s'=>cond draw none (some (r.1,s'))
 match o.guard with
 | none=>run
 | some (g,want)=>match s.T g with
  | .bool b=>cond (b==want) run (some (.undef,s))
  | .tuple []=>some (.undef,s)
  | _=>none
theorem lH{G:Nat->List AV}{cf:cC}{draw:Bool}{s:AS}{o:az} : bQ G cf draw s o=(lI G cf draw s o).map fun r=>r.2.ca o.dst r.1:=by
 have cm:((ai G cf s o.op).bind fun r=>match r.2 with
   | none=>cond (draw&&(aQ r.1).isSome) none (some (s.ca o.dst r.1))
   | some s'=>cond draw none (some (s'.ca o.dst r.1))) =
  ((ai G cf s o.op).bind fun r=>match r.2 with
   | none=>cond (draw&&(aQ r.1).isSome) none (some (r.1,s))
   | some s'=>cond draw none (some (r.1,s'))).map fun r=>r.2.ca o.dst r.1:=by
  cases ai G cf s o.op with
  | none=>rfl
  | some r =>
   obtain⟨z,s'⟩:=r
   cases s' with
   | none=>simp only[aiP];cases (draw&&(aQ z).isSome)<;>rfl
   | some s'=>cases draw<;>rfl
 unfold bQ lI
 simp only
 cases o.guard with
 | none=>exact cm
 | some g =>
  obtain⟨g,want⟩:=g
  simp only
  generalize s.T g=X
  cases X with
  | bool b =>
   simp only
   cases (b==want)
   ·rfl
   ·exact cm
  | tuple vs=>cases vs<;>rfl
  | _=>rfl
theorem iL{bK locals muts:List Nat}{ops:Array Oper}{o:Oper}{io:az}(h:oB P bK locals muts nt ops o=some io) :
  cr P bK locals muts nt o.dst o.op=some io.op/\mR nt ops o.guard=some io.guard/\io.dst=o.dst/\∀ k,o.dst=some k->k<nt:=by
 simp only[oB,aiF] at h
 obtain⟨p,hp,g,hg,h⟩:=h
 split at h
 ·rename_i hd
  injection h with h
  subst h
  exact⟨hp,hg,hd.symm,fun k hk=>by rw[hd] at hk;cases hk⟩
 ·rename_i d hd
  obtain⟨h0,h⟩:=ab h
  injection h with h
  subst h
  exact⟨hp,hg,hd.symm,fun k hk=>by rw[hd] at hk;injection hk with hk;subst hk;simpa [ajb] using h0⟩
theorem mZ{cf:cC}(iv:dr P G cf){H0:ag}{gy:Gh}{w0:World}(hI:Inv G base nt L H0 gy w0 s gh w a){bK locals muts:List Nat}{ops:Array Oper}{o:Oper}{io:az}
  (hc:oB P bK locals muts nt ops o=some io) (vD:∀ x,x∈locals->x∈L) (uG:∀ x,x∈muts->x∈L) {draw:Bool} {z:AV} {s1:AS} (he:lI G cf draw s io=some (z,s1)) (K:Act->World->Prop) (Q:Exit->Act->World->Prop)
  (hK:∀ a' aF w',Inv G base nt L H0 gy w0 (s1.ca o.dst z) aF w' a'->K a' w') :
  if Region.wanted o (yielded ops a.tmps) then o.wp P a w K Q\/(o.asks P a w/\LetsOut Q) else K (a.put o.dst undef) w:=by
 obtain⟨cH,hg,agF,hd⟩:=iL hc
 have U7:s1=s->z=.undef->K (a.put o.dst undef) w:=by
  rintro rfl rfl
  exact hK _ gh w (hI.out (Out.pure hI.W hI.F hd (.cD .undef)) hI.lo)
 have cm:((ai G cf s io.op).bind fun r=>match r.2 with
   | none=>cond (draw&&(aQ r.1).isSome) none (some (r.1,s))
   | some s'=>cond draw none (some (r.1,s')))=some (z,s1)->o.wp P a w K Q:=by
  intro h
  simp only[aiF] at h
  obtain⟨⟨z',s'⟩,bc,h⟩:=h
  cases s' with
  | none =>
   simp only at h
   have h' : z'=z/\s=s1:=by
    cases hb:(draw&&(aQ z').isSome) with
    | true=>rw[hb] at h;cases h
    | false=>rw[hb] at h;simpa using h
   obtain⟨rfl,rfl⟩:=h'
   exact vn iv hI.W hI.F cH vD uG bc hd K Q (fun v' aF w' hO=>hK _ aF w' (hI.out hO hI.lo))
  | some s' =>
   simp only at h
   have h' : z'=z/\s'=s1:=by
    cases draw with
    | true=>cases h
    | false=>simpa using h
   obtain⟨rfl,rfl⟩:=h'
   exact vn iv hI.W hI.F cH vD uG bc hd K Q (fun v' aF w' hO=>hK _ aF w' (hI.out hO (Hq (fun f args H r c h=>(iv f args H r c h).2.1) bc hI.lo)))
 cases WJ:o.guard with
 | none =>
  rw[WJ] at hg
  simp only[mR,aiG] at hg
  have hw:Region.wanted o (yielded ops a.tmps)=true:=by simp[Region.wanted,WJ]
  rw[if_pos hw]
  unfold lI at he
  rw[<- hg] at he
  exact .inl (cm he)
 | some jw =>
  obtain⟨j,want⟩:=jw
  rw[WJ] at hg
  simp only[mR,aiF] at hg
  obtain⟨t,⟨oj,hoj,Kd⟩,hg⟩:=hg
  obtain⟨a7,hg⟩:=ab hg
  injection hg with hg
  have ht:t<nt:=by simpa [ajb] using a7
  have htm:a.tmps[t]?=some (dO a t):=by
   have:t<a.tmps.size:=by rw[hI.F.size];exact ht
   simp[dO,this]
  have hy:∀ v,dO a t=v->yielded ops a.tmps j=match v with|.bool b=>some b|_=>none:=by
   intro v hv
   unfold yielded
   rw[hoj]
   simp only[aiP,Kd,htm,hv]
   cases v<;>rfl
  have tP:=hI.F.slot t ht
  change SR gh s.H.length nt w s.T s.gen (dO a) t (dO a t) (s.T t) at tP
  unfold lI at he
  rw[<- hg] at he
  simp only at he
  split at he
  ·rename_i b hT
   rw[hT] at tP
   have hv:=VR.iw (CR.dropped (tP:CR gh s.H.length w (.sl t) (dO a t) (.bool b)))
   have hw:Region.wanted o (yielded ops a.tmps)=(b==want):=by
    simp only[Region.wanted,WJ,hy _ hv]
    cases b<;>cases want<;>rfl
   rw[hw]
   cases hb:(b==want) with
   | true =>
    rw[hb] at he
    rw[if_pos rfl]
    exact .inl (cm he)
   | false =>
    rw[hb] at he
    simp only[aiQ,aiG,aiH] at he
    rw[if_neg (by simp)]
    exact U7 he.2.symm he.1.symm
  ·rename_i hT
   rw[hT] at tP
   have hv:=VR.Jr (CR.dropped (tP:CR gh s.H.length w (.sl t) (dO a t) (.tuple [])))
   have hw:Region.wanted o (yielded ops a.tmps)=false:=by
    simp only[Region.wanted,WJ,hy _ hv]
    rfl
   rw[hw,if_neg (by simp)]
   simp only[aiG,aiH] at he
   exact U7 he.2.symm he.1.symm
  ·cases he
theorem yN{cf:cC}(iv:dr P G cf){H0:ag}{gy:Gh}{w0:World}{bK locals muts:List Nat}{ops:Array Oper}(vD:∀ x,x∈locals->x∈L)(uG:∀ x,x∈muts->x∈L)(Q:Exit->Act->World->Prop) :
  ∀ (l:List Oper) (is:List az) (s s' : AS) (gh:Gh) (w:World) (a:Act),Inv G base nt L H0 gy w0 s gh w a->fc P bK locals muts nt ops l=some is->dT G cf false is s=some s' ->
   (∀ a' aF w',Inv G base nt L H0 gy w0 s' aF w' a'->Q .normal a' w')->wpList P ops Q l a w
 | [],is,s,s',gh,w,a,hI,hc,he,hQ=>by
  simp only[fc,aiG] at hc
  subst hc
  simp only[dT,aiG] at he
  subst he
  exact hQ a gh w hI
 | o :: l,is,s,s',gh,w,a,hI,hc,he,hQ=>by
  simp only[fc,aiF,aiE] at hc
  obtain⟨io,rz,ZI,DO,rfl⟩:=hc
  simp only[dT,aiF,lH,aiE] at he
  obtain⟨s1,⟨⟨z,s2⟩,hz,rfl⟩,he⟩:=he
  unfold wpList
  refine mZ iv hI rz vD uG hz _ Q (fun a' aF w' jQ=>?_)
  rw[(iL rz).2.2.1] at he
  exact yN iv vD uG Q l ZI _ s' aF w' a' jQ DO he hQ
end
end
section
structure oo (s s' : AS) (ts:List Nat):Prop where
 H:s.H=s'.H
 T:∀ t,t∈ts->s.T t=s'.T t
 B:∀ b,s.T b=s'.T b\/aQ (s.T b)=none
section
variable {G:Nat->List AV}{cf:cC}{s s' : AS}{ts:List Nat}
theorem oo.eval(h:oo s s' ts){y:ak}(hy:∀ t,t∈y.tmps->t∈ts):y.eval G s'.T=y.eval G s.T:=by
 cases y<;>try rfl
 rename_i t
 exact (h.T t (hy t (by simp[ak.tmps]))).symm
theorem oo.addr(h:oo s s' ts){y:ak}(hy:∀ t,t∈y.tmps->t∈ts):y.addr G s'.T=y.addr G s.T:=by
 cases y<;>try rfl
 rename_i t
 simp only[ak.addr]
 rw[h.T t (hy t (by simp[ak.tmps]))]
theorem oo.box(h:oo s s' ts)(b:Nat){g:Nat}{cs:List AV}(hb:s.T b=.lbox g cs):s'.T b=.lbox g cs:=by
 rcases h.B b with h|h
 ·rw[<- h,hb]
 ·rw[hb] at h;cases h
theorem oo.row(h:oo s s' ts)(b:Nat){g:Nat}{e:List (List AV)}(hb:s.T b=.lsl g e):s'.T b=.lsl g e:=by
 rcases h.B b with h|h
 ·rw[<- h,hb]
 ·rw[hb] at h;cases h
theorem oo.live(h:oo s s' ts){A:AV}(hl:bO s A=true):bO s' A=true:=by
 cases A<;>simp only[bO] at hl ⊢<;>try (cases hl;done)
 ·split at hl
  ·rename_i hT;rw[h.box _ hT];exact hl
  ·cases hl
 ·split at hl
  ·rename_i hT;rw[h.row _ hT];exact hl
  ·cases hl
theorem oo.load(h:oo s s' ts){take agg:Bool}{sz:Nat}{A z:AV}(he:cG s take agg sz A=some (z,none)):cG s' take agg sz A=some (z,none):=by
 have key:∀ {X:Option AV} {x y:AS},X.map (fun v=>(v,cond (take&&!agg) (some x) none))=some (z,none)->X.map (fun v=>(v,cond (take&&!agg) (some y) none))=some (z,none):=by
  intro X x y hX
  cases X with
  | none=>cases hX
  | some v=>cases hb:(take&&!agg)<;>simp_all
 cases A<;>simp only[cG] at he ⊢<;>try (cases he;done)
 ·exact he
 ·rw[<- h.H]
  split at he
  ·exact key he
  ·exact he
  ·exact he
  ·cases he
 ·split at he
  ·rename_i hT
   rw[h.box _ hT]
   obtain⟨h0,he⟩:=ab he
   simp only[h0,cond_true]
   exact key he
  ·cases he
 ·split at he
  ·rename_i hT
   rw[h.row _ hT]
   exact he
  ·cases he
theorem oo.mov(h:oo s s' ts){take obj:Bool}{y:ak}{z:AV}(hy:∀ t,t∈y.tmps->t∈ts)(he:kO G s take obj y=some (z,none)):kO G s' take obj y=some (z,none):=by
 cases y with
 | tmp t =>
  have e:=h.T t (hy t (by simp[ak.tmps]))
  simp only[kO] at he ⊢
  rw[<- e]
  generalize s.T t=X at he ⊢
  cases X<;>try exact he
  ·rename_i el own
   cases take<;>cases own<;>simp_all
  ·cases take
   ·exact he
   ·cases obj
    ·simp only[cond_true,aiQ] at he
     obtain⟨_,he⟩:=ab he
     simp at he
    ·simp at he
 | _=>exact he
theorem FD(h:oo s s' ts){op:dQ}(ht:∀ t,t∈op.tmps->t∈ts){z:AV}(he:ai G cf s op=some (z,none)):ai G cf s' op=some (z,none):=by
 cases op with
 | mov take obj x=>exact h.mov ht he
 | pick c x y =>
  have h1:=h.eval (G:=G) (y:=c) (fun t hm=>ht t (by simp[dQ.tmps,hm]))
  have h2:=h.addr (G:=G) (y:=x) (fun t hm=>ht t (by simp[dQ.tmps,hm]))
  have h3:=h.addr (G:=G) (y:=y) (fun t hm=>ht t (by simp[dQ.tmps,hm]))
  simp only[ai] at he ⊢
  rw[h1,h2,h3]
  exact he
 | qN c x =>
  have h1:=h.addr (G:=G) (y:=x) (fun t hm=>ht t (by simp[dQ.tmps,hm]))
  simp only[ai] at he ⊢
  rw[h1];exact he
 | boxL x=>simp[ai] at he
 | allocL z0=>simp[ai] at he
 | ot ty z0=>simp[ai] at he
 | box ty x =>
  simp only[ai,aiF] at he
  obtain⟨_,_,he⟩:=he
  obtain⟨_,he⟩:=ab he
  simp at he
 | build z0 ps =>
  have e1:(ps.map fun p=>(p.1,p.2.1,(p.2.2.eval G s'.T).drop))=ps.map fun p=>(p.1,p.2.1,(p.2.2.eval G s.T).drop) :=
   ai6 fun p hp=>by rw[h.eval (G:=G) (y:=p.2.2) (fun t hm=>ht t (by simp only[dQ.tmps,ajL];exact⟨p,hp,hm⟩))]
  simp only[ai] at he ⊢
  rw[e1];exact he
 | mkslice isB sz zs ps =>
  have e1:(ps.map fun p=>(p.1,(p.2.eval G s'.T).drop))=ps.map fun p=>(p.1,(p.2.eval G s.T).drop) :=
   ai6 fun p hp=>by rw[h.eval (G:=G) (y:=p.2) (fun t hm=>ht t (by simp only[dQ.tmps,ajL];exact⟨p,hp,hm⟩))]
  simp only[ai] at he ⊢
  rw[e1];exact he
 | load take agg sz x =>
  simp only[ai] at he ⊢
  rw[h.addr (G:=G) (y:=x) ht]
  exact h.load he
 | store sz x y =>
  simp only[ai,aiE,aiH] at he
  obtain⟨_,_,_,he⟩:=he
  cases he
 | nilCheck x =>
  simp only[ai] at he ⊢
  rw[h.addr (G:=G) (y:=x) ht]
  obtain⟨h0,he⟩:=ab he
  rw[h.live h0];exact he
 | bin op q x y =>
  simp only[ai] at he ⊢
  rw[h.eval (G:=G) (y:=x) (fun t hm=>ht t (by simp[dQ.tmps,hm])),h.eval (G:=G) (y:=y) (fun t hm=>ht t (by simp[dQ.tmps,hm]))]
  exact he
 | un op x=>simp only[ai] at he ⊢;rw[h.eval (G:=G) (y:=x) ht];exact he
 | mm mx x y =>
  simp only[ai] at he ⊢
  rw[h.eval (G:=G) (y:=x) (fun t hm=>ht t (by simp[dQ.tmps,hm])),h.eval (G:=G) (y:=y) (fun t hm=>ht t (by simp[dQ.tmps,hm]))]
  exact he
 | conv c x=>simp only[ai] at he ⊢;rw[h.eval (G:=G) (y:=x) ht];exact he
 | uJ t x=>simp only[ai] at he ⊢;rw[h.eval (G:=G) (y:=x) ht];exact he
 | slice k x lo hi mx =>
  have opt:∀ o:Option ak,(∀ t,t∈o.toList.flatMap ak.tmps->t∈ts)->o.map (·.eval G s'.T)=o.map (·.eval G s.T):=by
   intro o ho
   cases o with
   | none=>rfl
   | some y=>simp only[aiV];rw[h.eval (G:=G) (y:=y) (fun t hm=>ho t (by simp[hm]))]
  simp only[ai] at he ⊢
  rw[h.eval (G:=G) (y:=x) (fun t hm=>ht t (by simp only[dQ.tmps,aiM];exact .inl (.inl (.inl hm)))),
   opt lo (fun t hm=>ht t (by simp only[dQ.tmps,aiM];exact .inl (.inl (.inr hm)))),
   opt hi (fun t hm=>ht t (by simp only[dQ.tmps,aiM];exact .inl (.inr hm))),
   opt mx (fun t hm=>ht t (by simp only[dQ.tmps,aiM];exact .inr hm))]
  exact he
 | fieldAddr off x =>
  simp only[ai] at he ⊢
  rw[h.addr (G:=G) (y:=x) ht]
  obtain⟨h0,he⟩:=ab he
  rw[h.live h0];exact he
 | field agg off sz x =>
  simp only[ai] at he ⊢
  rw[h.eval (G:=G) (y:=x) ht];exact he
 | ixSl sz x i =>
  simp only[ai] at he ⊢
  rw[h.addr (G:=G) (y:=x) (fun t hm=>ht t (by simp[dQ.tmps,hm])),h.eval (G:=G) (y:=i) (fun t hm=>ht t (by simp[dQ.tmps,hm]))]
  split at he
  ·exact he
  ·exact he
  ·split at he
   ·rename_i hT
    simp only[h.row _ hT]
    exact he
   ·cases he
  ·cases he
 | ixArr n sz x i =>
  simp only[ai] at he ⊢
  rw[h.addr (G:=G) (y:=x) (fun t hm=>ht t (by simp[dQ.tmps,hm])),h.eval (G:=G) (y:=i) (fun t hm=>ht t (by simp[dQ.tmps,hm]))]
  simp only[aiF] at he ⊢
  obtain⟨k,hk,he⟩:=he
  refine⟨k,hk,?_⟩
  obtain⟨h0,he⟩:=ab he
  simp only[aiL] at h0
  rw[h0.1,h.live h0.2];exact he
 | index agg n sz x i =>
  simp only[ai] at he ⊢
  rw[h.eval (G:=G) (y:=x) (fun t hm=>ht t (by simp[dQ.tmps,hm])),h.eval (G:=G) (y:=i) (fun t hm=>ht t (by simp[dQ.tmps,hm]))]
  exact he
 | indexStr x i =>
  simp only[ai] at he ⊢
  rw[h.eval (G:=G) (y:=x) (fun t hm=>ht t (by simp[dQ.tmps,hm])),h.eval (G:=G) (y:=i) (fun t hm=>ht t (by simp[dQ.tmps,hm]))]
  exact he
 | extract x i=>simp only[ai] at he ⊢;rw[h.eval (G:=G) (y:=x) ht];exact he
 | len k x =>
  simp only[ai] at he ⊢
  rw[h.addr (G:=G) (y:=x) ht]
  split at he
  ·split at he
   ·rename_i hT
    simp only[h.row _ hT]
    exact he
   ·cases he
  ·exact he
 | append isB wr sz bytes x y =>
  have h2:=h.eval (G:=G) (y:=y) (fun t hm=>ht t (by simp[dQ.tmps,hm]))
  have h1:=h.eval (G:=G) (y:=x) (fun t hm=>ht t (by simp[dQ.tmps,hm]))
  simp only[ai,dX] at he ⊢
  cases x with
  | tmp t =>
   exfalso
   simp only at he
   split at he
   ·simp only[aiF] at he
    obtain⟨f,_,he⟩:=he
    obtain⟨_,he⟩:=ab he
    simp at he
   ·cases wr
    ·simp at he
    ·simp only[cond_true,aiF] at he
     obtain⟨f,_,he⟩:=he
     obtain⟨_,he⟩:=ab he
     simp at he
   ·cases wr
    ·simp at he
    ·simp only[cond_true,aiF] at he
     obtain⟨f,_,he⟩:=he
     obtain⟨_,he⟩:=ab he
     simp at he
   ·cases he
  | _=>simp only at he ⊢;rw[h2];exact he
 | call f args =>
  have hf:=h.eval (G:=G) (y:=f) (fun t hm=>ht t (by simp[dQ.tmps,hm]))
  have ha:∀ y,y∈args->y.addr G s'.T=y.addr G s.T:=fun y hy=>h.addr (G:=G) (fun t hm=>ht t (by
   simp only[dQ.tmps,aiM,ajL];exact .inr ⟨y,hy,hm⟩))
  have e1:(args.map fun a=>a.addr G s'.T)=args.map fun a=>a.addr G s.T:=ai6 ha
  have e2:(args.map fun a=>(a.addr G s'.T).bf)=args.map fun a=>(a.addr G s.T).bf:=ai6 fun y hy=>by rw[ha y hy]
  simp only[ai] at he ⊢
  rw[hf,e1,e2,<- h.H]
  split at he
  ·obtain⟨h0,he⟩:=ab he
   rw[h0]
   simp only[cond_true,aiE,aiH] at he ⊢
   obtain⟨⟨r,c⟩,hr,h1,h2⟩:=he
   refine⟨(r,c),hr,h1,?_⟩
   cases c with
   | none=>rfl
   | some c=>cases h2
  ·cases he
 | iP f args =>
  have hf:=h.eval (G:=G) (y:=f) (fun t hm=>ht t (by simp[dQ.tmps,hm]))
  have ha:∀ y,y∈args->y.addr G s'.T=y.addr G s.T:=fun y hy=>h.addr (G:=G) (fun t hm=>ht t (by
   simp only[dQ.tmps,aiM,ajL];exact .inr ⟨y,hy,hm⟩))
  have e1:(args.map fun a=>a.addr G s'.T)=args.map fun a=>a.addr G s.T:=ai6 ha
  have e2:(args.map fun a=>(a.addr G s'.T).bf)=args.map fun a=>(a.addr G s.T).bf:=ai6 fun y hy=>by rw[ha y hy]
  simp only[ai] at he ⊢
  rw[hf,e1,e2,<- h.H]
  exact he
 | xW f pre x post =>
  exfalso
  simp only[ai] at he
  obtain⟨_,he⟩:=ab he
  simp only[aiF,aiE,aiH,reduceCtorEq,ak7,ala] at he
 | mkfunc f a b =>
  have ha:∀ y,y∈a->y.addr G s'.T=y.addr G s.T:=fun y hy=>h.addr (G:=G) (fun t hm=>ht t (by
   simp only[dQ.tmps,aiM,ajL];exact .inl ⟨y,hy,hm⟩))
  have hb:∀ y,y∈b->y.addr G s'.T=y.addr G s.T:=fun y hy=>h.addr (G:=G) (fun t hm=>ht t (by
   simp only[dQ.tmps,aiM,ajL];exact .inr ⟨y,hy,hm⟩))
  have e1:(a.map fun a=>a.addr G s'.T)=a.map fun a=>a.addr G s.T:=ai6 ha
  have e2:(b.map fun a=>a.addr G s'.T)=b.map fun a=>a.addr G s.T:=ai6 hb
  have e3:(a.map fun a=>(a.addr G s'.T).drop)=a.map fun a=>(a.addr G s.T).drop:=ai6 fun y hy=>by rw[ha y hy]
  have e4:(b.map fun a=>(a.addr G s'.T).drop)=b.map fun a=>(a.addr G s.T).drop:=ai6 fun y hy=>by rw[hb y hy]
  simp only[ai] at he ⊢
  rw[e1,e2,e3,e4];exact he
 | appendO sz bytes x y =>
  have h1:=h.addr (G:=G) (y:=x) (fun t hm=>ht t (by simp[dQ.tmps,hm]))
  have h2:=h.eval (G:=G) (y:=y) (fun t hm=>ht t (by simp[dQ.tmps,hm]))
  simp only[ai,jr,h1,h2] at he ⊢
  split at he
  ·exact he
  exfalso
  simp only[je,aiF] at he
  obtain⟨f,_,he⟩:=he
  split at he
  ·obtain⟨_,he⟩:=ab he
   simp at he
  ·obtain⟨_,he⟩:=ab he
   simp at he
  ·split at he
   ·obtain⟨_,he⟩:=ab he
    simp at he
   ·cases he
  ·cases he
 | lS sz zs ps =>
  exfalso
  simp only[ai,aiF] at he
  obtain⟨f,_,he⟩:=he
  obtain⟨_,he⟩:=ab he
  simp at he
 | tU sz bytes zero n =>
  exfalso
  simp only[ai,pg,aiF] at he
  obtain⟨f,_,he⟩:=he
  obtain⟨_,he⟩:=ab he
  simp at he
 | It x =>
  simp only[ai,aiF] at he
  obtain⟨_,_,he⟩:=he
  obtain⟨_,he⟩:=ab he
  simp at he
 | copyO x y =>
  have h1:=h.addr (G:=G) (y:=x) (fun t hm=>ht t (by simp[dQ.tmps,hm]))
  have h2:=h.eval (G:=G) (y:=y) (fun t hm=>ht t (by simp[dQ.tmps,hm]))
  simp only[ai] at he ⊢
  rw[h1,h2]
  unfold kT at he ⊢
  rw[<- h.H]
  split at he
  ·split at he
   ·obtain⟨_,he⟩:=ab he
    simp at he
   ·cases he
  ·exact he
  ·cases he
 | nilS neg x =>
  simp only[ai] at he ⊢
  rw[h.eval (G:=G) (y:=x) ht];exact he
 | yI kz ka va=>simp[ai] at he
 | look ok kz ka va ks zero m k =>
  have h1:=h.addr (G:=G) (y:=m) (fun t hm=>ht t (by simp[dQ.tmps,hm]))
  have h2:=h.eval (G:=G) (y:=k) (fun t hm=>ht t (by simp[dQ.tmps,hm]))
  simp only[ai] at he ⊢
  rw[h1,h2]
  unfold sH rN at he ⊢
  rw[<- h.H];exact he
 | HR kz ka ks zero m k =>
  have h1:=h.addr (G:=G) (y:=m) (fun t hm=>ht t (by simp[dQ.tmps,hm]))
  have h2:=h.eval (G:=G) (y:=k) (fun t hm=>ht t (by simp[dQ.tmps,hm]))
  simp only[ai] at he ⊢
  rw[h1,h2]
  unfold zR at he ⊢
  rw[<- h.H]
  split at he
  ·split at he
   ·simp only[aiF] at he ⊢
    obtain⟨kc,oe,he⟩:=he
    obtain⟨h0,he⟩:=ab he
    refine⟨kc,oe,?_⟩
    rw[h0,cond_true]
    simp only[aiF] at he ⊢
    obtain⟨o,ho,he⟩:=he
    refine⟨o,ho,?_⟩
    cases o with
    | none=>exact he
    | some i=>simp at he
   ·cases he
  ·cases he
 | JD kz ka va vz ks m k v=>simp[ai] at he
 | SZ m =>
  have h1:=h.addr (G:=G) (y:=m) (fun t hm=>ht t (by simp[dQ.tmps,hm]))
  simp only[ai] at he ⊢
  rw[h1,<- h.H];exact he
 | ZJ kz ka va m =>
  simp only[ai] at he
  split at he
  ·simp at he
  ·obtain⟨_,he⟩:=ab he
   simp at he
  ·obtain⟨_,he⟩:=ab he
   simp at he
  ·split at he
   ·obtain⟨_,he⟩:=ab he
    simp at he
   ·cases he
  ·cases he
 | next it=>simp[ai] at he
 | Zr it =>
  cases it with
  | tmp t =>
   have e:=h.T t (ht t (by simp[dQ.tmps,ak.tmps]))
   simp only[ai] at he ⊢
   rw[<- e];exact he
  | _=>simp only[ai] at he;cases he
theorem FF{o:az}{z:AV}{s1:AS}(he:lI G cf true s o=some (z,s1)):s1=s/\aQ z=none:=by
 have cm:((ai G cf s o.op).bind fun r=>match r.2 with
   | none=>cond (true&&(aQ r.1).isSome) none (some (r.1,s))
   | some s'=>cond true none (some (r.1,s')))=some (z,s1)->s1=s/\aQ z=none:=by
  intro h
  simp only[aiF] at h
  obtain⟨⟨z',s'⟩,_,h⟩:=h
  cases s' with
  | none =>
   simp only[ajo] at h
   cases hb:aQ z' with
   | none =>
    rw[hb] at h
    simp only[Option.isSome_none,aiQ,aiG,aiH] at h
    exact⟨h.2.symm,by rw[<- h.1,hb]⟩
   | some k=>rw[hb] at h;cases h
  | some s'=>cases h
 unfold lI at he
 split at he
 ·exact cm he
 ·split at he
  ·rename_i want _ _ b _
   simp only at he
   cases hc:(b==want) with
   | false =>
    rw[hc] at he
    simp only[aiQ,aiG,aiH] at he
    exact⟨he.2.symm,by rw[<- he.1];rfl⟩
   | true =>
    rw[hc] at he
    exact cm he
  ·simp only[aiG,aiH] at he
   exact⟨he.2.symm,by rw[<- he.1];rfl⟩
  ·cases he
theorem BZ(h:oo s s' ts){o:az}(ht:∀ t,t∈o.looks->t∈ts){z:AV}{s1:AS}(he:lI G cf true s o=some (z,s1)):lI G cf true s' o=some (z,s'):=by
 have cm:((ai G cf s o.op).bind fun r=>match r.2 with
   | none=>cond (true&&(aQ r.1).isSome) none (some (r.1,s))
   | some s'=>cond true none (some (r.1,s')))=some (z,s1)->((ai G cf s' o.op).bind fun r=>match r.2 with
   | none=>cond (true&&(aQ r.1).isSome) none (some (r.1,s'))
   | some s'=>cond true none (some (r.1,s')))=some (z,s'):=by
  intro h1
  simp only[aiF] at h1
  obtain⟨⟨z',s2⟩,he,h1⟩:=h1
  cases s2 with
  | some s2=>cases h1
  | none =>
   rw[FD h (fun t hm=>ht t (by simp only[az.looks,aiM];exact .inl hm)) he]
   simp only[ajo,aiP] at h1 ⊢
   cases hb:aQ z' with
   | some k=>rw[hb] at h1;cases h1
   | none =>
    rw[hb] at h1
    simp only[Option.isSome_none,aiQ,aiG,aiH] at h1 ⊢
    exact⟨h1.1,trivial⟩
 unfold lI at he ⊢
 cases hg:o.guard with
 | none=>rw[hg] at he;exact cm he
 | some gw =>
  obtain⟨g,want⟩:=gw
  rw[hg] at he
  have e:s'.T g=s.T g:=(h.T g (ht g (by simp[az.looks,hg]))).symm
  simp only at he ⊢
  rw[e]
  generalize s.T g=X at he ⊢
  cases X with
  | bool b =>
   simp only at he ⊢
   cases hc:(b==want) with
   | false =>
    rw[hc] at he
    simp only[aiQ,aiG,aiH] at he ⊢
    exact⟨he.1,trivial⟩
   | true=>rw[hc] at he;exact cm he
  | tuple vs =>
   cases vs with
   | nil=>simp only[aiG,aiH] at he ⊢;exact⟨he.1,trivial⟩
   | cons v vs=>cases he
  | _=>cases he
end
theorem rf{G:Nat->List AV}{cf:cC} : ∀ (is:List az) (s s' : AS),dT G cf true is s=some s' ->
  ∃ (S:Nat->AS) (V:Nat->AV),S 0=s/\S is.length=s'/\∀ i io,is[i]?=some io->lI G cf true (S i) io=some (V i,S i)/\aQ (V i)=none/\S (i+1)=(S i).ca io.dst (V i)
 | [],s,s',h=>by
  simp only[dT,aiG] at h
  exact⟨fun _=>s,fun _=>.undef,rfl,h,fun i io h=>by simp at h⟩
 | o :: r,s,s',h=>by
  simp only[dT,aiF,lH,aiE] at h
  obtain⟨s1,⟨⟨z,s2⟩,hz,rfl⟩,h⟩:=h
  obtain⟨rfl,hg⟩:=FF hz
  obtain⟨S,V,h0,hn,hS⟩:=rf r _ s' h
  refine⟨fun i=>match i with|0=>s2|i+1=>S i,fun i=>match i with|0=>z|i+1=>V i,rfl,hn,fun i io hi=>?_⟩
  cases i with
  | zero =>
   simp only[ai4,aiG] at hi
   subst hi
   exact⟨hz,hg,h0⟩
  | succ i=>exact hS i io (by simpa using hi)
structure Agree (s:AS) (D:Nat->Option Nat) (V:Nat->AV) (A:Nat->Prop) (x:AS):Prop where
 H:x.H=s.H
 gen:x.gen=s.gen
 lo:x.lo=s.lo
 Qd:∀ i,A i->∀ d,D i=some d->x.T d=V i
 not:∀ t,(∀ i,A i->D i≠some t)->x.T t=s.T t
theorem Agree.put{s x:AS}{D:Nat->Option Nat}{V:Nat->AV}{A:Nat->Prop}(h:Agree s D V A x){i:Nat}(hd:∀ j,A j->j≠i->∀ d,D i=some d->D j≠some d):Agree s D V (fun j=>A j\/j=i) (x.ca (D i) (V i)):=by
 cases hD:D i with
 | none =>
  refine⟨h.H,h.gen,h.lo,fun j hj d Kd=>?_,fun t ht=>h.not t (fun j hj=>ht j (.inl hj))⟩
  rcases hj with hj|rfl
  ·exact h.Qd j hj d Kd
  ·rw[hD] at Kd;cases Kd
 | some d =>
  refine⟨h.H,h.gen,h.lo,fun j hj d' Kd=>?_,fun t ht=>?_⟩
  ·simp only[AS.ca,AS.bz,gr]
   by_cases mV:j=i
   ·subst mV
    rw[hD] at Kd;injection Kd with Kd;subst Kd
    simp
   ·rcases hj with hj|hj
    ·rw[if_neg]
     ·exact h.Qd j hj d' Kd
     ·rintro rfl
      exact hd j hj mV d' hD Kd
    ·exact absurd hj mV
  ·simp only[AS.ca,AS.bz,gr]
   rw[if_neg]
   ·exact h.not t (fun j hj=>ht j (.inl hj))
   ·rintro rfl
    exact ht i (.inr rfl) hD
theorem Agree.eq{s x y:AS}{D:Nat->Option Nat}{V:Nat->AV}{A B:Nat->Prop}(hAB:∀ i,A i↔B i)(h:Agree s D V A x)(h' : Agree s D V B y):x=y:=by
 have hT:x.T=y.T:=by
  funext t
  by_cases hc:∃ i,A i/\D i=some t
  ·obtain⟨i,hi,hd⟩:=hc
   rw[h.Qd i hi t hd,h'.Qd i ((hAB i).1 hi) t hd]
  ·rw[h.not t (fun i hi hd=>hc ⟨i,hi,hd⟩),h'.not t (fun i hi hd=>hc ⟨i,(hAB i).2 hi,hd⟩)]
 cases x;cases y
 have:=h.H;have:=h.gen;have:=h.lo;have:=h'.H;have:=h'.gen;have:=h'.lo
 simp_all
theorem sY:∀ (n:Nat) (l:List Nat),l.Nodup->(∀ i,i∈l->i<n)->l.length<=n
 | 0,l,_,h=>by
  cases l with
  | nil=>exact aiK _
  | cons i l=>exact absurd (h i ai8) (akY _)
 | n+1,l,HJ,h=>by
  have ih:=sY n (l.erase n) (HJ.erase n) (fun i hi=>by
   have:=(HJ.mem_erase_iff).1 hi
   have:=h i this.2
   omega)
  rw[List.length_erase] at ih
  split at ih<;>omega
structure Order (L:List Nat) (ops:Array Oper) (is:List az):Prop where
 len:ops.size=is.length
 back:∀ (i:Nat) (o:Oper),ops[i]?=some o->∀ e,e∈o.after->Region.binds .any e=true->e.on<i
 aeO:∀ (i:Nat) (io:az) (d:Nat),is[i]?=some io->io.dst=some d->d∉L
 once:∀ (i j:Nat) (p q:az) (d:Nat),is[i]?=some p->is[j]?=some q->i≠j->q.dst=some d->p.dst≠some d
 look:∀ (i j:Nat) (o o' : Oper) (p q:az) (d:Nat),ops[i]?=some o->ops[j]?=some o'->is[i]?=some p->is[j]?=some q->i≠j->q.dst=some d->d∈p.looks ->
  (j<i/\∃ e,e∈o.after/\Region.binds .any e=true/\e.on=j)\/(i<j/\∃ e,e∈o'.after/\Region.binds .any e=true/\e.on=i)
theorem vl{o:Oper}{j:Nat}(h:sD o j=true):∃ e,e∈o.after/\Region.binds .any e=true/\e.on=j:=by
 unfold sD at h
 rw[Array.any_eq_true] at h
 obtain⟨k,hk,h⟩:=h
 simp only[aiL,dU,ai2] at h
 exact⟨o.after[k],Array.getElem_mem hk,h.1,h.2⟩
theorem C4{L:List Nat}{ops:Array Oper}{is:List az}(hl:ops.size=is.length)(h:rP L (ops.toList.zip is)=true):Order L ops is:=by
 have mem:∀ (i:Nat) (o:Oper) (io:az),ops[i]?=some o->is[i]?=some io->((o,io),i)∈(ops.toList.zip is).zipIdx:=by
  intro i o io h1 h2
  rw[akH]
  refine⟨i,?_⟩
  rw[akP,(akq (z:=(o,io))).2 ⟨by simpa using h1,h2⟩]
  simp
 have Ya:∀ (i:Nat) (io:az),is[i]?=some io->∃ o,ops[i]?=some o:=by
  intro i io hi
  have:i<ops.size:=by rw[hl];exact (aiI.1 hi).1
  exact⟨_,aiS this⟩
 have aeG:∀ (i:Nat) (o:Oper),ops[i]?=some o->∃ io,is[i]?=some io:=by
  intro i o hi
  have:i<is.length:=by rw[<- hl];exact (aiN.1 hi).1
  exact⟨_,aiJ this⟩
 unfold rP at h
 simp only[aiO] at h
 have Vg:∀ (i j:Nat) (o o' : Oper) (p q:az),ops[i]?=some o->ops[j]?=some o'->is[i]?=some p->is[j]?=some q->i≠j->∀ d,q.dst=some d ->
   p.dst≠some d/\(d∈p.looks->if j<i then sD o j=true else sD o' i=true):=by
  intro i j o o' p q h1 h2 h3 h4 uI d hd
  have:=h _ (mem i o p h1 h3)
  simp only[aiL,aiO] at this
  have:=this.2 _ (mem j o' q h2 h4)
  simp only[akh,dU,ai2,hd] at this
  rcases this with this|this
  ·exact absurd this uI
  simp only[aiL] at this
  refine⟨fun hpd=>?_,fun hlk=>?_⟩
  ·rw[hpd] at this
   simp at this
  ·have h5:=this.2
   simp only[akh,akk,List.contains_eq_mem,akb] at h5
   rcases h5 with h5|h5
   ·exact absurd hlk h5
   ·by_cases mV:j<i
    ·rw[if_pos mV]
     rw[show Nat.blt j i=true by simpa [ajb] using mV] at h5
     exact h5
    ·rw[if_neg mV]
     rw[show Nat.blt j i=false by simpa [<- akN,ajb] using mV] at h5
     exact h5
 refine⟨hl,fun i o hi e he hb=>?_,fun i io d hi hd=>?_,fun i j p q d hp hq uI hd=>?_,fun i j o o' p q d h1 h2 h3 h4 uI hd hlk=>?_⟩
 ·obtain⟨io,rz⟩:=aeG i o hi
  have:=h _ (mem i o io hi rz)
  simp only[aiL,aiO] at this
  have:=this.1.1
  rw[ak5] at this
  have:=this e he
  simpa [hb,ajb] using this
 ·obtain⟨o,ho⟩:=Ya i io hi
  have:=h _ (mem i o io ho hi)
  simp only[aiL,aiO,hd] at this
  simpa using this.1.2
 ·obtain⟨o,ho⟩:=Ya i p hp
  obtain⟨o',pk⟩:=Ya j q hq
  exact (Vg i j o o' p q ho pk hp hq uI d hd).1
 ·have:=(Vg i j o o' p q h1 h2 h3 h4 uI d hd).2 hlk
  by_cases mV:j<i
  ·rw[if_pos mV] at this
   exact .inl ⟨mV,vl this⟩
  ·rw[if_neg mV] at this
   exact .inr ⟨by omega,vl this⟩
section
variable {P:Program}{G:Nat->List AV}{base nt:Nat}{L:List Nat}{gh:Gh}{w w' : World}{a:Act}{s:AS}{H:ag}
theorem gJ{bK locals muts:List Nat}{ops:Array Oper} : ∀ {l:List Oper} {is:List az},fc P bK locals muts nt ops l=some is->l.length=is.length /\
  ∀ (i:Nat) (o:Oper),l[i]?=some o->∃ io,is[i]?=some io/\oB P bK locals muts nt ops o=some io
 | [],is,h=>by simp[fc] at h;subst h;exact⟨rfl,fun i o h=>by simp at h⟩
 | o :: l,is,h=>by
  simp only[fc,aiF,aiE] at h
  obtain⟨io,rz,ZI,DO,rfl⟩:=h
  obtain⟨h1,h2⟩:=gJ DO
  refine⟨by simp[h1],fun i o' hi=>?_⟩
  cases i with
  | zero=>simp only[ai4,aiG] at hi;subst hi;exact⟨io,rfl,rz⟩
  | succ i=>exact h2 i o' (by simpa using hi)
theorem Fu{cf:cC}(iv:dr P G cf){H0:ag}{gy:Gh}{w0:World}{bK locals muts:List Nat}{ops:Array Oper}(vD:∀ x,x∈locals->x∈L)(uG:∀ x,x∈muts->x∈L)(Q:Exit->Act->World->Prop)
  {is:List az} (hI:Inv G base nt L H0 gy w0 s gh w a) (hc:fc P bK locals muts nt ops ops.toList=some is) (qp:Order L ops is) {s' : AS} (he:dT G cf true is s=some s')
  (hQ:∀ a' aF w',Inv G base nt L H0 gy w0 s' aF w' a'->Q .normal a' w'):wpAny P .any ops Q ops.size (Array.replicate ops.size false) a w:=by
 obtain⟨S,V,h0,hn,hS⟩:=rf is s s' he
 obtain⟨hlen,Cr⟩:=gJ hc
 let D:Nat->Option Nat:=fun i=>(is[i]?).bind (·.dst)
 have hD:∀ i io,is[i]?=some io->D i=io.dst:=fun i io h=>by simp[D,h]
 have Ck:∀ i d,D i=some d->∃ io,is[i]?=some io/\io.dst=some d:=by
  intro i d h
  simp only[D,aiF] at h
  exact h
 have HL:∀ i j d,i≠j->D i=some d->D j≠some d:=by
  intro i j d uI hi hj
  obtain⟨p,hp,hpd⟩:=Ck i d hi
  obtain⟨q,hq,hqd⟩:=Ck j d hj
  exact qp.once i j p q d hp hq uI hqd hpd
 have vK:∀ k,k<=is.length->Agree s D V (fun i=>i<k) (S k):=by
  intro k
  induction k with
  | zero=>intro _;rw[h0];exact⟨rfl,rfl,rfl,fun i hi=>absurd hi (akY _),fun t _=>rfl⟩
  | succ k ih =>
   intro hk
   have rz:=aiJ (show k<is.length by omega)
   obtain⟨_,_,h3⟩:=hS k _ rz
   rw[h3,<- hD k _ rz]
   have:=(ih (by omega)).put (i:=k) (fun j hj cU d hd=>HL k j d (aj6 cU) hd)
   refine⟨this.H,this.gen,this.lo,fun i hi=>this.Qd i (by rcases aj8 i k with h|h;exact .inl h;exact .inr (by omega)),fun t ht=>this.not t (fun i hi=>ht i (by rcases hi with h|h<;>omega))⟩
 have aaH:∀ i d,D i=some d->aQ (V i)=none:=by
  intro i d hd
  obtain⟨io,rz,_⟩:=Ck i d hd
  exact (hS i io rz).2.1
 have main:∀ (n:Nat) (listed:Array Bool) (x:AS) (gh:Gh) (w:World) (a:Act),listed.size=ops.size->(∀ l:List Nat,l.Nodup->(∀ i,i∈l->i<ops.size/\listed.getD i true=false)->l.length<=n) ->
   (∀ j o,ops[j]?=some o->listed.getD j false=true->∀ e,e∈o.after->Region.binds .any e=true->listed.getD e.on false=true) ->
   Agree s D V (fun i=>listed.getD i false=true) x->Inv G base nt L H0 gy w0 x gh w a->wpAny P .any ops Q n listed a w:=by
  intro n
  induction n with
  | zero =>
   intro listed x gh w a fC F4 nF hA hI
   have fg:∀ i,i<ops.size->listed.getD i false=true:=by
    intro i hi
    cases hb:listed.getD i true with
    | true =>
     have:i<listed.size:=by omega
     simpa [this] using hb
    | false =>
     have:=F4 [i] (by simp) (fun j hj=>by simp at hj;subst hj;exact⟨hi,hb⟩)
     simp at this
   have qq:Region.ready .any ops listed=[]:=by
    cases hr:Region.ready .any ops listed with
    | nil=>rfl
    | cons i r =>
     have hm:i∈Region.ready .any ops listed:=by rw[hr];exact ai8
     obtain⟨h1,o,h2,_⟩:=mem_ready.1 hm
     have a7:=(aiN.1 h2).1
     have:=fg i a7
     have me:i<listed.size:=by omega
     simp[me] at this h1
     rw[this] at h1
     cases h1
   refine⟨qq,?_⟩
   have hx:x=s':=by
    rw[<- hn]
    refine hA.eq (B:=fun i=>i<is.length) (fun i=>?_) (vK _ (aiK _))
    constructor
    ·intro h
     have a7:i<listed.size:=by
      rcases aj8 i listed.size with h'|h'
      ·exact h'
      ·simp[aj0 h'] at h
     rw[<- qp.len];omega
    ·intro h
     exact fg i (by rw[qp.len];exact h)
   rw[hx] at hI
   exact hQ a gh w hI
  | succ n ih =>
   intro listed x gh w a fC F4 nF hA hI
   refine⟨fun qq=>?_,fun i hi=>?_⟩
   ·
    have fg:∀ i,i<ops.size->listed.getD i false=true:=by
     intro i
     induction i using Nat.strongRecOn with
     | _ i DQ =>
      intro a7
      have me:i<listed.size:=by omega
      cases hb:listed.getD i true with
      | true=>simpa [me] using hb
      | false =>
       exfalso
       have ho:=aiS a7
       have:i∈Region.ready .any ops listed:=mem_ready.2 ⟨hb,_,ho,fun e he mU=>by
        have LQ:=qp.back i _ ho e he mU
        exact DQ e.on LQ (by omega)⟩
       rw[qq] at this
       cases this
    have hx:x=s':=by
     rw[<- hn]
     refine hA.eq (B:=fun i=>i<is.length) (fun i=>?_) (vK _ (aiK _))
     constructor
     ·intro h
      have a7:i<listed.size:=by
       rcases aj8 i listed.size with h'|h'
       ·exact h'
       ·simp[aj0 h'] at h
      rw[<- qp.len];omega
     ·intro h
      exact fg i (by rw[qp.len];exact h)
    rw[hx] at hI
    exact hQ a gh w hI
   ·obtain⟨WY,o,ho,vE⟩:=mem_ready.1 hi
    have a7:=(aiN.1 ho).1
    have me:i<listed.size:=by omega
    obtain⟨io,rz,bp⟩:=Cr i o (by simpa using ho)
    have Jm:¬ (listed.getD i false=true):=by
     simp[me] at WY ⊢
     exact WY
    have UM:=vK i (by rw[<- qp.len];omega)
    have L0:oo (S i) x io.looks:=by
     refine⟨by rw[UM.H,hA.H],fun t ht=>?_,fun b=>?_⟩
     ·by_cases hw:∃ j,D j=some t
      ·obtain⟨j,hj⟩:=hw
       have uniq:∀ k,D k=some t->k=j:=by
        intro k hk
        by_cases PQ:k=j
        ·exact PQ
        ·exact absurd hj (HL k j t PQ hk)
       obtain⟨q,hq,hqd⟩:=Ck j t hj
       by_cases uI:i=j
       ·subst uI
        rw[UM.not t (fun k hk hd=>by have:=uniq k hd;omega),hA.not t (fun k hk hd=>by rw[uniq k hd] at hk;exact Jm hk)]
       ·have hoj:∃ o',ops[j]?=some o':=⟨_,aiS (show j<ops.size by rw[qp.len];exact (aiI.1 hq).1)⟩
        obtain⟨o',pk⟩:=hoj
        rcases qp.look i j o o' io q t ho pk rz hq uI hqd ht with ⟨mV,e,he,mU,hon⟩|⟨mV,e,he,mU,hon⟩
        ·have hjA:=vE e he mU
         rw[hon] at hjA
         rw[UM.Qd j mV t hj,hA.Qd j hjA t hj]
        ·have hjA:¬ (listed.getD j false=true):=by
          intro h
          have:=nF j o' pk h e he mU
          rw[hon] at this
          exact Jm this
         rw[UM.not t (fun k hk hd=>by have:=uniq k hd;omega),hA.not t (fun k hk hd=>by rw[uniq k hd] at hk;exact hjA hk)]
      ·rw[UM.not t (fun k _ hd=>hw ⟨k,hd⟩),hA.not t (fun k _ hd=>hw ⟨k,hd⟩)]
     ·by_cases hw:∃ j,D j=some b
      ·obtain⟨j,hj⟩:=hw
       obtain⟨q,hq,hqd⟩:=Ck j b hj
       have hbL:=qp.aeO j q b hq hqd
       have h1:aQ (x.T b)=none:=by
        cases hg:aQ (x.T b) with
        | none=>rfl
        | some k=>exact absurd (hI.F.obj b (by rw[hg];rfl)) hbL
       have hsb:aQ (s.T b)=none:=by
        cases hg:aQ (s.T b) with
        | none=>rfl
        | some k=>exact absurd (‹Inv G base nt L H0 gy w0 s _ _ _›.F.obj b (by rw[hg];rfl)) hbL
       refine .inr ?_
       by_cases mV:j<i
       ·rw[UM.Qd j mV b hj];exact aaH j b hj
       ·rw[UM.not b (fun k hk hd=>by
         by_cases PQ:k=j
         ·omega
         ·exact HL k j b PQ hd hj)]
        exact hsb
      ·exact .inl (by rw[UM.not b (fun k _ hd=>hw ⟨k,hd⟩),hA.not b (fun k _ hd=>hw ⟨k,hd⟩)])
    have bc:=BZ L0 (fun t h=>h) (hS i io rz).1
    unfold wpOp
    rw[ho]
    refine mZ iv hI bp vD uG bc _ Q (fun a' aF w' jQ=>?_)
    rw[<- (iL bp).2.2.1,<- hD i io rz] at jQ
    have rC:∀ j,(listed.setIfInBounds i true).getD j false=true↔(listed.getD j false=true\/j=i):=by
     intro j
     by_cases mV:i=j
     ·subst mV
      simp[me]
     ·rw[getD_set_ne false mV]
      simp[aj6 mV]
    refine ih (listed.setIfInBounds i true) _ aF w' a' (by simpa using fC) (fun l HJ hl=>?_) (fun j o' pk hj e he mU=>?_) ?_ jQ
    ·have Wx:i∉l:=by
      intro hm
      have:=(hl i hm).2
      simp[me] at this
     have:=F4 (i :: l) (List.nodup_cons.2 ⟨Wx,HJ⟩) (fun j hj=>by
      rcases aja.1 hj with rfl|hj
      ·exact⟨a7,WY⟩
      ·have h1:=hl j hj
       have mV:i≠j:=by rintro rfl;exact Wx hj
       rw[getD_set_ne true mV] at h1
       exact h1)
     simp at this
     omega
    ·rcases (rC j).1 hj with h|rfl
     ·exact (rC _).2 (.inl (nF j o' pk h e he mU))
     ·rw[ho] at pk
      injection pk with pk
      subst pk
      exact (rC _).2 (.inl (vE e he mU))
    ·have:=hA.put (i:=i) (fun j hj cU d hd=>HL i j d (aj6 cU) hd)
     exact⟨this.H,this.gen,this.lo,fun j hj=>this.Qd j ((rC j).1 hj),fun t ht=>this.not t (fun j hj=>ht j ((rC j).2 hj))⟩
 refine main ops.size _ s gh w a (by simp) (fun l HJ hl=>?_) (fun j o hj h=>?_) ?_ hI
 ·exact sY ops.size l HJ (fun i hi=>(hl i hi).1)
 ·exfalso
  have:(Array.replicate ops.size false).getD j false=false:=by
   by_cases h:j<ops.size<;>simp[h]
  rw[this] at h
  cases h
 ·have j8:∀ i,¬ ((Array.replicate ops.size false).getD i false=true):=by
   intro i h
   have:(Array.replicate ops.size false).getD i false=false:=by
    by_cases h:i<ops.size<;>simp[h]
   rw[this] at h
   cases h
  exact⟨rfl,rfl,rfl,fun i hi=>absurd hi (j8 i),fun t _=>rfl⟩
end
end
section
section
variable {G:Nat->List AV}{cf:cC}
end
section
variable {G:Nat->List AV}{cf:cC}
end
section
variable {G:Nat->List AV}{base nt:Nat}{L:List Nat}{gh:Gh}{w w' : World}{a:Act}{s:AS}
end
section
variable {G:Nat->List AV}{base nt:Nat}{L:List Nat}{gh:Gh}{w w' : World}{a:Act}
end
end
section
section
variable {G:Nat->List AV}{is:List az}{L:List Nat}{ops:Array Oper}{s s2 s3 x:AS}{D:Nat->Option Nat}{V:Nat->AV}{A:Nat->Prop}
end
end
section
section
variable {P:Program}{G:Nat->List AV}{base nt:Nat}{L:List Nat}{gh:Gh}{w w' : World}{a:Act}{s:AS}{H:ag}
end
end
section
structure Vo (e:xM) (s x:AS):Prop where
 T:∀ t,t∈e.rs->x.T t=s.T t
 H:e.rh=true\/e.wh=true->x.H=s.H/\x.lo=s.lo
 G:e.wg=true->x.gen=s.gen
structure dR (e:xM) (s1 x x1:AS):Prop where
 T:∀ t,t∈e.ws->x1.T t=s1.T t
 T' : ∀ t,t∉e.ws->x1.T t=x.T t
 H:e.wh=true->x1.H=s1.H/\x1.lo=s1.lo
 H' : e.wh=false->x1.H=x.H/\x1.lo=x.lo
 G:e.wg=true->x1.gen=s1.gen
 G' : e.wg=false->x1.gen=x.gen
theorem dR.stay{e:xM}{s x:AS}(h:Vo e s x)(hw:∀ t,t∈e.ws->t∈e.rs):dR e s x x :=
 ⟨fun t ht=>h.T t (hw t ht),fun _ _=>rfl,fun hh=>h.H (.inr hh),fun _=>⟨rfl,rfl⟩,fun hg=>h.G hg,fun _=>rfl⟩
section
variable {G:Nat->List AV}{cf:cC}{s x:AS}{e:xM}
theorem Ky(h:∀ t,t∈e.rs->x.T t=s.T t){y:ak}(hy:∀ t,t∈y.tmps->t∈e.rs):y.eval G x.T=y.eval G s.T:=by
 cases y<;>try rfl
 rename_i t
 exact h t (hy t (by simp[ak.tmps]))
theorem Kx(h:∀ t,t∈e.rs->x.T t=s.T t){y:ak}(hy:∀ t,t∈y.tmps->t∈e.rs):y.addr G x.T=y.addr G s.T:=by
 cases y<;>try rfl
 rename_i t
 simp only[ak.addr]
 rw[h t (hy t (by simp[ak.tmps]))]
def cW(pc:Bool):dQ->dQ
 | .call f xs=>cond pc (.iP f xs) (.call f xs)
 | o=>o
theorem tX(pc:Bool)(o:az):iD pc o=⟨o.dst,o.guard,cW pc o.op⟩:=by
 obtain⟨d,g,op⟩:=o
 cases op<;>simp only[iD,cW]
 cases pc<;>rfl
theorem dN(s:AS)(t:Nat)(v:AV)(k:Nat):(s.bz t v).T k=if k=t then v else s.T k:=gr s.T t v k
theorem vU{c:J'}{Y:AV}(h:bO s Y=true)(hc:fA c Y=true)(hT:∀ b,b∈fy c->x.T b=s.T b):bO x Y=true:=by
 cases Y<;>simp only[bO] at h ⊢<;>try (cases h;done)
 case lref b g off =>
  cases c with
  | frame b' =>
   simp only[fA,dU,ai2] at hc
   subst hc
   rw[hT b' (aiY.2 rfl)];exact h
  | _=>cases hc
 case eref=>cases c<;>cases hc
theorem SH{pc:Bool}{c:J'}{op:dQ}(he:x8 pc c op=some e)(hc:∀ y,(∃ t a z,op=.load t a z y)\/(∃ z v,op=.store z y v)\/op=.nilCheck y\/(∃ f,op=.fieldAddr f y)\/(∃ n z i,op=.ixArr n z y i)->fA c (y.addr G s.T)=true)
  (gz:∀ y,(∃ z i,op=.ixSl z y i)\/(∃ k,op=.len k y)->fA .heap (y.addr G s.T)=true)
  {z:AV} {so:Option AS} (bc:ai G cf s (cW pc op)=some (z,so)) (ha:Vo e s x) :
  ∃ xo,ai G cf x op=some (z,xo)/\dR e (so.getD s) x (xo.getD x)/\(∀ t,t∈e.ws->t∈e.rs):=by
 have stay:(∀ t,t∈e.ws->t∈e.rs)->so=none->ai G cf x op=some (z,none)->∃ xo,ai G cf x op=some (z,xo)/\dR e (so.getD s) x (xo.getD x)/\(∀ t,t∈e.ws->t∈e.rs):=by
  rintro hw rfl h
  exact⟨none,h,dR.stay ha hw,hw⟩
 have ev:∀ {y:ak},(∀ t,t∈y.tmps->t∈e.rs)->y.eval G x.T=y.eval G s.T:=fun hy=>Ky ha.T hy
 have ad:∀ {y:ak},(∀ t,t∈y.tmps->t∈e.rs)->y.addr G x.T=y.addr G s.T:=fun hy=>Kx ha.T hy
 have oT:∀ {X:Option AV} {w:AV} {o:Option AS},X.map (fun v=>(v,(none:Option AS)))=some (w,o)->o=none:=by
  intro X w o h
  cases X with
  | none=>cases h
  | some v=>simp at h;exact h.2.symm
 cases op<;>simp only[x8] at he<;>try (cases he;done)
 case mov take obj y =>
  cases obj with
  | true=>cases he
  | false =>
   simp only[aiQ,aiG] at he
   subst he
   have hw:∀ t,t∈(cond take y.tmps [])->t∈y.tmps:=by cases take<;>simp
   simp only[cW,ai] at bc ⊢
   cases y with
   | tmp t =>
    have ht:=ha.T t (by simp[ak.tmps])
    simp only[kO] at bc ⊢
    rw[ht]
    generalize s.T t=X at bc ht
    cases X
    case slice el own =>
     cases WX:(take&&own) with
     | false =>
      simp only[WX,aiQ,aiG,aiH] at bc
      obtain⟨rfl,rfl⟩:=bc
      exact⟨none,by simp only[WX,aiQ],dR.stay ha hw,hw⟩
     | true =>
      simp only[aiL] at WX
      obtain⟨rfl,rfl⟩:=WX
      simp only[ajN,cond_true,aiG,aiH] at bc
      obtain⟨rfl,rfl⟩:=bc
      refine⟨some (x.bz t (.slice el false)),rfl,⟨fun k hk=>?_,fun k hk=>?_,fun h=>(by cases h),fun _=>⟨rfl,rfl⟩,fun h=>(by cases h),fun _=>rfl⟩,hw⟩
      ·simp only[cond_true,ak.tmps,aiY] at hk
       simp only[ajC,dN,hk,ajY]
      ·simp only[cond_true,ak.tmps,aiY] at hk
       simp only[ajC,dN,if_neg hk]
    case lsl g el =>
     cases take with
     | true =>
      simp only[cond_true,aiQ] at bc
      obtain⟨h0,bc⟩:=ab bc
      simp only[aiG,aiH] at bc
      obtain⟨rfl,rfl⟩:=bc
      refine⟨some (x.bz t (.slice el false)),by simp only[h0,cond_true,aiQ],⟨fun k hk=>?_,fun k hk=>?_,fun h=>(by cases h),fun _=>⟨rfl,rfl⟩,fun h=>(by cases h),fun _=>rfl⟩,hw⟩
      ·simp only[cond_true,ak.tmps,aiY] at hk
       simp only[ajC,dN,hk,ajY]
      ·simp only[cond_true,ak.tmps,aiY] at hk
       simp only[ajC,dN,if_neg hk]
     | false =>
      simp only[aiQ,aiG,aiH] at bc
      obtain⟨rfl,rfl⟩:=bc
      exact⟨none,rfl,dR.stay ha hw,hw⟩
    case iter=>cases bc
    all_goals
     simp only[aiG,aiH] at bc
     obtain⟨rfl,rfl⟩:=bc
     exact⟨none,rfl,dR.stay ha hw,hw⟩
   | _ =>
    simp only[kO,aiG,aiH] at bc
    obtain⟨rfl,rfl⟩:=bc
    exact⟨none,rfl,dR.stay ha hw,hw⟩
 case allocL zs =>
  simp only[aiG] at he
  subst he
  simp only[cW,ai,aiG,aiH] at bc
  obtain⟨rfl,rfl⟩:=bc
  have hg:=ha.G rfl
  refine⟨some { x with gen:=x.gen+1 },by simp only[ai,hg],⟨fun k hk=>(by cases hk),fun _ _=>rfl,fun h=>(by cases h),fun _=>⟨rfl,rfl⟩,fun _=>?_,fun h=>(by cases h)⟩,fun k hk=>(by cases hk)⟩
  simp[hg]
 case boxL y =>
  simp only[aiG] at he
  subst he
  simp only[cW,ai,aiE,aiH] at bc
  obtain⟨cs,fq,rfl,rfl⟩:=bc
  have hg:=ha.G rfl
  refine⟨some { x with gen:=x.gen+1 },by simp only[ai,hg,ev (y:=y) (fun t h=>h),fq,aiV],⟨fun k hk=>(by cases hk),fun _ _=>rfl,fun h=>(by cases h),fun _=>⟨rfl,rfl⟩,fun _=>?_,fun h=>(by cases h)⟩,fun k hk=>(by cases hk)⟩
  simp[hg]
 case build zs ps =>
  simp only[aiG] at he
  subst he
  have e1:(ps.map fun p=>(p.1,p.2.1,(p.2.2.eval G x.T).drop))=ps.map fun p=>(p.1,p.2.1,(p.2.2.eval G s.T).drop):=ai6 fun p hp=>by
   rw[ev (y:=p.2.2) (fun t h=>by simp only[dQ.tmps,ajL];exact⟨p,hp,h⟩)]
  simp only[cW,ai,aiE,aiH] at bc
  obtain⟨E,hE,rfl,rfl⟩:=bc
  exact stay (fun t h=>by cases h) rfl (by simp only[ai,e1,hE,aiV])
 case mkslice b sz zs ps =>
  simp only[aiG] at he
  subst he
  have e1:(ps.map fun p=>(p.1,(p.2.eval G x.T).drop))=ps.map fun p=>(p.1,(p.2.eval G s.T).drop):=ai6 fun p hp=>by
   rw[ev (y:=p.2) (fun t h=>by simp only[dQ.tmps,ajL];exact⟨p,hp,h⟩)]
  simp only[cW,ai,aiF] at bc
  obtain⟨E,hE,bc⟩:=bc
  obtain⟨h0,bc⟩:=ab bc
  simp only[aiG,aiH] at bc
  obtain⟨rfl,rfl⟩:=bc
  exact stay (fun t h=>by cases h) rfl (by simp only[ai,e1,hE,aiP,h0,cond_true])
 case bin o q y1 y2 =>
  simp only[aiG] at he
  subst he
  simp only[cW,ai] at bc
  have po:=oT bc
  subst po
  exact stay (fun t h=>by cases h) rfl (by simp only[ai];rw[ev (y:=y1) (fun t h=>aiM.2 (.inl h)),ev (y:=y2) (fun t h=>aiM.2 (.inr h))];exact bc)
 case mm o y1 y2 =>
  simp only[aiG] at he
  subst he
  simp only[cW,ai] at bc
  have po:=oT bc
  subst po
  exact stay (fun t h=>by cases h) rfl (by simp only[ai];rw[ev (y:=y1) (fun t h=>aiM.2 (.inl h)),ev (y:=y2) (fun t h=>aiM.2 (.inr h))];exact bc)
 case un o y =>
  simp only[aiG] at he
  subst he
  simp only[cW,ai] at bc
  have po:=oT bc
  subst po
  exact stay (fun t h=>by cases h) rfl (by simp only[ai];rw[ev (y:=y) (fun t h=>h)];exact bc)
 case nilS o y =>
  simp only[aiG] at he
  subst he
  simp only[cW,ai] at bc
  have po:so=none:=by
   simp only[aiE,aiH] at bc
   obtain⟨_,_,_,h⟩:=bc
   exact h.symm
  subst po
  exact stay (fun t h=>by cases h) rfl (by simp only[ai];rw[ev (y:=y) (fun t h=>h)];exact bc)
 case slice k y lo hi mx =>
  simp only[aiG] at he
  subst he
  simp only[cW,ai] at bc
  have po:=oT bc
  subst po
  have opt:∀ o:Option ak,(∀ t,t∈o.toList.flatMap ak.tmps->t∈(dQ.slice k y lo hi mx).tmps)->o.map (·.eval G x.T)=o.map (·.eval G s.T):=by
   intro o ho
   cases o with
   | none=>rfl
   | some q=>simp only[aiV];rw[ev (y:=q) (fun t hm=>ho t (by simp[hm]))]
  exact stay (fun t h=>by cases h) rfl (by
   simp only[ai]
   rw[ev (y:=y) (fun t hm=>by simp only[dQ.tmps,aiM];exact .inl (.inl (.inl hm))),
    opt lo (fun t hm=>by simp only[dQ.tmps,aiM];exact .inl (.inl (.inr hm))),
    opt hi (fun t hm=>by simp only[dQ.tmps,aiM];exact .inl (.inr hm)),
    opt mx (fun t hm=>by simp only[dQ.tmps,aiM];exact .inr hm)]
   exact bc)
 case conv o y =>
  simp only[aiG] at he
  subst he
  simp only[cW,ai] at bc
  have po:=oT bc
  subst po
  exact stay (fun t h=>by cases h) rfl (by simp only[ai];rw[ev (y:=y) (fun t h=>h)];exact bc)
 case pick c0 a0 b0 =>
  simp only[aiG] at he
  subst he
  simp only[cW,ai] at bc
  have h1:=ev (y:=c0) (fun t h=>by simp[h])
  have h2:=ad (y:=a0) (fun t h=>by simp[h])
  have h3:=ad (y:=b0) (fun t h=>by simp[h])
  split at bc
  ·rename_i hb
   simp only[aiG,aiH] at bc
   obtain⟨rfl,rfl⟩:=bc
   exact stay (fun t h=>by cases h) rfl (by simp only[ai,h1,h2,h3,hb])
  ·cases bc
 case field agg off sz y =>
  simp only[aiG] at he
  subst he
  simp only[cW,ai] at bc
  have h1:=ev (y:=y) (fun t h=>h)
  split at bc
  ·rename_i hb
   have po:=oT bc
   subst po
   exact stay (fun t h=>by cases h) rfl (by simp only[ai,h1,hb];exact bc)
  ·cases bc
 case index agg n sz y i =>
  simp only[aiG] at he
  subst he
  simp only[cW,ai,aiF] at bc
  obtain⟨k,hk,bc⟩:=bc
  obtain⟨h0,bc⟩:=ab bc
  have h1:=ev (y:=y) (fun t h=>by simp[h])
  have h2:=ev (y:=i) (fun t h=>by simp[h])
  split at bc
  ·rename_i hb
   have po:=oT bc
   subst po
   exact stay (fun t h=>by cases h) rfl (by simp only[ai,h1,h2,hk,aiP,h0,cond_true,hb];exact bc)
  ·cases bc
 case indexStr y i =>
  simp only[aiG] at he
  subst he
  simp only[cW,ai] at bc
  have h1:=ev (y:=y) (fun t h=>by simp[h])
  have h2:=ev (y:=i) (fun t h=>by simp[h])
  split at bc
  ·rename_i l hb
   simp only[aiF,aiE,aiH] at bc
   obtain⟨k,hk,b,yl,rfl,rfl⟩:=bc
   exact stay (fun t h=>by cases h) rfl (by simp only[ai,h1,h2,hb,hk,aiP,yl,aiV])
  ·cases bc
 case extract y i =>
  simp only[aiG] at he
  subst he
  simp only[cW,ai] at bc
  have h1:=ev (y:=y) (fun t h=>h)
  split at bc
  ·rename_i vs hb
   simp only[aiE,aiH] at bc
   obtain⟨v,hv,rfl,rfl⟩:=bc
   exact stay (fun t h=>by cases h) rfl (by simp only[ai,h1,hb,hv,aiV])
  ·cases bc
 case mkfunc f a b =>
  simp only[aiG] at he
  subst he
  simp only[cW,ai] at bc
  obtain⟨h0,bc⟩:=ab bc
  simp only[aiG,aiH] at bc
  obtain⟨rfl,rfl⟩:=bc
  have ha:∀ y,y∈a->y.addr G x.T=y.addr G s.T:=fun y hy=>ad (y:=y) (fun t h=>by
   simp only[dQ.tmps,aiM,ajL];exact .inl ⟨y,hy,h⟩)
  have hb:∀ y,y∈b->y.addr G x.T=y.addr G s.T:=fun y hy=>ad (y:=y) (fun t h=>by
   simp only[dQ.tmps,aiM,ajL];exact .inr ⟨y,hy,h⟩)
  have e1:(a.map fun a=>a.addr G x.T)=a.map fun a=>a.addr G s.T:=ai6 ha
  have e2:(b.map fun a=>a.addr G x.T)=b.map fun a=>a.addr G s.T:=ai6 hb
  have e3:(a.map fun a=>(a.addr G x.T).drop)=a.map fun a=>(a.addr G s.T).drop:=ai6 fun y hy=>by rw[ha y hy]
  have e4:(b.map fun a=>(a.addr G x.T).drop)=b.map fun a=>(a.addr G s.T).drop:=ai6 fun y hy=>by rw[hb y hy]
  exact stay (fun t h=>by cases h) rfl (by simp only[ai];rw[e1,e2,e3,e4,h0,cond_true])
 case load take agg sz y =>
  simp only[aiG] at he
  subst he
  have iT:=hc y (.inl ⟨take,agg,sz,rfl⟩)
  simp only[cW,ai] at bc ⊢
  rw[ad (y:=y) (fun t h=>aiM.2 (.inl h))]
  generalize y.addr G s.T=Y at bc iT
  have hw:∀ t,t∈(cond (take&&!agg) (fy c) [])->t∈y.tmps++fy c:=by
   intro t ht
   cases hb:(take&&!agg) with
   | false=>rw[hb] at ht;cases ht
   | true=>rw[hb] at ht;exact aiM.2 (.inr ht)
  cases Y<;>simp only[cG] at bc<;>try (cases bc;done)
  case eptr cs =>
   simp only[aiE,aiH] at bc
   obtain⟨v,hv,rfl,rfl⟩:=bc
   exact⟨none,by simp only[cG,hv,aiV],dR.stay ha hw,hw⟩
  case ref loc off =>
   cases c with
   | frame b=>cases iT
   | Q4=>cases iT
   | heap =>
    obtain⟨hH,hl⟩:=ha.H (.inl rfl)
    split at bc
    ·rename_i ty cs HA
     simp only[aiE,aiH] at bc
     obtain⟨v,hv,rfl,rfl⟩:=bc
     by_cases hta:take=true/\agg=false
     ·obtain⟨rfl,rfl⟩:=hta
      refine⟨some (x.dZ ⟨s.H.set loc (.box ty (bN off cs)),loc⟩),by simp only[cG,hH,HA,hv,aiV,ajp,ajN,cond_true],⟨fun k hk=>(by cases hk),fun k hk=>rfl,fun _=>⟨rfl,?_⟩,fun h=>(by cases h),fun h=>(by cases h),fun _=>rfl⟩,hw⟩
      simp only[ajp,ajN,cond_true,ajC,AS.dZ,hl]
     ·have hb:(take&&!agg)=false:=by cases take<;>cases agg<;>simp_all
      have po:∀ A:AS,(cond (take&&!agg) (some A) none:Option AS)=none:=fun A=>by rw[hb];rfl
      rw[po]
      exact⟨none,by simp only[cG,hH,HA,hv,aiV,po],dR.stay ha hw,hw⟩
    ·rename_i cs HA
     simp only[aiE,aiH] at bc
     obtain⟨v,hv,rfl,rfl⟩:=bc
     exact⟨none,by simp only[cG,hH,HA,hv,aiV],dR.stay ha hw,hw⟩
    ·rename_i cs HA
     simp only[aiE,aiH] at bc
     obtain⟨v,hv,rfl,rfl⟩:=bc
     exact⟨none,by simp only[cG,hH,HA,hv,aiV],dR.stay ha hw,hw⟩
    ·cases bc
  case lref b g off =>
   cases c with
   | Q4=>cases iT
   | heap=>cases iT
   | frame b' =>
    simp only[fA,dU,ai2] at iT
    subst iT
    have Zt:=ha.T b' (aiM.2 (.inr (aiY.2 rfl)))
    split at bc
    ·rename_i g' cs hT
     obtain⟨h0,bc⟩:=ab bc
     simp only[aiE,aiH] at bc
     obtain⟨v,hv,rfl,rfl⟩:=bc
     rw[hT] at Zt
     by_cases hta:take=true/\agg=false
     ·obtain⟨rfl,rfl⟩:=hta
      refine⟨some (x.bz b' (.lbox g (bN off cs))),by simp only[cG,Zt,h0,cond_true,hv,aiV,ajp,ajN],⟨fun k hk=>?_,fun k hk=>?_,fun h=>(by cases h),fun _=>⟨rfl,rfl⟩,fun h=>(by cases h),fun _=>rfl⟩,hw⟩
      ·simp only[ajp,ajN,cond_true,fy,aiY] at hk
       simp only[ajp,ajN,cond_true,ajC,dN,hk,ajY]
      ·simp only[ajp,ajN,cond_true,fy,aiY] at hk
       simp only[ajC,dN,if_neg hk]
     ·have hb:(take&&!agg)=false:=by cases take<;>cases agg<;>simp_all
      have po:∀ A:AS,(cond (take&&!agg) (some A) none:Option AS)=none:=fun A=>by rw[hb];rfl
      rw[po]
      exact⟨none,by simp only[cG,Zt,h0,cond_true,hv,aiV,po],dR.stay ha hw,hw⟩
    ·cases bc
  case eref=>cases c<;>cases iT
 case nilCheck y =>
  simp only[aiG] at he
  subst he
  have iT:=hc y (.inr (.inr (.inl rfl)))
  simp only[cW,ai] at bc ⊢
  rw[ad (y:=y) (fun t h=>aiM.2 (.inl h))]
  generalize y.addr G s.T=Y at bc iT
  obtain⟨h0,bc⟩:=ab bc
  simp only[aiG,aiH] at bc
  obtain⟨rfl,rfl⟩:=bc
  have h1:=vU h0 iT (fun b hb=>ha.T b (aiM.2 (.inr hb)))
  exact⟨none,by simp only[h1,cond_true],dR.stay ha (fun t h=>by cases h),fun t h=>by cases h⟩
 case fieldAddr off y =>
  simp only[aiG] at he
  subst he
  have iT:=hc y (.inr (.inr (.inr (.inl ⟨off,rfl⟩))))
  simp only[cW,ai] at bc ⊢
  rw[ad (y:=y) (fun t h=>aiM.2 (.inl h))]
  generalize y.addr G s.T=Y at bc iT
  obtain⟨h0,bc⟩:=ab bc
  have po:=oT bc
  subst po
  have h1:=vU h0 iT (fun b hb=>ha.T b (aiM.2 (.inr hb)))
  exact⟨none,by simp only[h1,cond_true];exact bc,dR.stay ha (fun t h=>by cases h),fun t h=>by cases h⟩
 case ixArr n sz y i =>
  simp only[aiG] at he
  subst he
  have iT:=hc y (.inr (.inr (.inr (.inr ⟨n,sz,i,rfl⟩))))
  simp only[cW,ai,aiF] at bc ⊢
  obtain⟨k,hk,bc⟩:=bc
  rw[ad (y:=y) (fun t h=>by simp[h]),ev (y:=i) (fun t h=>by simp[h])]
  generalize y.addr G s.T=Y at bc iT
  obtain⟨h0,bc⟩:=ab bc
  simp only[aiL] at h0
  have po:=oT bc
  subst po
  have h1:=vU h0.2 iT (fun b hb=>ha.T b (by simp[hb]))
  exact⟨none,⟨k,hk,by simp only[h0.1,h1,ajN,cond_true];exact bc⟩,dR.stay ha (fun t h=>by cases h),fun t h=>by cases h⟩
 case ixSl sz y i =>
  simp only[aiG] at he
  subst he
  have iT:=gz y (.inl ⟨sz,i,rfl⟩)
  simp only[cW,ai] at bc ⊢
  rw[ad (y:=y) (fun t h=>aiM.2 (.inl h)),ev (y:=i) (fun t h=>aiM.2 (.inr h))]
  generalize y.addr G s.T=Y at bc iT
  cases Y<;>try (cases bc;done)
  case slice el own =>
   simp only[aiF] at bc
   obtain⟨k,hk,r,hr,bc⟩:=bc
   obtain⟨h0,bc⟩:=ab bc
   simp only[aiG,aiH] at bc
   obtain⟨rfl,rfl⟩:=bc
   exact⟨none,by simp only[hk,aiP,hr,h0,cond_true],dR.stay ha (fun t h=>by cases h),fun t h=>by cases h⟩
  case sref l o m zz =>
   simp only[aiF] at bc
   obtain⟨k,hk,bc⟩:=bc
   obtain⟨h0,bc⟩:=ab bc
   simp only[aiG,aiH] at bc
   obtain⟨rfl,rfl⟩:=bc
   exact⟨none,by simp only[hk,aiP,h0,cond_true],dR.stay ha (fun t h=>by cases h),fun t h=>by cases h⟩
  case lsr=>cases iT
 case len k y =>
  simp only[aiG] at he
  subst he
  have iT:=gz y (.inr ⟨k,rfl⟩)
  simp only[cW,ai] at bc ⊢
  rw[ad (y:=y) (fun t h=>h)]
  generalize y.addr G s.T=Y at bc iT
  cases Y
  case lsr=>cases iT
  all_goals
   have po:=oT bc
   subst po
   exact⟨none,bc,dR.stay ha (fun t h=>by cases h),fun t h=>by cases h⟩
 case store sz y v =>
  simp only[aiG] at he
  subst he
  have iT:=hc y (.inr (.inl ⟨sz,v,rfl⟩))
  have hw:∀ t,t∈v.tmps++fy c->t∈y.tmps++v.tmps++fy c:=fun t ht=>by
   rcases aiM.1 ht with h|h
   ·exact aiM.2 (.inl (aiM.2 (.inr h)))
   ·exact aiM.2 (.inr h)
  have hv:=ev (y:=v) (fun t h=>aiM.2 (.inl (aiM.2 (.inr h))))
  have hvT:∀ t,t∈v.tmps->x.T t=s.T t:=fun t h=>ha.T t (aiM.2 (.inl (aiM.2 (.inr h))))
  simp only[cW,ai,aiE,aiH] at bc ⊢
  obtain⟨s1,bc,rfl,rfl⟩:=bc
  rw[ad (y:=y) (fun t h=>aiM.2 (.inl (aiM.2 (.inl h)))),hv]
  generalize y.addr G s.T=Y at bc iT
  have sp:∀ (s1 x1:AS),(∀ t,t∈v.tmps->x1.T t=s1.T t)->(∀ t,t∈v.tmps->(x1.cq v).T t=(s1.cq v).T t)/\(∀ t,t∉v.tmps->(x1.cq v).T t=x1.T t)/\(∀ t,t∉v.tmps->(s1.cq v).T t=s1.T t):=by
   intro s1 x1 h
   cases v with
   | tmp t0 =>
    have h0:=h t0 (by simp[ak.tmps])
    by_cases ho:∃ el,s1.T t0=.slice el true
    ·obtain⟨el,ho⟩:=ho
     rw[pC s1 t0 ho,pC x1 t0 (h0.trans ho)]
     refine⟨fun t ht=>?_,fun t ht=>?_,fun t ht=>?_⟩
     ·simp only[ak.tmps,aiY] at ht
      rw[dN,dN,if_pos ht,if_pos ht]
     ·simp only[ak.tmps,aiY] at ht
      rw[dN,if_neg ht]
     ·simp only[ak.tmps,aiY] at ht
      rw[dN,if_neg ht]
    ·have pk:∀ el,s1.T t0≠.slice el true:=fun el h=>ho ⟨el,h⟩
     rw[lr s1 t0 pk,lr x1 t0 (fun el h=>pk el (h0.symm.trans h))]
     exact⟨h,fun _ _=>rfl,fun _ _=>rfl⟩
   | _=>exact⟨fun t ht=>by simp[ak.tmps] at ht,fun _ _=>rfl,fun _ _=>rfl⟩
  simp only[ba] at bc ⊢
  split at bc
  ·cases bc
  rename_i vs sd
  obtain⟨h0,aaB⟩:=ab bc
  clear bc
  have bc:=aaB
  clear aaB
  cases Y<;>(try dsimp only at bc ⊢)<;>try (cases bc;done)
  case ref loc off =>
   cases c with
   | frame b=>cases iT
   | Q4=>cases iT
   | heap =>
    obtain⟨hH,hl⟩:=ha.H (.inl rfl)
    split at bc
    ·rename_i ty cs HA
     obtain⟨h1,bc⟩:=ab bc
     injection bc with bc
     subst bc
     obtain⟨k1,k2,k3⟩:=sp (s.dZ ⟨s.H.set loc (.box ty (putAt cs off vs)),loc⟩) (x.dZ ⟨x.H.set loc (.box ty (putAt cs off vs)),loc⟩) hvT
     refine⟨some ((x.dZ ⟨x.H.set loc (.box ty (putAt cs off vs)),loc⟩).cq v),⟨x.dZ ⟨x.H.set loc (.box ty (putAt cs off vs)),loc⟩,by simp only[sd,h0,cond_true,hH,HA,h1],trivial,rfl⟩,⟨fun k hk=>?_,fun k hk=>?_,fun _=>?_,fun h=>(by cases h),fun h=>(by cases h),fun _=>?_⟩,hw⟩
     ·exact k1 k (by simpa [fy] using hk)
     ·exact k2 k (by simpa [fy] using hk)
     ·obtain⟨q1,_,q3⟩:=fM (x.dZ ⟨x.H.set loc (.box ty (putAt cs off vs)),loc⟩) v
      obtain⟨r1,_,r3⟩:=fM (s.dZ ⟨s.H.set loc (.box ty (putAt cs off vs)),loc⟩) v
      exact⟨q1.trans (Eq.trans (by simp only[AS.dZ,hH]) r1.symm),q3.trans (Eq.trans (by simp only[AS.dZ,hl]) r3.symm)⟩
     ·obtain⟨_,q2,_⟩:=fM (x.dZ ⟨x.H.set loc (.box ty (putAt cs off vs)),loc⟩) v
      exact q2.trans rfl
    ·rename_i cs HA
     obtain⟨h1,bc⟩:=ab bc
     injection bc with bc
     subst bc
     obtain⟨k1,k2,k3⟩:=sp (s.dZ ⟨s.H.set loc (.dL (putAt cs off vs)),loc⟩) (x.dZ ⟨x.H.set loc (.dL (putAt cs off vs)),loc⟩) hvT
     refine⟨some ((x.dZ ⟨x.H.set loc (.dL (putAt cs off vs)),loc⟩).cq v),⟨x.dZ ⟨x.H.set loc (.dL (putAt cs off vs)),loc⟩,by simp only[sd,h0,cond_true,hH,HA,h1],trivial,rfl⟩,⟨fun k hk=>?_,fun k hk=>?_,fun _=>?_,fun h=>(by cases h),fun h=>(by cases h),fun _=>?_⟩,hw⟩
     ·exact k1 k (by simpa [fy] using hk)
     ·exact k2 k (by simpa [fy] using hk)
     ·obtain⟨q1,_,q3⟩:=fM (x.dZ ⟨x.H.set loc (.dL (putAt cs off vs)),loc⟩) v
      obtain⟨r1,_,r3⟩:=fM (s.dZ ⟨s.H.set loc (.dL (putAt cs off vs)),loc⟩) v
      exact⟨q1.trans (Eq.trans (by simp only[AS.dZ,hH]) r1.symm),q3.trans (Eq.trans (by simp only[AS.dZ,hl]) r3.symm)⟩
     ·obtain⟨_,q2,_⟩:=fM (x.dZ ⟨x.H.set loc (.dL (putAt cs off vs)),loc⟩) v
      exact q2.trans rfl
    ·cases bc
  case lref b g off =>
   cases c with
   | Q4=>cases iT
   | heap=>cases iT
   | frame b' =>
    simp only[fA,dU,ai2] at iT
    subst iT
    have Zt:=ha.T b' (aiM.2 (.inr (aiY.2 rfl)))
    split at bc
    ·rename_i g' cs hT
     obtain⟨h1,bc⟩:=ab bc
     injection bc with bc
     subst bc
     rw[hT] at Zt
     have aet:∀ t,t∈v.tmps->(x.bz b' (.lbox g (putAt cs off vs))).T t=(s.bz b' (.lbox g (putAt cs off vs))).T t:=fun t ht=>by rw[dN,dN,hvT t ht]
     obtain⟨k1,k2,k3⟩:=sp _ _ aet
     refine⟨some ((x.bz b' (.lbox g (putAt cs off vs))).cq v),⟨x.bz b' (.lbox g (putAt cs off vs)),by simp only[sd,h0,cond_true,Zt,h1],trivial,rfl⟩,⟨fun k hk=>?_,fun k hk=>?_,fun h=>(by cases h),fun _=>?_,fun h=>(by cases h),fun _=>?_⟩,hw⟩
     ·by_cases PS:k∈v.tmps
      ·exact k1 k PS
      ·have xz:k=b':=by
        rcases aiM.1 hk with h|h
        ·exact absurd h PS
        ·exact aiY.1 h
       show ((x.bz b' _).cq v).T k=((s.bz b' _).cq v).T k
       rw[k2 k PS,k3 k PS,dN,dN,if_pos xz,if_pos xz]
     ·have PS:k∉v.tmps:=fun h=>hk (aiM.2 (.inl h))
      have xz:k≠b':=fun h=>hk (aiM.2 (.inr (aiY.2 h)))
      show ((x.bz b' _).cq v).T k=x.T k
      rw[k2 k PS,dN,if_neg xz]
     ·obtain⟨q1,_,q3⟩:=fM (x.bz b' (.lbox g (putAt cs off vs))) v
      exact⟨q1.trans rfl,q3.trans rfl⟩
     ·obtain⟨_,q2,_⟩:=fM (x.bz b' (.lbox g (putAt cs off vs))) v
      exact q2.trans rfl
    ·cases bc
  case eref=>cases c<;>cases iT
 case append isB wr sz bytes y1 y2 =>
  cases wr with
  | true=>cases he
  | false =>
   simp only[aiQ,aiG] at he
   subst he
   have hw:∀ t,t∈y1.tmps->t∈y1.tmps++y2.tmps:=fun t h=>aiM.2 (.inl h)
   have h2:=ev (y:=y2) (fun t h=>aiM.2 (.inr h))
   simp only[cW,ai] at bc ⊢
   cases y1 with
   | tmp t =>
    have ht:=ha.T t (by simp[ak.tmps])
    simp only[dX] at bc ⊢
    rw[ht,h2]
    split at bc
    ·simp only[aiF] at bc
     obtain⟨f,_,bc⟩:=bc
     simp at bc
    ·rename_i el own hT
     simp only[aiQ,aiE,aiH] at bc
     obtain⟨z',hz,rfl,rfl⟩:=bc
     refine⟨some (x.bz t (.slice el false)),by simp only[aiQ,hz,aiV],⟨fun k hk=>?_,fun k hk=>?_,fun h=>(by cases h),fun _=>⟨rfl,rfl⟩,fun h=>(by cases h),fun _=>rfl⟩,hw⟩
     ·simp only[ak.tmps,aiY] at hk
      simp only[ajC,dN,hk,ajY]
     ·simp only[ak.tmps,aiY] at hk
      simp only[ajC,dN,if_neg hk]
    ·simp only[aiQ,aiE,aiH] at bc
     obtain⟨z',hz,rfl,rfl⟩:=bc
     exact⟨some x,by simp only[aiQ,hz,aiV],dR.stay ha hw,hw⟩
    ·cases bc
   | _ =>
    simp only[dX,aiQ] at bc ⊢
    have po:=oT bc
    subst po
    rw[h2]
    exact⟨none,bc,dR.stay ha hw,hw⟩
 case appendO sz bytes y1 y2 =>
  simp only[aiG] at he
  subst he
  obtain⟨hH,hl⟩:=ha.H (.inl rfl)
  simp only[cW,ai] at bc ⊢
  rw[ad (y:=y1) (fun t h=>aiM.2 (.inl h)),ev (y:=y2) (fun t h=>aiM.2 (.inr h))]
  simp only[jr] at bc ⊢
  split at bc
  ·rename_i v hn
   simp only[aiG,aiH] at bc
   obtain⟨rfl,rfl⟩:=bc
   exact⟨none,rfl,dR.stay ha (fun t h=>by cases h),fun t h=>by cases h⟩
  simp only[je,aiF] at bc ⊢
  obtain⟨f,hf,bc⟩:=bc
  have fin:∀ (c0:fz),dR ⟨y1.tmps++y2.tmps,[],true,true,false⟩ (s.dZ c0) x (x.dZ c0):=fun c0=>⟨fun k hk=>(by cases hk),fun _ _=>rfl,fun _=>⟨rfl,by simp only[AS.dZ,hl]⟩,fun h=>(by cases h),fun h=>(by cases h),fun _=>rfl⟩
  split at bc
  ·obtain⟨h0,bc⟩:=ab bc
   simp only[aiG,aiH] at bc
   obtain⟨rfl,rfl⟩:=bc
   rename_i hY
   exact⟨some (x.dZ ⟨s.H++[de.box cO f.flatten],s.H.length⟩),⟨f,hf,by simp only[h0,cond_true,hH]⟩,fin ⟨s.H++[de.box cO f.flatten],s.H.length⟩,fun t h=>by cases h⟩
  ·obtain⟨h0,bc⟩:=ab bc
   simp only[aiG,aiH] at bc
   obtain⟨rfl,rfl⟩:=bc
   rename_i hY
   exact⟨some (x.dZ ⟨s.H++[de.box cO f.flatten],s.H.length⟩),⟨f,hf,by simp only[h0,cond_true,hH]⟩,fin ⟨s.H++[de.box cO f.flatten],s.H.length⟩,fun t h=>by cases h⟩
  ·rename_i l o n zz hY
   split at bc
   ·rename_i ty cs HA
    obtain⟨h0,bc⟩:=ab bc
    simp only[aiG,aiH] at bc
    obtain⟨rfl,rfl⟩:=bc
    exact⟨some (x.dZ ⟨s.H.set l .dead++[de.box cO (cs++f.flatten)],l⟩),⟨f,hf,by simp only[hH,HA,h0,cond_true]⟩,fin ⟨s.H.set l .dead++[de.box cO (cs++f.flatten)],l⟩,fun t h=>by cases h⟩
   ·cases bc
  ·cases bc
 case copyO y1 y2 =>
  simp only[aiG] at he
  subst he
  obtain⟨hH,hl⟩:=ha.H (.inl rfl)
  simp only[cW,ai] at bc ⊢
  rw[ad (y:=y1) (fun t h=>aiM.2 (.inl h)),ev (y:=y2) (fun t h=>aiM.2 (.inr h))]
  simp only[kT] at bc ⊢
  have fin:∀ (c0:fz),dR ⟨y1.tmps++y2.tmps,[],true,true,false⟩ (s.dZ c0) x (x.dZ c0):=fun c0=>⟨fun k hk=>(by cases hk),fun _ _=>rfl,fun _=>⟨rfl,by simp only[AS.dZ,hl]⟩,fun h=>(by cases h),fun h=>(by cases h),fun _=>rfl⟩
  split at bc
  ·rename_i l o n zz f own hY hZ
   split at bc
   ·rename_i cs HA
    obtain⟨h0,bc⟩:=ab bc
    simp only[aiG,aiH] at bc
    obtain⟨rfl,rfl⟩:=bc
    exact⟨some (x.dZ ⟨s.H.set l (.dL (putAt cs o (f.take (Nat.min f.length n)).flatten)),l⟩),by simp only[hH,HA,h0,cond_true],fin ⟨s.H.set l (.dL (putAt cs o (f.take (Nat.min f.length n)).flatten)),l⟩,fun t h=>by cases h⟩
   ·cases bc
  ·simp only[aiG,aiH] at bc
   obtain⟨rfl,rfl⟩:=bc
   exact⟨none,rfl,dR.stay ha (fun t h=>by cases h),fun t h=>by cases h⟩
  ·cases bc
 case call f args =>
  simp only[aiG] at he
  subst he
  obtain⟨hH,hl⟩:=ha.H (.inl rfl)
  have hf:=ev (y:=f) (fun t h=>by simp only[dQ.tmps,aiM];exact .inl h)
  have had:∀ y,y∈args->y.addr G x.T=y.addr G s.T:=fun y hy=>ad (y:=y) (fun t h=>by simp only[dQ.tmps,aiM,ajL];exact .inr ⟨y,hy,h⟩)
  have e1:(args.map fun a=>a.addr G x.T)=args.map fun a=>a.addr G s.T:=ai6 had
  have e2:(args.map fun a=>(a.addr G x.T).bf)=args.map fun a=>(a.addr G s.T).bf:=ai6 fun y hy=>by rw[had y hy]
  have HN:∀ t,t∈([]:List Nat)->t∈(dQ.call f args).tmps:=fun t h=>by cases h
  cases pc with
  | true =>
   simp only[cW,cond_true,ai] at bc ⊢
   rw[hf,e1,e2,hH]
   split at bc
   ·obtain⟨h0,bc⟩:=ab bc
    simp only[aiF] at bc
    obtain⟨r,hr,bc⟩:=bc
    split at bc
    ·rename_i h2
     simp only[aiG,aiH] at bc
     obtain⟨rfl,rfl⟩:=bc
     exact⟨none,by simp only[h0,cond_true,hr,aiV,h2,ak'],dR.stay ha HN,HN⟩
    ·cases bc
   ·cases bc
  | false =>
   simp only[cW,aiQ,ai] at bc ⊢
   rw[hf,e1,e2,hH]
   split at bc
   ·obtain⟨h0,bc⟩:=ab bc
    simp only[aiE,aiH] at bc
    obtain⟨r,hr,rfl,rfl⟩:=bc
    refine⟨r.2.map x.dZ,by simp only[h0,cond_true,hr,aiV],?_,HN⟩
    cases h2:r.2 with
    | none=>exact dR.stay ha HN
    | some c0=>exact⟨fun k hk=>(by cases hk),fun _ _=>rfl,fun _=>⟨rfl,by simp only[aiV,ajC,AS.dZ,hl]⟩,fun h=>(by cases h),fun h=>(by cases h),fun _=>rfl⟩
   ·cases bc
theorem BQ{pc:Bool}{c:J'}{op:dQ}(he:x8 pc c op=some e):∀ t,t∈e.ws->t∈e.rs:=by
 intro t ht
 cases op<;>simp only[x8] at he<;>try (cases he;done)
 case mov take obj y =>
  cases obj with
  | true=>cases he
  | false =>
   simp only[aiQ,aiG] at he
   subst he
   cases take with
   | true=>exact ht
   | false=>cases ht
 case load take agg sz y =>
  simp only[aiG] at he
  subst he
  cases hb:(take&&!agg) with
  | true=>simp only[hb,cond_true] at ht;exact aiM.2 (.inr ht)
  | false=>simp only[hb,aiQ] at ht;cases ht
 case store sz y v =>
  simp only[aiG] at he
  subst he
  rcases aiM.1 ht with h|h
  ·exact aiM.2 (.inl (aiM.2 (.inr h)))
  ·exact aiM.2 (.inr h)
 case append isB wr sz bytes y1 y2 =>
  cases wr with
  | true=>cases he
  | false =>
   simp only[aiQ,aiG] at he
   subst he
   exact aiM.2 (.inl ht)
 all_goals
  simp only[aiG] at he
  subst he
  cases ht
theorem vW{mode pc:Bool}{is:List az}{L:List Nat}{o:az}(he:BP mode pc is L o=some e)
  (hc:∀ c y,tD mode is L o.op=some (c,y)->(∀ g w,o.guard=some (g,w)->s.T g=.bool w)->fA c (y.addr G s.T)=true) {s1:AS}
  (bc:bQ G cf false s (iD pc o)=some s1) (ha:Vo e s x):∃ x1,bQ G cf false x o=some x1/\dR e s1 x x1/\(∀ t,t∈e.ws->t∈o.dst.toList\/t∈e.rs):=by
 simp only[BP,aiE] at he
 obtain⟨e0,he0,rfl⟩:=he
 rw[tX] at bc
 have ha0:Vo e0 s x:=⟨fun t ht=>ha.T t (aiM.2 (.inr ht)),ha.H,ha.G⟩
 have AI:∀ (q:AS) (d:Option Nat) (v:AV) (k:Nat),(q.ca d v).T k=if k∈d.toList then v else q.T k:=by
  intro q d v k
  cases d with
  | none=>simp[AS.ca]
  | some d=>simp only[AS.ca,dN,Option.toList_some,aiY]
 have put:∀ (v:AV) (s2 x2:AS),dR e0 s2 x x2->(∀ t,t∈e0.ws->t∈e0.rs) ->
   dR ⟨(match o.guard with|some (g,_)=>[g]|none=>[])++e0.rs,o.dst.toList++e0.ws,e0.rh,e0.wh,e0.wg⟩ (s2.ca o.dst v) x (x2.ca o.dst v)/\(∀ t,t∈o.dst.toList++e0.ws->t∈o.dst.toList\/t∈(match o.guard with|some (g,_)=>[g]|none=>[])++e0.rs):=by
  intro v s2 x2 hM hw
  refine⟨⟨fun t ht=>?_,fun t ht=>?_,fun h=>?_,fun h=>?_,fun h=>?_,fun h=>?_⟩,fun t ht=>?_⟩
  ·rw[AI,AI]
   by_cases hd:t∈o.dst.toList
   ·rw[if_pos hd,if_pos hd]
   ·rw[if_neg hd,if_neg hd]
    rcases aiM.1 ht with h|h
    ·exact absurd h hd
    ·exact hM.T t h
  ·rw[AI,if_neg (fun h=>ht (aiM.2 (.inl h)))]
   exact hM.T' t (fun h=>ht (aiM.2 (.inr h)))
  ·rw[(gS s2 o.dst v).1,(gS s2 o.dst v).2.2,(gS x2 o.dst v).1,(gS x2 o.dst v).2.2];exact hM.H h
  ·rw[(gS x2 o.dst v).1,(gS x2 o.dst v).2.2];exact hM.H' h
  ·rw[(gS s2 o.dst v).2.1,(gS x2 o.dst v).2.1];exact hM.G h
  ·rw[(gS x2 o.dst v).2.1];exact hM.G' h
  ·rcases aiM.1 ht with h|h
   ·exact .inl h
   ·exact .inr (aiM.2 (.inr (hw t h)))
 have run:(∀ g w,o.guard=some (g,w)->s.T g=.bool w)->((ai G cf s (cW pc o.op)).bind fun r=>match r.2 with
   | none=>cond (false&&(aQ r.1).isSome) none (some (s.ca o.dst r.1))
   | some s'=>cond false none (some (s'.ca o.dst r.1)))=some s1 ->
   ∃ x1,((ai G cf x o.op).bind fun r=>match r.2 with
    | none=>cond (false&&(aQ r.1).isSome) none (some (x.ca o.dst r.1))
    | some s'=>cond false none (some (s'.ca o.dst r.1)))=some x1/\dR ⟨(match o.guard with|some (g,_)=>[g]|none=>[])++e0.rs,o.dst.toList++e0.ws,e0.rh,e0.wh,e0.wg⟩ s1 x x1 /\
    (∀ t,t∈o.dst.toList++e0.ws->t∈o.dst.toList\/t∈(match o.guard with|some (g,_)=>[g]|none=>[])++e0.rs):=by
  intro hg hr
  simp only[aiF] at hr
  obtain⟨⟨z,so⟩,hz,hr⟩:=hr
  obtain⟨xo,h1,h2,h3⟩:=SH he0 (fun y hy=>by
    have key:∃ c,tD mode is L o.op=some (c,y):=by
     rcases hy with ⟨t,a,z,h⟩|⟨z,v,h⟩|h|⟨f,h⟩|⟨n,z,i,h⟩<;>rw[h]<;>exact⟨_,rfl⟩
    obtain⟨c,hk⟩:=key
    rw[hk]
    exact hc c y hk hg)
   (fun y hy=>by
    have key:tD mode is L o.op=some (.heap,y):=by
     rcases hy with ⟨z,i,h⟩|⟨k,h⟩<;>rw[h]<;>rfl
    exact hc _ y key hg) hz ha0
  have Ac:s1=(so.getD s).ca o.dst z:=by
   cases so with
   | none=>simp only[ajr,aiQ,aiG] at hr;exact hr.symm
   | some s2=>simp only[aiQ,aiG] at hr;exact hr.symm
  subst Ac
  obtain⟨p1,p2⟩:=put z _ _ h2 h3
  refine⟨(xo.getD x).ca o.dst z,?_,p1,p2⟩
  rw[h1]
  cases xo with
  | none=>rfl
  | some x2=>rfl
 unfold bQ at bc ⊢
 cases A6:o.guard with
 | none =>
  rw[A6] at run
  simp only[A6] at bc ⊢
  exact run (fun g w h=>by cases h) bc
 | some gw =>
  obtain⟨g,w⟩:=gw
  have hxg:x.T g=s.T g:=ha.T g (by rw[A6];exact aiM.2 (.inl (aiY.2 rfl)))
  simp only[A6] at bc ⊢
  rw[hxg]
  rw[A6] at run put
  have skip:some (s.ca o.dst .undef)=some s1->∃ x1,some (x.ca o.dst .undef)=some x1/\dR ⟨[g]++e0.rs,o.dst.toList++e0.ws,e0.rh,e0.wh,e0.wg⟩ s1 x x1/\(∀ t,t∈o.dst.toList++e0.ws->t∈o.dst.toList\/t∈[g]++e0.rs):=by
   intro h
   injection h with h
   subst h
   obtain⟨p1,p2⟩:=put .undef s x (dR.stay ha0 (BQ he0)) (BQ he0)
   exact⟨_,rfl,p1,p2⟩
  generalize hX:s.T g=X at bc
  cases X with
  | bool b =>
   simp only at bc ⊢
   cases hb:(b==w) with
   | true =>
    rw[hb] at bc
    simp only[cond_true] at bc ⊢
    exact run (fun g' w' h=>by injection h with h;injection h with h1 h2;subst h1 h2;rw[hX];congr 1;simpa using hb) bc
   | false =>
    rw[hb] at bc
    simp only[aiQ] at bc ⊢
    exact skip bc
  | tuple vs =>
   cases vs with
   | nil=>exact skip bc
   | cons v vs=>cases bc
  | _=>cases bc
end
section
variable {α:Type}{S:Nat->AS}{f:AS->α}{w X:Nat->Prop}{n k:Nat}{x x1:AS}
def y9(S:Nat->AS)(f:AS->α)(w X:Nat->Prop)(x:AS):Prop :=
 (∃ i,X i/\w i/\(∀ j,X j->w j->j<=i)/\f x=f (S (i+1)))\/((∀ j,X j->¬ w j)/\f x=f (S 0))
theorem u7(hf:∀ j,j<n->¬ w j->f (S (j+1))=f (S j)){a:Nat} : ∀ (b:Nat),a<=b->b<=n->(∀ j,a<=j->j<b->¬ w j)->f (S b)=f (S a):=by
 intro b
 induction b with
 | zero=>intro h _ _;rw[show a=0 by omega]
 | succ b ih =>
  intro h1 h2 h3
  rcases aj8 b a with h|h
  ·rw[show a=b+1 by omega]
  ·rw[hf b (by omega) (h3 b h (by omega)),ih h (by omega) (fun j a1 a2=>h3 j a1 (by omega))]
theorem pd(hf:∀ j,j<n->¬ w j->f (S (j+1))=f (S j))(hk:k<=n)(hC:y9 S f w X x)(h1:∀ j,j<k->w j->X j)(h2:∀ j,X j->w j->j<k):f x=f (S k):=by
 rcases hC with ⟨i,hX,hw,hm,he⟩|⟨j8,he⟩
 ·rw[he]
  refine (u7 hf k (h2 i hX hw) hk (fun j a b Jn=>?_)).symm
  have:=hm j (h1 j b Jn) Jn
  omega
 ·rw[he]
  exact (u7 hf k (ajy _) hk (fun j a b Jn=>j8 j (h1 j b Jn) Jn)).symm
theorem qc(hw:w k)(hm:∀ j,X j->w j->j<=k)(he:f x1=f (S (k+1))):y9 S f w (fun j=>X j\/j=k) x1 :=
 .inl ⟨k,.inr rfl,hw,fun j hj Jn=>by rcases hj with h|h;exact hm j h Jn;omega,he⟩
theorem sy(hw:¬ w k)(hC:y9 S f w X x)(he:f x1=f x):y9 S f w (fun j=>X j\/j=k) x1:=by
 rcases hC with ⟨i,hX,hwi,hm,h⟩|⟨j8,h⟩
 ·exact .inl ⟨i,.inl hX,hwi,fun j hj Jn=>by
   rcases hj with h'|h'
   ·exact hm j h' Jn
   ·subst h';exact absurd Jn hw,by rw[he,h]⟩
 ·exact .inr ⟨fun j hj Jn=>by
   rcases hj with h'|h'
   ·exact j8 j h' Jn
   ·subst h';exact hw Jn,by rw[he,h]⟩
theorem qb{Y:Nat->Prop}(h:∀ j,X j↔Y j)(hC:y9 S f w X x):y9 S f w Y x:=by
 rcases hC with ⟨i,hX,hwi,hm,h'⟩|⟨j8,h'⟩
 ·exact .inl ⟨i,(h i).1 hX,hwi,fun j hj=>hm j ((h j).2 hj),h'⟩
 ·exact .inr ⟨fun j hj=>j8 j ((h j).2 hj),h'⟩
structure pZ (S:Nat->AS) (E:Nat->xM) (X:Nat->Prop) (x:AS):Prop where
 T:∀ t,y9 S (fun s=>s.T t) (fun j=>t∈(E j).ws) X x
 H:y9 S (fun s=>(s.H,s.lo)) (fun j=>(E j).wh=true) X x
 G:y9 S (fun s=>s.gen) (fun j=>(E j).wg=true) X x
structure Kr (S:Nat->AS) (E:Nat->xM) (n:Nat):Prop where
 T:∀ t j,j<n->¬ (t∈(E j).ws)->(S (j+1)).T t=(S j).T t
 H:∀ j,j<n->¬ ((E j).wh=true)->((S (j+1)).H,(S (j+1)).lo)=((S j).H,(S j).lo)
 G:∀ j,j<n->¬ ((E j).wg=true)->(S (j+1)).gen=(S j).gen
theorem sV{x y:List Nat}{t:Nat}(h1:t∈x)(h2:t∈y):meets x y=true:=by
 simp only[meets,List.any_eq_true]
 exact⟨t,h1,by simpa using h2⟩
theorem D7{E:Nat->xM}(hK:Kr S E n)(hk:k<n)(hB:pZ S E X x)(hX:¬ X k)(h1:∀ j,j<k->conflict (E k) (E j)=true->X j)(h2:∀ j,k<j->conflict (E j) (E k)=true->¬ X j):Vo (E k) (S k) x:=by
 have lt:∀ j,X j->j<k\/k<j:=fun j h=>by
  rcases akD j k with a|a|a
  ·exact .inl a
  ·subst a;exact absurd h hX
  ·exact .inr a
 refine⟨fun t ht=>?_,fun hh=>?_,fun hg=>?_⟩
 ·refine pd (fun j=>hK.T t j) (ali hk) (hB.T t) (fun j hj hw=>h1 j hj ?_) (fun j hj hw=>?_)
  ·simp only[conflict,sV hw ht,alr,akF]
  ·rcases lt j hj with a|a
   ·exact a
   ·exact absurd hj (h2 j a (by simp only[conflict,sV hw ht,alr,akF]))
 ·have:=pd (fun j=>hK.H j) (ali hk) hB.H (fun j hj hw=>h1 j hj (by
   rcases hh with h|h<;>simp[conflict,hw,h])) (fun j hj hw=>by
   rcases lt j hj with a|a
   ·exact a
   ·exact absurd hj (h2 j a (by rcases hh with h|h<;>simp[conflict,hw,h])))
  simp only[aiH] at this
  exact this
 ·exact pd (fun j=>hK.G j) (ali hk) hB.G (fun j hj hw=>h1 j hj (by simp[conflict,hw,hg])) (fun j hj hw=>by
   rcases lt j hj with a|a
   ·exact a
   ·exact absurd hj (h2 j a (by simp[conflict,hw,hg])))
theorem Bl{E:Nat->xM}(hB:pZ S E X x)(hX:¬ X k)(h2:∀ j,k<j->conflict (E j) (E k)=true->¬ X j)(hM:dR (E k) (S (k+1)) x x1):pZ S E (fun j=>X j\/j=k) x1:=by
 have le:∀ j,X j->(k<j->conflict (E j) (E k)=true)->j<=k:=fun j h hc=>by
  rcases aj8 k j with a|a
  ·exact absurd h (h2 j a (hc a))
  ·exact a
 refine⟨fun t=>?_,?_,?_⟩
 ·by_cases ht:t∈(E k).ws
  ·exact qc ht (fun j hj hw=>le j hj fun _=>by simp only[conflict,sV hw ht,alr,akF]) (hM.T t ht)
  ·exact sy ht (hB.T t) (hM.T' t ht)
 ·by_cases hh:(E k).wh=true
  ·exact qc hh (fun j hj hw=>le j hj fun _=>by simp[conflict,hw,hh]) (by simp only[hM.H hh])
  ·have:=hM.H' (by simpa using hh)
   exact sy hh hB.H (by simp only[this])
 ·by_cases hg:(E k).wg=true
  ·exact qc hg (fun j hj hw=>le j hj fun _=>by simp[conflict,hw,hg]) (hM.G hg)
  ·exact sy hg hB.G (hM.G' (by simpa using hg))
theorem D8{E:Nat->xM}(hK:Kr S E n)(hB:pZ S E X x)(hX:∀ j,X j↔j<n):x=S n:=by
 have hT:x.T=(S n).T:=funext fun t=>pd (fun j=>hK.T t j) (aiK _) (hB.T t) (fun j hj _=>(hX j).2 hj) (fun j hj _=>(hX j).1 hj)
 have hH:=pd (fun j=>hK.H j) (aiK _) hB.H (fun j hj _=>(hX j).2 hj) (fun j hj _=>(hX j).1 hj)
 have hG:=pd (fun j=>hK.G j) (aiK _) hB.G (fun j hj _=>(hX j).2 hj) (fun j hj _=>(hX j).1 hj)
 simp only[aiH] at hH
 obtain⟨h1,h2⟩:=hH
 cases x
 generalize S n=y at hT h1 h2 hG
 cases y
 simp only at hT h1 h2 hG
 subst hT h1 h2 hG
 rfl
theorem Bk{E:Nat->xM}(hX:∀ j,¬ X j):pZ S E X (S 0) :=
 ⟨fun _=>.inr ⟨fun j h=>absurd h (hX j),rfl⟩,.inr ⟨fun j h=>absurd h (hX j),rfl⟩,.inr ⟨fun j h=>absurd h (hX j),rfl⟩⟩
end
theorem wm(ops:List Oper):∀ (k:Nat) (o:Oper),ops[k]?=some o->∀ p,p∈(nI ops).getD k []->∃ e,e∈o.after.toList/\Region.binds .any e=true/\(p=e.on\/p∈(nI ops).getD e.on []):=by
 have key:∀ (l r:List Oper) (t:List (List Nat)),t.length=l.length->(∀ (k:Nat) (o:Oper),l[k]?=some o->∀ p,p∈t.getD k []->∃ e,e∈o.after.toList/\Region.binds .any e=true/\(p=e.on\/p∈t.getD e.on [])) ->
   let t':=r.foldl (fun t o=>t++[(o.after.toList.flatMap fun e=>cond (Region.binds .any e) (e.on :: t.getD e.on []) []).eraseDups]) t
   ∀ (k:Nat) (o:Oper),(l++r)[k]?=some o->∀ p,p∈t'.getD k []->∃ e,e∈o.after.toList/\Region.binds .any e=true/\(p=e.on\/p∈t'.getD e.on []):=by
  intro l r
  induction r generalizing l with
  | nil=>intro t hl h;simpa using h
  | cons o r ih =>
   intro t hl h
   have:=ih (l++[o]) (t++[(o.after.toList.flatMap fun e=>cond (Region.binds .any e) (e.on :: t.getD e.on []) []).eraseDups]) (by simp[hl]) (fun k o' hk p hp=>?_)
   ·simpa using this
   ·have grow:∀ (v:List Nat) (i q:Nat),q∈t.getD i []->q∈(t++[v]).getD i []:=by
     intro v i q hq
     have:i<t.length:=by
      rcases aj8 i t.length with h|h
      ·exact h
      ·rw[ajf,ajk h] at hq;cases hq
     rw[ajf,ai1 this,<- ajf];exact hq
    rcases akD k l.length with a|a|a
    ·rw[ai1 a] at hk
     rw[ajf,ai1 (by omega),<- ajf] at hp
     obtain⟨e,h1,h2,h3⟩:=h k o' hk p hp
     exact⟨e,h1,h2,h3.imp id (grow _ _ _)⟩
    ·subst a
     simp only[ai7 (aiK _),akJ,ai4,aiG] at hk
     subst hk
     rw[ajf,ai7 (by omega),hl,akJ] at hp
     simp only[ai4,ajC,List.mem_eraseDups,ajL] at hp
     obtain⟨e,h1,hp⟩:=hp
     cases hb:Region.binds .any e with
     | false=>rw[hb] at hp;cases hp
     | true =>
      rw[hb] at hp
      simp only[cond_true,aja] at hp
      exact⟨e,h1,hb,hp.imp id (grow _ _ _)⟩
    ·rw[ai7 (by omega)] at hk
     have:k-l.length≠0:=by omega
     obtain⟨m,hm⟩:=Nat.exists_eq_succ_of_ne_zero this
     rw[hm] at hk
     simp at hk
 have:=key [] ops [] rfl (fun k o hk=>by simp at hk)
 simpa [nI] using this
theorem rR{ops:List Oper}{X:Nat->Prop}(rr:∀ (i:Nat) (o:Oper),ops[i]?=some o->∀ e,e∈o.after.toList->Region.binds .any e=true->e.on<i)
  (hX:∀ (i:Nat) (o:Oper),ops[i]?=some o->X i->∀ e,e∈o.after.toList->Region.binds .any e=true->X e.on) :
  ∀ (k:Nat),X k->∀ p,p∈(nI ops).getD k []->X p:=by
 intro k
 induction k using Nat.strongRecOn with
 | _ k ih =>
  intro hk p hp
  cases ho:ops[k]? with
  | none =>
   exfalso
   have hlen:∀ (r:List Oper) (t:List (List Nat)),(r.foldl (fun t o=>t++[(o.after.toList.flatMap fun e=>cond (Region.binds .any e) (e.on :: t.getD e.on []) []).eraseDups]) t).length=t.length+r.length:=by
    intro r
    induction r with
    | nil=>intro t;simp
    | cons o r ih=>intro t;rw[ak9,ih];simp;omega
   have h1:(nI ops).length=ops.length:=by rw[nI,hlen];simp
   rw[ajf,ajk (by rw[h1];exact List.getElem?_eq_none_iff.1 ho)] at hp
   cases hp
  | some o =>
   obtain⟨e,h1,h2,h3⟩:=wm ops k o ho p hp
   have h4:=hX k o ho hk e h1 h2
   rcases h3 with h3|h3
   ·rw[h3];exact h4
   ·exact ih e.on (rr k o ho e h1 h2) h4 p h3
theorem Di{ops:List Oper}{X:Nat->Prop}(rr:∀ (i:Nat) (o:Oper),ops[i]?=some o->∀ e,e∈o.after.toList->Region.binds .any e=true->e.on<i)
  (hX:∀ (i:Nat) (o:Oper),ops[i]?=some o->X i->∀ e,e∈o.after.toList->Region.binds .any e=true->X e.on)
  {k:Nat} {o:Oper} (ho:ops[k]?=some o) (hr:∀ e,e∈o.after.toList->Region.binds .any e=true->X e.on):∀ p,p∈(nI ops).getD k []->X p:=by
 intro p hp
 obtain⟨e,h1,h2,h3⟩:=wm ops k o ho p hp
 rcases h3 with h3|h3
 ·rw[h3];exact hr e h1 h2
 ·exact rR rr hX e.on (hr e h1 h2) p h3
section
variable {G:Nat->List AV}{cf:cC}
theorem GS{pc:Bool}{op:dQ}{s:AS}{r:AV × Option AS}(h:ai G cf s (cW pc op)=some r):ai G cf s op=some r:=by
 cases op<;>try exact h
 rename_i f xs
 cases pc with
 | false=>exact h
 | true =>
  simp only[cW,cond_true,ai] at h ⊢
  split at h
  ·obtain⟨h0,h⟩:=ab h
   simp only[aiF] at h
   obtain⟨⟨v,c⟩,h1,h⟩:=h
   simp only[h0,cond_true,h1,aiV]
   cases c with
   | none=>exact h
   | some c=>cases h
  ·cases h
theorem AH{pc:Bool}{o:az}{s s1:AS}(h:bQ G cf false s (iD pc o)=some s1):bQ G cf false s o=some s1:=by
 rw[tX] at h
 have run:((ai G cf s (cW pc o.op)).bind fun r=>match r.2 with
   | none=>cond (false&&(aQ r.1).isSome) none (some (s.ca o.dst r.1))
   | some s'=>cond false none (some (s'.ca o.dst r.1)))=some s1->((ai G cf s o.op).bind fun r=>match r.2 with
   | none=>cond (false&&(aQ r.1).isSome) none (some (s.ca o.dst r.1))
   | some s'=>cond false none (some (s'.ca o.dst r.1)))=some s1:=by
  intro h
  simp only[aiF] at h
  obtain⟨r,hr,h⟩:=h
  rw[GS hr]
  exact h
 unfold bQ at h ⊢
 cases A6:o.guard with
 | none=>simp only[A6] at h ⊢;exact run h
 | some gw =>
  obtain⟨g,w⟩:=gw
  simp only[A6] at h ⊢
  generalize s.T g=X at h ⊢
  cases X with
  | bool b =>
   simp only at h ⊢
   cases hb:(b==w) with
   | true=>rw[hb] at h;simp only[cond_true] at h ⊢;exact run h
   | false=>rw[hb] at h;exact h
  | tuple vs=>cases vs with
   | nil=>exact h
   | cons v vs=>cases h
  | _=>cases h
theorem Ae{mode pc:Bool}{is:List az}{L:List Nat} : ∀ (l:List az) (s s' : AS),dT G cf false (inter mode pc is L l) s=some s' ->
  ∃ S:Nat->AS,S 0=s/\S l.length=s'/\∀ (i:Nat) (o:az),l[i]?=some o->(∀ c y,tD mode is L o.op=some (c,y)->(∀ g w,o.guard=some (g,w)->(S i).T g=.bool w)->fA c (y.addr G (S i).T)=true) /\
   bQ G cf false (S i) (iD pc o)=some (S (i+1)):=by
 intro l
 induction l with
 | nil =>
  intro s s' h
  simp only[inter,dT,aiG] at h
  exact⟨fun _=>s,rfl,h,fun i o hi=>by simp at hi⟩
 | cons o l ih =>
  intro s s' h
  have body:∀ s1,bQ G cf false s (iD pc o)=some s1->dT G cf false (inter mode pc is L l) s1=some s'->(∀ c y,tD mode is L o.op=some (c,y)->(∀ g w,o.guard=some (g,w)->s.T g=.bool w)->fA c (y.addr G s.T)=true) ->
    ∃ S:Nat->AS,S 0=s/\S (o :: l).length=s'/\∀ (i:Nat) (o' : az),(o :: l)[i]?=some o'->(∀ c y,tD mode is L o'.op=some (c,y)->(∀ g w,o'.guard=some (g,w)->(S i).T g=.bool w)->fA c (y.addr G (S i).T)=true) /\
     bQ G cf false (S i) (iD pc o')=some (S (i+1)):=by
   intro s1 h1 h2 h3
   obtain⟨S,a,b,c⟩:=ih s1 s' h2
   refine⟨fun i=>match i with|0=>s|i+1=>S i,rfl,b,fun i o' hi=>?_⟩
   cases i with
   | zero =>
    simp only[ai4,aiG] at hi
    subst hi
    exact⟨h3,by rw[h1];exact ak2 some a.symm⟩
   | succ i=>exact c i o' (by simpa using hi)
  simp only[inter] at h
  split at h
  ·rename_i c x hk
   simp only[dT,aiF] at h
   obtain⟨s0,h0,s1,h1,h2⟩:=h
   have qN:s0=s/\((∀ g w,o.guard=some (g,w)->s.T g=.bool w)->fA c (x.addr G s.T)=true):=by
    have run:((ai G cf s (.qN c x)).bind fun r=>match r.2 with
      | none=>cond (false&&(aQ r.1).isSome) none (some (s.ca none r.1))
      | some s'=>cond false none (some (s'.ca none r.1)))=some s0->s0=s/\fA c (x.addr G s.T)=true:=by
     intro h
     simp only[ai] at h
     cases hc:fA c (x.addr G s.T) with
     | false=>rw[hc] at h;cases h
     | true=>rw[hc] at h;simp[AS.ca] at h;exact⟨h.symm,rfl⟩
    unfold bQ at h0
    cases A6:o.guard with
    | none=>simp only[A6] at h0;exact⟨(run h0).1,fun _=>(run h0).2⟩
    | some gw =>
     obtain⟨g,w⟩:=gw
     simp only[A6] at h0
     generalize hX:s.T g=X at h0
     cases X with
     | bool b =>
      simp only at h0
      cases hb:(b==w) with
      | true=>rw[hb] at h0;exact⟨(run h0).1,fun _=>(run h0).2⟩
      | false =>
       rw[hb] at h0
       simp only[aiQ,AS.ca,aiG] at h0
       refine⟨h0.symm,fun hg=>?_⟩
       have:=hg g w rfl
       rw[hX] at this
       injection this with this
       subst this
       simp at hb
     | tuple vs =>
      cases vs with
      | nil =>
       simp only[AS.ca,aiG] at h0
       refine⟨h0.symm,fun hg=>?_⟩
       have:=hg g w rfl
       rw[hX] at this
       cases this
      | cons v vs=>cases h0
     | _=>cases h0
   obtain⟨rfl,adE⟩:=qN
   refine body s1 h1 h2 (fun c' y pH=>?_)
   rw[hk] at pH
   injection pH with pH
   injection pH with e1 e2
   subst e1 e2
   exact adE
  ·rename_i hk
   simp only[dT,aiF] at h
   obtain⟨s1,h1,h2⟩:=h
   exact body s1 h1 h2 (fun c' y pH=>by rw[hk] at pH;cases pH)
theorem vm{mode pc:Bool}{is:List az}{L:List Nat} : ∀ {l:List az} {es:List xM},mw mode pc is L l=some es->es.length=l.length/\∀ (i:Nat) (o:az),l[i]?=some o->BP mode pc is L o=some (es.getD i default)
 | [],es,h=>by simp[mw] at h;subst h;exact⟨rfl,fun i o hi=>by simp at hi⟩
 | o :: l,es,h=>by
  simp only[mw,aiF,aiE] at h
  obtain⟨e,he,rY,h',rfl⟩:=h
  obtain⟨h1,h2⟩:=vm h'
  refine⟨by simp[h1],fun i o' hi=>?_⟩
  cases i with
  | zero=>simp only[ai4,aiG] at hi;subst hi;simpa using he
  | succ i=>simpa using h2 i o' (by simpa using hi)
theorem BY{s s1:AS}{o:az}(h:bQ G cf false s o=some s1):∃ z s2,lI G cf false s o=some (z,s2)/\s1=s2.ca o.dst z:=by
 have run:((ai G cf s o.op).bind fun r=>match r.2 with
   | none=>cond (false&&(aQ r.1).isSome) none (some (s.ca o.dst r.1))
   | some s'=>cond false none (some (s'.ca o.dst r.1)))=some s1->∃ z s2,((ai G cf s o.op).bind fun r=>match r.2 with
   | none=>cond (false&&(aQ r.1).isSome) none (some (r.1,s))
   | some s'=>cond false none (some (r.1,s')))=some (z,s2)/\s1=s2.ca o.dst z:=by
  intro h
  simp only[aiF] at h
  obtain⟨⟨z,so⟩,hr,h⟩:=h
  rw[hr]
  cases so with
  | none=>simp at h;exact⟨z,s,rfl,h.symm⟩
  | some s2=>simp at h;exact⟨z,s2,rfl,h.symm⟩
 unfold bQ at h
 unfold lI
 cases A6:o.guard with
 | none=>simp only[A6] at h ⊢;exact run h
 | some gw =>
  obtain⟨g,w⟩:=gw
  simp only[A6] at h ⊢
  generalize s.T g=X at h ⊢
  cases X with
  | bool b =>
   simp only at h ⊢
   cases hb:(b==w) with
   | true=>rw[hb] at h;simp only[cond_true] at h ⊢;exact run h
   | false=>rw[hb] at h;simp only[aiQ,aiG] at h ⊢;exact⟨_,_,rfl,h.symm⟩
  | tuple vs=>cases vs with
   | nil=>simp only[aiG] at h ⊢;exact⟨_,_,rfl,h.symm⟩
   | cons v vs=>cases h
  | _=>cases h
end
section
variable {P:Program}{G:Nat->List AV}{base nt:Nat}{L:List Nat}{gh:Gh}{w w' : World}{a:Act}{s:AS}{H:ag}
theorem BF{cf:cC}(iv:dr P G cf){H0:ag}{gy:Gh}{w0:World}{bK locals muts:List Nat}{ops:Array Oper}(vD:∀ x,x∈locals->x∈L)(uG:∀ x,x∈muts->x∈L)(Q:Exit->Act->World->Prop)
  {is:List az} {mode pc:Bool} {M:List Nat} {es:List xM} (hI:Inv G base nt L H0 gy w0 s gh w a) (hc:fc P bK locals muts nt ops ops.toList=some is) (hes:mw mode pc is M is=some es) (qp:oU ops.toList es=true)
  {s' : AS} (he:dT G cf false (inter mode pc is M is) s=some s')
  (hQ:∀ a' aF w',Inv G base nt L H0 gy w0 s' aF w' a'->Q .normal a' w'):wpAny P .any ops Q ops.size (Array.replicate ops.size false) a w:=by
 obtain⟨S,h0,hn,hS⟩:=Ae is s s' he
 obtain⟨hlen,Cr⟩:=gJ hc
 obtain⟨afD,aaA⟩:=vm hes
 have fC:ops.size=is.length:=by simpa using hlen
 let E:Nat->xM:=fun i=>es.getD i default
 simp only[oU,aiL,aiO] at qp
 obtain⟨hb0,qp⟩:=qp
 have rr:∀ (i:Nat) (o:Oper),ops.toList[i]?=some o->∀ e,e∈o.after.toList->Region.binds .any e=true->e.on<i:=by
  intro i o hi e he hb
  have:=hb0 (o,i) (by rw[akH];exact⟨i,by rw[akP,hi];simp⟩)
  rw[ak5] at this
  have:=this e (by simpa using he)
  simpa [hb,ajb] using this
 have UO:∀ i j,j<i->i<is.length->conflict (E i) (E j)=true->j∈(nI ops.toList).getD i []:=by
  intro i j mV hi iv
  have gi:es[i]?=some (E i):=by
   have:i<es.length:=by omega
   simp[E,this]
  have gj:es[j]?=some (E j):=by
   have:j<es.length:=by omega
   simp[E,this]
  have:=qp (E i,i) (by rw[akH];exact⟨i,by rw[akP,gi];simp⟩) (E j,j) (by rw[akH];exact⟨j,by rw[akP,gj];simp⟩)
  simp only[iv,show Nat.blt j i=true by simpa [ajb] using mV,ajz,akx,Bool.or_false] at this
  simpa using this
 have rz:∀ i,i<is.length->∃ io,is[i]?=some io:=fun i hi=>⟨_,aiJ hi⟩
 have Kz:∀ (e:xM) (q:AS),Vo e q q:=fun e q=>⟨fun _ _=>rfl,fun _=>⟨rfl,rfl⟩,fun _=>rfl⟩
 have hK:Kr S E is.length:=by
  have mv:∀ j,j<is.length->dR (E j) (S (j+1)) (S j) (S (j+1)):=by
   intro j hj
   obtain⟨io,hi⟩:=rz j hj
   obtain⟨x1,h1,h2,_⟩:=vW (aaA j io hi) (hS j io hi).1 (hS j io hi).2 (Kz _ (S j))
   rw[AH (hS j io hi).2] at h1
   injection h1 with h1
   rw[<- h1] at h2
   exact h2
  refine⟨fun t j hj hw=>(mv j hj).T' t hw,fun j hj hw=>?_,fun j hj hw=>(mv j hj).G' (by simpa using hw)⟩
  have:=(mv j hj).H' (by simpa using hw)
  simp only[this]
 have fin:∀ (listed:Array Bool) (x:AS),listed.size=ops.size->(∀ i,i<ops.size->listed.getD i false=true)->pZ S E (fun i=>listed.getD i false=true) x->x=s':=by
  intro listed x hls fg hB
  rw[<- hn]
  refine D8 hK hB (fun i=>⟨fun h=>?_,fun h=>fg i (by omega)⟩)
  have a7:i<listed.size:=by
   rcases aj8 i listed.size with h'|h'
   ·exact h'
   ·simp[aj0 h'] at h
  omega
 have main:∀ (n:Nat) (listed:Array Bool) (x:AS) (gh:Gh) (w:World) (a:Act),listed.size=ops.size->(∀ l:List Nat,l.Nodup->(∀ i,i∈l->i<ops.size/\listed.getD i true=false)->l.length<=n) ->
   (∀ j o,ops[j]?=some o->listed.getD j false=true->∀ e,e∈o.after->Region.binds .any e=true->listed.getD e.on false=true) ->
   pZ S E (fun i=>listed.getD i false=true) x->Inv G base nt L H0 gy w0 x gh w a->wpAny P .any ops Q n listed a w:=by
  intro n
  induction n with
  | zero =>
   intro listed x gh w a hls F4 nF hB hI
   have fg:∀ i,i<ops.size->listed.getD i false=true:=by
    intro i hi
    cases hb:listed.getD i true with
    | true =>
     have:i<listed.size:=by omega
     simpa [this] using hb
    | false =>
     have:=F4 [i] (by simp) (fun j hj=>by simp at hj;subst hj;exact⟨hi,hb⟩)
     simp at this
   have qq:Region.ready .any ops listed=[]:=by
    cases hr:Region.ready .any ops listed with
    | nil=>rfl
    | cons i r =>
     have hm:i∈Region.ready .any ops listed:=by rw[hr];exact ai8
     obtain⟨h1,o,h2,_⟩:=mem_ready.1 hm
     have a7:=(aiN.1 h2).1
     have:=fg i a7
     have me:i<listed.size:=by omega
     simp[me] at this h1
     rw[this] at h1
     cases h1
   refine⟨qq,?_⟩
   rw[fin listed x hls fg hB] at hI
   exact hQ a gh w hI
  | succ n ih =>
   intro listed x gh w a hls F4 nF hB hI
   refine⟨fun qq=>?_,fun i hi=>?_⟩
   ·have fg:∀ i,i<ops.size->listed.getD i false=true:=by
     intro i
     induction i using Nat.strongRecOn with
     | _ i DQ =>
      intro a7
      have me:i<listed.size:=by omega
      cases hb:listed.getD i true with
      | true=>simpa [me] using hb
      | false =>
       exfalso
       have ho:=aiS a7
       have:i∈Region.ready .any ops listed:=mem_ready.2 ⟨hb,_,ho,fun e he mU=>by
        have LQ:=rr i _ (by rw[ajd];exact ho) e (by simpa using he) mU
        exact DQ e.on LQ (by omega)⟩
       rw[qq] at this
       cases this
    rw[fin listed x hls fg hB] at hI
    exact hQ a gh w hI
   ·obtain⟨WY,o,ho,vE⟩:=mem_ready.1 hi
    have a7:=(aiN.1 ho).1
    have me:i<listed.size:=by omega
    obtain⟨io,rz,bp⟩:=Cr i o (by simpa using ho)
    have Jm:¬ (listed.getD i false=true):=by
     simp[me] at WY ⊢
     exact WY
    have Cq:∀ (j:Nat) (o:Oper),ops.toList[j]?=some o->listed.getD j false=true->∀ e,e∈o.after.toList->Region.binds .any e=true->listed.getD e.on false=true :=
     fun j o ho h e he hb=>nF j o (by simpa using ho) h e (by simpa using he) hb
    have ready:=Di (X:=fun i=>listed.getD i false=true) rr Cq (k:=i) (o:=o) (by simpa using ho) (fun e he hb=>vE e (by simpa using he) hb)
    have later:∀ j,i<j->conflict (E j) (E i)=true->¬ (listed.getD j false=true):=by
     intro j uI hcj hj
     have hjs:j<is.length:=by
      rcases aj8 j listed.size with h'|h'
      ·omega
      ·simp[aj0 h'] at hj
     exact Jm (rR (X:=fun i=>listed.getD i false=true) rr Cq j hj i (UO j i uI hjs hcj))
    have hA:Vo (E i) (S i) x:=D7 hK (by omega) hB Jm (fun j hj hcj=>ready j (UO i j hj (by omega) hcj)) later
    obtain⟨x1,rD,hM,_⟩:=vW (aaA i io rz) (hS i io rz).1 (hS i io rz).2 hA
    obtain⟨z,s2,bc,rfl⟩:=BY rD
    unfold wpOp
    rw[ho]
    refine mZ iv hI bp vD uG bc _ Q (fun a' aF w' jQ=>?_)
    rw[<- (iL bp).2.2.1] at jQ
    have rC:∀ j,(listed.setIfInBounds i true).getD j false=true↔(listed.getD j false=true\/j=i):=by
     intro j
     by_cases mV:i=j
     ·subst mV
      simp[me]
     ·rw[getD_set_ne false mV]
      simp[aj6 mV]
    have hB':=Bl hB Jm later hM
    refine ih (listed.setIfInBounds i true) _ aF w' a' (by simpa using hls) (fun l HJ hl=>?_) (fun j o' pk hj e he mU=>?_) ?_ jQ
    ·have Wx:i∉l:=by
      intro hm
      have:=(hl i hm).2
      simp[me] at this
     have:=F4 (i :: l) (List.nodup_cons.2 ⟨Wx,HJ⟩) (fun j hj=>by
      rcases aja.1 hj with rfl|hj
      ·exact⟨a7,WY⟩
      ·have h1:=hl j hj
       have mV:i≠j:=by rintro rfl;exact Wx hj
       rw[getD_set_ne true mV] at h1
       exact h1)
     simp at this
     omega
    ·rcases (rC j).1 hj with h|rfl
     ·exact (rC _).2 (.inl (nF j o' pk h e he mU))
     ·rw[ho] at pk
      injection pk with pk
      subst pk
      exact (rC _).2 (.inl (vE e he mU))
    ·have Ww:∀ j,(listed.getD j false=true\/j=i)↔(listed.setIfInBounds i true).getD j false=true:=fun j=>(rC j).symm
     exact⟨fun t=>qb Ww (hB'.T t),qb Ww hB'.H,qb Ww hB'.G⟩
 refine main ops.size _ s gh w a (by simp) (fun l HJ hl=>?_) (fun j o hj h=>?_) ?_ hI
 ·exact sY ops.size l HJ (fun i hi=>(hl i hi).1)
 ·exfalso
  have:(Array.replicate ops.size false).getD j false=false:=by
   by_cases h:j<ops.size<;>simp[h]
  rw[this] at h
  cases h
 ·have j8:∀ i,¬ ((Array.replicate ops.size false).getD i false=true):=by
   intro i h
   have:(Array.replicate ops.size false).getD i false=false:=by
    by_cases h:i<ops.size<;>simp[h]
   rw[this] at h
   cases h
  rw[<- h0]
  exact Bk j8
end
theorem vg{draw:Bool}{L:List Nat}{ops:List Oper}{is:List az}{c:aZ}(h:cond draw (vf L ops is) none=some c) :
  draw=true/\∃ mode pc es,mw mode pc is L is=some es/\oU ops es=true/\c=.region false (inter mode pc is L is):=by
 cases draw with
 | false=>cases h
 | true =>
  refine⟨rfl,?_⟩
  simp only[cond_true,vf] at h
  obtain⟨_,h⟩:=ab h
  have one:∀ mode pc,Pk mode pc L ops is=some c->∃ mode pc es,mw mode pc is L is=some es/\oU ops es=true/\c=.region false (inter mode pc is L is):=by
   intro mode pc h
   simp only[Pk,aiF] at h
   obtain⟨es,h1,h⟩:=h
   obtain⟨h2,h⟩:=ab h
   injection h with h
   exact⟨mode,pc,es,h1,h2,h.symm⟩
  split at h
  ·rename_i c' hc;injection h with h;subst h;exact one _ _ hc
  ·split at h
   ·rename_i c' hc
    injection h with h
    subst h
    cases hc7:L.elem 999997 with
    | true=>rw[hc7] at hc;cases hc
    | false=>rw[hc7] at hc;exact one _ _ hc
   ·cases hb:L.elem 999999 with
    | true=>rw[hb] at h;cases h
    | false=>rw[hb] at h;exact one _ _ h
end
end Go.Abs
