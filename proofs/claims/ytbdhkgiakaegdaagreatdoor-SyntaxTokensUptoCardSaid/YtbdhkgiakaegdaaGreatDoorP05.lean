/-
  A part of the proof of SyntaxTokens: AbsRun, AbsDraw, AbsDraw2, AbsDraw3, AbsDraw4, AbsDraw5, AbsDraw6.
-/
import Derived.LoopN
import Derived.Scope
import Derived.Tactics
import Derived.Orders
import Derived.Test.YtbdhkgiakaegdaaGreatDoorP04
set_option linter.unusedSimpArgs false
set_option linter.unusedVariables false
set_option linter.defProp false
namespace Go.Abs
section
structure fU (H0:ai) (s:AS):Prop where
 lo:s.lo<=H0.length
 len:H0.length<=s.H.length
 same:∀ l,l<s.lo->s.H[l]?=H0[l]?
def xF(s:AS)(c:gS):Prop:=s.H.length<=c.heap.length/\∀ l,l<c.lo->c.heap[l]?=s.H[l]?
theorem fU.gL{H0:ai}{s:AS}(h:fU H0 s){c:gS}(hc:xF s c):fU H0 (s.gL c):=by
 have e:(s.gL c).lo=if c.lo<s.lo then c.lo else s.lo:=by
  simp only[AS.gL]
  by_cases hb:c.lo<s.lo
  ·rw[if_pos hb,show Nat.blt c.lo s.lo=true by simpa [aoE] using hb];rfl
  ·rw[if_neg hb,show Nat.blt c.lo s.lo=false by simpa [<- aqs,aoE] using hb];rfl
 have:=h.lo
 refine⟨?_,apk h.len hc.1,fun l hl=>?_⟩
 ·rw[e];split<;>omega
 ·rw[e] at hl
  have h1:l<c.lo/\l<s.lo:=by split at hl<;>omega
  exact (hc.2 l h1.1).trans (h.same l h1.2)
theorem fU.gp{H0:ai}{s s' : AS}(h:fU H0 s)(hH:s'.H=s.H)(hl:s'.lo=s.lo):fU H0 s' :=
 ⟨by rw[hl];exact h.lo,by rw[hH];exact h.len,fun l Ak=>by rw[hH];exact h.same l (by rw[<- hl];exact Ak)⟩
theorem nz(s:AS)(loc:Nat)(o:cJ):xF s ⟨s.H.set loc o,loc⟩:=⟨by simp,fun l hl=>by simp only at hl ⊢;rw[List.getElem?_set_ne (by omega)]⟩
theorem MP(s:AS)(loc:Nat)(hl:loc<s.H.length)(o:cJ):xF s ⟨s.H.set loc .dead++[o],loc⟩:=⟨by simp,fun l Ak=>by
 simp only at Ak ⊢
 rw[aot (by simp;omega),List.getElem?_set_ne (by omega)]⟩
theorem kQ(s:AS)(o:cJ):xF s ⟨s.H++[o],s.H.length⟩:=⟨by simp,fun l hl=>by simp only at hl ⊢;rw[aot hl]⟩
theorem K7{G:Nat->List AV}{cf:dK}(jK:∀ f args H r c,cf f args H=some (r,c)->kI H c){H0:ai}{s s' : AS}{o:gA}{z:AV}(he:aA G cf s o=some (z,some s'))(h:fU H0 s):fU H0 s':=by
 have sT:∀ t X,fU H0 (s.cy t X):=fun t X=>h.gp rfl rfl
 cases o with
 | mov take obj x =>
  cases x<;>simp only[aA,mB] at he<;>try (cases he;done)
  split at he
  ·cases he
  ·cases take
   ·cases he
   ·cases obj
    ·simp only[cond_true,anZ] at he
     obtain⟨_,he⟩:=ag he
     simp only[anV,anY] at he
     rw[<- he.2];exact sT _ _
    ·simp only[cond_true,anV,anY] at he
     rw[<- he.2];exact h.gp rfl rfl
  ·simp only[anV,anY] at he
   obtain⟨_,he⟩:=he
   obtain⟨_,he⟩:=ag he
   injection he with he
   rw[<- he];exact sT _ _
  ·cases he
  ·cases he
 | Af c x=>simp only[aA] at he;obtain⟨_,he⟩:=ag he;simp at he
 | boxL x =>
  simp only[aA,anT,anY,anV] at he
  obtain⟨cs,_,_,rfl⟩:=he
  exact h.gp rfl rfl
 | allocL z0 =>
  simp only[aA,anV,anY] at he
  rw[<- he.2];exact h.gp rfl rfl
 | oz ty z0 =>
  simp only[aA,anV,anY] at he
  rw[<- he.2];exact h.gL (kQ s _)
 | box ty x =>
  simp only[aA,anU] at he
  obtain⟨cs,_,he⟩:=he
  obtain⟨_,he⟩:=ag he
  simp only[anV,anY] at he
  rw[<- he.2];exact h.gL (kQ s _)
 | xi x =>
  simp only[aA,anU] at he
  obtain⟨cs,_,he⟩:=he
  obtain⟨_,he⟩:=ag he
  simp only[anV,anY] at he
  rw[<- he.2];exact h.gL (kQ s _)
 | copyO x y =>
  simp only[aA,rH] at he
  split at he
  ·split at he
   ·obtain⟨_,he⟩:=ag he
    simp only[anV,anY] at he
    rw[<- he.2];exact h.gL (nz s _ _)
   ·cases he
  ·simp at he
  ·cases he
 | nilS=>simp[aA] at he
 | load take agg sz x =>
  simp only[aA,ay] at he
  split at he
  ·simp at he
  ·split at he
   ·simp only[anT,anY] at he
    obtain⟨u,_,_,he⟩:=he
    obtain⟨_,he⟩:=ag he
    injection he with he
    rw[<- he];exact h.gL (nz s _ _)
   ·simp at he
   ·simp at he
   ·cases he
  ·split at he
   ·obtain⟨_,he⟩:=ag he
    simp only[anT,anY] at he
    obtain⟨u,_,_,he⟩:=he
    obtain⟨_,he⟩:=ag he
    injection he with he
    rw[<- he];exact sT _ _
   ·cases he
  ·split at he
   ·obtain⟨_,he⟩:=ag he
    simp only[anU] at he
    obtain⟨r,_,he⟩:=he
    obtain⟨_,he⟩:=ag he
    simp at he
   ·cases he
  ·cases he
 | store sz x y =>
  simp only[aA,anT,anY,anV] at he
  obtain⟨s1,he,_,rfl⟩:=he
  have h1:fU H0 s1:=by
   unfold aN at he
   split at he
   ·cases he
   obtain⟨_,he⟩:=ag he
   split at he
   ·split at he
    ·obtain⟨_,he⟩:=ag he
     injection he with he
     rw[<- he];exact h.gL (nz s _ _)
    ·obtain⟨_,he⟩:=ag he
     injection he with he
     rw[<- he];exact h.gL (nz s _ _)
    ·cases he
   ·split at he
    ·obtain⟨_,he⟩:=ag he
     injection he with he
     rw[<- he];exact sT _ _
    ·cases he
   ·split at he
    ·obtain⟨_,he⟩:=ag he
     simp only[anU] at he
     obtain⟨r,_,he⟩:=he
     obtain⟨_,he⟩:=ag he
     injection he with he
     rw[<- he];exact sT _ _
    ·cases he
   ·cases he
  exact h1.gp (iJ _ _).1 (iJ _ _).2.2
 | append isB wr sz bytes x y =>
  simp only[aA,bf] at he
  split at he
  ·split at he
   ·simp only[anU] at he
    obtain⟨f,_,he⟩:=he
    obtain⟨_,he⟩:=ag he
    simp only[anV,anY] at he
    rw[<- he.2];exact h.gp rfl rfl
   ·cases wr
    ·simp only[anZ,anT,anY,anV] at he
     obtain⟨_,_,_,rfl⟩:=he
     exact sT _ _
    ·simp only[cond_true,anU] at he
     obtain⟨f,_,he⟩:=he
     obtain⟨_,he⟩:=ag he
     simp only[anV,anY] at he
     rw[<- he.2];exact h.gp rfl rfl
   ·cases wr
    ·simp only[anZ,anT,anY,anV] at he
     obtain⟨_,_,_,rfl⟩:=he
     exact h
    ·simp only[cond_true,anU] at he
     obtain⟨f,_,he⟩:=he
     obtain⟨_,he⟩:=ag he
     simp only[anV,anY] at he
     rw[<- he.2];exact h.gp rfl rfl
   ·cases he
  ·cases wr
   ·simp at he
   ·cases he
 | call f args =>
  simp only[aA] at he
  split at he
  ·obtain⟨_,he⟩:=ag he
   simp only[anT,anY] at he
   obtain⟨⟨r,c⟩,hr,_,he⟩:=he
   simp only[anT] at he
   obtain⟨c',rfl,rfl⟩:=he
   obtain⟨h1,h2⟩:=jK _ _ _ _ _ hr
   exact h.gL ⟨by simp only[oE] at h1;omega,(h2 c' rfl).2⟩
  ·cases he
 | Bd f pre x post =>
  simp only[aA] at he
  obtain⟨_,he⟩:=ag he
  simp only[anU,anT,anY,anV] at he
  obtain⟨⟨xv,s1⟩,hx,⟨r,c⟩,hr,_,rfl⟩:=he
  have h1:fU H0 s1/\s1.H=s.H:=by
   unfold YJ at hx
   split at hx
   ·split at hx
    ·simp only[anV,anY] at hx
     obtain⟨_,rfl⟩:=hx
     exact⟨sT _ _,rfl⟩
    ·cases hx
   ·split at hx
    ·simp only[anV,anY] at hx
     obtain⟨_,rfl⟩:=hx
     exact⟨h,rfl⟩
    ·cases hx
   ·cases hx
  obtain⟨k1,k2⟩:=jK _ _ _ _ _ hr
  cases c with
  | none=>exact h1.1
  | some c' =>
   refine h1.1.gL ⟨?_,?_⟩
   ·have:=h1.1.len;simp only[oE] at k1;rw[h1.2];omega
   ·rw[h1.2];exact (k2 c' rfl).2
 | pick=>simp only[aA] at he;split at he<;>simp at he
 | build=>simp[aA] at he
 | mkslice =>
  simp only[aA,anU] at he
  obtain⟨_,_,he⟩:=he
  obtain⟨_,he⟩:=ag he
  simp at he
 | nilCheck=>simp only[aA] at he;obtain⟨_,he⟩:=ag he;simp at he
 | bin=>simp[aA] at he
 | un=>simp[aA] at he
 | mm=>simp[aA] at he
 | conv=>simp[aA] at he
 | xP=>simp[aA] at he
 | slice=>simp[aA] at he
 | fieldAddr=>simp only[aA] at he;obtain⟨_,he⟩:=ag he;simp at he
 | field=>simp only[aA] at he;split at he<;>simp at he
 | ixSl =>
  simp only[aA] at he
  split at he
  ·simp only[anU] at he
   obtain⟨_,_,_,_,he⟩:=he
   obtain⟨_,he⟩:=ag he
   simp at he
  ·simp only[anU] at he
   obtain⟨_,_,he⟩:=he
   obtain⟨_,he⟩:=ag he
   simp at he
  ·split at he
   ·obtain⟨_,he⟩:=ag he
    simp only[anU] at he
    obtain⟨_,_,_,_,he⟩:=he
    obtain⟨_,he⟩:=ag he
    simp at he
   ·cases he
  ·cases he
 | ixArr =>
  simp only[aA,anU] at he
  obtain⟨_,_,he⟩:=he
  obtain⟨_,he⟩:=ag he
  simp at he
 | index =>
  simp only[aA,anU] at he
  obtain⟨_,_,he⟩:=he
  obtain⟨_,he⟩:=ag he
  split at he<;>simp at he
 | indexStr =>
  simp only[aA] at he
  split at he
  ·simp only[anU,anT,anY] at he
   obtain⟨_,_,_,_,_,he⟩:=he
   cases he
  ·cases he
 | extract=>simp only[aA] at he;split at he<;>simp at he
 | len =>
  simp only[aA] at he
  split at he
  ·split at he
   ·obtain⟨_,he⟩:=ag he
    simp at he
   ·cases he
  ·simp at he
 | mkfunc=>simp only[aA] at he;obtain⟨_,he⟩:=ag he;simp at he
 | jk f xs =>
  simp only[aA] at he
  split at he
  ·obtain⟨_,he⟩:=ag he
   simp only[anU] at he
   obtain⟨r,_,he⟩:=he
   split at he<;>simp at he
  ·cases he
 | appendO sz bytes x y =>
  simp only[aA,jo] at he
  split at he
  ·simp at he
  simp only[jH,anU] at he
  obtain⟨f,_,he⟩:=he
  split at he
  ·obtain⟨_,he⟩:=ag he
   simp only[anV,anY] at he
   rw[<- he.2];exact h.gL (kQ s _)
  ·obtain⟨_,he⟩:=ag he
   simp only[anV,anY] at he
   rw[<- he.2];exact h.gL (kQ s _)
  ·split at he
   ·rename_i hH
    obtain⟨_,he⟩:=ag he
    simp only[anV,anY] at he
    rw[<- he.2];exact h.gL (MP s _ (an2.1 hH).1 _)
   ·cases he
  ·cases he
 | mb sz zs ps =>
  simp only[aA,anU] at he
  obtain⟨f,_,he⟩:=he
  obtain⟨_,he⟩:=ag he
  simp only[anV,anY] at he
  rw[<- he.2];exact h.gL (kQ s _)
 | zD sz bytes zero n =>
  simp only[aA,rJ,anU] at he
  obtain⟨f,_,he⟩:=he
  obtain⟨_,he⟩:=ag he
  simp only[anV,anY] at he
  rw[<- he.2];exact h.gL (kQ s _)
 | sF kz ka va =>
  simp only[aA,anV,anY] at he
  rw[<- he.2];exact h.gL (kQ s _)
 | look ok kz ka va ks zero m k =>
  simp only[aA,vN,anU] at he
  obtain⟨_,_,he⟩:=he
  obtain⟨_,he⟩:=ag he
  split at he
  ·simp at he
  ·obtain⟨_,he⟩:=ag he
   simp at he
  ·simp only[anU,anT,anY,reduceCtorEq,aqv,aqA] at he
 | Ly kz ka ks zero m k =>
  simp only[aA,CV] at he
  split at he
  ·split at he
   ·simp only[anU] at he
    obtain⟨_,_,he⟩:=he
    obtain⟨_,he⟩:=ag he
    simp only[anU] at he
    obtain⟨o,_,he⟩:=he
    cases o with
    | none=>simp at he
    | some i =>
     simp only[anT,anY,anV] at he
     obtain⟨_,_,_,he⟩:=he
     rw[<- he];exact h.gL (nz s _ _)
   ·cases he
  ·cases he
 | mq kz ka va vz ks m k v =>
  simp only[aA,anT,anY,anV] at he
  obtain⟨s1,he,_,rfl⟩:=he
  have h1:fU H0 s1:=by
   unfold qO at he
   split at he
   ·split at he
    ·simp only[anU] at he
     obtain⟨_,_,_,_,he⟩:=he
     obtain⟨_,he⟩:=ag he
     simp only[anT] at he
     obtain⟨_,_,he⟩:=he
     rw[<- he];exact h.gL (nz s _ _)
    ·cases he
   ·cases he
  exact h1.gp (iJ _ _).1 (iJ _ _).2.2
 | Wt m =>
  simp only[aA] at he
  split at he
  ·simp at he
  ·simp at he
  ·split at he
   ·simp at he
   ·simp at he
   ·cases he
  ·cases he
 | Zj kz ka va m =>
  simp only[aA] at he
  split at he
  ·simp only[anV,anY] at he
   rw[<- he.2];exact h.gp rfl rfl
  ·obtain⟨_,he⟩:=ag he
   simp only[anV,anY] at he
   rw[<- he.2];exact h.gp rfl rfl
  ·obtain⟨_,he⟩:=ag he
   simp only[anV,anY] at he
   rw[<- he.2];exact h.gp rfl rfl
  ·split at he
   ·obtain⟨_,he⟩:=ag he
    simp only[anV,anY] at he
    rw[<- he.2]
    exact (h.gL (nz s _ _)).gp rfl rfl
   ·cases he
  ·cases he
 | next it=>simp[aA] at he
 | Tc it =>
  simp only[aA] at he
  split at he
  ·split at he
   ·obtain⟨_,he⟩:=ag he
    simp at he
   ·cases he
  ·cases he
section
variable {P:Program}{G:Nat->List AV}{base nt:Nat}{L:List Nat}{gh:Gh}{w w' : World}{a:Act}{s:AS}{H:ai}
structure Inv (G:Nat->List AV) (base nt:Nat) (L:List Nat) (H0:ai) (iP:Gh) (w0:World) (s:AS) (gh:Gh) (w:World) (a:Act):Prop where
 W:bc G base s.H gh w
 F:FR L nt gh w a s
 E:Ext H0.length iP w0 gh w
 lo:fU H0 s
theorem Inv.out{H0:ai}{iP aX:Gh}{w0 w' : World}{d:Option Nat}{x:AV}{s' : AS}{v' : Value}(h:Inv G base nt L H0 iP w0 s gh w a)(hO:Out G base nt L gh w a s d x s' v' aX w')(hl:fU H0 s') :
  Inv G base nt L H0 iP w0 (s'.bW d x) aX w' (a.put d v') :=
 ⟨by rw[(jt s' d x).1];exact hO.W,hO.F,h.E.trans hO.E h.lo.len,hl.gp (jt s' d x).1 (jt s' d x).2.2⟩
def nr(G:Nat->List AV)(cf:dK)(draw:Bool)(s:AS)(o:aO):Option (AV × AS) :=
 let run:Option (AV × AS):=(aA G cf s o.op).bind fun r=>match r.2 with
  | none=>cond (draw&&(bB r.1).isSome) none (some (r.1,s))
  | some s'=>cond draw none (some (r.1,s'))
 match o.guard with
 | none=>run
 | some (g,want)=>match s.T g with
  | .bool b=>cond (b==want) run (some (.undef,s))
  | .tuple []=>some (.undef,s)
  | _=>none
theorem nq{G:Nat->List AV}{cf:dK}{draw:Bool}{s:AS}{o:aO} : bj G cf draw s o=(nr G cf draw s o).map fun r=>r.2.bW o.dst r.1:=by
 have dm:((aA G cf s o.op).bind fun r=>match r.2 with
   | none=>cond (draw&&(bB r.1).isSome) none (some (s.bW o.dst r.1))
   | some s'=>cond draw none (some (s'.bW o.dst r.1))) =
  ((aA G cf s o.op).bind fun r=>match r.2 with
   | none=>cond (draw&&(bB r.1).isSome) none (some (r.1,s))
   | some s'=>cond draw none (some (r.1,s'))).map fun r=>r.2.bW o.dst r.1:=by
  cases aA G cf s o.op with
  | none=>rfl
  | some r =>
   obtain⟨z,s'⟩:=r
   cases s' with
   | none=>simp only[an8];cases (draw&&(bB z).isSome)<;>rfl
   | some s'=>cases draw<;>rfl
 unfold bj nr
 simp only
 cases o.guard with
 | none=>exact dm
 | some g =>
  obtain⟨g,want⟩:=g
  simp only
  generalize s.T g=X
  cases X with
  | bool b =>
   simp only
   cases (b==want)
   ·rfl
   ·exact dm
  | tuple vs=>cases vs<;>rfl
  | _=>rfl
theorem j0{cz locals muts:List Nat}{ops:Array Oper}{o:Oper}{io:aO}(h:qD P cz locals muts nt ops o=some io) :
  dB P cz locals muts nt o.dst o.op=some io.op/\oU nt ops o.guard=some io.guard/\io.dst=o.dst/\∀ k,o.dst=some k->k<nt:=by
 simp only[qD,anU] at h
 obtain⟨p,hp,g,hg,h⟩:=h
 split at h
 ·rename_i hd
  injection h with h
  subst h
  exact⟨hp,hg,hd.symm,fun k hk=>by rw[hd] at hk;cases hk⟩
 ·rename_i d hd
  obtain⟨h0,h⟩:=ag h
  injection h with h
  subst h
  exact⟨hp,hg,hd.symm,fun k hk=>by rw[hd] at hk;injection hk with hk;subst hk;simpa [aoE] using h0⟩
theorem pd{cf:dK}(jK:fD P G cf){H0:ai}{iP:Gh}{w0:World}(hI:Inv G base nt L H0 iP w0 s gh w a){cz locals muts:List Nat}{ops:Array Oper}{o:Oper}{io:aO}
  (hc:qD P cz locals muts nt ops o=some io) (y7:∀ x,x∈locals->x∈L) (xM:∀ x,x∈muts->x∈L) {draw:Bool} {z:AV} {s1:AS} (he:nr G cf draw s io=some (z,s1)) (K:Act->World->Prop) (Q:Exit->Act->World->Prop)
  (hK:∀ a' aX w',Inv G base nt L H0 iP w0 (s1.bW o.dst z) aX w' a'->K a' w') :
  if Region.wanted o (yielded ops a.tmps) then o.wp P a w K Q\/(o.asks P a w/\LetsOut Q) else K (a.put o.dst undef) w:=by
 obtain⟨dN,hg,als,hd⟩:=j0 hc
 have Y2:s1=s->z=.undef->K (a.put o.dst undef) w:=by
  rintro rfl rfl
  exact hK _ gh w (hI.out (Out.pure hI.W hI.F hd (.dO .undef)) hI.lo)
 have dm:((aA G cf s io.op).bind fun r=>match r.2 with
   | none=>cond (draw&&(bB r.1).isSome) none (some (r.1,s))
   | some s'=>cond draw none (some (r.1,s')))=some (z,s1)->o.wp P a w K Q:=by
  intro h
  simp only[anU] at h
  obtain⟨⟨z',s'⟩,bV,h⟩:=h
  cases s' with
  | none =>
   simp only at h
   have h' : z'=z/\s=s1:=by
    cases hb:(draw&&(bB z').isSome) with
    | true=>rw[hb] at h;cases h
    | false=>rw[hb] at h;simpa using h
   obtain⟨rfl,rfl⟩:=h'
   exact yQ jK hI.W hI.F dN y7 xM bV hd K Q (fun v' aX w' hO=>hK _ aX w' (hI.out hO hI.lo))
  | some s' =>
   simp only at h
   have h' : z'=z/\s'=s1:=by
    cases draw with
    | true=>cases h
    | false=>simpa using h
   obtain⟨rfl,rfl⟩:=h'
   exact yQ jK hI.W hI.F dN y7 xM bV hd K Q (fun v' aX w' hO=>hK _ aX w' (hI.out hO (K7 (fun f args H r c h=>(jK f args H r c h).2.1) bV hI.lo)))
 cases hog:o.guard with
 | none =>
  rw[hog] at hg
  simp only[oU,anV] at hg
  have hw:Region.wanted o (yielded ops a.tmps)=true:=by simp[Region.wanted,hog]
  rw[if_pos hw]
  unfold nr at he
  rw[<- hg] at he
  exact .inl (dm he)
 | some jw =>
  obtain⟨j,want⟩:=jw
  rw[hog] at hg
  simp only[oU,anU] at hg
  obtain⟨t,⟨oj,hoj,N2⟩,hg⟩:=hg
  obtain⟨bA,hg⟩:=ag hg
  injection hg with hg
  have ht:t<nt:=by simpa [aoE] using bA
  have htm:a.tmps[t]?=some (gv a t):=by
   have:t<a.tmps.size:=by rw[hI.F.size];exact ht
   simp[gv,this]
  have hy:∀ v,gv a t=v->yielded ops a.tmps j=match v with|.bool b=>some b|_=>none:=by
   intro v hv
   unfold yielded
   rw[hoj]
   simp only[an8,N2,htm,hv]
   cases v<;>rfl
  have tV:=hI.F.slot t ht
  change SR gh s.H.length nt w s.T s.gen (gv a) t (gv a t) (s.T t) at tV
  unfold nr at he
  rw[<- hg] at he
  simp only at he
  split at he
  ·rename_i b hT
   rw[hT] at tV
   have hv:=VR.jM (CR.dropped (tV:CR gh s.H.length w (.sl t) (gv a t) (.bool b)))
   have hw:Region.wanted o (yielded ops a.tmps)=(b==want):=by
    simp only[Region.wanted,hog,hy _ hv]
    cases b<;>cases want<;>rfl
   rw[hw]
   cases hb:(b==want) with
   | true =>
    rw[hb] at he
    rw[if_pos rfl]
    exact .inl (dm he)
   | false =>
    rw[hb] at he
    simp only[anZ,anV,anY] at he
    rw[if_neg (by simp)]
    exact Y2 he.2.symm he.1.symm
  ·rename_i hT
   rw[hT] at tV
   have hv:=VR.M9 (CR.dropped (tV:CR gh s.H.length w (.sl t) (gv a t) (.tuple [])))
   have hw:Region.wanted o (yielded ops a.tmps)=false:=by
    simp only[Region.wanted,hog,hy _ hv]
    rfl
   rw[hw,if_neg (by simp)]
   simp only[anV,anY] at he
   exact Y2 he.2.symm he.1.symm
  ·cases he
theorem BV{cf:dK}(jK:fD P G cf){H0:ai}{iP:Gh}{w0:World}{cz locals muts:List Nat}{ops:Array Oper}(y7:∀ x,x∈locals->x∈L)(xM:∀ x,x∈muts->x∈L)(Q:Exit->Act->World->Prop) :
  ∀ (l:List Oper) (is:List aO) (s s' : AS) (gh:Gh) (w:World) (a:Act),Inv G base nt L H0 iP w0 s gh w a->gN P cz locals muts nt ops l=some is->fX G cf false is s=some s' ->
   (∀ a' aX w',Inv G base nt L H0 iP w0 s' aX w' a'->Q .normal a' w')->wpList P ops Q l a w
 | [],is,s,s',gh,w,a,hI,hc,he,hQ=>by
  simp only[gN,anV] at hc
  subst hc
  simp only[fX,anV] at he
  subst he
  exact hQ a gh w hI
 | o :: l,is,s,s',gh,w,a,hI,hc,he,hQ=>by
  simp only[gN,anU,anT] at hc
  obtain⟨io,uO,is',Ie,rfl⟩:=hc
  simp only[fX,anU,nq,anT] at he
  obtain⟨s1,⟨⟨z,s2⟩,hz,rfl⟩,he⟩:=he
  unfold wpList
  refine pd jK hI uO y7 xM hz _ Q (fun a' aX w' kT=>?_)
  rw[(j0 uO).2.2.1] at he
  exact BV jK y7 xM Q l is' _ s' aX w' a' kT Ie he hQ
end
end
section
structure qu (s s' : AS) (ts:List Nat):Prop where
 H:s.H=s'.H
 T:∀ t,t∈ts->s.T t=s'.T t
 B:∀ b,s.T b=s'.T b\/bB (s.T b)=none
section
variable {G:Nat->List AV}{cf:dK}{s s' : AS}{ts:List Nat}
theorem qu.eval(h:qu s s' ts){y:aC}(hy:∀ t,t∈y.tmps->t∈ts):y.eval G s'.T=y.eval G s.T:=by
 cases y<;>try rfl
 rename_i t
 exact (h.T t (hy t (by simp[aC.tmps]))).symm
theorem qu.addr(h:qu s s' ts){y:aC}(hy:∀ t,t∈y.tmps->t∈ts):y.addr G s'.T=y.addr G s.T:=by
 cases y<;>try rfl
 rename_i t
 simp only[aC.addr]
 rw[h.T t (hy t (by simp[aC.tmps]))]
theorem qu.box(h:qu s s' ts)(b:Nat){g:Nat}{cs:List AV}(hb:s.T b=.lbox g cs):s'.T b=.lbox g cs:=by
 rcases h.B b with h|h
 ·rw[<- h,hb]
 ·rw[hb] at h;cases h
theorem qu.row(h:qu s s' ts)(b:Nat){g:Nat}{e:List (List AV)}(hb:s.T b=.lsl g e):s'.T b=.lsl g e:=by
 rcases h.B b with h|h
 ·rw[<- h,hb]
 ·rw[hb] at h;cases h
theorem qu.live(h:qu s s' ts){A:AV}(hl:aQ s A=true):aQ s' A=true:=by
 cases A<;>simp only[aQ] at hl ⊢<;>try (cases hl;done)
 ·split at hl
  ·rename_i hT;rw[h.box _ hT];exact hl
  ·cases hl
 ·split at hl
  ·rename_i hT;rw[h.row _ hT];exact hl
  ·cases hl
theorem qu.load(h:qu s s' ts){take agg:Bool}{sz:Nat}{A z:AV}(he:ay s take agg sz A=some (z,none)):ay s' take agg sz A=some (z,none):=by
 have key:∀ {X:Option AV} {x y:AS},X.map (fun v=>(v,cond (take&&!agg) (some x) none))=some (z,none)->X.map (fun v=>(v,cond (take&&!agg) (some y) none))=some (z,none):=by
  intro X x y hX
  cases X with
  | none=>cases hX
  | some v=>cases hb:(take&&!agg)<;>simp_all
 cases A<;>simp only[ay] at he ⊢<;>try (cases he;done)
 ·exact he
 ·rw[<- h.H]
  split at he
  ·exact key he
  ·exact he
  ·exact he
  ·cases he
 ·split at he
  ·rename_i hT
   rw[h.box _ hT]
   obtain⟨h0,he⟩:=ag he
   simp only[h0,cond_true]
   exact key he
  ·cases he
 ·split at he
  ·rename_i hT
   rw[h.row _ hT]
   exact he
  ·cases he
theorem qu.mov(h:qu s s' ts){take obj:Bool}{y:aC}{z:AV}(hy:∀ t,t∈y.tmps->t∈ts)(he:mB G s take obj y=some (z,none)):mB G s' take obj y=some (z,none):=by
 cases y with
 | tmp t =>
  have e:=h.T t (hy t (by simp[aC.tmps]))
  simp only[mB] at he ⊢
  rw[<- e]
  generalize s.T t=X at he ⊢
  cases X<;>try exact he
  ·rename_i el own
   cases take<;>cases own<;>simp_all
  ·cases take
   ·exact he
   ·cases obj
    ·simp only[cond_true,anZ] at he
     obtain⟨_,he⟩:=ag he
     simp at he
    ·simp at he
 | _=>exact he
theorem Ja(h:qu s s' ts){op:gA}(ht:∀ t,t∈op.tmps->t∈ts){z:AV}(he:aA G cf s op=some (z,none)):aA G cf s' op=some (z,none):=by
 cases op with
 | mov take obj x=>exact h.mov ht he
 | pick c x y =>
  have h1:=h.eval (G:=G) (y:=c) (fun t hm=>ht t (by simp[gA.tmps,hm]))
  have h2:=h.addr (G:=G) (y:=x) (fun t hm=>ht t (by simp[gA.tmps,hm]))
  have h3:=h.addr (G:=G) (y:=y) (fun t hm=>ht t (by simp[gA.tmps,hm]))
  simp only[aA] at he ⊢
  rw[h1,h2,h3]
  exact he
 | Af c x =>
  have h1:=h.addr (G:=G) (y:=x) (fun t hm=>ht t (by simp[gA.tmps,hm]))
  simp only[aA] at he ⊢
  rw[h1];exact he
 | boxL x=>simp[aA] at he
 | allocL z0=>simp[aA] at he
 | oz ty z0=>simp[aA] at he
 | box ty x =>
  simp only[aA,anU] at he
  obtain⟨_,_,he⟩:=he
  obtain⟨_,he⟩:=ag he
  simp at he
 | build z0 ps =>
  have e1:(ps.map fun p=>(p.1,p.2.1,(p.2.2.eval G s'.T).drop))=ps.map fun p=>(p.1,p.2.1,(p.2.2.eval G s.T).drop) :=
   aoA fun p hp=>by rw[h.eval (G:=G) (y:=p.2.2) (fun t hm=>ht t (by simp only[gA.tmps,apn];exact⟨p,hp,hm⟩))]
  simp only[aA] at he ⊢
  rw[e1];exact he
 | mkslice isB sz zs ps =>
  have e1:(ps.map fun p=>(p.1,(p.2.eval G s'.T).drop))=ps.map fun p=>(p.1,(p.2.eval G s.T).drop) :=
   aoA fun p hp=>by rw[h.eval (G:=G) (y:=p.2) (fun t hm=>ht t (by simp only[gA.tmps,apn];exact⟨p,hp,hm⟩))]
  simp only[aA] at he ⊢
  rw[e1];exact he
 | load take agg sz x =>
  simp only[aA] at he ⊢
  rw[h.addr (G:=G) (y:=x) ht]
  exact h.load he
 | store sz x y =>
  simp only[aA,anT,anY] at he
  obtain⟨_,_,_,he⟩:=he
  cases he
 | nilCheck x =>
  simp only[aA] at he ⊢
  rw[h.addr (G:=G) (y:=x) ht]
  obtain⟨h0,he⟩:=ag he
  rw[h.live h0];exact he
 | bin op q x y =>
  simp only[aA] at he ⊢
  rw[h.eval (G:=G) (y:=x) (fun t hm=>ht t (by simp[gA.tmps,hm])),h.eval (G:=G) (y:=y) (fun t hm=>ht t (by simp[gA.tmps,hm]))]
  exact he
 | un op x=>simp only[aA] at he ⊢;rw[h.eval (G:=G) (y:=x) ht];exact he
 | mm mx x y =>
  simp only[aA] at he ⊢
  rw[h.eval (G:=G) (y:=x) (fun t hm=>ht t (by simp[gA.tmps,hm])),h.eval (G:=G) (y:=y) (fun t hm=>ht t (by simp[gA.tmps,hm]))]
  exact he
 | conv c x=>simp only[aA] at he ⊢;rw[h.eval (G:=G) (y:=x) ht];exact he
 | xP t x=>simp only[aA] at he ⊢;rw[h.eval (G:=G) (y:=x) ht];exact he
 | slice k x lo hi mx =>
  have opt:∀ o:Option aC,(∀ t,t∈o.toList.flatMap aC.tmps->t∈ts)->o.map (·.eval G s'.T)=o.map (·.eval G s.T):=by
   intro o ho
   cases o with
   | none=>rfl
   | some y=>simp only[aoi];rw[h.eval (G:=G) (y:=y) (fun t hm=>ho t (by simp[hm]))]
  simp only[aA] at he ⊢
  rw[h.eval (G:=G) (y:=x) (fun t hm=>ht t (by simp only[gA.tmps,an9];exact .inl (.inl (.inl hm)))),
   opt lo (fun t hm=>ht t (by simp only[gA.tmps,an9];exact .inl (.inl (.inr hm)))),
   opt hi (fun t hm=>ht t (by simp only[gA.tmps,an9];exact .inl (.inr hm))),
   opt mx (fun t hm=>ht t (by simp only[gA.tmps,an9];exact .inr hm))]
  exact he
 | fieldAddr off x =>
  simp only[aA] at he ⊢
  rw[h.addr (G:=G) (y:=x) ht]
  obtain⟨h0,he⟩:=ag he
  rw[h.live h0];exact he
 | field agg off sz x =>
  simp only[aA] at he ⊢
  rw[h.eval (G:=G) (y:=x) ht];exact he
 | ixSl sz x i =>
  simp only[aA] at he ⊢
  rw[h.addr (G:=G) (y:=x) (fun t hm=>ht t (by simp[gA.tmps,hm])),h.eval (G:=G) (y:=i) (fun t hm=>ht t (by simp[gA.tmps,hm]))]
  split at he
  ·exact he
  ·exact he
  ·split at he
   ·rename_i hT
    simp only[h.row _ hT]
    exact he
   ·cases he
  ·cases he
 | ixArr n sz x i =>
  simp only[aA] at he ⊢
  rw[h.addr (G:=G) (y:=x) (fun t hm=>ht t (by simp[gA.tmps,hm])),h.eval (G:=G) (y:=i) (fun t hm=>ht t (by simp[gA.tmps,hm]))]
  simp only[anU] at he ⊢
  obtain⟨k,hk,he⟩:=he
  refine⟨k,hk,?_⟩
  obtain⟨h0,he⟩:=ag he
  simp only[an7] at h0
  rw[h0.1,h.live h0.2];exact he
 | index agg n sz x i =>
  simp only[aA] at he ⊢
  rw[h.eval (G:=G) (y:=x) (fun t hm=>ht t (by simp[gA.tmps,hm])),h.eval (G:=G) (y:=i) (fun t hm=>ht t (by simp[gA.tmps,hm]))]
  exact he
 | indexStr x i =>
  simp only[aA] at he ⊢
  rw[h.eval (G:=G) (y:=x) (fun t hm=>ht t (by simp[gA.tmps,hm])),h.eval (G:=G) (y:=i) (fun t hm=>ht t (by simp[gA.tmps,hm]))]
  exact he
 | extract x i=>simp only[aA] at he ⊢;rw[h.eval (G:=G) (y:=x) ht];exact he
 | len k x =>
  simp only[aA] at he ⊢
  rw[h.addr (G:=G) (y:=x) ht]
  split at he
  ·split at he
   ·rename_i hT
    simp only[h.row _ hT]
    exact he
   ·cases he
  ·exact he
 | append isB wr sz bytes x y =>
  have h2:=h.eval (G:=G) (y:=y) (fun t hm=>ht t (by simp[gA.tmps,hm]))
  have h1:=h.eval (G:=G) (y:=x) (fun t hm=>ht t (by simp[gA.tmps,hm]))
  simp only[aA,bf] at he ⊢
  cases x with
  | tmp t =>
   exfalso
   simp only at he
   split at he
   ·simp only[anU] at he
    obtain⟨f,_,he⟩:=he
    obtain⟨_,he⟩:=ag he
    simp at he
   ·cases wr
    ·simp at he
    ·simp only[cond_true,anU] at he
     obtain⟨f,_,he⟩:=he
     obtain⟨_,he⟩:=ag he
     simp at he
   ·cases wr
    ·simp at he
    ·simp only[cond_true,anU] at he
     obtain⟨f,_,he⟩:=he
     obtain⟨_,he⟩:=ag he
     simp at he
   ·cases he
  | _=>simp only at he ⊢;rw[h2];exact he
 | call f args =>
  have hf:=h.eval (G:=G) (y:=f) (fun t hm=>ht t (by simp[gA.tmps,hm]))
  have ha:∀ y,y∈args->y.addr G s'.T=y.addr G s.T:=fun y hy=>h.addr (G:=G) (fun t hm=>ht t (by
   simp only[gA.tmps,an9,apn];exact .inr ⟨y,hy,hm⟩))
  have e1:(args.map fun a=>a.addr G s'.T)=args.map fun a=>a.addr G s.T:=aoA ha
  have e2:(args.map fun a=>(a.addr G s'.T).bU)=args.map fun a=>(a.addr G s.T).bU:=aoA fun y hy=>by rw[ha y hy]
  simp only[aA] at he ⊢
  rw[hf,e1,e2,<- h.H]
  split at he
  ·obtain⟨h0,he⟩:=ag he
   rw[h0]
   simp only[cond_true,anT,anY] at he ⊢
   obtain⟨⟨r,c⟩,hr,h1,h2⟩:=he
   refine⟨(r,c),hr,h1,?_⟩
   cases c with
   | none=>rfl
   | some c=>cases h2
  ·cases he
 | jk f args =>
  have hf:=h.eval (G:=G) (y:=f) (fun t hm=>ht t (by simp[gA.tmps,hm]))
  have ha:∀ y,y∈args->y.addr G s'.T=y.addr G s.T:=fun y hy=>h.addr (G:=G) (fun t hm=>ht t (by
   simp only[gA.tmps,an9,apn];exact .inr ⟨y,hy,hm⟩))
  have e1:(args.map fun a=>a.addr G s'.T)=args.map fun a=>a.addr G s.T:=aoA ha
  have e2:(args.map fun a=>(a.addr G s'.T).bU)=args.map fun a=>(a.addr G s.T).bU:=aoA fun y hy=>by rw[ha y hy]
  simp only[aA] at he ⊢
  rw[hf,e1,e2,<- h.H]
  exact he
 | Bd f pre x post =>
  exfalso
  simp only[aA] at he
  obtain⟨_,he⟩:=ag he
  simp only[anU,anT,anY,reduceCtorEq,aqv,aqA] at he
 | mkfunc f a b =>
  have ha:∀ y,y∈a->y.addr G s'.T=y.addr G s.T:=fun y hy=>h.addr (G:=G) (fun t hm=>ht t (by
   simp only[gA.tmps,an9,apn];exact .inl ⟨y,hy,hm⟩))
  have hb:∀ y,y∈b->y.addr G s'.T=y.addr G s.T:=fun y hy=>h.addr (G:=G) (fun t hm=>ht t (by
   simp only[gA.tmps,an9,apn];exact .inr ⟨y,hy,hm⟩))
  have e1:(a.map fun a=>a.addr G s'.T)=a.map fun a=>a.addr G s.T:=aoA ha
  have e2:(b.map fun a=>a.addr G s'.T)=b.map fun a=>a.addr G s.T:=aoA hb
  have e3:(a.map fun a=>(a.addr G s'.T).drop)=a.map fun a=>(a.addr G s.T).drop:=aoA fun y hy=>by rw[ha y hy]
  have e4:(b.map fun a=>(a.addr G s'.T).drop)=b.map fun a=>(a.addr G s.T).drop:=aoA fun y hy=>by rw[hb y hy]
  simp only[aA] at he ⊢
  rw[e1,e2,e3,e4];exact he
 | appendO sz bytes x y =>
  have h1:=h.addr (G:=G) (y:=x) (fun t hm=>ht t (by simp[gA.tmps,hm]))
  have h2:=h.eval (G:=G) (y:=y) (fun t hm=>ht t (by simp[gA.tmps,hm]))
  simp only[aA,jo,h1,h2] at he ⊢
  split at he
  ·exact he
  exfalso
  simp only[jH,anU] at he
  obtain⟨f,_,he⟩:=he
  split at he
  ·obtain⟨_,he⟩:=ag he
   simp at he
  ·obtain⟨_,he⟩:=ag he
   simp at he
  ·split at he
   ·obtain⟨_,he⟩:=ag he
    simp at he
   ·cases he
  ·cases he
 | mb sz zs ps =>
  exfalso
  simp only[aA,anU] at he
  obtain⟨f,_,he⟩:=he
  obtain⟨_,he⟩:=ag he
  simp at he
 | zD sz bytes zero n =>
  exfalso
  simp only[aA,rJ,anU] at he
  obtain⟨f,_,he⟩:=he
  obtain⟨_,he⟩:=ag he
  simp at he
 | xi x =>
  simp only[aA,anU] at he
  obtain⟨_,_,he⟩:=he
  obtain⟨_,he⟩:=ag he
  simp at he
 | copyO x y =>
  have h1:=h.addr (G:=G) (y:=x) (fun t hm=>ht t (by simp[gA.tmps,hm]))
  have h2:=h.eval (G:=G) (y:=y) (fun t hm=>ht t (by simp[gA.tmps,hm]))
  simp only[aA] at he ⊢
  rw[h1,h2]
  unfold rH at he ⊢
  rw[<- h.H]
  split at he
  ·split at he
   ·obtain⟨_,he⟩:=ag he
    simp at he
   ·cases he
  ·exact he
  ·cases he
 | nilS neg x =>
  simp only[aA] at he ⊢
  rw[h.eval (G:=G) (y:=x) ht];exact he
 | sF kz ka va=>simp[aA] at he
 | look ok kz ka va ks zero m k =>
  have h1:=h.addr (G:=G) (y:=m) (fun t hm=>ht t (by simp[gA.tmps,hm]))
  have h2:=h.eval (G:=G) (y:=k) (fun t hm=>ht t (by simp[gA.tmps,hm]))
  simp only[aA] at he ⊢
  rw[h1,h2]
  unfold vN u6 at he ⊢
  rw[<- h.H];exact he
 | Ly kz ka ks zero m k =>
  have h1:=h.addr (G:=G) (y:=m) (fun t hm=>ht t (by simp[gA.tmps,hm]))
  have h2:=h.eval (G:=G) (y:=k) (fun t hm=>ht t (by simp[gA.tmps,hm]))
  simp only[aA] at he ⊢
  rw[h1,h2]
  unfold CV at he ⊢
  rw[<- h.H]
  split at he
  ·split at he
   ·simp only[anU] at he ⊢
    obtain⟨kc,qq,he⟩:=he
    obtain⟨h0,he⟩:=ag he
    refine⟨kc,qq,?_⟩
    rw[h0,cond_true]
    simp only[anU] at he ⊢
    obtain⟨o,ho,he⟩:=he
    refine⟨o,ho,?_⟩
    cases o with
    | none=>exact he
    | some i=>simp at he
   ·cases he
  ·cases he
 | mq kz ka va vz ks m k v=>simp[aA] at he
 | Wt m =>
  have h1:=h.addr (G:=G) (y:=m) (fun t hm=>ht t (by simp[gA.tmps,hm]))
  simp only[aA] at he ⊢
  rw[h1,<- h.H];exact he
 | Zj kz ka va m =>
  simp only[aA] at he
  split at he
  ·simp at he
  ·obtain⟨_,he⟩:=ag he
   simp at he
  ·obtain⟨_,he⟩:=ag he
   simp at he
  ·split at he
   ·obtain⟨_,he⟩:=ag he
    simp at he
   ·cases he
  ·cases he
 | next it=>simp[aA] at he
 | Tc it =>
  cases it with
  | tmp t =>
   have e:=h.T t (ht t (by simp[gA.tmps,aC.tmps]))
   simp only[aA] at he ⊢
   rw[<- e];exact he
  | _=>simp only[aA] at he;cases he
theorem Jc{o:aO}{z:AV}{s1:AS}(he:nr G cf true s o=some (z,s1)):s1=s/\bB z=none:=by
 have dm:((aA G cf s o.op).bind fun r=>match r.2 with
   | none=>cond (true&&(bB r.1).isSome) none (some (r.1,s))
   | some s'=>cond true none (some (r.1,s')))=some (z,s1)->s1=s/\bB z=none:=by
  intro h
  simp only[anU] at h
  obtain⟨⟨z',s'⟩,_,h⟩:=h
  cases s' with
  | none =>
   simp only[aon] at h
   cases hb:bB z' with
   | none =>
    rw[hb] at h
    simp only[Option.isSome_none,anZ,anV,anY] at h
    exact⟨h.2.symm,by rw[<- h.1,hb]⟩
   | some k=>rw[hb] at h;cases h
  | some s'=>cases h
 unfold nr at he
 split at he
 ·exact dm he
 ·split at he
  ·rename_i want _ _ b _
   simp only at he
   cases hc:(b==want) with
   | false =>
    rw[hc] at he
    simp only[anZ,anV,anY] at he
    exact⟨he.2.symm,by rw[<- he.1];rfl⟩
   | true =>
    rw[hc] at he
    exact dm he
  ·simp only[anV,anY] at he
   exact⟨he.2.symm,by rw[<- he.1];rfl⟩
  ·cases he
theorem Gf(h:qu s s' ts){o:aO}(ht:∀ t,t∈o.looks->t∈ts){z:AV}{s1:AS}(he:nr G cf true s o=some (z,s1)):nr G cf true s' o=some (z,s'):=by
 have dm:((aA G cf s o.op).bind fun r=>match r.2 with
   | none=>cond (true&&(bB r.1).isSome) none (some (r.1,s))
   | some s'=>cond true none (some (r.1,s')))=some (z,s1)->((aA G cf s' o.op).bind fun r=>match r.2 with
   | none=>cond (true&&(bB r.1).isSome) none (some (r.1,s'))
   | some s'=>cond true none (some (r.1,s')))=some (z,s'):=by
  intro h1
  simp only[anU] at h1
  obtain⟨⟨z',s2⟩,he,h1⟩:=h1
  cases s2 with
  | some s2=>cases h1
  | none =>
   rw[Ja h (fun t hm=>ht t (by simp only[aO.looks,an9];exact .inl hm)) he]
   simp only[aon,an8] at h1 ⊢
   cases hb:bB z' with
   | some k=>rw[hb] at h1;cases h1
   | none =>
    rw[hb] at h1
    simp only[Option.isSome_none,anZ,anV,anY] at h1 ⊢
    exact⟨h1.1,trivial⟩
 unfold nr at he ⊢
 cases hg:o.guard with
 | none=>rw[hg] at he;exact dm he
 | some gw =>
  obtain⟨g,want⟩:=gw
  rw[hg] at he
  have e:s'.T g=s.T g:=(h.T g (ht g (by simp[aO.looks,hg]))).symm
  simp only at he ⊢
  rw[e]
  generalize s.T g=X at he ⊢
  cases X with
  | bool b =>
   simp only at he ⊢
   cases hc:(b==want) with
   | false =>
    rw[hc] at he
    simp only[anZ,anV,anY] at he ⊢
    exact⟨he.1,trivial⟩
   | true=>rw[hc] at he;exact dm he
  | tuple vs =>
   cases vs with
   | nil=>simp only[anV,anY] at he ⊢;exact⟨he.1,trivial⟩
   | cons v vs=>cases he
  | _=>cases he
end
theorem uF{G:Nat->List AV}{cf:dK} : ∀ (is:List aO) (s s' : AS),fX G cf true is s=some s' ->
  ∃ (S:Nat->AS) (V:Nat->AV),S 0=s/\S is.length=s'/\∀ i io,is[i]?=some io->nr G cf true (S i) io=some (V i,S i)/\bB (V i)=none/\S (i+1)=(S i).bW io.dst (V i)
 | [],s,s',h=>by
  simp only[fX,anV] at h
  exact⟨fun _=>s,fun _=>.undef,rfl,h,fun i io h=>by simp at h⟩
 | o :: r,s,s',h=>by
  simp only[fX,anU,nq,anT] at h
  obtain⟨s1,⟨⟨z,s2⟩,hz,rfl⟩,h⟩:=h
  obtain⟨rfl,hg⟩:=Jc hz
  obtain⟨S,V,h0,hn,hS⟩:=uF r _ s' h
  refine⟨fun i=>match i with|0=>s2|i+1=>S i,fun i=>match i with|0=>z|i+1=>V i,rfl,hn,fun i io hi=>?_⟩
  cases i with
  | zero =>
   simp only[aor,anV] at hi
   subst hi
   exact⟨hz,hg,h0⟩
  | succ i=>exact hS i io (by simpa using hi)
structure Agree (s:AS) (D:Nat->Option Nat) (V:Nat->AV) (A:Nat->Prop) (x:AS):Prop where
 H:x.H=s.H
 gen:x.gen=s.gen
 lo:x.lo=s.lo
 TD:∀ i,A i->∀ d,D i=some d->x.T d=V i
 not:∀ t,(∀ i,A i->D i≠some t)->x.T t=s.T t
theorem Agree.put{s x:AS}{D:Nat->Option Nat}{V:Nat->AV}{A:Nat->Prop}(h:Agree s D V A x){i:Nat}(hd:∀ j,A j->j≠i->∀ d,D i=some d->D j≠some d):Agree s D V (fun j=>A j\/j=i) (x.bW (D i) (V i)):=by
 cases hD:D i with
 | none =>
  refine⟨h.H,h.gen,h.lo,fun j hj d N2=>?_,fun t ht=>h.not t (fun j hj=>ht j (.inl hj))⟩
  rcases hj with hj|rfl
  ·exact h.TD j hj d N2
  ·rw[hD] at N2;cases N2
 | some d =>
  refine⟨h.H,h.gen,h.lo,fun j hj d' N2=>?_,fun t ht=>?_⟩
  ·simp only[AS.bW,AS.cy,iZ]
   by_cases tB:j=i
   ·subst tB
    rw[hD] at N2;injection N2 with N2;subst N2
    simp
   ·rcases hj with hj|hj
    ·rw[if_neg]
     ·exact h.TD j hj d' N2
     ·rintro rfl
      exact hd j hj tB d' hD N2
    ·exact absurd hj tB
  ·simp only[AS.bW,AS.cy,iZ]
   rw[if_neg]
   ·exact h.not t (fun j hj=>ht j (.inl hj))
   ·rintro rfl
    exact ht i (.inr rfl) hD
theorem Agree.eq{s x y:AS}{D:Nat->Option Nat}{V:Nat->AV}{A B:Nat->Prop}(hAB:∀ i,A i↔B i)(h:Agree s D V A x)(h' : Agree s D V B y):x=y:=by
 have hT:x.T=y.T:=by
  funext t
  by_cases hc:∃ i,A i/\D i=some t
  ·obtain⟨i,hi,hd⟩:=hc
   rw[h.TD i hi t hd,h'.TD i ((hAB i).1 hi) t hd]
  ·rw[h.not t (fun i hi hd=>hc ⟨i,hi,hd⟩),h'.not t (fun i hi hd=>hc ⟨i,(hAB i).2 hi,hd⟩)]
 cases x;cases y
 have:=h.H;have:=h.gen;have:=h.lo;have:=h'.H;have:=h'.gen;have:=h'.lo
 simp_all
theorem wc:∀ (n:Nat) (l:List Nat),l.Nodup->(∀ i,i∈l->i<n)->l.length<=n
 | 0,l,_,h=>by
  cases l with
  | nil=>exact an4 _
  | cons i l=>exact absurd (h i aox) (aqM _)
 | n+1,l,Lo,h=>by
  have ih:=wc n (l.erase n) (Lo.erase n) (fun i hi=>by
   have:=(Lo.mem_erase_iff).1 hi
   have:=h i this.2
   omega)
  rw[List.length_erase] at ih
  split at ih<;>omega
structure Order (L:List Nat) (ops:Array Oper) (is:List aO):Prop where
 len:ops.size=is.length
 back:∀ (i:Nat) (o:Oper),ops[i]?=some o->∀ e,e∈o.after->Region.binds .any e=true->e.on<i
 aiX:∀ (i:Nat) (io:aO) (d:Nat),is[i]?=some io->io.dst=some d->d∉L
 once:∀ (i j:Nat) (p q:aO) (d:Nat),is[i]?=some p->is[j]?=some q->i≠j->q.dst=some d->p.dst≠some d
 look:∀ (i j:Nat) (o o' : Oper) (p q:aO) (d:Nat),ops[i]?=some o->ops[j]?=some o'->is[i]?=some p->is[j]?=some q->i≠j->q.dst=some d->d∈p.looks ->
  (j<i/\∃ e,e∈o.after/\Region.binds .any e=true/\e.on=j)\/(i<j/\∃ e,e∈o'.after/\Region.binds .any e=true/\e.on=i)
theorem yG{o:Oper}{j:Nat}(h:vH o j=true):∃ e,e∈o.after/\Region.binds .any e=true/\e.on=j:=by
 unfold vH at h
 rw[Array.any_eq_true] at h
 obtain⟨k,hk,h⟩:=h
 simp only[an7,gI,aoq] at h
 exact⟨o.after[k],Array.getElem_mem hk,h.1,h.2⟩
theorem Hq{L:List Nat}{ops:Array Oper}{is:List aO}(hl:ops.size=is.length)(h:vb L (ops.toList.zip is)=true):Order L ops is:=by
 have mem:∀ (i:Nat) (o:Oper) (io:aO),ops[i]?=some o->is[i]?=some io->((o,io),i)∈(ops.toList.zip is).zipIdx:=by
  intro i o io h1 h2
  rw[ap5]
  refine⟨i,?_⟩
  rw[ap',(apS (z:=(o,io))).2 ⟨by simpa using h1,h2⟩]
  simp
 have abY:∀ (i:Nat) (io:aO),is[i]?=some io->∃ o,ops[i]?=some o:=by
  intro i io hi
  have:i<ops.size:=by rw[hl];exact (an2.1 hi).1
  exact⟨_,aok this⟩
 have aiO:∀ (i:Nat) (o:Oper),ops[i]?=some o->∃ io,is[i]?=some io:=by
  intro i o hi
  have:i<is.length:=by rw[<- hl];exact (aob.1 hi).1
  exact⟨_,an3 this⟩
 unfold vb at h
 simp only[an'] at h
 have Zb:∀ (i j:Nat) (o o' : Oper) (p q:aO),ops[i]?=some o->ops[j]?=some o'->is[i]?=some p->is[j]?=some q->i≠j->∀ d,q.dst=some d ->
   p.dst≠some d/\(d∈p.looks->if j<i then vH o j=true else vH o' i=true):=by
  intro i j o o' p q h1 h2 h3 h4 xO d hd
  have:=h _ (mem i o p h1 h3)
  simp only[an7,an'] at this
  have:=this.2 _ (mem j o' q h2 h4)
  simp only[apZ,gI,aoq,hd] at this
  rcases this with this|this
  ·exact absurd this xO
  simp only[an7] at this
  refine⟨fun hpd=>?_,fun hlk=>?_⟩
  ·rw[hpd] at this
   simp at this
  ·have h5:=this.2
   simp only[apZ,aoT,List.contains_eq_mem,aoN] at h5
   rcases h5 with h5|h5
   ·exact absurd hlk h5
   ·by_cases tB:j<i
    ·rw[if_pos tB]
     rw[show Nat.blt j i=true by simpa [aoE] using tB] at h5
     exact h5
    ·rw[if_neg tB]
     rw[show Nat.blt j i=false by simpa [<- aqs,aoE] using tB] at h5
     exact h5
 refine⟨hl,fun i o hi e he hb=>?_,fun i io d hi hd=>?_,fun i j p q d hp hq xO hd=>?_,fun i j o o' p q d h1 h2 h3 h4 xO hd hlk=>?_⟩
 ·obtain⟨io,uO⟩:=aiO i o hi
  have:=h _ (mem i o io hi uO)
  simp only[an7,an'] at this
  have:=this.1.1
  rw[aqq] at this
  have:=this e he
  simpa [hb,aoE] using this
 ·obtain⟨o,ho⟩:=abY i io hi
  have:=h _ (mem i o io ho hi)
  simp only[an7,an',hd] at this
  simpa using this.1.2
 ·obtain⟨o,ho⟩:=abY i p hp
  obtain⟨o',rN⟩:=abY j q hq
  exact (Zb i j o o' p q ho rN hp hq xO d hd).1
 ·have:=(Zb i j o o' p q h1 h2 h3 h4 xO d hd).2 hlk
  by_cases tB:j<i
  ·rw[if_pos tB] at this
   exact .inl ⟨tB,yG this⟩
  ·rw[if_neg tB] at this
   exact .inr ⟨by omega,yG this⟩
section
variable {P:Program}{G:Nat->List AV}{base nt:Nat}{L:List Nat}{gh:Gh}{w w' : World}{a:Act}{s:AS}{H:ai}
theorem jn{cz locals muts:List Nat}{ops:Array Oper} : ∀ {l:List Oper} {is:List aO},gN P cz locals muts nt ops l=some is->l.length=is.length /\
  ∀ (i:Nat) (o:Oper),l[i]?=some o->∃ io,is[i]?=some io/\qD P cz locals muts nt ops o=some io
 | [],is,h=>by simp[gN] at h;subst h;exact⟨rfl,fun i o h=>by simp at h⟩
 | o :: l,is,h=>by
  simp only[gN,anU,anT] at h
  obtain⟨io,uO,is',Ie,rfl⟩:=h
  obtain⟨h1,h2⟩:=jn Ie
  refine⟨by simp[h1],fun i o' hi=>?_⟩
  cases i with
  | zero=>simp only[aor,anV] at hi;subst hi;exact⟨io,rfl,uO⟩
  | succ i=>exact h2 i o' (by simpa using hi)
theorem IX{cf:dK}(jK:fD P G cf){H0:ai}{iP:Gh}{w0:World}{cz locals muts:List Nat}{ops:Array Oper}(y7:∀ x,x∈locals->x∈L)(xM:∀ x,x∈muts->x∈L)(Q:Exit->Act->World->Prop)
  {is:List aO} (hI:Inv G base nt L H0 iP w0 s gh w a) (hc:gN P cz locals muts nt ops ops.toList=some is) (tD:Order L ops is) {s' : AS} (he:fX G cf true is s=some s')
  (hQ:∀ a' aX w',Inv G base nt L H0 iP w0 s' aX w' a'->Q .normal a' w'):wpAny P .any ops Q ops.size (Array.replicate ops.size false) a w:=by
 obtain⟨S,V,h0,hn,hS⟩:=uF is s s' he
 obtain⟨hlen,GH⟩:=jn hc
 let D:Nat->Option Nat:=fun i=>(is[i]?).bind (·.dst)
 have hD:∀ i io,is[i]?=some io->D i=io.dst:=fun i io h=>by simp[D,h]
 have GB:∀ i d,D i=some d->∃ io,is[i]?=some io/\io.dst=some d:=by
  intro i d h
  simp only[D,anU] at h
  exact h
 have Lq:∀ i j d,i≠j->D i=some d->D j≠some d:=by
  intro i j d xO hi hj
  obtain⟨p,hp,hpd⟩:=GB i d hi
  obtain⟨q,hq,hqd⟩:=GB j d hj
  exact tD.once i j p q d hp hq xO hqd hpd
 have zd:∀ k,k<=is.length->Agree s D V (fun i=>i<k) (S k):=by
  intro k
  induction k with
  | zero=>intro _;rw[h0];exact⟨rfl,rfl,rfl,fun i hi=>absurd hi (aqM _),fun t _=>rfl⟩
  | succ k ih =>
   intro hk
   have uO:=an3 (show k<is.length by omega)
   obtain⟨_,_,h3⟩:=hS k _ uO
   rw[h3,<- hD k _ uO]
   have:=(ih (by omega)).put (i:=k) (fun j hj ff d hd=>Lq k j d (apO ff) hd)
   refine⟨this.H,this.gen,this.lo,fun i hi=>this.TD i (by rcases apL i k with h|h;exact .inl h;exact .inr (by omega)),fun t ht=>this.not t (fun i hi=>ht i (by rcases hi with h|h<;>omega))⟩
 have aeL:∀ i d,D i=some d->bB (V i)=none:=by
  intro i d hd
  obtain⟨io,uO,_⟩:=GB i d hd
  exact (hS i io uO).2.1
 have main:∀ (n:Nat) (listed:Array Bool) (x:AS) (gh:Gh) (w:World) (a:Act),listed.size=ops.size->(∀ l:List Nat,l.Nodup->(∀ i,i∈l->i<ops.size/\listed.getD i true=false)->l.length<=n) ->
   (∀ j o,ops[j]?=some o->listed.getD j false=true->∀ e,e∈o.after->Region.binds .any e=true->listed.getD e.on false=true) ->
   Agree s D V (fun i=>listed.getD i false=true) x->Inv G base nt L H0 iP w0 x gh w a->wpAny P .any ops Q n listed a w:=by
  intro n
  induction n with
  | zero =>
   intro listed x gh w a iF JE pQ hA hI
   have fH:∀ i,i<ops.size->listed.getD i false=true:=by
    intro i hi
    cases hb:listed.getD i true with
    | true =>
     have:i<listed.size:=by omega
     simpa [this] using hb
    | false =>
     have:=JE [i] (by simp) (fun j hj=>by simp at hj;subst hj;exact⟨hi,hb⟩)
     simp at this
   have tE:Region.ready .any ops listed=[]:=by
    cases hr:Region.ready .any ops listed with
    | nil=>rfl
    | cons i r =>
     have hm:i∈Region.ready .any ops listed:=by rw[hr];exact aox
     obtain⟨h1,o,h2,_⟩:=mem_ready.1 hm
     have bA:=(aob.1 h2).1
     have:=fH i bA
     have nO:i<listed.size:=by omega
     simp[nO] at this h1
     rw[this] at h1
     cases h1
   refine⟨tE,?_⟩
   have hx:x=s':=by
    rw[<- hn]
    refine hA.eq (B:=fun i=>i<is.length) (fun i=>?_) (zd _ (an4 _))
    constructor
    ·intro h
     have bA:i<listed.size:=by
      rcases apL i listed.size with h'|h'
      ·exact h'
      ·simp[apG h'] at h
     rw[<- tD.len];omega
    ·intro h
     exact fH i (by rw[tD.len];exact h)
   rw[hx] at hI
   exact hQ a gh w hI
  | succ n ih =>
   intro listed x gh w a iF JE pQ hA hI
   refine⟨fun tE=>?_,fun i hi=>?_⟩
   ·
    have fH:∀ i,i<ops.size->listed.getD i false=true:=by
     intro i
     induction i using Nat.strongRecOn with
     | _ i Ii =>
      intro bA
      have nO:i<listed.size:=by omega
      cases hb:listed.getD i true with
      | true=>simpa [nO] using hb
      | false =>
       exfalso
       have ho:=aok bA
       have:i∈Region.ready .any ops listed:=mem_ready.2 ⟨hb,_,ho,fun e he oZ=>by
        have PN:=tD.back i _ ho e he oZ
        exact Ii e.on PN (by omega)⟩
       rw[tE] at this
       cases this
    have hx:x=s':=by
     rw[<- hn]
     refine hA.eq (B:=fun i=>i<is.length) (fun i=>?_) (zd _ (an4 _))
     constructor
     ·intro h
      have bA:i<listed.size:=by
       rcases apL i listed.size with h'|h'
       ·exact h'
       ·simp[apG h'] at h
      rw[<- tD.len];omega
     ·intro h
      exact fH i (by rw[tD.len];exact h)
    rw[hx] at hI
    exact hQ a gh w hI
   ·obtain⟨jj,o,ho,y8⟩:=mem_ready.1 hi
    have bA:=(aob.1 ho).1
    have nO:i<listed.size:=by omega
    obtain⟨io,uO,bY⟩:=GH i o (by simpa using ho)
    have M1:¬ (listed.getD i false=true):=by
     simp[nO] at jj ⊢
     exact jj
    have YK:=zd i (by rw[<- tD.len];omega)
    have BE:qu (S i) x io.looks:=by
     refine⟨by rw[YK.H,hA.H],fun t ht=>?_,fun b=>?_⟩
     ·by_cases hw:∃ j,D j=some t
      ·obtain⟨j,hj⟩:=hw
       have uniq:∀ k,D k=some t->k=j:=by
        intro k hk
        by_cases Tf:k=j
        ·exact Tf
        ·exact absurd hj (Lq k j t Tf hk)
       obtain⟨q,hq,hqd⟩:=GB j t hj
       by_cases xO:i=j
       ·subst xO
        rw[YK.not t (fun k hk hd=>by have:=uniq k hd;omega),hA.not t (fun k hk hd=>by rw[uniq k hd] at hk;exact M1 hk)]
       ·have hoj:∃ o',ops[j]?=some o':=⟨_,aok (show j<ops.size by rw[tD.len];exact (an2.1 hq).1)⟩
        obtain⟨o',rN⟩:=hoj
        rcases tD.look i j o o' io q t ho rN uO hq xO hqd ht with ⟨tB,e,he,oZ,hon⟩|⟨tB,e,he,oZ,hon⟩
        ·have hjA:=y8 e he oZ
         rw[hon] at hjA
         rw[YK.TD j tB t hj,hA.TD j hjA t hj]
        ·have hjA:¬ (listed.getD j false=true):=by
          intro h
          have:=pQ j o' rN h e he oZ
          rw[hon] at this
          exact M1 this
         rw[YK.not t (fun k hk hd=>by have:=uniq k hd;omega),hA.not t (fun k hk hd=>by rw[uniq k hd] at hk;exact hjA hk)]
      ·rw[YK.not t (fun k _ hd=>hw ⟨k,hd⟩),hA.not t (fun k _ hd=>hw ⟨k,hd⟩)]
     ·by_cases hw:∃ j,D j=some b
      ·obtain⟨j,hj⟩:=hw
       obtain⟨q,hq,hqd⟩:=GB j b hj
       have hbL:=tD.aiX j q b hq hqd
       have h1:bB (x.T b)=none:=by
        cases hg:bB (x.T b) with
        | none=>rfl
        | some k=>exact absurd (hI.F.obj b (by rw[hg];rfl)) hbL
       have hsb:bB (s.T b)=none:=by
        cases hg:bB (s.T b) with
        | none=>rfl
        | some k=>exact absurd (‹Inv G base nt L H0 iP w0 s _ _ _›.F.obj b (by rw[hg];rfl)) hbL
       refine .inr ?_
       by_cases tB:j<i
       ·rw[YK.TD j tB b hj];exact aeL j b hj
       ·rw[YK.not b (fun k hk hd=>by
         by_cases Tf:k=j
         ·omega
         ·exact Lq k j b Tf hd hj)]
        exact hsb
      ·exact .inl (by rw[YK.not b (fun k _ hd=>hw ⟨k,hd⟩),hA.not b (fun k _ hd=>hw ⟨k,hd⟩)])
    have bV:=Gf BE (fun t h=>h) (hS i io uO).1
    unfold wpOp
    rw[ho]
    refine pd jK hI bY y7 xM bV _ Q (fun a' aX w' kT=>?_)
    rw[<- (j0 bY).2.2.1,<- hD i io uO] at kT
    have AR:∀ j,(listed.setIfInBounds i true).getD j false=true↔(listed.getD j false=true\/j=i):=by
     intro j
     by_cases tB:i=j
     ·subst tB
      simp[nO]
     ·rw[getD_set_ne false tB]
      simp[apO tB]
    refine ih (listed.setIfInBounds i true) _ aX w' a' (by simpa using iF) (fun l Lo hl=>?_) (fun j o' rN hj e he oZ=>?_) ?_ kT
    ·have Ul:i∉l:=by
      intro hm
      have:=(hl i hm).2
      simp[nO] at this
     have:=JE (i :: l) (List.nodup_cons.2 ⟨Ul,Lo⟩) (fun j hj=>by
      rcases aoH.1 hj with rfl|hj
      ·exact⟨bA,jj⟩
      ·have h1:=hl j hj
       have tB:i≠j:=by rintro rfl;exact Ul hj
       rw[getD_set_ne true tB] at h1
       exact h1)
     simp at this
     omega
    ·rcases (AR j).1 hj with h|rfl
     ·exact (AR _).2 (.inl (pQ j o' rN h e he oZ))
     ·rw[ho] at rN
      injection rN with rN
      subst rN
      exact (AR _).2 (.inl (y8 e he oZ))
    ·have:=hA.put (i:=i) (fun j hj ff d hd=>Lq i j d (apO ff) hd)
     exact⟨this.H,this.gen,this.lo,fun j hj=>this.TD j ((AR j).1 hj),fun t ht=>this.not t (fun j hj=>ht j ((AR j).2 hj))⟩
 refine main ops.size _ s gh w a (by simp) (fun l Lo hl=>?_) (fun j o hj h=>?_) ?_ hI
 ·exact wc ops.size l Lo (fun i hi=>(hl i hi).1)
 ·exfalso
  have:(Array.replicate ops.size false).getD j false=false:=by
   by_cases h:j<ops.size<;>simp[h]
  rw[this] at h
  cases h
 ·have nN:∀ i,¬ ((Array.replicate ops.size false).getD i false=true):=by
   intro i h
   have:(Array.replicate ops.size false).getD i false=false:=by
    by_cases h:i<ops.size<;>simp[h]
   rw[this] at h
   cases h
  exact⟨rfl,rfl,rfl,fun i hi=>absurd hi (nN i),fun t _=>rfl⟩
end
end
section
section
variable {G:Nat->List AV}{cf:dK}
end
section
variable {G:Nat->List AV}{cf:dK}
end
section
variable {G:Nat->List AV}{base nt:Nat}{L:List Nat}{gh:Gh}{w w' : World}{a:Act}{s:AS}
end
section
variable {G:Nat->List AV}{base nt:Nat}{L:List Nat}{gh:Gh}{w w' : World}{a:Act}
end
end
section
section
variable {G:Nat->List AV}{is:List aO}{L:List Nat}{ops:Array Oper}{s s2 s3 x:AS}{D:Nat->Option Nat}{V:Nat->AV}{A:Nat->Prop}
end
end
section
section
variable {P:Program}{G:Nat->List AV}{base nt:Nat}{L:List Nat}{gh:Gh}{w w' : World}{a:Act}{s:AS}{H:ai}
end
end
section
structure Zt (e:rB) (s x:AS):Prop where
 T:∀ t,t∈e.rs->x.T t=s.T t
 H:e.rh=true\/e.wh=true->x.H=s.H/\x.lo=s.lo
 G:e.wg=true->x.gen=s.gen
structure gB (e:rB) (s1 x x1:AS):Prop where
 T:∀ t,t∈e.ws->x1.T t=s1.T t
 T' : ∀ t,t∉e.ws->x1.T t=x.T t
 H:e.wh=true->x1.H=s1.H/\x1.lo=s1.lo
 H' : e.wh=false->x1.H=x.H/\x1.lo=x.lo
 G:e.wg=true->x1.gen=s1.gen
 G' : e.wg=false->x1.gen=x.gen
theorem gB.stay{e:rB}{s x:AS}(h:Zt e s x)(hw:∀ t,t∈e.ws->t∈e.rs):gB e s x x :=
 ⟨fun t ht=>h.T t (hw t ht),fun _ _=>rfl,fun hh=>h.H (.inr hh),fun _=>⟨rfl,rfl⟩,fun hg=>h.G hg,fun _=>rfl⟩
section
variable {G:Nat->List AV}{cf:dK}{s x:AS}{e:rB}
theorem Oo(h:∀ t,t∈e.rs->x.T t=s.T t){y:aC}(hy:∀ t,t∈y.tmps->t∈e.rs):y.eval G x.T=y.eval G s.T:=by
 cases y<;>try rfl
 rename_i t
 exact h t (hy t (by simp[aC.tmps]))
theorem On(h:∀ t,t∈e.rs->x.T t=s.T t){y:aC}(hy:∀ t,t∈y.tmps->t∈e.rs):y.addr G x.T=y.addr G s.T:=by
 cases y<;>try rfl
 rename_i t
 simp only[aC.addr]
 rw[h t (hy t (by simp[aC.tmps]))]
def fm(pc:Bool):gA->gA
 | .call f xs=>cond pc (.jk f xs) (.call f xs)
 | o=>o
theorem w9(pc:Bool)(o:aO):jP pc o=⟨o.dst,o.guard,fm pc o.op⟩:=by
 obtain⟨d,g,op⟩:=o
 cases op<;>simp only[jP,fm]
 cases pc<;>rfl
theorem gu(s:AS)(t:Nat)(v:AV)(k:Nat):(s.cy t v).T k=if k=t then v else s.T k:=iZ s.T t v k
theorem zu{c:N0}{Y:AV}(h:aQ s Y=true)(hc:gC c Y=true)(hT:∀ b,b∈im c->x.T b=s.T b):aQ x Y=true:=by
 cases Y<;>simp only[aQ] at h ⊢<;>try (cases h;done)
 case lref b g off =>
  cases c with
  | frame b' =>
   simp only[gC,gI,aoq] at hc
   subst hc
   rw[hT b' (aom.2 rfl)];exact h
  | _=>cases hc
 case eref=>cases c<;>cases hc
theorem Wc{pc:Bool}{c:N0}{op:gA}(he:Bi pc c op=some e)(hc:∀ y,(∃ t a z,op=.load t a z y)\/(∃ z v,op=.store z y v)\/op=.nilCheck y\/(∃ f,op=.fieldAddr f y)\/(∃ n z i,op=.ixArr n z y i)->gC c (y.addr G s.T)=true)
  (iR:∀ y,(∃ z i,op=.ixSl z y i)\/(∃ k,op=.len k y)->gC .heap (y.addr G s.T)=true)
  {z:AV} {so:Option AS} (bV:aA G cf s (fm pc op)=some (z,so)) (ha:Zt e s x) :
  ∃ xo,aA G cf x op=some (z,xo)/\gB e (so.getD s) x (xo.getD x)/\(∀ t,t∈e.ws->t∈e.rs):=by
 have stay:(∀ t,t∈e.ws->t∈e.rs)->so=none->aA G cf x op=some (z,none)->∃ xo,aA G cf x op=some (z,xo)/\gB e (so.getD s) x (xo.getD x)/\(∀ t,t∈e.ws->t∈e.rs):=by
  rintro hw rfl h
  exact⟨none,h,gB.stay ha hw,hw⟩
 have ev:∀ {y:aC},(∀ t,t∈y.tmps->t∈e.rs)->y.eval G x.T=y.eval G s.T:=fun hy=>Oo ha.T hy
 have ad:∀ {y:aC},(∀ t,t∈y.tmps->t∈e.rs)->y.addr G x.T=y.addr G s.T:=fun hy=>On ha.T hy
 have rj:∀ {X:Option AV} {w:AV} {o:Option AS},X.map (fun v=>(v,(none:Option AS)))=some (w,o)->o=none:=by
  intro X w o h
  cases X with
  | none=>cases h
  | some v=>simp at h;exact h.2.symm
 cases op<;>simp only[Bi] at he<;>try (cases he;done)
 case mov take obj y =>
  cases obj with
  | true=>cases he
  | false =>
   simp only[anZ,anV] at he
   subst he
   have hw:∀ t,t∈(cond take y.tmps [])->t∈y.tmps:=by cases take<;>simp
   simp only[fm,aA] at bV ⊢
   cases y with
   | tmp t =>
    have ht:=ha.T t (by simp[aC.tmps])
    simp only[mB] at bV ⊢
    rw[ht]
    generalize s.T t=X at bV ht
    cases X
    case slice el own =>
     cases hto:(take&&own) with
     | false =>
      simp only[hto,anZ,anV,anY] at bV
      obtain⟨rfl,rfl⟩:=bV
      exact⟨none,by simp only[hto,anZ],gB.stay ha hw,hw⟩
     | true =>
      simp only[an7] at hto
      obtain⟨rfl,rfl⟩:=hto
      simp only[ao9,cond_true,anV,anY] at bV
      obtain⟨rfl,rfl⟩:=bV
      refine⟨some (x.cy t (.slice el false)),rfl,⟨fun k hk=>?_,fun k hk=>?_,fun h=>(by cases h),fun _=>⟨rfl,rfl⟩,fun h=>(by cases h),fun _=>rfl⟩,hw⟩
      ·simp only[cond_true,aC.tmps,aom] at hk
       simp only[ao3,gu,hk,apu]
      ·simp only[cond_true,aC.tmps,aom] at hk
       simp only[ao3,gu,if_neg hk]
    case lsl g el =>
     cases take with
     | true =>
      simp only[cond_true,anZ] at bV
      obtain⟨h0,bV⟩:=ag bV
      simp only[anV,anY] at bV
      obtain⟨rfl,rfl⟩:=bV
      refine⟨some (x.cy t (.slice el false)),by simp only[h0,cond_true,anZ],⟨fun k hk=>?_,fun k hk=>?_,fun h=>(by cases h),fun _=>⟨rfl,rfl⟩,fun h=>(by cases h),fun _=>rfl⟩,hw⟩
      ·simp only[cond_true,aC.tmps,aom] at hk
       simp only[ao3,gu,hk,apu]
      ·simp only[cond_true,aC.tmps,aom] at hk
       simp only[ao3,gu,if_neg hk]
     | false =>
      simp only[anZ,anV,anY] at bV
      obtain⟨rfl,rfl⟩:=bV
      exact⟨none,rfl,gB.stay ha hw,hw⟩
    case iter=>cases bV
    all_goals
     simp only[anV,anY] at bV
     obtain⟨rfl,rfl⟩:=bV
     exact⟨none,rfl,gB.stay ha hw,hw⟩
   | _ =>
    simp only[mB,anV,anY] at bV
    obtain⟨rfl,rfl⟩:=bV
    exact⟨none,rfl,gB.stay ha hw,hw⟩
 case allocL zs =>
  simp only[anV] at he
  subst he
  simp only[fm,aA,anV,anY] at bV
  obtain⟨rfl,rfl⟩:=bV
  have hg:=ha.G rfl
  refine⟨some { x with gen:=x.gen+1 },by simp only[aA,hg],⟨fun k hk=>(by cases hk),fun _ _=>rfl,fun h=>(by cases h),fun _=>⟨rfl,rfl⟩,fun _=>?_,fun h=>(by cases h)⟩,fun k hk=>(by cases hk)⟩
  simp[hg]
 case boxL y =>
  simp only[anV] at he
  subst he
  simp only[fm,aA,anT,anY] at bV
  obtain⟨cs,ia,rfl,rfl⟩:=bV
  have hg:=ha.G rfl
  refine⟨some { x with gen:=x.gen+1 },by simp only[aA,hg,ev (y:=y) (fun t h=>h),ia,aoi],⟨fun k hk=>(by cases hk),fun _ _=>rfl,fun h=>(by cases h),fun _=>⟨rfl,rfl⟩,fun _=>?_,fun h=>(by cases h)⟩,fun k hk=>(by cases hk)⟩
  simp[hg]
 case build zs ps =>
  simp only[anV] at he
  subst he
  have e1:(ps.map fun p=>(p.1,p.2.1,(p.2.2.eval G x.T).drop))=ps.map fun p=>(p.1,p.2.1,(p.2.2.eval G s.T).drop):=aoA fun p hp=>by
   rw[ev (y:=p.2.2) (fun t h=>by simp only[gA.tmps,apn];exact⟨p,hp,h⟩)]
  simp only[fm,aA,anT,anY] at bV
  obtain⟨E,hE,rfl,rfl⟩:=bV
  exact stay (fun t h=>by cases h) rfl (by simp only[aA,e1,hE,aoi])
 case mkslice b sz zs ps =>
  simp only[anV] at he
  subst he
  have e1:(ps.map fun p=>(p.1,(p.2.eval G x.T).drop))=ps.map fun p=>(p.1,(p.2.eval G s.T).drop):=aoA fun p hp=>by
   rw[ev (y:=p.2) (fun t h=>by simp only[gA.tmps,apn];exact⟨p,hp,h⟩)]
  simp only[fm,aA,anU] at bV
  obtain⟨E,hE,bV⟩:=bV
  obtain⟨h0,bV⟩:=ag bV
  simp only[anV,anY] at bV
  obtain⟨rfl,rfl⟩:=bV
  exact stay (fun t h=>by cases h) rfl (by simp only[aA,e1,hE,an8,h0,cond_true])
 case bin o q y1 y2 =>
  simp only[anV] at he
  subst he
  simp only[fm,aA] at bV
  have nP:=rj bV
  subst nP
  exact stay (fun t h=>by cases h) rfl (by simp only[aA];rw[ev (y:=y1) (fun t h=>an9.2 (.inl h)),ev (y:=y2) (fun t h=>an9.2 (.inr h))];exact bV)
 case mm o y1 y2 =>
  simp only[anV] at he
  subst he
  simp only[fm,aA] at bV
  have nP:=rj bV
  subst nP
  exact stay (fun t h=>by cases h) rfl (by simp only[aA];rw[ev (y:=y1) (fun t h=>an9.2 (.inl h)),ev (y:=y2) (fun t h=>an9.2 (.inr h))];exact bV)
 case un o y =>
  simp only[anV] at he
  subst he
  simp only[fm,aA] at bV
  have nP:=rj bV
  subst nP
  exact stay (fun t h=>by cases h) rfl (by simp only[aA];rw[ev (y:=y) (fun t h=>h)];exact bV)
 case nilS o y =>
  simp only[anV] at he
  subst he
  simp only[fm,aA] at bV
  have nP:so=none:=by
   simp only[anT,anY] at bV
   obtain⟨_,_,_,h⟩:=bV
   exact h.symm
  subst nP
  exact stay (fun t h=>by cases h) rfl (by simp only[aA];rw[ev (y:=y) (fun t h=>h)];exact bV)
 case slice k y lo hi mx =>
  simp only[anV] at he
  subst he
  simp only[fm,aA] at bV
  have nP:=rj bV
  subst nP
  have opt:∀ o:Option aC,(∀ t,t∈o.toList.flatMap aC.tmps->t∈(gA.slice k y lo hi mx).tmps)->o.map (·.eval G x.T)=o.map (·.eval G s.T):=by
   intro o ho
   cases o with
   | none=>rfl
   | some q=>simp only[aoi];rw[ev (y:=q) (fun t hm=>ho t (by simp[hm]))]
  exact stay (fun t h=>by cases h) rfl (by
   simp only[aA]
   rw[ev (y:=y) (fun t hm=>by simp only[gA.tmps,an9];exact .inl (.inl (.inl hm))),
    opt lo (fun t hm=>by simp only[gA.tmps,an9];exact .inl (.inl (.inr hm))),
    opt hi (fun t hm=>by simp only[gA.tmps,an9];exact .inl (.inr hm)),
    opt mx (fun t hm=>by simp only[gA.tmps,an9];exact .inr hm)]
   exact bV)
 case conv o y =>
  simp only[anV] at he
  subst he
  simp only[fm,aA] at bV
  have nP:=rj bV
  subst nP
  exact stay (fun t h=>by cases h) rfl (by simp only[aA];rw[ev (y:=y) (fun t h=>h)];exact bV)
 case pick c0 a0 b0 =>
  simp only[anV] at he
  subst he
  simp only[fm,aA] at bV
  have h1:=ev (y:=c0) (fun t h=>by simp[h])
  have h2:=ad (y:=a0) (fun t h=>by simp[h])
  have h3:=ad (y:=b0) (fun t h=>by simp[h])
  split at bV
  ·rename_i hb
   simp only[anV,anY] at bV
   obtain⟨rfl,rfl⟩:=bV
   exact stay (fun t h=>by cases h) rfl (by simp only[aA,h1,h2,h3,hb])
  ·cases bV
 case field agg off sz y =>
  simp only[anV] at he
  subst he
  simp only[fm,aA] at bV
  have h1:=ev (y:=y) (fun t h=>h)
  split at bV
  ·rename_i hb
   have nP:=rj bV
   subst nP
   exact stay (fun t h=>by cases h) rfl (by simp only[aA,h1,hb];exact bV)
  ·cases bV
 case index agg n sz y i =>
  simp only[anV] at he
  subst he
  simp only[fm,aA,anU] at bV
  obtain⟨k,hk,bV⟩:=bV
  obtain⟨h0,bV⟩:=ag bV
  have h1:=ev (y:=y) (fun t h=>by simp[h])
  have h2:=ev (y:=i) (fun t h=>by simp[h])
  split at bV
  ·rename_i hb
   have nP:=rj bV
   subst nP
   exact stay (fun t h=>by cases h) rfl (by simp only[aA,h1,h2,hk,an8,h0,cond_true,hb];exact bV)
  ·cases bV
 case indexStr y i =>
  simp only[anV] at he
  subst he
  simp only[fm,aA] at bV
  have h1:=ev (y:=y) (fun t h=>by simp[h])
  have h2:=ev (y:=i) (fun t h=>by simp[h])
  split at bV
  ·rename_i l hb
   simp only[anU,anT,anY] at bV
   obtain⟨k,hk,b,JC,rfl,rfl⟩:=bV
   exact stay (fun t h=>by cases h) rfl (by simp only[aA,h1,h2,hb,hk,an8,JC,aoi])
  ·cases bV
 case extract y i =>
  simp only[anV] at he
  subst he
  simp only[fm,aA] at bV
  have h1:=ev (y:=y) (fun t h=>h)
  split at bV
  ·rename_i vs hb
   simp only[anT,anY] at bV
   obtain⟨v,hv,rfl,rfl⟩:=bV
   exact stay (fun t h=>by cases h) rfl (by simp only[aA,h1,hb,hv,aoi])
  ·cases bV
 case mkfunc f a b =>
  simp only[anV] at he
  subst he
  simp only[fm,aA] at bV
  obtain⟨h0,bV⟩:=ag bV
  simp only[anV,anY] at bV
  obtain⟨rfl,rfl⟩:=bV
  have ha:∀ y,y∈a->y.addr G x.T=y.addr G s.T:=fun y hy=>ad (y:=y) (fun t h=>by
   simp only[gA.tmps,an9,apn];exact .inl ⟨y,hy,h⟩)
  have hb:∀ y,y∈b->y.addr G x.T=y.addr G s.T:=fun y hy=>ad (y:=y) (fun t h=>by
   simp only[gA.tmps,an9,apn];exact .inr ⟨y,hy,h⟩)
  have e1:(a.map fun a=>a.addr G x.T)=a.map fun a=>a.addr G s.T:=aoA ha
  have e2:(b.map fun a=>a.addr G x.T)=b.map fun a=>a.addr G s.T:=aoA hb
  have e3:(a.map fun a=>(a.addr G x.T).drop)=a.map fun a=>(a.addr G s.T).drop:=aoA fun y hy=>by rw[ha y hy]
  have e4:(b.map fun a=>(a.addr G x.T).drop)=b.map fun a=>(a.addr G s.T).drop:=aoA fun y hy=>by rw[hb y hy]
  exact stay (fun t h=>by cases h) rfl (by simp only[aA];rw[e1,e2,e3,e4,h0,cond_true])
 case load take agg sz y =>
  simp only[anV] at he
  subst he
  have j5:=hc y (.inl ⟨take,agg,sz,rfl⟩)
  simp only[fm,aA] at bV ⊢
  rw[ad (y:=y) (fun t h=>an9.2 (.inl h))]
  generalize y.addr G s.T=Y at bV j5
  have hw:∀ t,t∈(cond (take&&!agg) (im c) [])->t∈y.tmps++im c:=by
   intro t ht
   cases hb:(take&&!agg) with
   | false=>rw[hb] at ht;cases ht
   | true=>rw[hb] at ht;exact an9.2 (.inr ht)
  cases Y<;>simp only[ay] at bV<;>try (cases bV;done)
  case eptr cs =>
   simp only[anT,anY] at bV
   obtain⟨v,hv,rfl,rfl⟩:=bV
   exact⟨none,by simp only[ay,hv,aoi],gB.stay ha hw,hw⟩
  case ref loc off =>
   cases c with
   | frame b=>cases j5
   | Uy=>cases j5
   | heap =>
    obtain⟨hH,hl⟩:=ha.H (.inl rfl)
    split at bV
    ·rename_i ty cs Li
     simp only[anT,anY] at bV
     obtain⟨v,hv,rfl,rfl⟩:=bV
     by_cases hta:take=true/\agg=false
     ·obtain⟨rfl,rfl⟩:=hta
      refine⟨some (x.gL ⟨s.H.set loc (.box ty (an off cs)),loc⟩),by simp only[ay,hH,Li,hv,aoi,aoa,ao9,cond_true],⟨fun k hk=>(by cases hk),fun k hk=>rfl,fun _=>⟨rfl,?_⟩,fun h=>(by cases h),fun h=>(by cases h),fun _=>rfl⟩,hw⟩
      simp only[aoa,ao9,cond_true,ao3,AS.gL,hl]
     ·have hb:(take&&!agg)=false:=by cases take<;>cases agg<;>simp_all
      have nP:∀ A:AS,(cond (take&&!agg) (some A) none:Option AS)=none:=fun A=>by rw[hb];rfl
      rw[nP]
      exact⟨none,by simp only[ay,hH,Li,hv,aoi,nP],gB.stay ha hw,hw⟩
    ·rename_i cs Li
     simp only[anT,anY] at bV
     obtain⟨v,hv,rfl,rfl⟩:=bV
     exact⟨none,by simp only[ay,hH,Li,hv,aoi],gB.stay ha hw,hw⟩
    ·rename_i cs Li
     simp only[anT,anY] at bV
     obtain⟨v,hv,rfl,rfl⟩:=bV
     exact⟨none,by simp only[ay,hH,Li,hv,aoi],gB.stay ha hw,hw⟩
    ·cases bV
  case lref b g off =>
   cases c with
   | Uy=>cases j5
   | heap=>cases j5
   | frame b' =>
    simp only[gC,gI,aoq] at j5
    subst j5
    have hTb:=ha.T b' (an9.2 (.inr (aom.2 rfl)))
    split at bV
    ·rename_i g' cs hT
     obtain⟨h0,bV⟩:=ag bV
     simp only[anT,anY] at bV
     obtain⟨v,hv,rfl,rfl⟩:=bV
     rw[hT] at hTb
     by_cases hta:take=true/\agg=false
     ·obtain⟨rfl,rfl⟩:=hta
      refine⟨some (x.cy b' (.lbox g (an off cs))),by simp only[ay,hTb,h0,cond_true,hv,aoi,aoa,ao9],⟨fun k hk=>?_,fun k hk=>?_,fun h=>(by cases h),fun _=>⟨rfl,rfl⟩,fun h=>(by cases h),fun _=>rfl⟩,hw⟩
      ·simp only[aoa,ao9,cond_true,im,aom] at hk
       simp only[aoa,ao9,cond_true,ao3,gu,hk,apu]
      ·simp only[aoa,ao9,cond_true,im,aom] at hk
       simp only[ao3,gu,if_neg hk]
     ·have hb:(take&&!agg)=false:=by cases take<;>cases agg<;>simp_all
      have nP:∀ A:AS,(cond (take&&!agg) (some A) none:Option AS)=none:=fun A=>by rw[hb];rfl
      rw[nP]
      exact⟨none,by simp only[ay,hTb,h0,cond_true,hv,aoi,nP],gB.stay ha hw,hw⟩
    ·cases bV
  case eref=>cases c<;>cases j5
 case nilCheck y =>
  simp only[anV] at he
  subst he
  have j5:=hc y (.inr (.inr (.inl rfl)))
  simp only[fm,aA] at bV ⊢
  rw[ad (y:=y) (fun t h=>an9.2 (.inl h))]
  generalize y.addr G s.T=Y at bV j5
  obtain⟨h0,bV⟩:=ag bV
  simp only[anV,anY] at bV
  obtain⟨rfl,rfl⟩:=bV
  have h1:=zu h0 j5 (fun b hb=>ha.T b (an9.2 (.inr hb)))
  exact⟨none,by simp only[h1,cond_true],gB.stay ha (fun t h=>by cases h),fun t h=>by cases h⟩
 case fieldAddr off y =>
  simp only[anV] at he
  subst he
  have j5:=hc y (.inr (.inr (.inr (.inl ⟨off,rfl⟩))))
  simp only[fm,aA] at bV ⊢
  rw[ad (y:=y) (fun t h=>an9.2 (.inl h))]
  generalize y.addr G s.T=Y at bV j5
  obtain⟨h0,bV⟩:=ag bV
  have nP:=rj bV
  subst nP
  have h1:=zu h0 j5 (fun b hb=>ha.T b (an9.2 (.inr hb)))
  exact⟨none,by simp only[h1,cond_true];exact bV,gB.stay ha (fun t h=>by cases h),fun t h=>by cases h⟩
 case ixArr n sz y i =>
  simp only[anV] at he
  subst he
  have j5:=hc y (.inr (.inr (.inr (.inr ⟨n,sz,i,rfl⟩))))
  simp only[fm,aA,anU] at bV ⊢
  obtain⟨k,hk,bV⟩:=bV
  rw[ad (y:=y) (fun t h=>by simp[h]),ev (y:=i) (fun t h=>by simp[h])]
  generalize y.addr G s.T=Y at bV j5
  obtain⟨h0,bV⟩:=ag bV
  simp only[an7] at h0
  have nP:=rj bV
  subst nP
  have h1:=zu h0.2 j5 (fun b hb=>ha.T b (by simp[hb]))
  exact⟨none,⟨k,hk,by simp only[h0.1,h1,ao9,cond_true];exact bV⟩,gB.stay ha (fun t h=>by cases h),fun t h=>by cases h⟩
 case ixSl sz y i =>
  simp only[anV] at he
  subst he
  have j5:=iR y (.inl ⟨sz,i,rfl⟩)
  simp only[fm,aA] at bV ⊢
  rw[ad (y:=y) (fun t h=>an9.2 (.inl h)),ev (y:=i) (fun t h=>an9.2 (.inr h))]
  generalize y.addr G s.T=Y at bV j5
  cases Y<;>try (cases bV;done)
  case slice el own =>
   simp only[anU] at bV
   obtain⟨k,hk,r,hr,bV⟩:=bV
   obtain⟨h0,bV⟩:=ag bV
   simp only[anV,anY] at bV
   obtain⟨rfl,rfl⟩:=bV
   exact⟨none,by simp only[hk,an8,hr,h0,cond_true],gB.stay ha (fun t h=>by cases h),fun t h=>by cases h⟩
  case sref l o m zz =>
   simp only[anU] at bV
   obtain⟨k,hk,bV⟩:=bV
   obtain⟨h0,bV⟩:=ag bV
   simp only[anV,anY] at bV
   obtain⟨rfl,rfl⟩:=bV
   exact⟨none,by simp only[hk,an8,h0,cond_true],gB.stay ha (fun t h=>by cases h),fun t h=>by cases h⟩
  case lsr=>cases j5
 case len k y =>
  simp only[anV] at he
  subst he
  have j5:=iR y (.inr ⟨k,rfl⟩)
  simp only[fm,aA] at bV ⊢
  rw[ad (y:=y) (fun t h=>h)]
  generalize y.addr G s.T=Y at bV j5
  cases Y
  case lsr=>cases j5
  all_goals
   have nP:=rj bV
   subst nP
   exact⟨none,bV,gB.stay ha (fun t h=>by cases h),fun t h=>by cases h⟩
 case store sz y v =>
  simp only[anV] at he
  subst he
  have j5:=hc y (.inr (.inl ⟨sz,v,rfl⟩))
  have hw:∀ t,t∈v.tmps++im c->t∈y.tmps++v.tmps++im c:=fun t ht=>by
   rcases an9.1 ht with h|h
   ·exact an9.2 (.inl (an9.2 (.inr h)))
   ·exact an9.2 (.inr h)
  have hv:=ev (y:=v) (fun t h=>an9.2 (.inl (an9.2 (.inr h))))
  have hvT:∀ t,t∈v.tmps->x.T t=s.T t:=fun t h=>ha.T t (an9.2 (.inl (an9.2 (.inr h))))
  simp only[fm,aA,anT,anY] at bV ⊢
  obtain⟨s1,bV,rfl,rfl⟩:=bV
  rw[ad (y:=y) (fun t h=>an9.2 (.inl (an9.2 (.inl h)))),hv]
  generalize y.addr G s.T=Y at bV j5
  have sp:∀ (s1 x1:AS),(∀ t,t∈v.tmps->x1.T t=s1.T t)->(∀ t,t∈v.tmps->(x1.bI v).T t=(s1.bI v).T t)/\(∀ t,t∉v.tmps->(x1.bI v).T t=x1.T t)/\(∀ t,t∉v.tmps->(s1.bI v).T t=s1.T t):=by
   intro s1 x1 h
   cases v with
   | tmp t0 =>
    have h0:=h t0 (by simp[aC.tmps])
    by_cases ho:∃ el,s1.T t0=.slice el true
    ·obtain⟨el,ho⟩:=ho
     rw[rX s1 t0 ho,rX x1 t0 (h0.trans ho)]
     refine⟨fun t ht=>?_,fun t ht=>?_,fun t ht=>?_⟩
     ·simp only[aC.tmps,aom] at ht
      rw[gu,gu,if_pos ht,if_pos ht]
     ·simp only[aC.tmps,aom] at ht
      rw[gu,if_neg ht]
     ·simp only[aC.tmps,aom] at ht
      rw[gu,if_neg ht]
    ·have rN:∀ el,s1.T t0≠.slice el true:=fun el h=>ho ⟨el,h⟩
     rw[mY s1 t0 rN,mY x1 t0 (fun el h=>rN el (h0.symm.trans h))]
     exact⟨h,fun _ _=>rfl,fun _ _=>rfl⟩
   | _=>exact⟨fun t ht=>by simp[aC.tmps] at ht,fun _ _=>rfl,fun _ _=>rfl⟩
  simp only[aN] at bV ⊢
  split at bV
  ·cases bV
  rename_i vs tX
  obtain⟨h0,aeH⟩:=ag bV
  clear bV
  have bV:=aeH
  clear aeH
  cases Y<;>(try dsimp only at bV ⊢)<;>try (cases bV;done)
  case ref loc off =>
   cases c with
   | frame b=>cases j5
   | Uy=>cases j5
   | heap =>
    obtain⟨hH,hl⟩:=ha.H (.inl rfl)
    split at bV
    ·rename_i ty cs Li
     obtain⟨h1,bV⟩:=ag bV
     injection bV with bV
     subst bV
     obtain⟨k1,k2,k3⟩:=sp (s.gL ⟨s.H.set loc (.box ty (putAt cs off vs)),loc⟩) (x.gL ⟨x.H.set loc (.box ty (putAt cs off vs)),loc⟩) hvT
     refine⟨some ((x.gL ⟨x.H.set loc (.box ty (putAt cs off vs)),loc⟩).bI v),⟨x.gL ⟨x.H.set loc (.box ty (putAt cs off vs)),loc⟩,by simp only[tX,h0,cond_true,hH,Li,h1],trivial,rfl⟩,⟨fun k hk=>?_,fun k hk=>?_,fun _=>?_,fun h=>(by cases h),fun h=>(by cases h),fun _=>?_⟩,hw⟩
     ·exact k1 k (by simpa [im] using hk)
     ·exact k2 k (by simpa [im] using hk)
     ·obtain⟨q1,_,q3⟩:=iJ (x.gL ⟨x.H.set loc (.box ty (putAt cs off vs)),loc⟩) v
      obtain⟨r1,_,r3⟩:=iJ (s.gL ⟨s.H.set loc (.box ty (putAt cs off vs)),loc⟩) v
      exact⟨q1.trans (Eq.trans (by simp only[AS.gL,hH]) r1.symm),q3.trans (Eq.trans (by simp only[AS.gL,hl]) r3.symm)⟩
     ·obtain⟨_,q2,_⟩:=iJ (x.gL ⟨x.H.set loc (.box ty (putAt cs off vs)),loc⟩) v
      exact q2.trans rfl
    ·rename_i cs Li
     obtain⟨h1,bV⟩:=ag bV
     injection bV with bV
     subst bV
     obtain⟨k1,k2,k3⟩:=sp (s.gL ⟨s.H.set loc (.ba (putAt cs off vs)),loc⟩) (x.gL ⟨x.H.set loc (.ba (putAt cs off vs)),loc⟩) hvT
     refine⟨some ((x.gL ⟨x.H.set loc (.ba (putAt cs off vs)),loc⟩).bI v),⟨x.gL ⟨x.H.set loc (.ba (putAt cs off vs)),loc⟩,by simp only[tX,h0,cond_true,hH,Li,h1],trivial,rfl⟩,⟨fun k hk=>?_,fun k hk=>?_,fun _=>?_,fun h=>(by cases h),fun h=>(by cases h),fun _=>?_⟩,hw⟩
     ·exact k1 k (by simpa [im] using hk)
     ·exact k2 k (by simpa [im] using hk)
     ·obtain⟨q1,_,q3⟩:=iJ (x.gL ⟨x.H.set loc (.ba (putAt cs off vs)),loc⟩) v
      obtain⟨r1,_,r3⟩:=iJ (s.gL ⟨s.H.set loc (.ba (putAt cs off vs)),loc⟩) v
      exact⟨q1.trans (Eq.trans (by simp only[AS.gL,hH]) r1.symm),q3.trans (Eq.trans (by simp only[AS.gL,hl]) r3.symm)⟩
     ·obtain⟨_,q2,_⟩:=iJ (x.gL ⟨x.H.set loc (.ba (putAt cs off vs)),loc⟩) v
      exact q2.trans rfl
    ·cases bV
  case lref b g off =>
   cases c with
   | Uy=>cases j5
   | heap=>cases j5
   | frame b' =>
    simp only[gC,gI,aoq] at j5
    subst j5
    have hTb:=ha.T b' (an9.2 (.inr (aom.2 rfl)))
    split at bV
    ·rename_i g' cs hT
     obtain⟨h1,bV⟩:=ag bV
     injection bV with bV
     subst bV
     rw[hT] at hTb
     have aiB:∀ t,t∈v.tmps->(x.cy b' (.lbox g (putAt cs off vs))).T t=(s.cy b' (.lbox g (putAt cs off vs))).T t:=fun t ht=>by rw[gu,gu,hvT t ht]
     obtain⟨k1,k2,k3⟩:=sp _ _ aiB
     refine⟨some ((x.cy b' (.lbox g (putAt cs off vs))).bI v),⟨x.cy b' (.lbox g (putAt cs off vs)),by simp only[tX,h0,cond_true,hTb,h1],trivial,rfl⟩,⟨fun k hk=>?_,fun k hk=>?_,fun h=>(by cases h),fun _=>?_,fun h=>(by cases h),fun _=>?_⟩,hw⟩
     ·by_cases Tg:k∈v.tmps
      ·exact k1 k Tg
      ·have N5:k=b':=by
        rcases an9.1 hk with h|h
        ·exact absurd h Tg
        ·exact aom.1 h
       show ((x.cy b' _).bI v).T k=((s.cy b' _).bI v).T k
       rw[k2 k Tg,k3 k Tg,gu,gu,if_pos N5,if_pos N5]
     ·have Tg:k∉v.tmps:=fun h=>hk (an9.2 (.inl h))
      have N5:k≠b':=fun h=>hk (an9.2 (.inr (aom.2 h)))
      show ((x.cy b' _).bI v).T k=x.T k
      rw[k2 k Tg,gu,if_neg N5]
     ·obtain⟨q1,_,q3⟩:=iJ (x.cy b' (.lbox g (putAt cs off vs))) v
      exact⟨q1.trans rfl,q3.trans rfl⟩
     ·obtain⟨_,q2,_⟩:=iJ (x.cy b' (.lbox g (putAt cs off vs))) v
      exact q2.trans rfl
    ·cases bV
  case eref=>cases c<;>cases j5
 case append isB wr sz bytes y1 y2 =>
  cases wr with
  | true=>cases he
  | false =>
   simp only[anZ,anV] at he
   subst he
   have hw:∀ t,t∈y1.tmps->t∈y1.tmps++y2.tmps:=fun t h=>an9.2 (.inl h)
   have h2:=ev (y:=y2) (fun t h=>an9.2 (.inr h))
   simp only[fm,aA] at bV ⊢
   cases y1 with
   | tmp t =>
    have ht:=ha.T t (by simp[aC.tmps])
    simp only[bf] at bV ⊢
    rw[ht,h2]
    split at bV
    ·simp only[anU] at bV
     obtain⟨f,_,bV⟩:=bV
     simp at bV
    ·rename_i el own hT
     simp only[anZ,anT,anY] at bV
     obtain⟨z',hz,rfl,rfl⟩:=bV
     refine⟨some (x.cy t (.slice el false)),by simp only[anZ,hz,aoi],⟨fun k hk=>?_,fun k hk=>?_,fun h=>(by cases h),fun _=>⟨rfl,rfl⟩,fun h=>(by cases h),fun _=>rfl⟩,hw⟩
     ·simp only[aC.tmps,aom] at hk
      simp only[ao3,gu,hk,apu]
     ·simp only[aC.tmps,aom] at hk
      simp only[ao3,gu,if_neg hk]
    ·simp only[anZ,anT,anY] at bV
     obtain⟨z',hz,rfl,rfl⟩:=bV
     exact⟨some x,by simp only[anZ,hz,aoi],gB.stay ha hw,hw⟩
    ·cases bV
   | _ =>
    simp only[bf,anZ] at bV ⊢
    have nP:=rj bV
    subst nP
    rw[h2]
    exact⟨none,bV,gB.stay ha hw,hw⟩
 case appendO sz bytes y1 y2 =>
  simp only[anV] at he
  subst he
  obtain⟨hH,hl⟩:=ha.H (.inl rfl)
  simp only[fm,aA] at bV ⊢
  rw[ad (y:=y1) (fun t h=>an9.2 (.inl h)),ev (y:=y2) (fun t h=>an9.2 (.inr h))]
  simp only[jo] at bV ⊢
  split at bV
  ·rename_i v hn
   simp only[anV,anY] at bV
   obtain⟨rfl,rfl⟩:=bV
   exact⟨none,rfl,gB.stay ha (fun t h=>by cases h),fun t h=>by cases h⟩
  simp only[jH,anU] at bV ⊢
  obtain⟨f,hf,bV⟩:=bV
  have fin:∀ (c0:gS),gB ⟨y1.tmps++y2.tmps,[],true,true,false⟩ (s.gL c0) x (x.gL c0):=fun c0=>⟨fun k hk=>(by cases hk),fun _ _=>rfl,fun _=>⟨rfl,by simp only[AS.gL,hl]⟩,fun h=>(by cases h),fun h=>(by cases h),fun _=>rfl⟩
  split at bV
  ·obtain⟨h0,bV⟩:=ag bV
   simp only[anV,anY] at bV
   obtain⟨rfl,rfl⟩:=bV
   rename_i hY
   exact⟨some (x.gL ⟨s.H++[cJ.box dv f.flatten],s.H.length⟩),⟨f,hf,by simp only[h0,cond_true,hH]⟩,fin ⟨s.H++[cJ.box dv f.flatten],s.H.length⟩,fun t h=>by cases h⟩
  ·obtain⟨h0,bV⟩:=ag bV
   simp only[anV,anY] at bV
   obtain⟨rfl,rfl⟩:=bV
   rename_i hY
   exact⟨some (x.gL ⟨s.H++[cJ.box dv f.flatten],s.H.length⟩),⟨f,hf,by simp only[h0,cond_true,hH]⟩,fin ⟨s.H++[cJ.box dv f.flatten],s.H.length⟩,fun t h=>by cases h⟩
  ·rename_i l o n zz hY
   split at bV
   ·rename_i ty cs Li
    obtain⟨h0,bV⟩:=ag bV
    simp only[anV,anY] at bV
    obtain⟨rfl,rfl⟩:=bV
    exact⟨some (x.gL ⟨s.H.set l .dead++[cJ.box dv (cs++f.flatten)],l⟩),⟨f,hf,by simp only[hH,Li,h0,cond_true]⟩,fin ⟨s.H.set l .dead++[cJ.box dv (cs++f.flatten)],l⟩,fun t h=>by cases h⟩
   ·cases bV
  ·cases bV
 case copyO y1 y2 =>
  simp only[anV] at he
  subst he
  obtain⟨hH,hl⟩:=ha.H (.inl rfl)
  simp only[fm,aA] at bV ⊢
  rw[ad (y:=y1) (fun t h=>an9.2 (.inl h)),ev (y:=y2) (fun t h=>an9.2 (.inr h))]
  simp only[rH] at bV ⊢
  have fin:∀ (c0:gS),gB ⟨y1.tmps++y2.tmps,[],true,true,false⟩ (s.gL c0) x (x.gL c0):=fun c0=>⟨fun k hk=>(by cases hk),fun _ _=>rfl,fun _=>⟨rfl,by simp only[AS.gL,hl]⟩,fun h=>(by cases h),fun h=>(by cases h),fun _=>rfl⟩
  split at bV
  ·rename_i l o n zz f own hY hZ
   split at bV
   ·rename_i cs Li
    obtain⟨h0,bV⟩:=ag bV
    simp only[anV,anY] at bV
    obtain⟨rfl,rfl⟩:=bV
    exact⟨some (x.gL ⟨s.H.set l (.ba (putAt cs o (f.take (Nat.min f.length n)).flatten)),l⟩),by simp only[hH,Li,h0,cond_true],fin ⟨s.H.set l (.ba (putAt cs o (f.take (Nat.min f.length n)).flatten)),l⟩,fun t h=>by cases h⟩
   ·cases bV
  ·simp only[anV,anY] at bV
   obtain⟨rfl,rfl⟩:=bV
   exact⟨none,rfl,gB.stay ha (fun t h=>by cases h),fun t h=>by cases h⟩
  ·cases bV
 case call f args =>
  simp only[anV] at he
  subst he
  obtain⟨hH,hl⟩:=ha.H (.inl rfl)
  have hf:=ev (y:=f) (fun t h=>by simp only[gA.tmps,an9];exact .inl h)
  have had:∀ y,y∈args->y.addr G x.T=y.addr G s.T:=fun y hy=>ad (y:=y) (fun t h=>by simp only[gA.tmps,an9,apn];exact .inr ⟨y,hy,h⟩)
  have e1:(args.map fun a=>a.addr G x.T)=args.map fun a=>a.addr G s.T:=aoA had
  have e2:(args.map fun a=>(a.addr G x.T).bU)=args.map fun a=>(a.addr G s.T).bU:=aoA fun y hy=>by rw[had y hy]
  have Lt:∀ t,t∈([]:List Nat)->t∈(gA.call f args).tmps:=fun t h=>by cases h
  cases pc with
  | true =>
   simp only[fm,cond_true,aA] at bV ⊢
   rw[hf,e1,e2,hH]
   split at bV
   ·obtain⟨h0,bV⟩:=ag bV
    simp only[anU] at bV
    obtain⟨r,hr,bV⟩:=bV
    split at bV
    ·rename_i h2
     simp only[anV,anY] at bV
     obtain⟨rfl,rfl⟩:=bV
     exact⟨none,by simp only[h0,cond_true,hr,aoi,h2,ap1],gB.stay ha Lt,Lt⟩
    ·cases bV
   ·cases bV
  | false =>
   simp only[fm,anZ,aA] at bV ⊢
   rw[hf,e1,e2,hH]
   split at bV
   ·obtain⟨h0,bV⟩:=ag bV
    simp only[anT,anY] at bV
    obtain⟨r,hr,rfl,rfl⟩:=bV
    refine⟨r.2.map x.gL,by simp only[h0,cond_true,hr,aoi],?_,Lt⟩
    cases h2:r.2 with
    | none=>exact gB.stay ha Lt
    | some c0=>exact⟨fun k hk=>(by cases hk),fun _ _=>rfl,fun _=>⟨rfl,by simp only[aoi,ao3,AS.gL,hl]⟩,fun h=>(by cases h),fun h=>(by cases h),fun _=>rfl⟩
   ·cases bV
theorem FW{pc:Bool}{c:N0}{op:gA}(he:Bi pc c op=some e):∀ t,t∈e.ws->t∈e.rs:=by
 intro t ht
 cases op<;>simp only[Bi] at he<;>try (cases he;done)
 case mov take obj y =>
  cases obj with
  | true=>cases he
  | false =>
   simp only[anZ,anV] at he
   subst he
   cases take with
   | true=>exact ht
   | false=>cases ht
 case load take agg sz y =>
  simp only[anV] at he
  subst he
  cases hb:(take&&!agg) with
  | true=>simp only[hb,cond_true] at ht;exact an9.2 (.inr ht)
  | false=>simp only[hb,anZ] at ht;cases ht
 case store sz y v =>
  simp only[anV] at he
  subst he
  rcases an9.1 ht with h|h
  ·exact an9.2 (.inl (an9.2 (.inr h)))
  ·exact an9.2 (.inr h)
 case append isB wr sz bytes y1 y2 =>
  cases wr with
  | true=>cases he
  | false =>
   simp only[anZ,anV] at he
   subst he
   exact an9.2 (.inl ht)
 all_goals
  simp only[anV] at he
  subst he
  cases ht
theorem zx{mode pc:Bool}{is:List aO}{L:List Nat}{o:aO}(he:FV mode pc is L o=some e)
  (hc:∀ c y,wF mode is L o.op=some (c,y)->(∀ g w,o.guard=some (g,w)->s.T g=.bool w)->gC c (y.addr G s.T)=true) {s1:AS}
  (bV:bj G cf false s (jP pc o)=some s1) (ha:Zt e s x):∃ x1,bj G cf false x o=some x1/\gB e s1 x x1/\(∀ t,t∈e.ws->t∈o.dst.toList\/t∈e.rs):=by
 simp only[FV,anT] at he
 obtain⟨e0,he0,rfl⟩:=he
 rw[w9] at bV
 have ha0:Zt e0 s x:=⟨fun t ht=>ha.T t (an9.2 (.inr ht)),ha.H,ha.G⟩
 have DJ:∀ (q:AS) (d:Option Nat) (v:AV) (k:Nat),(q.bW d v).T k=if k∈d.toList then v else q.T k:=by
  intro q d v k
  cases d with
  | none=>simp[AS.bW]
  | some d=>simp only[AS.bW,gu,Option.toList_some,aom]
 have put:∀ (v:AV) (s2 x2:AS),gB e0 s2 x x2->(∀ t,t∈e0.ws->t∈e0.rs) ->
   gB ⟨(match o.guard with|some (g,_)=>[g]|none=>[])++e0.rs,o.dst.toList++e0.ws,e0.rh,e0.wh,e0.wg⟩ (s2.bW o.dst v) x (x2.bW o.dst v)/\(∀ t,t∈o.dst.toList++e0.ws->t∈o.dst.toList\/t∈(match o.guard with|some (g,_)=>[g]|none=>[])++e0.rs):=by
  intro v s2 x2 hM hw
  refine⟨⟨fun t ht=>?_,fun t ht=>?_,fun h=>?_,fun h=>?_,fun h=>?_,fun h=>?_⟩,fun t ht=>?_⟩
  ·rw[DJ,DJ]
   by_cases hd:t∈o.dst.toList
   ·rw[if_pos hd,if_pos hd]
   ·rw[if_neg hd,if_neg hd]
    rcases an9.1 ht with h|h
    ·exact absurd h hd
    ·exact hM.T t h
  ·rw[DJ,if_neg (fun h=>ht (an9.2 (.inl h)))]
   exact hM.T' t (fun h=>ht (an9.2 (.inr h)))
  ·rw[(jt s2 o.dst v).1,(jt s2 o.dst v).2.2,(jt x2 o.dst v).1,(jt x2 o.dst v).2.2];exact hM.H h
  ·rw[(jt x2 o.dst v).1,(jt x2 o.dst v).2.2];exact hM.H' h
  ·rw[(jt s2 o.dst v).2.1,(jt x2 o.dst v).2.1];exact hM.G h
  ·rw[(jt x2 o.dst v).2.1];exact hM.G' h
  ·rcases an9.1 ht with h|h
   ·exact .inl h
   ·exact .inr (an9.2 (.inr (hw t h)))
 have run:(∀ g w,o.guard=some (g,w)->s.T g=.bool w)->((aA G cf s (fm pc o.op)).bind fun r=>match r.2 with
   | none=>cond (false&&(bB r.1).isSome) none (some (s.bW o.dst r.1))
   | some s'=>cond false none (some (s'.bW o.dst r.1)))=some s1 ->
   ∃ x1,((aA G cf x o.op).bind fun r=>match r.2 with
    | none=>cond (false&&(bB r.1).isSome) none (some (x.bW o.dst r.1))
    | some s'=>cond false none (some (s'.bW o.dst r.1)))=some x1/\gB ⟨(match o.guard with|some (g,_)=>[g]|none=>[])++e0.rs,o.dst.toList++e0.ws,e0.rh,e0.wh,e0.wg⟩ s1 x x1 /\
    (∀ t,t∈o.dst.toList++e0.ws->t∈o.dst.toList\/t∈(match o.guard with|some (g,_)=>[g]|none=>[])++e0.rs):=by
  intro hg hr
  simp only[anU] at hr
  obtain⟨⟨z,so⟩,hz,hr⟩:=hr
  obtain⟨xo,h1,h2,h3⟩:=Wc he0 (fun y hy=>by
    have key:∃ c,wF mode is L o.op=some (c,y):=by
     rcases hy with ⟨t,a,z,h⟩|⟨z,v,h⟩|h|⟨f,h⟩|⟨n,z,i,h⟩<;>rw[h]<;>exact⟨_,rfl⟩
    obtain⟨c,hk⟩:=key
    rw[hk]
    exact hc c y hk hg)
   (fun y hy=>by
    have key:wF mode is L o.op=some (.heap,y):=by
     rcases hy with ⟨z,i,h⟩|⟨k,h⟩<;>rw[h]<;>rfl
    exact hc _ y key hg) hz ha0
  have AQ:s1=(so.getD s).bW o.dst z:=by
   cases so with
   | none=>simp only[aoj,anZ,anV] at hr;exact hr.symm
   | some s2=>simp only[anZ,anV] at hr;exact hr.symm
  subst AQ
  obtain⟨p1,p2⟩:=put z _ _ h2 h3
  refine⟨(xo.getD x).bW o.dst z,?_,p1,p2⟩
  rw[h1]
  cases xo with
  | none=>rfl
  | some x2=>rfl
 unfold bj at bV ⊢
 cases Aj:o.guard with
 | none =>
  rw[Aj] at run
  simp only[Aj] at bV ⊢
  exact run (fun g w h=>by cases h) bV
 | some gw =>
  obtain⟨g,w⟩:=gw
  have hxg:x.T g=s.T g:=ha.T g (by rw[Aj];exact an9.2 (.inl (aom.2 rfl)))
  simp only[Aj] at bV ⊢
  rw[hxg]
  rw[Aj] at run put
  have skip:some (s.bW o.dst .undef)=some s1->∃ x1,some (x.bW o.dst .undef)=some x1/\gB ⟨[g]++e0.rs,o.dst.toList++e0.ws,e0.rh,e0.wh,e0.wg⟩ s1 x x1/\(∀ t,t∈o.dst.toList++e0.ws->t∈o.dst.toList\/t∈[g]++e0.rs):=by
   intro h
   injection h with h
   subst h
   obtain⟨p1,p2⟩:=put .undef s x (gB.stay ha0 (FW he0)) (FW he0)
   exact⟨_,rfl,p1,p2⟩
  generalize hX:s.T g=X at bV
  cases X with
  | bool b =>
   simp only at bV ⊢
   cases hb:(b==w) with
   | true =>
    rw[hb] at bV
    simp only[cond_true] at bV ⊢
    exact run (fun g' w' h=>by injection h with h;injection h with h1 h2;subst h1 h2;rw[hX];congr 1;simpa using hb) bV
   | false =>
    rw[hb] at bV
    simp only[anZ] at bV ⊢
    exact skip bV
  | tuple vs =>
   cases vs with
   | nil=>exact skip bV
   | cons v vs=>cases bV
  | _=>cases bV
end
section
variable {α:Type}{S:Nat->AS}{f:AS->α}{w X:Nat->Prop}{n k:Nat}{x x1:AS}
def B9(S:Nat->AS)(f:AS->α)(w X:Nat->Prop)(x:AS):Prop :=
 (∃ i,X i/\w i/\(∀ j,X j->w j->j<=i)/\f x=f (S (i+1)))\/((∀ j,X j->¬ w j)/\f x=f (S 0))
theorem yt(hf:∀ j,j<n->¬ w j->f (S (j+1))=f (S j)){a:Nat} : ∀ (b:Nat),a<=b->b<=n->(∀ j,a<=j->j<b->¬ w j)->f (S b)=f (S a):=by
 intro b
 induction b with
 | zero=>intro h _ _;rw[show a=0 by omega]
 | succ b ih =>
  intro h1 h2 h3
  rcases apL b a with h|h
  ·rw[show a=b+1 by omega]
  ·rw[hf b (by omega) (h3 b h (by omega)),ih h (by omega) (fun j a1 a2=>h3 j a1 (by omega))]
theorem rF(hf:∀ j,j<n->¬ w j->f (S (j+1))=f (S j))(hk:k<=n)(hC:B9 S f w X x)(h1:∀ j,j<k->w j->X j)(h2:∀ j,X j->w j->j<k):f x=f (S k):=by
 rcases hC with ⟨i,hX,hw,hm,he⟩|⟨nN,he⟩
 ·rw[he]
  refine (yt hf k (h2 i hX hw) hk (fun j a b M4=>?_)).symm
  have:=hm j (h1 j b M4) M4
  omega
 ·rw[he]
  exact (yt hf k (aoW _) hk (fun j a b M4=>nN j (h1 j b M4) M4)).symm
theorem sV(hw:w k)(hm:∀ j,X j->w j->j<=k)(he:f x1=f (S (k+1))):B9 S f w (fun j=>X j\/j=k) x1 :=
 .inl ⟨k,.inr rfl,hw,fun j hj M4=>by rcases hj with h|h;exact hm j h M4;omega,he⟩
theorem vE(hw:¬ w k)(hC:B9 S f w X x)(he:f x1=f x):B9 S f w (fun j=>X j\/j=k) x1:=by
 rcases hC with ⟨i,hX,hwi,hm,h⟩|⟨nN,h⟩
 ·exact .inl ⟨i,.inl hX,hwi,fun j hj M4=>by
   rcases hj with h'|h'
   ·exact hm j h' M4
   ·subst h';exact absurd M4 hw,by rw[he,h]⟩
 ·exact .inr ⟨fun j hj M4=>by
   rcases hj with h'|h'
   ·exact nN j h' M4
   ·subst h';exact hw M4,by rw[he,h]⟩
theorem sU{Y:Nat->Prop}(h:∀ j,X j↔Y j)(hC:B9 S f w X x):B9 S f w Y x:=by
 rcases hC with ⟨i,hX,hwi,hm,h'⟩|⟨nN,h'⟩
 ·exact .inl ⟨i,(h i).1 hX,hwi,fun j hj=>hm j ((h j).2 hj),h'⟩
 ·exact .inr ⟨fun j hj=>nN j ((h j).2 hj),h'⟩
structure sO (S:Nat->AS) (E:Nat->rB) (X:Nat->Prop) (x:AS):Prop where
 T:∀ t,B9 S (fun s=>s.T t) (fun j=>t∈(E j).ws) X x
 H:B9 S (fun s=>(s.H,s.lo)) (fun j=>(E j).wh=true) X x
 G:B9 S (fun s=>s.gen) (fun j=>(E j).wg=true) X x
structure Of (S:Nat->AS) (E:Nat->rB) (n:Nat):Prop where
 T:∀ t j,j<n->¬ (t∈(E j).ws)->(S (j+1)).T t=(S j).T t
 H:∀ j,j<n->¬ ((E j).wh=true)->((S (j+1)).H,(S (j+1)).lo)=((S j).H,(S j).lo)
 G:∀ j,j<n->¬ ((E j).wg=true)->(S (j+1)).gen=(S j).gen
theorem vZ{x y:List Nat}{t:Nat}(h1:t∈x)(h2:t∈y):meets x y=true:=by
 simp only[meets,List.any_eq_true]
 exact⟨t,h1,by simpa using h2⟩
theorem IB{E:Nat->rB}(hK:Of S E n)(hk:k<n)(hB:sO S E X x)(hX:¬ X k)(h1:∀ j,j<k->conflict (E k) (E j)=true->X j)(h2:∀ j,k<j->conflict (E j) (E k)=true->¬ X j):Zt (E k) (S k) x:=by
 have lt:∀ j,X j->j<k\/k<j:=fun j h=>by
  rcases aqm j k with a|a|a
  ·exact .inl a
  ·subst a;exact absurd h hX
  ·exact .inr a
 refine⟨fun t ht=>?_,fun hh=>?_,fun hg=>?_⟩
 ·refine rF (fun j=>hK.T t j) (aqQ hk) (hB.T t) (fun j hj hw=>h1 j hj ?_) (fun j hj hw=>?_)
  ·simp only[conflict,vZ hw ht,aoB,aoz]
  ·rcases lt j hj with a|a
   ·exact a
   ·exact absurd hj (h2 j a (by simp only[conflict,vZ hw ht,aoB,aoz]))
 ·have:=rF (fun j=>hK.H j) (aqQ hk) hB.H (fun j hj hw=>h1 j hj (by
   rcases hh with h|h<;>simp[conflict,hw,h])) (fun j hj hw=>by
   rcases lt j hj with a|a
   ·exact a
   ·exact absurd hj (h2 j a (by rcases hh with h|h<;>simp[conflict,hw,h])))
  simp only[anY] at this
  exact this
 ·exact rF (fun j=>hK.G j) (aqQ hk) hB.G (fun j hj hw=>h1 j hj (by simp[conflict,hw,hg])) (fun j hj hw=>by
   rcases lt j hj with a|a
   ·exact a
   ·exact absurd hj (h2 j a (by simp[conflict,hw,hg])))
theorem Fl{E:Nat->rB}(hB:sO S E X x)(hX:¬ X k)(h2:∀ j,k<j->conflict (E j) (E k)=true->¬ X j)(hM:gB (E k) (S (k+1)) x x1):sO S E (fun j=>X j\/j=k) x1:=by
 have le:∀ j,X j->(k<j->conflict (E j) (E k)=true)->j<=k:=fun j h hc=>by
  rcases apL k j with a|a
  ·exact absurd h (h2 j a (hc a))
  ·exact a
 refine⟨fun t=>?_,?_,?_⟩
 ·by_cases ht:t∈(E k).ws
  ·exact sV ht (fun j hj hw=>le j hj fun _=>by simp only[conflict,vZ hw ht,aoB,aoz]) (hM.T t ht)
  ·exact vE ht (hB.T t) (hM.T' t ht)
 ·by_cases hh:(E k).wh=true
  ·exact sV hh (fun j hj hw=>le j hj fun _=>by simp[conflict,hw,hh]) (by simp only[hM.H hh])
  ·have:=hM.H' (by simpa using hh)
   exact vE hh hB.H (by simp only[this])
 ·by_cases hg:(E k).wg=true
  ·exact sV hg (fun j hj hw=>le j hj fun _=>by simp[conflict,hw,hg]) (hM.G hg)
  ·exact vE hg hB.G (hM.G' (by simpa using hg))
theorem IC{E:Nat->rB}(hK:Of S E n)(hB:sO S E X x)(hX:∀ j,X j↔j<n):x=S n:=by
 have hT:x.T=(S n).T:=funext fun t=>rF (fun j=>hK.T t j) (an4 _) (hB.T t) (fun j hj _=>(hX j).2 hj) (fun j hj _=>(hX j).1 hj)
 have hH:=rF (fun j=>hK.H j) (an4 _) hB.H (fun j hj _=>(hX j).2 hj) (fun j hj _=>(hX j).1 hj)
 have hG:=rF (fun j=>hK.G j) (an4 _) hB.G (fun j hj _=>(hX j).2 hj) (fun j hj _=>(hX j).1 hj)
 simp only[anY] at hH
 obtain⟨h1,h2⟩:=hH
 cases x
 generalize S n=y at hT h1 h2 hG
 cases y
 simp only at hT h1 h2 hG
 subst hT h1 h2 hG
 rfl
theorem Fk{E:Nat->rB}(hX:∀ j,¬ X j):sO S E X (S 0) :=
 ⟨fun _=>.inr ⟨fun j h=>absurd h (hX j),rfl⟩,.inr ⟨fun j h=>absurd h (hX j),rfl⟩,.inr ⟨fun j h=>absurd h (hX j),rfl⟩⟩
end
theorem zM(ops:List Oper):∀ (k:Nat) (o:Oper),ops[k]?=some o->∀ p,p∈(pV ops).getD k []->∃ e,e∈o.after.toList/\Region.binds .any e=true/\(p=e.on\/p∈(pV ops).getD e.on []):=by
 have key:∀ (l r:List Oper) (t:List (List Nat)),t.length=l.length->(∀ (k:Nat) (o:Oper),l[k]?=some o->∀ p,p∈t.getD k []->∃ e,e∈o.after.toList/\Region.binds .any e=true/\(p=e.on\/p∈t.getD e.on [])) ->
   let t':=r.foldl (fun t o=>t++[(o.after.toList.flatMap fun e=>cond (Region.binds .any e) (e.on :: t.getD e.on []) []).eraseDups]) t
   ∀ (k:Nat) (o:Oper),(l++r)[k]?=some o->∀ p,p∈t'.getD k []->∃ e,e∈o.after.toList/\Region.binds .any e=true/\(p=e.on\/p∈t'.getD e.on []):=by
  intro l r
  induction r generalizing l with
  | nil=>intro t hl h;simpa using h
  | cons o r ih =>
   intro t hl h
   have:=ih (l++[o]) (t++[(o.after.toList.flatMap fun e=>cond (Region.binds .any e) (e.on :: t.getD e.on []) []).eraseDups]) (by simp[hl]) (fun k o' hk p hp=>?_)
   ·simpa using this
   ·have grow:∀ (v:List Nat) (i q:Nat),q∈t.getD i []->q∈(t++[v]).getD i []:=by
     intro v i q hq
     have:i<t.length:=by
      rcases apL i t.length with h|h
      ·exact h
      ·rw[aoO,apq h] at hq;cases hq
     rw[aoO,aot this,<- aoO];exact hq
    rcases aqm k l.length with a|a|a
    ·rw[aot a] at hk
     rw[aoO,aot (by omega),<- aoO] at hp
     obtain⟨e,h1,h2,h3⟩:=h k o' hk p hp
     exact⟨e,h1,h2,h3.imp id (grow _ _ _)⟩
    ·subst a
     simp only[aou (an4 _),ap7,aor,anV] at hk
     subst hk
     rw[aoO,aou (by omega),hl,ap7] at hp
     simp only[aor,ao3,List.mem_eraseDups,apn] at hp
     obtain⟨e,h1,hp⟩:=hp
     cases hb:Region.binds .any e with
     | false=>rw[hb] at hp;cases hp
     | true =>
      rw[hb] at hp
      simp only[cond_true,aoH] at hp
      exact⟨e,h1,hb,hp.imp id (grow _ _ _)⟩
    ·rw[aou (by omega)] at hk
     have:k-l.length≠0:=by omega
     obtain⟨m,hm⟩:=Nat.exists_eq_succ_of_ne_zero this
     rw[hm] at hk
     simp at hk
 have:=key [] ops [] rfl (fun k o hk=>by simp at hk)
 simpa [pV] using this
theorem ve{ops:List Oper}{X:Nat->Prop}(uK:∀ (i:Nat) (o:Oper),ops[i]?=some o->∀ e,e∈o.after.toList->Region.binds .any e=true->e.on<i)
  (hX:∀ (i:Nat) (o:Oper),ops[i]?=some o->X i->∀ e,e∈o.after.toList->Region.binds .any e=true->X e.on) :
  ∀ (k:Nat),X k->∀ p,p∈(pV ops).getD k []->X p:=by
 intro k
 induction k using Nat.strongRecOn with
 | _ k ih =>
  intro hk p hp
  cases ho:ops[k]? with
  | none =>
   exfalso
   have hlen:∀ (r:List Oper) (t:List (List Nat)),(r.foldl (fun t o=>t++[(o.after.toList.flatMap fun e=>cond (Region.binds .any e) (e.on :: t.getD e.on []) []).eraseDups]) t).length=t.length+r.length:=by
    intro r
    induction r with
    | nil=>intro t;simp
    | cons o r ih=>intro t;rw[aqx,ih];simp;omega
   have h1:(pV ops).length=ops.length:=by rw[pV,hlen];simp
   rw[aoO,apq (by rw[h1];exact List.getElem?_eq_none_iff.1 ho)] at hp
   cases hp
  | some o =>
   obtain⟨e,h1,h2,h3⟩:=zM ops k o ho p hp
   have h4:=hX k o ho hk e h1 h2
   rcases h3 with h3|h3
   ·rw[h3];exact h4
   ·exact ih e.on (uK k o ho e h1 h2) h4 p h3
theorem HC{ops:List Oper}{X:Nat->Prop}(uK:∀ (i:Nat) (o:Oper),ops[i]?=some o->∀ e,e∈o.after.toList->Region.binds .any e=true->e.on<i)
  (hX:∀ (i:Nat) (o:Oper),ops[i]?=some o->X i->∀ e,e∈o.after.toList->Region.binds .any e=true->X e.on)
  {k:Nat} {o:Oper} (ho:ops[k]?=some o) (hr:∀ e,e∈o.after.toList->Region.binds .any e=true->X e.on):∀ p,p∈(pV ops).getD k []->X p:=by
 intro p hp
 obtain⟨e,h1,h2,h3⟩:=zM ops k o ho p hp
 rcases h3 with h3|h3
 ·rw[h3];exact hr e h1 h2
 ·exact ve uK hX e.on (hr e h1 h2) p h3
section
variable {G:Nat->List AV}{cf:dK}
theorem Kw{pc:Bool}{op:gA}{s:AS}{r:AV × Option AS}(h:aA G cf s (fm pc op)=some r):aA G cf s op=some r:=by
 cases op<;>try exact h
 rename_i f xs
 cases pc with
 | false=>exact h
 | true =>
  simp only[fm,cond_true,aA] at h ⊢
  split at h
  ·obtain⟨h0,h⟩:=ag h
   simp only[anU] at h
   obtain⟨⟨v,c⟩,h1,h⟩:=h
   simp only[h0,cond_true,h1,aoi]
   cases c with
   | none=>exact h
   | some c=>cases h
  ·cases h
theorem DI{pc:Bool}{o:aO}{s s1:AS}(h:bj G cf false s (jP pc o)=some s1):bj G cf false s o=some s1:=by
 rw[w9] at h
 have run:((aA G cf s (fm pc o.op)).bind fun r=>match r.2 with
   | none=>cond (false&&(bB r.1).isSome) none (some (s.bW o.dst r.1))
   | some s'=>cond false none (some (s'.bW o.dst r.1)))=some s1->((aA G cf s o.op).bind fun r=>match r.2 with
   | none=>cond (false&&(bB r.1).isSome) none (some (s.bW o.dst r.1))
   | some s'=>cond false none (some (s'.bW o.dst r.1)))=some s1:=by
  intro h
  simp only[anU] at h
  obtain⟨r,hr,h⟩:=h
  rw[Kw hr]
  exact h
 unfold bj at h ⊢
 cases Aj:o.guard with
 | none=>simp only[Aj] at h ⊢;exact run h
 | some gw =>
  obtain⟨g,w⟩:=gw
  simp only[Aj] at h ⊢
  generalize s.T g=X at h ⊢
  cases X with
  | bool b =>
   simp only at h ⊢
   cases hb:(b==w) with
   | true=>rw[hb] at h;simp only[cond_true] at h ⊢;exact run h
   | false=>rw[hb] at h;exact h
  | tuple vs=>cases vs with
   | nil=>exact h
   | cons v vs=>cases h
  | _=>cases h
theorem Db{mode pc:Bool}{is:List aO}{L:List Nat} : ∀ (l:List aO) (s s' : AS),fX G cf false (inter mode pc is L l) s=some s' ->
  ∃ S:Nat->AS,S 0=s/\S l.length=s'/\∀ (i:Nat) (o:aO),l[i]?=some o->(∀ c y,wF mode is L o.op=some (c,y)->(∀ g w,o.guard=some (g,w)->(S i).T g=.bool w)->gC c (y.addr G (S i).T)=true) /\
   bj G cf false (S i) (jP pc o)=some (S (i+1)):=by
 intro l
 induction l with
 | nil =>
  intro s s' h
  simp only[inter,fX,anV] at h
  exact⟨fun _=>s,rfl,h,fun i o hi=>by simp at hi⟩
 | cons o l ih =>
  intro s s' h
  have body:∀ s1,bj G cf false s (jP pc o)=some s1->fX G cf false (inter mode pc is L l) s1=some s'->(∀ c y,wF mode is L o.op=some (c,y)->(∀ g w,o.guard=some (g,w)->s.T g=.bool w)->gC c (y.addr G s.T)=true) ->
    ∃ S:Nat->AS,S 0=s/\S (o :: l).length=s'/\∀ (i:Nat) (o' : aO),(o :: l)[i]?=some o'->(∀ c y,wF mode is L o'.op=some (c,y)->(∀ g w,o'.guard=some (g,w)->(S i).T g=.bool w)->gC c (y.addr G (S i).T)=true) /\
     bj G cf false (S i) (jP pc o')=some (S (i+1)):=by
   intro s1 h1 h2 h3
   obtain⟨S,a,b,c⟩:=ih s1 s' h2
   refine⟨fun i=>match i with|0=>s|i+1=>S i,rfl,b,fun i o' hi=>?_⟩
   cases i with
   | zero =>
    simp only[aor,anV] at hi
    subst hi
    exact⟨h3,by rw[h1];exact apK some a.symm⟩
   | succ i=>exact c i o' (by simpa using hi)
  simp only[inter] at h
  split at h
  ·rename_i c x hk
   simp only[fX,anU] at h
   obtain⟨s0,h0,s1,h1,h2⟩:=h
   have Af:s0=s/\((∀ g w,o.guard=some (g,w)->s.T g=.bool w)->gC c (x.addr G s.T)=true):=by
    have run:((aA G cf s (.Af c x)).bind fun r=>match r.2 with
      | none=>cond (false&&(bB r.1).isSome) none (some (s.bW none r.1))
      | some s'=>cond false none (some (s'.bW none r.1)))=some s0->s0=s/\gC c (x.addr G s.T)=true:=by
     intro h
     simp only[aA] at h
     cases hc:gC c (x.addr G s.T) with
     | false=>rw[hc] at h;cases h
     | true=>rw[hc] at h;simp[AS.bW] at h;exact⟨h.symm,rfl⟩
    unfold bj at h0
    cases Aj:o.guard with
    | none=>simp only[Aj] at h0;exact⟨(run h0).1,fun _=>(run h0).2⟩
    | some gw =>
     obtain⟨g,w⟩:=gw
     simp only[Aj] at h0
     generalize hX:s.T g=X at h0
     cases X with
     | bool b =>
      simp only at h0
      cases hb:(b==w) with
      | true=>rw[hb] at h0;exact⟨(run h0).1,fun _=>(run h0).2⟩
      | false =>
       rw[hb] at h0
       simp only[anZ,AS.bW,anV] at h0
       refine⟨h0.symm,fun hg=>?_⟩
       have:=hg g w rfl
       rw[hX] at this
       injection this with this
       subst this
       simp at hb
     | tuple vs =>
      cases vs with
      | nil =>
       simp only[AS.bW,anV] at h0
       refine⟨h0.symm,fun hg=>?_⟩
       have:=hg g w rfl
       rw[hX] at this
       cases this
      | cons v vs=>cases h0
     | _=>cases h0
   obtain⟨rfl,ahN⟩:=Af
   refine body s1 h1 h2 (fun c' y qj=>?_)
   rw[hk] at qj
   injection qj with qj
   injection qj with e1 e2
   subst e1 e2
   exact ahN
  ·rename_i hk
   simp only[fX,anU] at h
   obtain⟨s1,h1,h2⟩:=h
   exact body s1 h1 h2 (fun c' y qj=>by rw[hk] at qj;cases qj)
theorem yH{mode pc:Bool}{is:List aO}{L:List Nat} : ∀ {l:List aO} {es:List rB},oA mode pc is L l=some es->es.length=l.length/\∀ (i:Nat) (o:aO),l[i]?=some o->FV mode pc is L o=some (es.getD i default)
 | [],es,h=>by simp[oA] at h;subst h;exact⟨rfl,fun i o hi=>by simp at hi⟩
 | o :: l,es,h=>by
  simp only[oA,anU,anT] at h
  obtain⟨e,he,vm,h',rfl⟩:=h
  obtain⟨h1,h2⟩:=yH h'
  refine⟨by simp[h1],fun i o' hi=>?_⟩
  cases i with
  | zero=>simp only[aor,anV] at hi;subst hi;simpa using he
  | succ i=>simpa using h2 i o' (by simpa using hi)
theorem Ge{s s1:AS}{o:aO}(h:bj G cf false s o=some s1):∃ z s2,nr G cf false s o=some (z,s2)/\s1=s2.bW o.dst z:=by
 have run:((aA G cf s o.op).bind fun r=>match r.2 with
   | none=>cond (false&&(bB r.1).isSome) none (some (s.bW o.dst r.1))
   | some s'=>cond false none (some (s'.bW o.dst r.1)))=some s1->∃ z s2,((aA G cf s o.op).bind fun r=>match r.2 with
   | none=>cond (false&&(bB r.1).isSome) none (some (r.1,s))
   | some s'=>cond false none (some (r.1,s')))=some (z,s2)/\s1=s2.bW o.dst z:=by
  intro h
  simp only[anU] at h
  obtain⟨⟨z,so⟩,hr,h⟩:=h
  rw[hr]
  cases so with
  | none=>simp at h;exact⟨z,s,rfl,h.symm⟩
  | some s2=>simp at h;exact⟨z,s2,rfl,h.symm⟩
 unfold bj at h
 unfold nr
 cases Aj:o.guard with
 | none=>simp only[Aj] at h ⊢;exact run h
 | some gw =>
  obtain⟨g,w⟩:=gw
  simp only[Aj] at h ⊢
  generalize s.T g=X at h ⊢
  cases X with
  | bool b =>
   simp only at h ⊢
   cases hb:(b==w) with
   | true=>rw[hb] at h;simp only[cond_true] at h ⊢;exact run h
   | false=>rw[hb] at h;simp only[anZ,anV] at h ⊢;exact⟨_,_,rfl,h.symm⟩
  | tuple vs=>cases vs with
   | nil=>simp only[anV] at h ⊢;exact⟨_,_,rfl,h.symm⟩
   | cons v vs=>cases h
  | _=>cases h
end
section
variable {P:Program}{G:Nat->List AV}{base nt:Nat}{L:List Nat}{gh:Gh}{w w' : World}{a:Act}{s:AS}{H:ai}
theorem FJ{cf:dK}(jK:fD P G cf){H0:ai}{iP:Gh}{w0:World}{cz locals muts:List Nat}{ops:Array Oper}(y7:∀ x,x∈locals->x∈L)(xM:∀ x,x∈muts->x∈L)(Q:Exit->Act->World->Prop)
  {is:List aO} {mode pc:Bool} {M:List Nat} {es:List rB} (hI:Inv G base nt L H0 iP w0 s gh w a) (hc:gN P cz locals muts nt ops ops.toList=some is) (hes:oA mode pc is M is=some es) (tD:rq ops.toList es=true)
  {s' : AS} (he:fX G cf false (inter mode pc is M is) s=some s')
  (hQ:∀ a' aX w',Inv G base nt L H0 iP w0 s' aX w' a'->Q .normal a' w'):wpAny P .any ops Q ops.size (Array.replicate ops.size false) a w:=by
 obtain⟨S,h0,hn,hS⟩:=Db is s s' he
 obtain⟨hlen,GH⟩:=jn hc
 obtain⟨ajU,aeF⟩:=yH hes
 have iF:ops.size=is.length:=by simpa using hlen
 let E:Nat->rB:=fun i=>es.getD i default
 simp only[rq,an7,an'] at tD
 obtain⟨hb0,tD⟩:=tD
 have uK:∀ (i:Nat) (o:Oper),ops.toList[i]?=some o->∀ e,e∈o.after.toList->Region.binds .any e=true->e.on<i:=by
  intro i o hi e he hb
  have:=hb0 (o,i) (by rw[ap5];exact⟨i,by rw[ap',hi];simp⟩)
  rw[aqq] at this
  have:=this e (by simpa using he)
  simpa [hb,aoE] using this
 have YM:∀ i j,j<i->i<is.length->conflict (E i) (E j)=true->j∈(pV ops.toList).getD i []:=by
  intro i j tB hi jK
  have gi:es[i]?=some (E i):=by
   have:i<es.length:=by omega
   simp[E,this]
  have gj:es[j]?=some (E j):=by
   have:j<es.length:=by omega
   simp[E,this]
  have:=tD (E i,i) (by rw[ap5];exact⟨i,by rw[ap',gi];simp⟩) (E j,j) (by rw[ap5];exact⟨j,by rw[ap',gj];simp⟩)
  simp only[jK,show Nat.blt j i=true by simpa [aoE] using tB,aoe,aog,aop] at this
  simpa using this
 have uO:∀ i,i<is.length->∃ io,is[i]?=some io:=fun i hi=>⟨_,an3 hi⟩
 have Oq:∀ (e:rB) (q:AS),Zt e q q:=fun e q=>⟨fun _ _=>rfl,fun _=>⟨rfl,rfl⟩,fun _=>rfl⟩
 have hK:Of S E is.length:=by
  have mv:∀ j,j<is.length->gB (E j) (S (j+1)) (S j) (S (j+1)):=by
   intro j hj
   obtain⟨io,hi⟩:=uO j hj
   obtain⟨x1,h1,h2,_⟩:=zx (aeF j io hi) (hS j io hi).1 (hS j io hi).2 (Oq _ (S j))
   rw[DI (hS j io hi).2] at h1
   injection h1 with h1
   rw[<- h1] at h2
   exact h2
  refine⟨fun t j hj hw=>(mv j hj).T' t hw,fun j hj hw=>?_,fun j hj hw=>(mv j hj).G' (by simpa using hw)⟩
  have:=(mv j hj).H' (by simpa using hw)
  simp only[this]
 have fin:∀ (listed:Array Bool) (x:AS),listed.size=ops.size->(∀ i,i<ops.size->listed.getD i false=true)->sO S E (fun i=>listed.getD i false=true) x->x=s':=by
  intro listed x hls fH hB
  rw[<- hn]
  refine IC hK hB (fun i=>⟨fun h=>?_,fun h=>fH i (by omega)⟩)
  have bA:i<listed.size:=by
   rcases apL i listed.size with h'|h'
   ·exact h'
   ·simp[apG h'] at h
  omega
 have main:∀ (n:Nat) (listed:Array Bool) (x:AS) (gh:Gh) (w:World) (a:Act),listed.size=ops.size->(∀ l:List Nat,l.Nodup->(∀ i,i∈l->i<ops.size/\listed.getD i true=false)->l.length<=n) ->
   (∀ j o,ops[j]?=some o->listed.getD j false=true->∀ e,e∈o.after->Region.binds .any e=true->listed.getD e.on false=true) ->
   sO S E (fun i=>listed.getD i false=true) x->Inv G base nt L H0 iP w0 x gh w a->wpAny P .any ops Q n listed a w:=by
  intro n
  induction n with
  | zero =>
   intro listed x gh w a hls JE pQ hB hI
   have fH:∀ i,i<ops.size->listed.getD i false=true:=by
    intro i hi
    cases hb:listed.getD i true with
    | true =>
     have:i<listed.size:=by omega
     simpa [this] using hb
    | false =>
     have:=JE [i] (by simp) (fun j hj=>by simp at hj;subst hj;exact⟨hi,hb⟩)
     simp at this
   have tE:Region.ready .any ops listed=[]:=by
    cases hr:Region.ready .any ops listed with
    | nil=>rfl
    | cons i r =>
     have hm:i∈Region.ready .any ops listed:=by rw[hr];exact aox
     obtain⟨h1,o,h2,_⟩:=mem_ready.1 hm
     have bA:=(aob.1 h2).1
     have:=fH i bA
     have nO:i<listed.size:=by omega
     simp[nO] at this h1
     rw[this] at h1
     cases h1
   refine⟨tE,?_⟩
   rw[fin listed x hls fH hB] at hI
   exact hQ a gh w hI
  | succ n ih =>
   intro listed x gh w a hls JE pQ hB hI
   refine⟨fun tE=>?_,fun i hi=>?_⟩
   ·have fH:∀ i,i<ops.size->listed.getD i false=true:=by
     intro i
     induction i using Nat.strongRecOn with
     | _ i Ii =>
      intro bA
      have nO:i<listed.size:=by omega
      cases hb:listed.getD i true with
      | true=>simpa [nO] using hb
      | false =>
       exfalso
       have ho:=aok bA
       have:i∈Region.ready .any ops listed:=mem_ready.2 ⟨hb,_,ho,fun e he oZ=>by
        have PN:=uK i _ (by rw[aoL];exact ho) e (by simpa using he) oZ
        exact Ii e.on PN (by omega)⟩
       rw[tE] at this
       cases this
    rw[fin listed x hls fH hB] at hI
    exact hQ a gh w hI
   ·obtain⟨jj,o,ho,y8⟩:=mem_ready.1 hi
    have bA:=(aob.1 ho).1
    have nO:i<listed.size:=by omega
    obtain⟨io,uO,bY⟩:=GH i o (by simpa using ho)
    have M1:¬ (listed.getD i false=true):=by
     simp[nO] at jj ⊢
     exact jj
    have GG:∀ (j:Nat) (o:Oper),ops.toList[j]?=some o->listed.getD j false=true->∀ e,e∈o.after.toList->Region.binds .any e=true->listed.getD e.on false=true :=
     fun j o ho h e he hb=>pQ j o (by simpa using ho) h e (by simpa using he) hb
    have ready:=HC (X:=fun i=>listed.getD i false=true) uK GG (k:=i) (o:=o) (by simpa using ho) (fun e he hb=>y8 e (by simpa using he) hb)
    have later:∀ j,i<j->conflict (E j) (E i)=true->¬ (listed.getD j false=true):=by
     intro j xO hcj hj
     have hjs:j<is.length:=by
      rcases apL j listed.size with h'|h'
      ·omega
      ·simp[apG h'] at hj
     exact M1 (ve (X:=fun i=>listed.getD i false=true) uK GG j hj i (YM j i xO hjs hcj))
    have hA:Zt (E i) (S i) x:=IB hK (by omega) hB M1 (fun j hj hcj=>ready j (YM i j hj (by omega) hcj)) later
    obtain⟨x1,uR,hM,_⟩:=zx (aeF i io uO) (hS i io uO).1 (hS i io uO).2 hA
    obtain⟨z,s2,bV,rfl⟩:=Ge uR
    unfold wpOp
    rw[ho]
    refine pd jK hI bY y7 xM bV _ Q (fun a' aX w' kT=>?_)
    rw[<- (j0 bY).2.2.1] at kT
    have AR:∀ j,(listed.setIfInBounds i true).getD j false=true↔(listed.getD j false=true\/j=i):=by
     intro j
     by_cases tB:i=j
     ·subst tB
      simp[nO]
     ·rw[getD_set_ne false tB]
      simp[apO tB]
    have hB':=Fl hB M1 later hM
    refine ih (listed.setIfInBounds i true) _ aX w' a' (by simpa using hls) (fun l Lo hl=>?_) (fun j o' rN hj e he oZ=>?_) ?_ kT
    ·have Ul:i∉l:=by
      intro hm
      have:=(hl i hm).2
      simp[nO] at this
     have:=JE (i :: l) (List.nodup_cons.2 ⟨Ul,Lo⟩) (fun j hj=>by
      rcases aoH.1 hj with rfl|hj
      ·exact⟨bA,jj⟩
      ·have h1:=hl j hj
       have tB:i≠j:=by rintro rfl;exact Ul hj
       rw[getD_set_ne true tB] at h1
       exact h1)
     simp at this
     omega
    ·rcases (AR j).1 hj with h|rfl
     ·exact (AR _).2 (.inl (pQ j o' rN h e he oZ))
     ·rw[ho] at rN
      injection rN with rN
      subst rN
      exact (AR _).2 (.inl (y8 e he oZ))
    ·have aaO:∀ j,(listed.getD j false=true\/j=i)↔(listed.setIfInBounds i true).getD j false=true:=fun j=>(AR j).symm
     exact⟨fun t=>sU aaO (hB'.T t),sU aaO hB'.H,sU aaO hB'.G⟩
 refine main ops.size _ s gh w a (by simp) (fun l Lo hl=>?_) (fun j o hj h=>?_) ?_ hI
 ·exact wc ops.size l Lo (fun i hi=>(hl i hi).1)
 ·exfalso
  have:(Array.replicate ops.size false).getD j false=false:=by
   by_cases h:j<ops.size<;>simp[h]
  rw[this] at h
  cases h
 ·have nN:∀ i,¬ ((Array.replicate ops.size false).getD i false=true):=by
   intro i h
   have:(Array.replicate ops.size false).getD i false=false:=by
    by_cases h:i<ops.size<;>simp[h]
   rw[this] at h
   cases h
  rw[<- h0]
  exact Fk nN
end
theorem yC{draw:Bool}{L:List Nat}{ops:List Oper}{is:List aO}{c:bq}(h:cond draw (yB L ops is) none=some c) :
  draw=true/\∃ mode pc es,oA mode pc is L is=some es/\rq ops es=true/\c=.region false (inter mode pc is L is):=by
 cases draw with
 | false=>cases h
 | true =>
  refine⟨rfl,?_⟩
  simp only[cond_true,yB] at h
  obtain⟨_,h⟩:=ag h
  have one:∀ mode pc,Sz mode pc L ops is=some c->∃ mode pc es,oA mode pc is L is=some es/\rq ops es=true/\c=.region false (inter mode pc is L is):=by
   intro mode pc h
   simp only[Sz,anU] at h
   obtain⟨es,h1,h⟩:=h
   obtain⟨h2,h⟩:=ag h
   injection h with h
   exact⟨mode,pc,es,h1,h2,h.symm⟩
  split at h
  ·rename_i c' hc;injection h with h;subst h;exact one _ _ hc
  ·split at h
   ·rename_i c' hc
    injection h with h
    subst h
    cases hc7:L.elem 999997 with
    | true=>rw[hc7] at hc;cases hc
    | false=>rw[hc7] at hc;exact one _ _ hc
   ·cases hb:L.elem 999999 with
    | true=>rw[hb] at h;cases h
    | false=>rw[hb] at h;exact one _ _ h
end
end Go.Abs
