/-
  A part of the proof of SyntaxErrors: U24, U25, U26, U27, U28, U29, U30, U31, U32, U35, U36, U37, U38, U39, U40, U43, U44, UQ1, U45, UQ2, UQ3a, UQ3.
-/
import Derived.Test.YtbadnagdfefbnaaGreatDoorQ08
set_option linter.unusedSimpArgs false
set_option linter.unusedVariables false
set_option linter.defProp false
set_option maxHeartbeats 1000000
set_option maxRecDepth 100000
noncomputable section
namespace Go.Proofs.YtbadnagdfefbnaaGreatDoor
open Go Go.Abs Go.Proofs
variable {R:AS->Prop}{x:AV}{b:Bool}{k least many p p0:Int}{rows:List (List AV)}{cs:List AV}{g i j m mm z:Nat}{fn:aB}{T:aD}{w:ay}{Q:bH->AS->Prop}{a o:bS}
section
section
variable {t:Tm}{h:Nat}(hF:NC h t)(hO:Fb t)(hK:∀ u∈t.kids,uo u)(H:ae)
include hF hO hK
theorem alQ(hk:t.kind=10):∃ (ws:List (List ay)) (x:Tm),t.kids[0]?=some x/\2<=t.kids.length/\ws.length+1=t.kids.length/\t.names.length=2*ws.length /\
  (∀ (j:Nat) (p q:ay) (u:Tm),t.names[2*j]?=some p->t.names[2*j+1]?=some q->t.kids[j+1]?=some u->ws[j]?=some ([p,q,[45,62]]++af u)) /\
  af t=[[109,97,116,99,104]]++aL t.name++[[40]]++af x++[[41]]++[[123]]++au ws++[[125]]:=by
 have _:=hK;have Fu:=hF.kl;have h2:¬ t.kids.length<2:=fun aZ=>absurd rfl (gL hO (c1:=-2) (c2:=0) (by rw[hk];simp[bR,aZ])).1
 have hc:=gL hO (c1:=-1) (c2:=2*((t.kids.length:Int)-1)) (by rw[hk];simp[bR,h2])
 have uQ:=hc.2.2
 by_cases h3:t.kids.length=2
 ·obtain⟨x,y,gD⟩:=xz h3
  obtain⟨p,q,A1⟩:=xz (show t.names.length=2 by omega)
  refine⟨[[p,q,[45,62]]++af y],x,by rw[gD];rfl,ah,dq,dq,?_,?_⟩
  ·grind
  ·rw[bJ,hk,gD,A1];rfl
 ·obtain⟨x,y,z,gD⟩:=ME (show t.kids.length=3 by omega)
  obtain⟨p,q,r,s,A1⟩:∃ p q r s,t.names=[p,q,r,s]:=by
   have h4:t.names.length=4:=ah
   match hn:t.names,h4 with
   | [p,q,r,s],_=>exact⟨p,q,r,s,rfl⟩
  refine⟨[[p,q,[45,62]]++af y,[r,s,[45,62]]++af z],x,by rw[gD];rfl,ah,dq,dq,?_,?_⟩
  ·grind
  ·rw[bJ,hk,gD,A1]
   rfl
theorem aow(hk:t.kind=10):aj A 81 [.agg (aM t)] H=some (.slice (strs (af t)) true,none):=by
 obtain⟨ws,x,D8,h2,RG,uQ,gn,e⟩:=alQ hF hO hK hk;have Fu:=hF.kl;have hq:=vN t.name H (by have:=hF.a;omega)
 have hql:=lP t.name;have hxK:=hK x (avb D8);have dx:=hxK.d H;have lx:=hxK.len;have atx:=DU D8;rw[ai] at dx atx;have aiT:∀ i,i<ws.length->∃ p q u,t.names[2*i]?=some p/\t.names[2*i+1]?=some q/\t.kids[i+1]?=some u/\ws[i]?=some ([p,q,[45,62]]++af u):=by
  intro i hi;have h1:=au5 (l:=t.names) (i:=2*i) ah
  grind
 have IV:∀ x∈ws,x.length<=100003:=by
  intro y hy;obtain⟨i,hi⟩:=avu hy;obtain⟨p,q,u,_,_,h4,h5⟩:=aiT i (au7.1 hi).1;rw[hi] at h5;injection h5 with h5
  rw[h5];have:=(hK u (avb h4)).len
  grind
 have WZ:∀ i,(au (ws.take i)).length<=3*100004:=fun i=>by
  have h1:=jt (ws.take i) 100003 (fun x hx=>IV x (awm hx))
  grind
 have hlw:(au ws).length<=3*100004:=by have:=WZ ws.length;rwa [avL] at this
 have a1:aG false 1 16 (.slice [[.str [109,97,116,99,104]]] true) (.slice (strs (aL t.name)) true)=some (.slice (strs ([[109,97,116,99,104]]++aL t.name)) true):=cw (l:=[[109,97,116,99,104]]) dq;have b1:=mG ([[109,97,116,99,104]]++aL t.name) (af x) [40] [41] H dq ah true true;have b2:=mG ([[109,97,116,99,104]]++aL t.name++[[40]]++af x++[[41]]) (au ws) [123] [125] H dq ah true true;rw[e,ai];generalize [[109,97,116,99,104]]++aL t.name++[[40]]++af x++[[41]]++[[123]]++au ws++[[125]]=out at b2 ⊢;generalize [[109,97,116,99,104]]++aL t.name++[[40]]++af x++[[41]]=o1 at b1 b2;generalize [[109,97,116,99,104]]++aL t.name=o0 at a1 b1;refine cW xt.eq_1 ?_;refine nK1 hk ?_;refine cg ws.length 3 (fun i s=>∃ T,s=⟨T,H,H.length,1⟩/\T 1=.lbox 0 [.int .i64 10,.int .i64 t.n,.str t.name,.str t.field,.str t.wn,.slice (aH t.wk) false,.slice (aC t.kids) false,.slice (strs t.names) false]/\T 10=.slice (strs (au (ws.take i))) true/\T 11=.int .i64 ((i+1:Nat):Int))
  (fun s=>∃ T,s=⟨T,H,H.length,1⟩/\T 1=.lbox 0 [.int .i64 10,.int .i64 t.n,.str t.name,.str t.field,.str t.wn,.slice (aH t.wk) false,.slice (aC t.kids) false,.slice (strs t.names) false]/\T 10=.slice (strs (au ws)) true) (fun _=>False) ?_ ?_ (fun _ h=>h.elim) 0 _ (avB _) ?_
 ·rintro i st hi ⟨T,rfl,e1,e8,e9⟩
  by_cases aZ:i<ws.length
  ·obtain⟨p,q,u,n1,n2,k1,hw⟩:=aiT i aZ
   have hm:=hK u (avb k1);have du:=hm.d H;have lu:=hm.len;have atk:=DU k1;have acy:=iD n1;have acz:=iD n2;rw[ai] at du atk;have x1:(2:Int)*((i+1:Nat):Int)-2=((2*i:Nat):Int):=ah;have x2:(2:Int)*((i+1:Nat):Int)-1=((2*i+1:Nat):Int):=ah;have x3:((i+1:Nat):Int)+1=((i+1+1:Nat):Int):=ah;have RC:1<=i+1:=ah;generalize BV:i+1=i1 at e9 x1 x2 x3 k1 atk RC ⊢;generalize Li:2*i+1=i2 at x2 n2 acz;generalize hm3:2*i=i3 at x1 n1 acy;have nA:ws.take (i+1)=ws.take i++[[p,q,[45,62]]++af u]:=by rw[awv,hw];rfl
   have xq:=jg ([p,q,[45,62]]++af u) (ws.take i);rw[<- nA] at xq;have yD:=WZ i;rw[BV] at nA xq
   by_cases h0:i=0
   ·subst h0
    simp only[avY,awT] at xq e8;have a1:aG false 1 16 (.slice (strs (au [])) true) (.slice [[.str p],[.str q],[.str [45,62]]] true)=some (.slice (strs [p,q,[45,62]]) true):=cw (l:=[]) (m:=[p,q,[45,62]]) ag;have a2:aG false 1 16 (.slice (strs [p,q,[45,62]]) true) (.slice (strs (af u)) true)=some (.slice (strs ([p,q,[45,62]]++af u)) true):=cw dq;generalize [p,q,[45,62]]++af u=q2 at a2 xq;generalize [p,q,[45,62]]=q1 at a1 a2;refine nK6 e1 e8 e9 @cO (j3 x1 x2 atk) (j5 acy acz du a1 a2) ?_;exact⟨ah,_,rfl,fj e1,by rw[xq];exact nO0 tv,by first|exact nO0 tv|(simp(disch:=omega)only[dm,aa,simprocAttr];rw[<- x3])|(rw[<- x3];simp(disch:=omega)only[dm,aa,simprocAttr])⟩
   ·have dk:¬ (ws.take i=[]):=fun e=>by
     have:=awt List.length e
     rw[avU,List.length_nil] at this;omega
    rw[if_neg dk,<- avj] at xq;generalize au (ws.take i)=acc at e8 yD xq;have a0:aG false 1 16 (.slice (strs acc) true) (.slice [[.str [44]]] true)=some (.slice (strs (acc++[[44]])) true):=ga ah;have a1:aG false 1 16 (.slice (strs (acc++[[44]])) true) (.slice [[.str p],[.str q],[.str [45,62]]] true)=some (.slice (strs (acc++[[44]]++[p,q,[45,62]])) true):=cw (m:=[p,q,[45,62]]) dq;have a2:aG false 1 16 (.slice (strs (acc++[[44]]++[p,q,[45,62]])) true) (.slice (strs (af u)) true)=some (.slice (strs (acc++[[44]]++[p,q,[45,62]]++af u)) true):=cw dq;generalize acc++[[44]]++[p,q,[45,62]]++af u=q2 at a2 xq;generalize acc++[[44]]++[p,q,[45,62]]=q1 at a1 a2;generalize acc++[[44]]=q0 at a0 a1;refine nK6 e1 e8 e9 @cO (j4 x1 x2 atk acy) (j5 acz du a0 a1 a2) ?_;exact⟨ah,_,rfl,fj e1,by rw[xq];exact nO0 tv,by first|exact nO0 tv|(simp(disch:=omega)only[dm,aa,simprocAttr];rw[<- x3])|(rw[<- x3];simp(disch:=omega)only[dm,aa,simprocAttr])⟩
  ·rw[List.take_of_length_le ah] at e8
   refine nK3 e1 e9 @cO ?_;exact⟨_,rfl,fj e1,fj e8⟩
 ·rintro st ⟨T,rfl,e1,e8⟩
  exact vK8 e1 e8 hq a1 atx dx b1 b2
 ·exact⟨_,rfl,iJ,nO2 @au.eq_1 @strs.eq_1 tv,by simp(disch:=omega)only[dm,aa,simprocAttr];first|done|rfl⟩
end
end
def agk{t:Tm}{h:Nat}(hF:NC h t)(hO:Fb t)(hK:∀ u∈t.kids,uo u)(H:ae):aj A 81 [.agg (aM t)] H=some (.slice (strs (af t)) true,none):=by
 have hk:=zd hO
 rcases uT t.kind with e|e|e|e|e|e|e|e|e|e|e|e|e|e
 ·exact tk0 hF hO hK H e
 ·exact tk1 hF hO hK H e
 ·exact tk2 hF hO hK H e
 ·exact tk3 hF hO hK H e
 ·exact tk4 hF hO hK H e
 ·exact tk5 hF hO hK H e
 ·exact tk6 hF hO hK H e
 ·exact tk7 hF hO hK H e
 ·exact tk8 hF hO hK H e
 ·exact tk9 hF hO hK H e
 ·exact aow hF hO hK H e
 ·exact aox hF hO hK H e
 ·exact aoy hF hO hK H e
 ·omega
def Da{p:List ay × Int}{B:Nat}(h:p.1.length<=B):(fT p k).length<=B+2:=avz yX ah
def aay{B:Nat}(ns:List ay)(tl:List (List ay × Int))(h:∀ p∈tl,p.1.length<=B):(au (List.zipWith (fun s (x:List ay × Int)=>[s,[61]]++x.1) ns tl)).length<=tl.length*(B+3):=by
 have h1:=jt (List.zipWith (fun s (x:List ay × Int)=>[s,[61]]++x.1) ns tl) (B+2) (fun y hy=>by
  obtain⟨i,hi⟩:=avu hy;rw[axK] at hi;cases hs:ns[i]? with
  | none=>rw[hs] at hi;cases hi
  | some s =>
   cases hx:tl[i]? with
   | none=>rw[hs,hx] at hi;cases hi
   | some x =>
    rw[hs,hx] at hi;injection hi with hi
    rw[<- hi];have:=h x (avb hx)
    simp only[List.length_append,List.length_cons,List.length_nil];omega)
 have h2:(List.zipWith (fun s (x:List ay × Int)=>[s,[61]]++x.1) ns tl).length<=tl.length:=by rw[axS];omega
 exact avz h1 (avg _ h2)
def XX{B:Nat}(tl:List (List ay × Int))(h:∀ p∈tl,p.1.length<=B):(au (tl.map (·.1))).length<=tl.length*(B+1):=by
 have h1:=jt (tl.map (·.1)) B (fun y hy=>by obtain⟨x,hx,rfl⟩:=List.mem_map.1 hy;exact h x hx)
 rwa [List.length_map] at h1
def I8{B:Nat} : ∀ (ns:List ay) (tl:List (List ay × Int)),(∀ p∈tl,p.1.length<=B)->(au (jA ns tl)).length<=tl.length*(B+4)
 | [],[],_=>by simp[jA,au]
 | [],_ :: _,_=>by simp[jA,au]
 | [_],[],_=>by simp[jA,au]
 | [_],_ :: _,_=>by simp[jA,au]
 | _ :: _ :: _,[],_=>by simp[jA,au]
 | p :: q :: ns,y :: ys,h=>by
  have ih:=I8 ns ys (fun p hp=>h p (zo hp))
  have hy:=h y ag;rw[jA,List.length_cons,avV];cases he:jA ns ys with
  | nil=>simp only[au,List.length_append,List.length_cons,List.length_nil];omega
  | cons a r =>
   rw[he] at ih;simp only[au,List.length_append,List.length_cons,List.length_nil] at ih ⊢;omega
def Pq{n:Int}{a f:ay}{w:Wd}{ns:List ay}{tl:List (List ay × Int)}{B:Nat}(h:∀ p∈tl,p.1.length<=B)(hl:tl.length<=3)(hw:(bW w).length<=12):(gp k n a f w ns tl).length<=3*B+60:=by
 have hq:=lP a;have h1:=XX tl h;have h2:=aay ns tl h;have m1:tl.length*(B+1)<=3*(B+1):=avg _ hl;have m2:tl.length*(B+3)<=3*(B+3):=avg _ hl;unfold gp
 by_cases h0:k=0
 rw[if_pos h0];rotate_left;rw[if_neg h0]
 by_cases WV:k=1
 rw[if_pos WV];rotate_left;rw[if_neg WV]
 by_cases h2' : k=2
 rw[if_pos h2'];rotate_left;rw[if_neg h2']
 by_cases h3:k=3
 rw[if_pos h3];rotate_left;rw[if_neg h3]
 by_cases h4:k=4
 rw[if_pos h4];rotate_left;rw[if_neg h4]
 by_cases h5:k=5
 rw[if_pos h5];rotate_left;rw[if_neg h5]
 by_cases h6:k=6
 rw[if_pos h6];rotate_left;rw[if_neg h6]
 by_cases h7:k=7
 rw[if_pos h7];rotate_left;rw[if_neg h7]
 by_cases h8:k=8
 rw[if_pos h8];rotate_left;rw[if_neg h8]
 by_cases h9:k=9
 rw[if_pos h9];rotate_left;rw[if_neg h9]
 by_cases h10:k=10
 rw[if_pos h10];rotate_left;rw[if_neg h10]
 by_cases h11:k=11
 rw[if_pos h11];rotate_left;rw[if_neg h11]
 by_cases h12:k=12
 rw[if_pos h12];rotate_left;rw[if_neg h12];simp
 all_goals first|(split<;>first
   | (rename_i x ys;have hx:=h x ag;have ha:=I8 ns ys (fun p hp=>h p (zo hp));have hy:ys.length<=2:=(by simp only[List.length_cons] at hl;omega);have hm:ys.length*(B+4)<=2*(B+4):=avg _ hy;simp only[List.length_append,List.length_cons,List.length_nil];omega)
   | (simp only[List.length_append,List.length_cons,List.length_nil];omega)
   | (rename_i x;have hx:=h x ag;have hk7:=Da (k:=7) hx;simp only[List.length_append,List.length_cons,List.length_nil];omega)
   | (rename_i x y;have hx:=h x ag;have hy:=h y ag;have hky:=Da (k:=(cQ n).2+1) hy;have AY:=Da (k:=if (cQ n).2=3 then 4 else (cQ n).2) hx;simp only[List.length_append,List.length_cons,List.length_nil];omega)
   | (rename_i x y z;have hx:=h x ag;have hy:=h y ag;have hz:=h z ag;simp only[List.length_append,List.length_cons,List.length_nil];omega)
   | (rename_i x y z a;have hx:=h x ag;have hy:=h y ag;simp only[List.length_append,List.length_cons,List.length_nil];omega)
   | (rename_i x y p q;have hx:=h x ag;have hy:=h y ag;simp only[List.length_append,List.length_cons,List.length_nil];omega)
   | (rename_i x y z p q;have hx:=h x ag;have hy:=h y ag;have hz:=h z ag;simp only[List.length_append,List.length_cons,List.length_nil];omega)
   | (rename_i x y z p q r u;have hx:=h x ag;have hy:=h y ag;have hz:=h z ag;simp only[List.length_append,List.length_cons,List.length_nil];omega)
   | (rename_i x y s;have hx:=h x ag;have hy:=h y ag;simp only[List.length_append,List.length_cons,List.length_nil];omega))|(simp only[List.length_append,List.length_cons,List.length_nil];omega)
def bT:Nat->Nat
 | 0=>0
 | h+1=>3*bT h+60
def zu:∀ (h:Nat) (t:Tm),RP h t->(af t).length<=bT h
 | 0,t,hb=>by cases hb
 | h+1,t,hb=>by
  have hF:=hb.out;rw[bJ];refine Pq (B:=bT h) (fun p hp=>?_) (by rw[List.length_map];exact hF.kl) (mM 3 _ hF.w)
  obtain⟨u,hu,rfl⟩:=List.mem_map.1 hp;exact zu h u (hF.kb u hu)
def Sf{h:Nat}(hh:h<=6):bT h<=100000:=by
 have:h=0\/h=1\/h=2\/h=3\/h=4\/h=5\/h=6:=ah
 rcases this with rfl|rfl|rfl|rfl|rfl|rfl|rfl<;>decide
def K8:∀ (h:Nat) (t:Tm),h<=6->RP h t->az t=true->uo t
 | 0,t,_,hb,_=>by cases hb
 | h+1,t,hh,hb,hp=>by
  have hF:=hb.out;have hO:=vJ hp;have hK:∀ u∈t.kids,uo u:=fun u hu=>K8 h u ah (hF.kb u hu) (hO.kids u hu)
  exact⟨fun H=>agk hF hO hK H,avz (zu _ t hb) (Sf hh)⟩
def afU(a b:List ay)(H:ae)(o o' : Bool)(ha:a.length<=10000000):aj A 71 [.slice (strs a) false,.slice (strs b) false] H=some (.bool (a==b),none):=by
 refine cW ajb.eq_1 ?_;refine nE1 @bV ?_;refine jO ?_ ?_<;>intro hlen
 ·have dk:a≠b:=fun e=>by subst e;simp at hlen
  exact nE1 (show (a==b)=false by simpa using dk) tv
 have Gl:a.length=b.length:=by
  have:(a.length:Int)=b.length:=cY hlen
  omega
 refine nE0 ?_;refine vl a.length (fun i=>Hd (fun T=>T 0=.slice (strs a) false/\T 1=.slice (strs b) false/\T 5=.int .i64 i/\(a==b)=(a.drop i==b.drop i)) H H.length 0) ?_ 0 _ (avB _) ?_
 ·rintro i s hi hs
  obtain⟨T,rfl,h0,h1,h5,hc⟩:=hs.out;refine nE3 h0 h5 @bV ?_;refine jC ?_ ?_<;>intro h
  ·have kP:i<a.length:=ah
   have Bp:i<b.length:=ah;refine nE4 h0 h1 h5 (j2 (iD (au5 kP)) (iD (au5 Bp))) ?_;refine jO ?_ ?_<;>intro hb
   ·simp(disch:=omega)only[jq,aa,simprocAttr,hc,avr kP,avr Bp,List.cons_beq_cons,show (a[i]==b[i])=false by simpa using hb]
   ·refine nE3 h0 h1 h5 ?_
    exact⟨kP,by rw[hc,avr kP,avr Bp,List.cons_beq_cons,show (a[i]==b[i])=true by simpa using hb,avE]⟩
  ·have:i=a.length:=ah
   subst this;simp(disch:=omega)only[jq,aa,simprocAttr,hc,awB,show b.drop a.length=[] by rw[Gl,awB]]
 ·exact nE0 tv
def agj(a b:ay):Bool:=b==[41] || b==[93] || b==[44] || b==[46] || a==[40] || a==[91] || a==[46]
def aal(l:List ay)(i:Nat):ay:=if 1<=i/\i<l.length/\agj (l.getD (i-1) []) (l.getD i [])=false then [32] else []
def part(l:List ay)(i:Nat):List AV:=(List.range (l.length+1)).map fun j=>AV.str (if j<i then aal l j else [])
def vu{H:ae} : (H++[o])[H.length]?=some o:=ag
def Qi{H:ae} : (H++[o]).take H.length=H:=ag
def getD_at{α:Type}{l:List α}{d:α}(h:i<l.length):l.getD i d=l[i]:=by simp[List.getD,au5 h]
def JC{base t l off n:Nat}{s:AS}{ty:TypeId}(hr:fn.results=[.tmp t])(hm:fn.muts.elem 888888=true)(hT:s.T t=.sref l off n z)(hH:s.H[l]?=some (.box ty cs))(hl:base<=l)(hp:cs.all AV.plain=true)(xT:s.lo=base)(hn:fn.muts.elem 777777=false:=by rfl) :
  finish base fn s=some (.sref base off n z,some ⟨s.H.take base++[.bZ cs],s.lo⟩):=by
 have h1:kB base s=true:=by simp[kB,xT]
 have h2:Nat.ble base l=true:=by simpa [avv] using hl
 have h3:ml base fn s=some (.sref base off n z,some ⟨s.H.take base++[.bZ cs],s.lo⟩):=by
  unfold ml qI oR;rw[h1,hm,hr];simp only[cond_true,tj,iW,hT,aN,au9,hH,h2,hp,Bool.and_self]
 unfold finish;rw[h3,ave,uX hn]
def Ns{l:List ay} : (l.map AV.str).all AV.plain=true:=by simp[AV.plain]
structure Fd where
 name:ay
 wn:ay
 wk:List Wd
 jI:Int
variable {u:Fd}
structure Fm where
 kind:Int
 name:ay
 bQ:List Fd
 rn:ay
 rk:List Wd
 body:Tm
 layout:List ay
variable {f:Fm}
structure So where
 name:ay
 lH:List ay
 defs:List Fm
 head:List ay
 fin:ay
variable {so:So}
def fE(f:Fd):List AV:=[.str f.name,.str f.wn,.slice (aH f.wk) false,.int .i64 f.jI]
def cm(f:Fm):List AV:=[.int .i64 f.kind,.str f.name,.slice (f.bQ.map fE) false,.str f.rn,.slice (aH f.rk) false,
 .int .i64 f.body.kind,.int .i64 f.body.n,.str f.body.name,.str f.body.field,.str f.body.wn,.slice (aH f.body.wk) false,.slice (aC f.body.kids) false,.slice (strs f.body.names) false,.slice (strs f.layout) false]
def qt(s:So):List AV:=[.str s.name,.slice (strs s.lH) false,.slice (s.defs.map cm) false,.slice (strs s.head) false,.str s.fin]
structure FdB (f:Fd):Prop where
 a:f.name.length<=1100000
 w:Fe 3 (.mk f.wn f.wk)
 m:BD f.jI
structure FmB (f:Fm):Prop where
 k:0<=f.kind/\f.kind<=5
 a:f.name.length<=1100000
 sl:f.bQ.length<=4
 sb:∀ s∈f.bQ,FdB s
 w:Fe 3 (.mk f.rn f.rk)
 b:RP 5 f.body
 ll:f.layout.length<=20000
 lb:∀ s∈f.layout,s.length<=1100000
structure SoB (s:So):Prop where
 a:s.name.length<=1100000
 ul:s.lH.length<=1100000
 ub:∀ u∈s.lH,u.length<=1100000
 dl:s.defs.length<=3
 db:∀ f∈s.defs,FmB f
 hl:s.head.length<=20000
 hb:∀ u∈s.head,u.length<=1100000
 e:s.fin.length<=1100000
def Td{l:List Fd}{e:Fd}(h:l[i]?=some e):(l.map fE)[i]?=some (fE e):=by simp[h]
def ahx{l:List Fm}{e:Fm}(h:l[i]?=some e):(l.map cm)[i]?=some (cm e):=by simp[h]
def qk(n:ay)(ks:List Wd):Bool:=n==[]&&ks.isEmpty
def im(t:Tm):Bool:=t.kind==0&&(t.n==0&&(t.name==[]&&(t.field==[]&&(qk t.wn t.wk&&(t.names==[]&&t.kids.isEmpty)))))
def fW(k:Int)(f:Fd):Bool:=isWord f.name&&bY (.mk f.wn f.wk)&&decide (0<=f.jI)&&decide (f.jI<=1099511627776)&&(decide (k=4) || decide (f.jI=0))
def ij(f:Fm):Bool:=isWord f.name&&f.bQ.all (fW f.kind)&&bif decide (f.kind=0) || decide (f.kind=1) then qk f.rn f.rk&&im f.body else bY (.mk f.rn f.rk)&&az f.body
def cb(k:Int)(f:Fd):List ay:=[f.name]++bW (.mk f.wn f.wk)++(if k=4 then [jT f.jI.toNat] else [])
def j8(f:Fm):List ay:=[dJ.getD f.kind.toNat [],f.name,[40]]++au (f.bQ.map (cb f.kind))++[[41]]++(if f.kind=0\/f.kind=1 then [] else bW (.mk f.rn f.rk)++[[61]]++af f.body)
def heads(s:So):List ay:=[[109,111,100,117,108,101],s.name]++(s.lH.map fun u=>[[117,115,101],u]).flatten
def agw:aH []=[]:=by simp[aH]
def V6(n:ay)(ks:List Wd)(H:ae):aj A 94 [.agg [.str n,.slice (aH ks) false],.agg [.str [],.slice [] false]] H=some (.bool (qk n ks),none):=by
 refine cJ (fn:=aeC) rfl rfl rfl ?_;unfold aeC;cases h1:(n==[]) with
 | false=>exact nK2 h1 @qk.eq_1 tv
 | true =>
 cases ks with
 | cons k r =>
  have e:¬ (((aH (k :: r)).length:Int)=0):=by rw[iw,List.length_cons];omega
  simp(disch:=omega)only[aO,aa,simprocAttr,h1,qk,axu]
 | nil =>
  simp(disch:=omega)only[aO,aa,simprocAttr,h1,agw,qk,List.isEmpty_nil];refine cg 0 0 (fun i s=>HdG (fun T=>T 2=.lbox 0 [.str n,.slice [] false]/\T 5=.int .i64 0) H H.length s) (HdG (fun T=>True) H H.length) (fun _=>False) ?_ ?_ (fun _ h=>h.elim) 0 _ (Nat.le_refl _) ?_
  ·rintro i s hi hs
   obtain⟨T,g,rfl,e2,e5⟩:=hs.out;exact Lm e2 e5
  ·intro s hs
   obtain⟨T,g,rfl, -⟩:=hs.out;exact uj
  ·exact uj
def V5(t:Tm)(uQ:t.names.length<=10000000)(H:ae):aj A 47 [.agg (aM t),.agg [.int .i64 0,.int .i64 0,.str [],.str [],.str [],.slice [] false,.slice [] false,.slice [] false]] H=some (.bool (im t),none):=by
 have hw:=V6 t.wn t.wk H;have hs:=afU t.names [] H false false uQ;rw[mj] at hs;refine cJ (fn:=aer) rfl rfl rfl ?_;unfold aer;rw[ai];cases c1:(t.kind==0) with
 | false=>simp(disch:=omega)only[aO,aa,simprocAttr,c1,bne,im]
 | true =>
 cases c2:(t.n==0) with
 | false=>simp(disch:=omega)only[aO,aa,simprocAttr,c1,c2,bne,im]
 | true =>
 cases c3:(t.name==[]) with
 | false=>simp(disch:=omega)only[aO,aa,simprocAttr,c1,c2,c3,bne,im]
 | true =>
 cases c4:(t.field==[]) with
 | false=>simp(disch:=omega)only[aO,aa,simprocAttr,c1,c2,c3,c4,bne,im]
 | true =>
 cases c5:qk t.wn t.wk with
 | false=>simp(disch:=omega)only[aO,aa,simprocAttr,c1,c2,c3,c4,c5,hw,bne,im]
 | true =>
 cases c6:(t.names==[]) with
 | false=>simp(disch:=omega)only[aO,aa,simprocAttr,c1,c2,c3,c4,c5,c6,hw,hs,bne,im]
 | true =>
 cases hk:t.kids.isEmpty with
 | false =>
  have e:((t.kids.length:Int)==0)=false:=by
   simp_all
  simp(disch:=omega)only[aO,aa,simprocAttr,c1,c2,c3,c4,c5,c6,hw,hs,bne,hk,e,cO,im]
 | true =>
  have e:t.kids=[]:=axi.1 hk;rw[e];simp(disch:=omega)only[aO,aa,simprocAttr,c1,c2,c3,c4,c5,c6,hw,hs,bne,hk,aC,im];refine cg 0 0 (fun i s=>HdG (fun T=>T 2=.lbox 0 [.int .i64 t.kind,.int .i64 t.n,.str t.name,.str t.field,.str t.wn,.slice (aH t.wk) false,.slice [] false,.slice (strs t.names) false]/\T 5=.int .i64 0) H H.length s) (HdG (fun T=>True) H H.length) (fun _=>False) ?_ ?_ (fun _ h=>h.elim) 0 _ (Nat.le_refl _) ?_
  ·rintro i s hi hs
   obtain⟨T,g,rfl,e2,e5⟩:=hs.out;exact Lm e2 e5
  ·intro s hs
   obtain⟨T,g,rfl, -⟩:=hs.out;exact uj
  ·exact uj
def lQ{α:Type}{l:List α}{u:α}(h:l[i]?=some u):l.take (i+1)=l.take i++[u]:=by rw[awv,h];rfl
theorem Za(hb:FmB f)(H:ae):aj A 78 [.agg (cm f)] H=some (.bool (ij f),none):=by
 have hw:=qW f.name H (by have:=hb.a;omega)
 obtain⟨k0,k5⟩:=hb.k;have hr:=Ao 3 (.mk f.rn f.rk) H hb.w;rw[gX] at hr;have hpt:=GN 5 f.body H hb.b;have uQ:f.body.names.length<=10000000:=by have:=hb.b.out.nl;omega
 have hz:=V5 f.body uQ H;rw[ai] at hpt hz;refine cJ (fn:=aew) rfl rfl rfl ?_;rw[cm];unfold aew;cases hn:isWord f.name with
 | false =>
  have e:ij f=false:=by unfold ij;rw[hn];rfl
  exact vK3 hw hn e
 | true =>
 refine nK2 hw hn ?_;refine cg f.bQ.length 0 (fun i s=>∃ T g,s=⟨T,H,H.length,g⟩/\T 1=.lbox 0 [.int .i64 f.kind,.str f.name,.slice (f.bQ.map fE) false,.str f.rn,.slice (aH f.rk) false,.int .i64 f.body.kind,.int .i64 f.body.n,.str f.body.name,.str f.body.field,.str f.body.wn,.slice (aH f.body.wk) false,.slice (aC f.body.kids) false,.slice (strs f.body.names) false,.slice (strs f.layout) false]/\T 3=.int .i64 i/\(f.bQ.take i).all (fW f.kind)=true)
  (fun s=>∃ T g,s=⟨T,H,H.length,g⟩/\T 1=.lbox 0 [.int .i64 f.kind,.str f.name,.slice (f.bQ.map fE) false,.str f.rn,.slice (aH f.rk) false,.int .i64 f.body.kind,.int .i64 f.body.n,.str f.body.name,.str f.body.field,.str f.body.wn,.slice (aH f.body.wk) false,.slice (aC f.body.kids) false,.slice (strs f.body.names) false,.slice (strs f.layout) false]/\f.bQ.all (fW f.kind)=true) (fun s=>fin H.length [.tmp 2] s=some (.bool (ij f),none)) ?_ ?_ ?_ 0 _ (avB _) ?_
 ·rintro i s hi ⟨T,g,rfl,e1,e3,ft⟩
  by_cases aZ:i<f.bQ.length
  ·have hx:=au5 aZ
   have hm:=avx aZ;have nA:=lQ hx;generalize f.bQ[i]=u at hx hm nA;have gn:=Td hx;rw[fE] at gn;have hu:=hb.sb u hm;obtain⟨m0,m1⟩:=hu.m;have hwu:=qW u.name H (by have:=hu.a;omega)
   have On:=Ao 3 (.mk u.wn u.wk) H hu.w;rw[gX] at On;have iS:fW f.kind u=false->ij f=false:=by
    intro h;have:f.bQ.all (fW f.kind)=false:=by rw[List.all_eq_false];exact⟨u,hm,by rw[h];decide⟩
    unfold ij;rw[this,Bool.and_false];rfl
   have hgo:fW f.kind u=true->(f.bQ.take (i+1)).all (fW f.kind)=true:=by
    grind
   unfold fW at iS hgo;have hf4:f.bQ.length<=4:=hb.sl;cases a1:isWord u.name with
   | false =>
    have e:=iS (by simp[a1])
    exact vK6 e1 e3 gn hwu a1 e
   | true =>
   cases a2:bY (.mk u.wn u.wk) with
   | false =>
    have e:=iS (by simp[a1,a2])
    exact vK8 e1 e3 gn hwu On a1 a2 e
   | true =>
   by_cases a3:u.jI<0
   ·have e:=iS (by simp[show ¬ 0<=u.jI by omega])
    exact vK8 e1 e3 gn hwu On a1 a2 e
   by_cases a4:1099511627776<u.jI
   ·have e:=iS (by simp[show ¬ u.jI<=1099511627776 by omega])
    exact vK8 e1 e3 gn hwu On a1 a2 e
   by_cases a5:f.kind=4
   ·have e:=hgo (by simp[a1,a2,a5];omega)
    refine nK6 e1 e3 gn hwu On (j2 a1 a2) ?_;exact⟨aZ,_,_,rfl,fj e1,iJ,e⟩
   by_cases a6:u.jI=0
   ·have e:=hgo (by simp[a1,a2,a6])
    refine nK6 e1 e3 gn hwu On (j2 a1 a2) ?_;exact⟨aZ,_,_,rfl,fj e1,iJ,e⟩
   ·have e:=iS (by simp[a5,a6])
    exact vK8 e1 e3 gn hwu On a1 a2 e
  ·refine nK2 e1 e3 ?_
   exact⟨_,_,rfl,fj e1,by rw[<- ft,List.take_of_length_le (by omega)]⟩
 ·rintro s ⟨T,g,rfl,e1,ft⟩
  have hp:ij f=bif decide (f.kind=0) || decide (f.kind=1) then qk f.rn f.rk&&im f.body else bY (.mk f.rn f.rk)&&az f.body:=by
   unfold ij;rw[hn,ft];rfl
  by_cases b0:f.kind=0\/f.kind=1
  ·have e:ij f=(qk f.rn f.rk&&im f.body):=by
    rw[hp];rcases b0 with b|b<;>simp[b]
   rw[e];unfold qk;have hk:(f.kind==0)=true\/(f.kind==0)=false/\(f.kind==1)=true:=by
    rcases b0 with b|b
    ·exact .inl (by simp[b])
    ·exact .inr (by simp[b])
   rcases hk with hk|⟨hk,AY⟩
   ·cases d1:(f.rn==[]) with
    | false=>exact nK3 e1 hk d1 tv
    | true =>
    cases d2:f.rk.isEmpty with
    | false =>
     have e2:((f.rk.length:Int)==0)=false:=by
      cases h:f.rk with
      | nil=>rw[h] at d2;cases d2
      | cons a r=>simp;omega
     exact nK5 e1 hk d1 e2 @iw tv
    | true =>
     have e2:((f.rk.length:Int)==0)=true:=by rw[axi.1 d2];rfl
     exact nK6 e1 hk d1 e2 hz @iw tv
   ·cases d1:(f.rn==[]) with
    | false=>exact nK4 e1 hk AY d1 tv
    | true =>
    cases d2:f.rk.isEmpty with
    | false =>
     have e2:((f.rk.length:Int)==0)=false:=by
      cases h:f.rk with
      | nil=>rw[h] at d2;cases d2
      | cons a r=>simp;omega
     exact nK6 e1 hk AY d1 e2 @iw tv
    | true =>
     have e2:((f.rk.length:Int)==0)=true:=by rw[axi.1 d2];rfl
     exact nK6 e1 hk AY d1 e2 (j2 hz @iw) tv
  ·have e:ij f=(bY (.mk f.rn f.rk)&&az f.body):=by
    rw[hp,show (decide (f.kind=0) || decide (f.kind=1))=false by simpa using b0];rfl
   rw[e];have c0:f.kind≠0:=fun h=>b0 (.inl h)
   have c1:f.kind≠1:=fun h=>b0 (.inr h)
   cases a1:bY (.mk f.rn f.rk) with
   | false=>exact nK3 e1 hr a1 tv
   | true=>exact nK4 e1 hr hpt a1 tv
 ·intro s hs;exact hs
 ·exact⟨_,_,rfl,iJ,iJ,by simp⟩
def mi(f:Fm):List ay:=if ij f=true then j8 f else []
def aam(s:So):List ay:=if isWord s.name=true/\s.lH.all isWord=true then heads s else []
def UR(hb:FmB f):([[.str [114,101,99]],[.str [99,97,115,101]],[.str [102,117,110]],[.str [111,110]],[.str [116,101,115,116]],[.str [99,111,110,118]]]:List (List AV))[f.kind.toNat]?=some [.str (dJ.getD f.kind.toNat [])]:=by
 obtain⟨k0,k5⟩:=hb.k;have:f.kind.toNat=0\/f.kind.toNat=1\/f.kind.toNat=2\/f.kind.toNat=3\/f.kind.toNat=4\/f.kind.toNat=5:=ah
 rcases this with h|h|h|h|h|h<;>rw[h]<;>rfl
theorem CG(h:FdB u):(cb k u).length<=14:=by
 have:=mM 3 _ h.w
 unfold cb
 grind
theorem M9(h:ij f=true):(∀ u∈f.bQ,fW f.kind u=true)/\(f.kind=0\/f.kind=1\/(bY (.mk f.rn f.rk)=true/\az f.body=true)):=by
 unfold ij at h
 grind
theorem Gd(hb:FmB f):(j8 f).length<=10000:=by
 have h1:=jt (f.bQ.map (cb f.kind)) 14 (fun x hx=>by
  obtain⟨u,hu,rfl⟩:=List.mem_map.1 hx;exact CG (hb.sb u hu))
 have h2:=mM 3 _ hb.w;have h3:(af f.body).length<=7260:=zu 5 f.body hb.b;have h4:=hb.sl;rw[List.length_map] at h1;have h5:f.bQ.length*(14+1)<=60:=ah;unfold j8
 grind
theorem Io(hb:FmB f)(H:ae):aj A 32 [.agg (cm f)] H=some (.slice (strs (mi f)) (!(ij f) || !(decide (f.kind=0) || decide (f.kind=1))),none):=by
 have hp:=Za hb H;obtain⟨k0,k5⟩:=hb.k;refine cJ (fn:=aek) rfl rfl rfl ?_;rw[cm] at hp ⊢;unfold aek mi;cases hpf:ij f with
 | false =>
  rw[if_neg aI];exact vK3 hp hpf mj
 | true =>
 rw[if_pos rfl];obtain⟨qv,A2⟩:=M9 hpf;have adI:=UR hb;refine nK3 hp hpf adI ?_;generalize yN:([dJ.getD f.kind.toNat [],f.name,[40]]:List ay)=pre;have aiB:pre.length=3:=by rw[<- yN];rfl
 have hpc:([[.str (dJ.getD f.kind.toNat [])],[.str f.name],[.str [40]]]:List (List AV))=strs pre:=by rw[<- yN];rfl
 simp only[hpc];have Qj:j8 f=pre++au (f.bQ.map (cb f.kind))++[[41]]++(if f.kind=0\/f.kind=1 then [] else bW (.mk f.rn f.rk)++[[61]]++af f.body):=by unfold j8;rw[yN]
 have hlen:=Gd hb;have hf4:=hb.sl;refine cg f.bQ.length 0 (fun i s=>∃ T g,s=⟨T,H,H.length,g⟩/\T 1=.lbox 0 [.int .i64 f.kind,.str f.name,.slice (f.bQ.map fE) false,.str f.rn,.slice (aH f.rk) false,.int .i64 f.body.kind,.int .i64 f.body.n,.str f.body.name,.str f.body.field,.str f.body.wn,.slice (aH f.body.wk) false,.slice (aC f.body.kids) false,.slice (strs f.body.names) false,.slice (strs f.layout) false]/\T 4=.int .i64 i/\T 3=.slice (strs (pre++au ((f.bQ.take i).map (cb f.kind)))) true)
  (fun s=>∃ T g,s=⟨T,H,H.length,g⟩/\T 1=.lbox 0 [.int .i64 f.kind,.str f.name,.slice (f.bQ.map fE) false,.str f.rn,.slice (aH f.rk) false,.int .i64 f.body.kind,.int .i64 f.body.n,.str f.body.name,.str f.body.field,.str f.body.wn,.slice (aH f.body.wk) false,.slice (aC f.body.kids) false,.slice (strs f.body.names) false,.slice (strs f.layout) false]/\T 3=.slice (strs (pre++au (f.bQ.map (cb f.kind)))) true) (fun _=>False) ?_ ?_ (fun _ h=>h.elim) 0 _ (avB _) ?_
 ·rintro i s hi ⟨T,g,rfl,e1,e4,e3⟩
  by_cases aZ:i<f.bQ.length
  ·have hx:=au5 aZ
   have hm:=avx aZ;have nA:=lQ hx;generalize f.bQ[i]=u at hx hm nA;have gn:=Td hx;rw[fE] at gn;have hu:=hb.sb u hm;have On:=qv u hm;unfold fW at On;simp only[au6,avf,awx] at On;obtain⟨⟨⟨⟨u1,u2⟩,u3⟩,u4⟩,u5⟩:=On;have Qu:=IF 3 (.mk u.wn u.wk) H ah hu.w u2;have RG:=mM 3 _ hu.w;rw[gX] at Qu;have ah5:aj A 80 [.int .i64 u.jI] H=some (.str (jT u.jI.toNat),none):=by
    grind [Cy]
   have hs:=jg (cb f.kind u) ((f.bQ.take i).map (cb f.kind));have kZ:(f.bQ.take (i+1)).map (cb f.kind)=(f.bQ.take i).map (cb f.kind)++[cb f.kind u]:=by rw[nA];simp
   rw[<- kZ] at hs;have yD:(au ((f.bQ.take i).map (cb f.kind))).length<=45:=by
    have h1:=jt ((f.bQ.take i).map (cb f.kind)) 14 (fun x hx=>by
     obtain⟨v,hv,rfl⟩:=List.mem_map.1 hx;exact CG (hb.sb v (awm hv)))
    grind
   have step:∀ (base:List ay),base.length<=100->base++cb f.kind u=pre++au ((f.bQ.take (i+1)).map (cb f.kind)) ->
     aG false 1 16 (.slice (strs base) true) (.slice [[.str u.name]] true)=some (.slice (strs (base++[u.name])) true) /\
     aG false 1 16 (.slice (strs (base++[u.name])) true) (.slice (strs (bW (.mk u.wn u.wk))) true)=some (.slice (strs (base++[u.name]++bW (.mk u.wn u.wk))) true) /\
     (f.kind=4->aG false 1 16 (.slice (strs (base++[u.name]++bW (.mk u.wn u.wk))) true) (.slice [[.str (jT u.jI.toNat)]] true)=some (.slice (strs (pre++au ((f.bQ.take (i+1)).map (cb f.kind)))) true)) /\
     (f.kind≠4->base++[u.name]++bW (.mk u.wn u.wk)=pre++au ((f.bQ.take (i+1)).map (cb f.kind))):=by
    intro base yH he;refine⟨ga ah,cw dq,fun h4=>?_,fun h4=>?_⟩
    ·rw[<- he];unfold cb;rw[if_pos h4]
     grind [ga]
    ·rw[<- he];unfold cb;rw[if_neg h4]
     grind
   have P5:∀ (T' : aD) (g' : Nat),T' 1=.lbox 0 [.int .i64 f.kind,.str f.name,.slice (f.bQ.map fE) false,.str f.rn,.slice (aH f.rk) false,.int .i64 f.body.kind,.int .i64 f.body.n,.str f.body.name,.str f.body.field,.str f.body.wn,.slice (aH f.body.wk) false,.slice (aC f.body.kids) false,.slice (strs f.body.names) false,.slice (strs f.layout) false]->T' 4=.int .i64 ((i:Int)+1)->T' 3=.slice (strs (pre++au ((f.bQ.take (i+1)).map (cb f.kind)))) true ->
     i<f.bQ.length/\∃ T g,(⟨T',H,H.length,g'⟩:AS)=⟨T,H,H.length,g⟩/\T 1=.lbox 0 [.int .i64 f.kind,.str f.name,.slice (f.bQ.map fE) false,.str f.rn,.slice (aH f.rk) false,.int .i64 f.body.kind,.int .i64 f.body.n,.str f.body.name,.str f.body.field,.str f.body.wn,.slice (aH f.body.wk) false,.slice (aC f.body.kids) false,.slice (strs f.body.names) false,.slice (strs f.layout) false]/\T 4=.int .i64 ((i:Int)+1)/\T 3=.slice (strs (pre++au ((f.bQ.take (i+1)).map (cb f.kind)))) true :=
    fun T' g' q1 q2 q3=>⟨aZ,_,_,rfl,q1,q2,q3⟩
   by_cases h0:i=0
   ·subst h0
    simp only[avY,avN] at hs e3;rw[if_pos trivial] at hs;rw[show au ([]:List (List ay))=[] from rfl,List.append_nil] at e3
    obtain⟨a1,a2,a3,a4⟩:=step pre ah (by rw[hs])
    generalize pre++au ((f.bQ.take (0+1)).map (cb f.kind))=out at a3 a4 P5 ⊢;generalize pre++[u.name]++bW (.mk u.wn u.wk)=b2 at a2 a3 a4;generalize pre++[u.name]=b1 at a1 a2
    by_cases h4:f.kind=4
    ·have a3:=a3 h4
     refine nK6 e1 e3 e4 gn Qu (j4 ah5 a1 a2 a3) ?_;refine P5 _ _ ?_ ?_ ?_
     ·exact fj e1
     ·exact iJ
     ·exact iJ
    ·have a4:=a4 h4
     refine nK6 e1 e3 e4 gn Qu (j2 a1 a2) ?_;refine P5 _ _ ?_ ?_ ?_
     ·exact fj e1
     ·exact iJ
     ·exact fj a4
   ·have dk:¬ ((f.bQ.take i).map (cb f.kind)=[]):=fun e=>by
     have:=awt List.length e
     rw[List.length_map,avU,List.length_nil] at this;omega
    rw[if_neg dk] at hs;generalize au ((f.bQ.take i).map (cb f.kind))=acc at e3 yD hs;have a0:aG false 1 16 (.slice (strs (pre++acc)) true) (.slice [[.str [44]]] true)=some (.slice (strs (pre++acc++[[44]])) true):=ga dq;obtain⟨a1,a2,a3,a4⟩:=step (pre++acc++[[44]]) dq (by rw[hs];simp)
    generalize pre++au ((f.bQ.take (i+1)).map (cb f.kind))=out at a3 a4 P5 ⊢;generalize pre++acc++[[44]]++[u.name]++bW (.mk u.wn u.wk)=b2 at a2 a3 a4;generalize pre++acc++[[44]]++[u.name]=b1 at a1 a2;generalize pre++acc++[[44]]=b0 at a0 a1
    by_cases h4:f.kind=4
    ·have a3:=a3 h4
     refine nK6 e1 e3 e4 gn Qu (j5 ah5 a0 a1 a2 a3) ?_;refine P5 _ _ ?_ ?_ ?_
     ·exact fj e1
     ·exact iJ
     ·exact iJ
    ·have a4:=a4 h4
     refine nK6 e1 e3 e4 gn Qu (j3 a0 a1 a2) ?_;refine P5 _ _ ?_ ?_ ?_
     ·exact fj e1
     ·exact iJ
     ·exact fj a4
  ·rw[List.take_of_length_le ah] at e3
   refine nK2 e1 e4 ?_;exact⟨_,_,rfl,fj e1,fj e3⟩
 ·rintro s ⟨T,g,rfl,e1,e3⟩
  have Mk:(pre++au (f.bQ.map (cb f.kind))).length<=10000:=by
   rw[Qj,List.length_append,List.length_append] at hlen;omega
  have a1:aG false 1 16 (.slice (strs (pre++au (f.bQ.map (cb f.kind)))) true) (.slice [[.str [41]]] true)=some (.slice (strs (pre++au (f.bQ.map (cb f.kind))++[[41]])) true):=ga ah
  by_cases b0:f.kind=0\/f.kind=1
  ·rw[if_pos b0,List.append_nil] at Qj
   rw[<- Qj] at a1;have eo:(!(decide (f.kind=0) || decide (f.kind=1)))=false:=by rcases b0 with b|b<;>simp[b]
   rw[eo]
   rcases b0 with b|b<;>exact vK3 e1 e3 a1
  ·rw[if_neg b0] at Qj
   have eo:(!(decide (f.kind=0) || decide (f.kind=1)))=true:=cY b0;rw[eo];have c0:f.kind≠0:=fun h=>b0 (.inl h)
   have c1:f.kind≠1:=fun h=>b0 (.inr h)
   obtain⟨r1,r2⟩:bY (.mk f.rn f.rk)=true/\az f.body=true:=by
    rcases A2 with h|h|h
    ·exact absurd h c0
    ·exact absurd h c1
    ·exact h
   have Qu:=IF 3 (.mk f.rn f.rk) H ah hb.w r1;have kL:=(K8 5 f.body ah hb.b r2).d H;rw[gX] at Qu;rw[ai] at kL;have RG:=mM 3 _ hb.w;have ql:(af f.body).length<=7260:=zu 5 f.body hb.b;generalize bW (.mk f.rn f.rk)=w at Qu RG Qj;generalize af f.body=tt at kL ql Qj;generalize pre++au (f.bQ.map (cb f.kind))=b0 at a1 e3 Mk Qj;have a2:aG false 1 16 (.slice (strs (b0++[[41]])) true) (.slice (strs w) true)=some (.slice (strs (b0++[[41]]++w)) true):=cw dq;have a3:aG false 1 16 (.slice (strs (b0++[[41]]++w)) true) (.slice [[.str [61]]] true)=some (.slice (strs (b0++[[41]]++w++[[61]])) true):=ga dq;have a4:aG false 1 16 (.slice (strs (b0++[[41]]++w++[[61]])) true) (.slice (strs tt) true)=some (.slice (strs (b0++[[41]]++w++[[61]]++tt)) true):=cw dq;rw[show j8 f=b0++[[41]]++w++[[61]]++tt by rw[Qj];simp]
   generalize b0++[[41]]++w++[[61]]++tt=b5 at a4 ⊢;generalize b0++[[41]]++w++[[61]]=b4 at a3 a4;generalize b0++[[41]]++w=b3 at a2 a3;generalize b0++[[41]]=b1 at a1 a2;exact vK8 e1 e3 a1 a2 a3 a4 Qu kL
 ·exact⟨_,_,rfl,iJ,iJ,nO1 @au.eq_1 tv⟩
def VU{s:So}(hb:SoB s)(H:ae):aj A 31 [.agg (qt s)] H=some (.slice (strs (aam s)) (!(isWord s.name&&s.lH.all isWord)),none):=by
 have hw:=qW s.name H (by have:=hb.a;omega)
 have T9:=hb.ul;have hn:=Kp s.lH H ah (fun u hu=>by have:=hb.ub u hu;omega)
 refine cJ (fn:=aej) rfl rfl rfl ?_;rw[qt];unfold aej aam;cases h1:isWord s.name with
 | false =>
  rw[if_neg ag];exact vK3 hw h1 mj
 | true =>
 cases h2:s.lH.all isWord with
 | false =>
  rw[if_neg ag];exact vK5 hw h1 hn h2 mj
 | true =>
 rw[if_pos ⟨rfl,rfl⟩];refine nK5 hw h1 hn h2 @Bool.and_self ?_;unfold heads;generalize yN:([[109,111,100,117,108,101],s.name]:List ay)=pre;have aiB:pre.length=2:=by rw[<- yN];rfl
 have hpc:([[.str [109,111,100,117,108,101]],[.str s.name]]:List (List AV))=strs pre:=by rw[<- yN];rfl
 simp only[hpc];have ful:∀ l:List ay,((l.map fun u=>[[117,115,101],u]).flatten:List ay).length=2*l.length:=by
  intro l;induction l with
  | nil=>rfl
  | cons a r ih=>simp only[avm,avy,List.length_append,ih,List.length_cons,List.length_nil];omega
 refine cg s.lH.length 0 (fun i st=>∃ T g,st=⟨T,H,H.length,g⟩/\T 1=.lbox 0 [.str s.name,.slice (strs s.lH) false,.slice (s.defs.map cm) false,.slice (strs s.head) false,.str s.fin]/\T 4=.int .i64 i/\T 3=.slice (strs (pre++((s.lH.take i).map fun u=>[[117,115,101],u]).flatten)) true)
  (fun st=>∃ T g,st=⟨T,H,H.length,g⟩/\T 3=.slice (strs (pre++(s.lH.map fun u=>[[117,115,101],u]).flatten)) true) (fun _=>False) ?_ ?_ (fun _ h=>h.elim) 0 _ (avB _) ?_
 ·rintro i st hi ⟨T,g,rfl,e1,e4,e3⟩
  by_cases aZ:i<s.lH.length
  ·have hx:=au5 aZ
   have nA:=lQ hx;generalize s.lH[i]=u at hx nA;have gn:=iD hx;have hl:=ful (s.lH.take i);rw[avU] at hl;have kZ:pre++((s.lH.take (i+1)).map fun u=>[[117,115,101],u]).flatten=pre++((s.lH.take i).map fun u=>[[117,115,101],u]).flatten++[[117,115,101],u]:=by rw[nA];simp
   generalize ((s.lH.take i).map fun u=>[[117,115,101],u]).flatten=acc at e3 hl kZ
   have a1:aG false 1 16 (.slice (strs (pre++acc)) true) (.slice [[.str [117,115,101]],[.str u]] true)=some (.slice (strs (pre++acc++[[117,115,101],u])) true):=cw (m:=[[117,115,101],u]) dq;rw[<- kZ] at a1;refine nK6 e1 e3 e4 @bV gn a1 ?_;exact⟨aZ,_,_,rfl,fj e1,iJ,iJ⟩
  ·rw[List.take_of_length_le ah] at e3
   refine nK3 e1 e4 @bV ?_;exact⟨_,_,rfl,fj e3⟩
 ·rintro st ⟨T,g,rfl,e3⟩
  exact nD e3
 ·exact⟨_,_,rfl,by simp(disch:=omega)only[dm,aa,simprocAttr],by simp(disch:=omega)only[dm,aa,simprocAttr],by simp(disch:=omega)only[dm,aa,simprocAttr,awl]⟩
def HB{l:List Fd} : wm 4 (l.map fE):=⟨fun r hr=>by obtain⟨t,_,rfl⟩:=List.mem_map.1 hr;rfl,Al fun r hr=>by obtain⟨t,_,rfl⟩:=List.mem_map.1 hr;rfl⟩
def R4{l:List Fd}{o:Bool}(h:l.length<=10000000):aG false 4 64 (.slice (l.map fE) true) (.slice [[.str u.name,.str u.wn,.slice (aH u.wk) false,.int .i64 u.jI]] o)=some (.slice ((l++[u]).map fE) true):=by
 have e:([[.str u.name,.str u.wn,.slice (aH u.wk) false,.int .i64 u.jI]]:List (List AV))=[u].map fE:=rfl;rw[e,wV HB HB dq dq,List.map_append]
def N9{l:List Fm} : wm 14 (l.map cm):=⟨fun r hr=>by obtain⟨t,_,rfl⟩:=List.mem_map.1 hr;rfl,Al fun r hr=>by obtain⟨t,_,rfl⟩:=List.mem_map.1 hr;rfl⟩
def R5{l:List Fm}{o:Bool}(h:l.length<=10000000):aG false 14 248 (.slice (l.map cm) true) (.slice [[.int .i64 f.kind,.str f.name,.slice (f.bQ.map fE) false,.str f.rn,.slice (aH f.rk) false,
  .int .i64 f.body.kind,.int .i64 f.body.n,.str f.body.name,.str f.body.field,.str f.body.wn,.slice (aH f.body.wk) false,.slice (aC f.body.kids) false,.slice (strs f.body.names) false,.slice (strs f.layout) false]] o)=some (.slice ((l++[f]).map cm) true):=by
 have e:([[.int .i64 f.kind,.str f.name,.slice (f.bQ.map fE) false,.str f.rn,.slice (aH f.rk) false,
  .int .i64 f.body.kind,.int .i64 f.body.n,.str f.body.name,.str f.body.field,.str f.body.wn,.slice (aH f.body.wk) false,.slice (aC f.body.kids) false,.slice (strs f.body.names) false,.slice (strs f.layout) false]]:List (List AV))=[f].map cm:=rfl
 rw[e,wV N9 N9 dq dq,List.map_append]
def abV{l:List Fm} : ((l.map cm).map fun r=>r.map n1)=l.map cm:=by
 rw[awh];exact List.map_congr_left fun w _=>rfl
def qC:∀ L:List ay,chunks 1 L.length (L.map AV.str)=strs L
 | []=>rfl
 | a :: r=>by
  have:=qC r
  simp only[strs,List.length_cons,avm,chunks,avR,avY,awK,List.drop_zero] at this ⊢;rw[this]
def xh{l:List ay}{B:Nat}(h:∀ s∈l,s.length<=B)(i:Nat):(l.getD i []).length<=B:=by
 by_cases hi:i<l.length
 ·rw[getD_at hi];exact h _ (avx hi)
 ·simp[List.getD,List.getElem?_eq_none (Nat.le_of_not_lt hi)]
def nT{l:List ay}(h:i<l.length):(strs l)[i]?=some [.str (l.getD i [])]:=by rw[getD_at h];exact iD (au5 h)
structure RN (m:Nat) (f:Fm):Prop where
 k:0<=f.kind/\f.kind<=5
 a:f.name.length<=1100000
 sl:f.bQ.length<=3
 sb:∀ s∈f.bQ,FdB s
 w:Fe 3 (.mk f.rn f.rk)
 b:AF m 5 f.body
 ll:f.layout.length<=19000+m
 lb:∀ s∈f.layout,s.length<=1100000
structure Lo (m:Nat) (s:So):Prop where
 a:s.name.length<=1100000
 ul:s.lH.length<=2+m
 ub:∀ u∈s.lH,u.length<=1100000
 dl:s.defs.length<=3
 db:∀ f∈s.defs,RN m f
 hl:s.head.length<=19000
 hb:∀ u∈s.head,u.length<=1100000
 e:s.fin.length<=1100000
def RN.B(hm:m<=8)(h:RN m f):FmB f:=⟨h.k,h.a,by have:=h.sl;omega,h.sb,h.w,h.b.le hm _ _ _ (Nat.le_refl _),by have:=h.ll;omega,h.lb⟩
def Lo.B{s:So}(hm:m<=8)(h:Lo m s):SoB s:=⟨h.a,by have:=h.ul;omega,h.ub,h.dl,fun f hf=>(h.db f hf).B hm,by have:=h.hl;omega,h.hb,h.e⟩
structure SA (c:Cc) (so:So) (b:Bool) (T:aD):Prop where
 t2:T 2=.lbox 0 [.str [],.slice [] true,.slice [] true,.slice [] true,.str []]
 t3:T 3=.ref c.mm 0
 t5:T 5=.bool b
 t4:∃ g,T 4=.lbox g [.str so.name,.slice (strs so.lH) true,.slice (so.defs.map cm) true,.slice (strs so.head) true,.str so.fin]
def SmP(c:Cc)(K:ae)(b:Bool)(P:So->Prop)(s:AS):Prop:=∃ T p g so,s=⟨T,cX c p K,c.mm,g⟩/\SA c so b T/\Lo 4 so/\P so
structure FA (c:Cc) (so:So) (b:Bool) (many i:Int) (f:Fm) (T:aD):Prop where
 sa:SA c so b T
 t7:T 7=.int .i64 many
 t8:T 8=.int .i64 i
 t9:∃ g o1 o2 o3,T 9=.lbox g [.int .i64 f.kind,.str f.name,.slice (f.bQ.map fE) true,.str f.rn,.slice (aH f.rk) o1,.int .i64 f.body.kind,.int .i64 f.body.n,.str f.body.name,.str f.body.field,.str f.body.wn,.slice (aH f.body.wk) o2,.slice (aC f.body.kids) o2,.slice (strs f.body.names) o2,.slice (strs f.layout) o3]
def FmP(c:Cc)(K:ae)(so:So)(b:Bool)(many i:Int)(P:Fm->aD->Prop)(s:AS):Prop:=∃ T p g f,s=⟨T,cX c p K,c.mm,g⟩/\FA c so b many i f T/\RN 4 f/\P f T
theorem Ia{c:Cc}{K:ae}(h:CH c p0 K)(p n:Int)(hn:0<n):∃ x p',0<=x/\x<n/\aj A 34 [.ref c.mm 0,.int .i64 n] (cX c p K)=some (.int .i64 x,some ⟨cX c p' K,c.mm⟩):=by
 obtain⟨x,p',a,b,e⟩:=mL (h.set (p':=p)) n hn
 grind [bo]
theorem OJ{c:Cc}{K:ae}(h:CH c p0 K)(p:Int):∃ s p',s.length<=1100000/\aj A 33 [.ref c.mm 0] (cX c p K)=some (.str s,some ⟨cX c p' K,c.mm⟩):=by
 obtain⟨s,p',a,e⟩:=oE (h.set (p':=p))
 grind [bo,jc]
def abT{c:Cc}{K:ae}(h:CH c p0 K)(p:Int):∃ w p',Fe 3 w/\aj A 36 [.ref c.mm 0,.int .i64 2] (cX c p K)=some (.agg [.str w.name,.slice (aH w.kids) false],some ⟨cX c p' K,c.mm⟩):=by
 obtain⟨w,p',a,e⟩:=Ka 2 p (cX c p K) ah h.set;rw[bo,iA] at e;exact⟨w,p',WD ah a,e⟩
def G2{c:Cc} : ∀ d:Nat,d<=101->Ce c d
 | 0,_=>akt
 | d+1,h=>akv ah (G2 d ah)
def aca{c:Cc}{K:ae}(h:CH c p0 K)(p:Int)(d:Nat)(hd:d<=4):∃ t p',AF 4 5 t/\aj A 37 [.ref c.mm 0,.int .i64 d] (cX c p K)=some (.agg [.int .i64 t.kind,.int .i64 t.n,.str t.name,.str t.field,.str t.wn,.slice (aH t.wk) false,.slice (aC t.kids) false,.slice (strs t.names) false],some ⟨cX c p' K,c.mm⟩):=by
 obtain⟨t,p',a,e⟩:=G2 d ah p (cX c p K) h.set;rw[bo,ai] at e;exact⟨t,p',a.up (Nat.le_refl _) _ _ _ ah,e⟩
theorem ajl{c:Cc}{K:ae}(h:CH c p0 K)(p:Int)(n:Nat)(hn:n<=12000):∃ (x:Int) (b:ay) (out:List ay) (p1 p2:Int),out.length<=19000/\(∀ s∈out,s.length<=1100000) /\
  aj A 34 [.ref c.mm 0,.int .i64 1000] (cX c p K)=some (.int .i64 x,some ⟨cX c p1 K,c.mm⟩) /\
  aj A 15 [.int .i64 x,.int .i64 0] (cX c p1 K)=some (.str b,none)/\aj A 35 [.ref c.mm 0,.int .i64 n,.str b] (cX c p1 K)=some (.slice (strs out) true,some ⟨cX c p2 K,c.mm⟩):=by
 obtain⟨x,p1,x0,x1,e1⟩:=Ia h p 1000 ah;obtain⟨b,hb,e2⟩:=aa2 x 0 (cX c p1 K) (Gr x0 ah);obtain⟨out,p2,ol,ob,e3⟩:=UW (h.set (p':=p1)) n ah b hb
 grind [bo]
theorem Z2{c:Cc}{K:ae}(h:CH c p0 K)(hs:SA c so b T)(hG:Lo 4 so)(hu:so.lH=[])(hd:so.defs=[]) :
  W A ((ud.body.post 3).pre 0) ⟨T,cX c p K,c.mm,g⟩ (andThen (SmP c K b (fun Z3=>Z3.defs=[])) Q):=by
 obtain⟨q2,q3,q5,g4,q4⟩:=hs;unfold ud;simp only[aK.post,aK.pre];refine nK0 ?_;refine cg 2 0 (fun i s=>∃ T p g so,s=⟨T,cX c p K,c.mm,g⟩/\SA c so b T/\Lo 4 so/\so.defs=[]/\T 6=.int .i64 i/\so.lH.length=i)
  (SmP c K b (fun Z3=>Z3.defs=[])) (fun _=>False) ?_ (fun s hs=>hs) (fun _ h=>h.elim) 0 _ ah ?_
 ·rintro i s hi ⟨T,p,g,so,rfl,⟨q2,q3,q5,g4,q4⟩,hG,hd,q6,hl⟩
  obtain⟨x,p1,x0,x1,e1⟩:=Ia h p 3 ah
  by_cases hc:(i:Int)<x
  ·obtain⟨u,p2,ul,e2⟩:=OJ h p1
   have a1:aG false 1 16 (.slice (strs so.lH) true) (.slice [[.str u]] true)=some (.slice (strs (so.lH++[u])) true):=ga ah;simp(disch:=omega)only[aO,aa,simprocAttr,q3,q4,q6,e1,e2,a1,cS,cM,avD,avq,ab,aw8];refine⟨ah,_,_,_,{ so with lH:=so.lH++[u] },rfl,⟨?_,?_,?_,g4,?_⟩,⟨hG.a,dq,fun v hv=>?_,hG.dl,hG.db,hG.hl,hG.hb,hG.e⟩,hd,?_,by simp[hl]⟩
   ·exact fj q2
   ·exact fj q3
   ·exact fj q5
   ·exact iJ
   ·rcases au'.1 hv with hv|hv
    ·exact hG.ub v hv
    ·grind
   ·exact iJ
  ·refine nK4 q3 q6 e1 @Nat.lt_irrefl ?_
   refine⟨_,_,_,so,rfl,⟨?_,?_,?_,g4,?_⟩,hG,hd⟩
   ·exact fj q2
   ·exact fj q3
   ·exact fj q5
   ·exact fj q4
 ·refine⟨_,_,_,so,rfl,⟨?_,?_,?_,g4,?_⟩,hG,hd,?_,by rw[hu];rfl⟩
  ·exact fj q2
  ·exact fj q3
  ·exact fj q5
  ·exact fj q4
  ·exact iJ
def Z1{c:Cc}{K:ae}(h:CH c p0 K){s:AS}(hs:SmP c K b (fun Z3=>Z3.defs=[]) s) :
  W A ((ud.body.post 4).pre 1) s (andThen (fun s=>∃ n:Nat,n<=3/\s.T 7=.int .i64 n/\SmP c K b (fun Z3=>Z3.defs=[]) s) Q):=by
 obtain⟨T,p,g,so,rfl,⟨q2,q3,q5,g4,q4⟩,hG,hd⟩:=hs;unfold ud;simp only[aK.post,aK.pre];have T9:=hG.ul;cases b with
 | true =>
  obtain⟨x,bs,out,p1,p2,ol,ob,e1,e2,e3⟩:=ajl h p (2+2*so.lH.length) ah;have en:((2+2*so.lH.length:Nat):Int)=2+2*(so.lH.length:Int):=ah;rw[en] at e3;obtain⟨n,p3,n0,n1,e4⟩:=Ia h p2 4 ah;refine nL6 q3 q4 q5 e1 e2 (j4 e3 e4 @bV @Nat.lt_irrefl) ?_;refine⟨n.toNat,ah,?_,_,_,_,{ so with head:=out },rfl,⟨?_,?_,?_,g4,?_⟩,⟨hG.a,hG.ul,hG.ub,hG.dl,hG.db,ol,ob,hG.e⟩,hd⟩
  ·rw[axp n0]
  ·exact fj q2
  ·exact fj q3
  ·exact fj q5
  ·exact iJ
 | false =>
  obtain⟨n,p3,n0,n1,e4⟩:=Ia h p 4 ah;refine nK4 q3 q5 e4 @Nat.lt_irrefl ?_;refine⟨n.toNat,ah,?_,_,_,_,so,rfl,⟨?_,?_,?_,g4,?_⟩,hG,hd⟩
  ·rw[axp n0]
  ·exact fj q2
  ·exact fj q3
  ·exact fj q5
  ·exact fj q4
abbrev wq:aK:=ud.body.sub [true,true,true,true,true,true,true,false,true,false,false,true,false,false]
abbrev qj:Tm:=.mk 0 0 [] [] [] [] [] []
def GS(h:FmB f):(mi f).length<=10000:=by
 unfold mi;split
 ·exact Gd h
 ·simp
def agF:AF 4 5 qj:=aaz ah ah aI
def Ti{c:Cc}{K:ae}(h:CH c p0 K){i:Int}(hs:SA c so b T)(h7:T 7=.int .i64 many)(h8:T 8=.int .i64 i) :
  W A (wq.pre 1) ⟨T,cX c p K,c.mm,g⟩ (andThen (FmP c K so b many i (fun f T=>f.bQ=[]/\∃ n:Nat,n<=3/\T 10=.int .i64 n)) Q):=by
 obtain⟨q2,q3,q5,g4,q4⟩:=hs;unfold wq ud;simp only[aK.sub,aK.pre];obtain⟨k,p1,k0,k1,e1⟩:=Ia h p 6 ah;obtain⟨u,p2,ul,e2⟩:=OJ h p1;obtain⟨n,p3,n0,n1,e3⟩:=Ia h p2 4 ah;simp(disch:=omega)only[aO,aa,simprocAttr,q3,e1,e2,e3,fw,aw8];refine⟨_,_,_,⟨k,u,[],[],[],qj,[]⟩,rfl,⟨⟨?_,?_,?_,g4,?_⟩,?_,?_,g,true,true,true,?_⟩,⟨by simp only;omega,ul,ag,ag,lU,agF,ag,ag⟩,rfl,n.toNat,ah,?_⟩
 ·exact fj q2
 ·exact fj q3
 ·exact fj q5
 ·exact fj q4
 ·exact fj h7
 ·exact fj h8
 ·simp(disch:=omega)only[dm,aa,simprocAttr,Tm.kind,Tm.n,Tm.name,Tm.field,Tm.wn,Tm.wk,Tm.kids,Tm.names,aH,aC,mj]
 ·exact fj (axp n0)
def Th{c:Cc}{K:ae}(h:CH c p0 K){i:Int}{s:AS}(hs:FmP c K so b many i (fun f T=>f.bQ=[]/\∃ n:Nat,n<=3/\T 10=.int .i64 n) s) :
  W A ((wq.post 1).pre 0) s (andThen (FmP c K so b many i (fun _ _=>True)) Q):=by
 obtain⟨T,p,g,f,rfl,⟨⟨q2,q3,q5,g4,q4⟩,q7,q8,g9,o1,o2,o3,q9⟩,hF,qv,n,hn,IX⟩:=hs;unfold wq ud;simp only[aK.sub,aK.pre,aK.post];refine nK0 ?_;refine cg n 4 (fun j s=>∃ T p g f,s=⟨T,cX c p K,c.mm,g⟩/\FA c so b many i f T/\RN 4 f/\T 10=.int .i64 n/\T 11=.int .i64 j/\f.bQ.length=j)
  (FmP c K so b many i (fun _ _=>True)) (fun _=>False) ?_ (fun s hs=>hs) (fun _ h=>h.elim) 0 _ ah ?_
 ·rintro j s hj ⟨T,p,g,f,rfl,⟨⟨q2,q3,q5,g4,q4⟩,q7,q8,g9,o1,o2,o3,q9⟩,hF,IX,q11,hl⟩
  by_cases hc:j<n
  ·obtain⟨u,p1,ul,e1⟩:=OJ h p
   obtain⟨w,p2,wb,e2⟩:=abT h p1;obtain⟨m,p3,m0,m1,e3⟩:=Ia h p2 12 ah;have fin:∀ (T' : aD) (p' : Int) (g' : Nat) (x:Int),0<=x->x<12->SA c so b T'->T' 7=.int .i64 many->T' 8=.int .i64 i->T' 10=.int .i64 n->T' 11=.int .i64 ((j:Int)+1) ->
     T' 9=.lbox g9 [.int .i64 f.kind,.str f.name,.slice ((f.bQ++[Fd.mk u w.name w.kids x]).map fE) true,.str f.rn,.slice (aH f.rk) o1,.int .i64 f.body.kind,.int .i64 f.body.n,.str f.body.name,.str f.body.field,.str f.body.wn,.slice (aH f.body.wk) o2,.slice (aC f.body.kids) o2,.slice (strs f.body.names) o2,.slice (strs f.layout) o3] ->
     j<n/\∃ T p g f,(⟨T',cX c p' K,c.mm,g'⟩:AS)=⟨T,cX c p K,c.mm,g⟩/\FA c so b many i f T/\RN 4 f/\T 10=.int .i64 n/\T 11=.int .i64 ((j:Int)+1)/\f.bQ.length=j+1:=by
    intro T' p' g' x x0 x1 W2 r7 r8 r10 r11 r9;refine⟨hc,_,_,_,{ f with bQ:=f.bQ++[Fd.mk u w.name w.kids x] },rfl,⟨W2,r7,r8,g9,o1,o2,o3,r9⟩,⟨hF.k,hF.a,dq,fun v hv=>?_,hF.w,hF.b,hF.ll,hF.lb⟩,r10,r11,by simp[hl]⟩
    rcases au'.1 hv with hv|hv
    ·exact hF.sb v hv
    ·rw[avi.1 hv];exact⟨ul,by cases w;exact wb,by simp only;omega⟩
   by_cases h4:f.kind=4
   ·have a1:aG false 4 64 (.slice (f.bQ.map fE) true) (.slice [[.str u,.str w.name,.slice (aH w.kids) false,.int .i64 m]] true)=some (.slice ((f.bQ++[Fd.mk u w.name w.kids m]).map fE) true):=R4 (l:=f.bQ) (u:=Fd.mk u w.name w.kids m) ah
    simp(disch:=omega)only[aO,aa,simprocAttr,q3,q9,IX,q11,e1,e2,e3,a1,fw,cS,cM,avD,avq,ab,aw8];refine fin _ _ _ m m0 m1 ⟨?_,?_,?_,g4,?_⟩ ?_ ?_ ?_ ?_ ?_
    ·exact fj q2
    ·exact fj q3
    ·exact fj q5
    ·exact fj q4
    ·exact fj q7
    ·exact fj q8
    ·exact fj IX
    ·exact iJ
    ·exact iJ
   ·have a1:aG false 4 64 (.slice (f.bQ.map fE) true) (.slice [[.str u,.str w.name,.slice (aH w.kids) false,.int .i64 0]] true)=some (.slice ((f.bQ++[Fd.mk u w.name w.kids 0]).map fE) true):=R4 (l:=f.bQ) (u:=Fd.mk u w.name w.kids 0) ah
    simp(disch:=omega)only[aO,aa,simprocAttr,q3,q9,IX,q11,e1,e2,a1,fw,cS,cM,avD,avq,ab,aw8];refine fin _ _ _ 0 ah ah ⟨?_,?_,?_,g4,?_⟩ ?_ ?_ ?_ ?_ ?_
    ·exact fj q2
    ·exact fj q3
    ·exact fj q5
    ·exact fj q4
    ·exact fj q7
    ·exact fj q8
    ·exact fj IX
    ·exact iJ
    ·exact iJ
  ·refine nK2 IX q11 ?_
   refine⟨_,_,_,f,rfl,⟨⟨?_,?_,?_,g4,?_⟩,?_,?_,g9,o1,o2,o3,?_⟩,hF,trivial⟩
   ·exact fj q2
   ·exact fj q3
   ·exact fj q5
   ·exact fj q4
   ·exact fj q7
   ·exact fj q8
   ·exact fj q9
 ·refine⟨_,_,_,f,rfl,⟨⟨?_,?_,?_,g4,?_⟩,?_,?_,g9,o1,o2,o3,?_⟩,hF,?_,?_,by rw[qv];rfl⟩
  ·exact fj q2
  ·exact fj q3
  ·exact fj q5
  ·exact fj q4
  ·exact fj q7
  ·exact fj q8
  ·exact fj q9
  ·exact fj IX
  ·exact iJ
def XQ{c:Cc}{K:ae}(h:CH c p0 K){i:Int}{s:AS}(hs:FmP c K so b many i (fun _ _=>True) s) :
  W A ((wq.post 2).pre 0) s (andThen (FmP c K so b many i (fun _ _=>True)) Q):=by
 obtain⟨T,p,g,f,rfl,⟨⟨q2,q3,q5,g4,q4⟩,q7,q8,g9,o1,o2,o3,q9⟩,hF, -⟩:=hs;unfold wq ud;simp only[aK.sub,aK.pre,aK.post];have fin:∀ (T' : aD) (p' : Int) (g' : Nat) (f' : Fm) (o1 o2:Bool),T' 2=.lbox 0 [.str [],.slice [] true,.slice [] true,.slice [] true,.str []]->T' 3=.ref c.mm 0->T' 5=.bool b->T' 4=.lbox g4 [.str so.name,.slice (strs so.lH) true,.slice (so.defs.map cm) true,.slice (strs so.head) true,.str so.fin]->T' 7=.int .i64 many->T' 8=.int .i64 i ->
   T' 9=.lbox g9 [.int .i64 f'.kind,.str f'.name,.slice (f'.bQ.map fE) true,.str f'.rn,.slice (aH f'.rk) o1,.int .i64 f'.body.kind,.int .i64 f'.body.n,.str f'.body.name,.str f'.body.field,.str f'.body.wn,.slice (aH f'.body.wk) o2,.slice (aC f'.body.kids) o2,.slice (strs f'.body.names) o2,.slice (strs f'.layout) o3]->RN 4 f'->FmP c K so b many i (fun _ _=>True) ⟨T',cX c p' K,c.mm,g'⟩ :=
  fun T' p' g' f' o1 o2 r2 r3 r5 r4 r7 r8 r9 hf=>⟨_,_,_,f',rfl,⟨⟨r2,r3,r5,g4,r4⟩,r7,r8,g9,o1,o2,o3,r9⟩,hf,trivial⟩
 by_cases k0:f.kind=0
 ·refine nL1 q9 ?_
  refine fin _ _ _ f o1 o2 ?_ ?_ ?_ ?_ ?_ ?_ ?_ hF
  all_goals exact vO7 q2 q3 q4 q5 q7 q8 q9
 by_cases k1:f.kind=1
 ·refine nL1 q9 ?_
  refine fin _ _ _ f o1 o2 ?_ ?_ ?_ ?_ ?_ ?_ ?_ hF
  all_goals exact vO7 q2 q3 q4 q5 q7 q8 q9
 obtain⟨w,p1,wb,e1⟩:=abT h p;obtain⟨t,p2,tb,e2⟩:=aca h p1 4 ah;rw[show ((4:Nat):Int)=4 from rfl] at e2
 obtain⟨u,p3,ub,e3⟩:=aca h p2 0 ah;rw[show ((0:Nat):Int)=0 from rfl] at e3
 have Bm:RN 4 { f with rn:=w.name,rk:=w.kids,body:=t }:=⟨hF.k,hF.a,hF.sl,hF.sb,by cases w;exact wb,tb,hF.ll,hF.lb⟩
 have JN:RN 4 { f with rn:=w.name,rk:=w.kids,body:=u }:=⟨hF.k,hF.a,hF.sl,hF.sb,by cases w;exact wb,ub,hF.ll,hF.lb⟩
 have e4:=Io (Bm.B ah) (cX c p2 K);rw[cm] at e4;simp only at e4;refine nL6 q3 q9 e1 e2 e4 (j2 @bV @Nat.lt_irrefl) ?_;refine jC ?_ ?_<;>intro hlen
 ·refine nK3 q3 e3 @Nat.lt_irrefl ?_
  refine fin _ _ _ { f with rn:=w.name,rk:=w.kids,body:=u } false false ?_ ?_ ?_ ?_ ?_ ?_ ?_ JN
  all_goals exact vO6 q2 q3 q4 q5 q7 q8
 ·refine nK0 ?_
  refine fin _ _ _ { f with rn:=w.name,rk:=w.kids,body:=t } false false ?_ ?_ ?_ ?_ ?_ ?_ ?_ Bm
  all_goals exact vO6 q2 q3 q4 q5 q7 q8
def RM(c:Cc)(K:ae)(b:Bool)(many i:Int)(nd:Nat)(s:AS):Prop:=∃ T p g so,s=⟨T,cX c p K,c.mm,g⟩/\SA c so b T/\Lo 4 so/\T 7=.int .i64 many/\T 8=.int .i64 i/\so.defs.length=nd
theorem ac6{c:Cc}{K:ae}(h:CH c p0 K)(hG:Lo 4 so)(hd:so.defs.length<3){i:Int}{s:AS}(hs:FmP c K so b many i (fun _ _=>True) s)
  (hR:∀ s',RM c K b many i (so.defs.length+1) s'->R s'):W A (wq.post 3) s (andThen R Q):=by
 obtain⟨T,p,g,f,rfl,⟨⟨q2,q3,q5,g4,q4⟩,q7,q8,g9,o1,o2,o3,q9⟩,hF, -⟩:=hs;unfold wq ud;simp only[aK.sub,aK.post];have D7:∀ f',RN 4 f'->Lo 4 { so with defs:=so.defs++[f'] }:=fun f' hf=>⟨hG.a,hG.ul,hG.ub,dq,fun v hv=>by
  rcases au'.1 hv with hv|hv
  ·exact hG.db v hv
  ·rw[avi.1 hv];exact hf,hG.hl,hG.hb,hG.e⟩
 have fin:∀ (T' : aD) (p' : Int) (g' : Nat) (f' : Fm),RN 4 f'->T' 2=.lbox 0 [.str [],.slice [] true,.slice [] true,.slice [] true,.str []]->T' 3=.ref c.mm 0->T' 5=.bool b->T' 4=.lbox g4 [.str so.name,.slice (strs so.lH) true,.slice ((so.defs++[f']).map cm) true,.slice (strs so.head) true,.str so.fin]->T' 7=.int .i64 many->T' 8=.int .i64 i->R ⟨T',cX c p' K,c.mm,g'⟩ :=
  fun T' p' g' f' hf r2 r3 r5 r4 r7 r8=>hR _ ⟨_,_,_,{ so with defs:=so.defs++[f'] },rfl,⟨r2,r3,r5,g4,r4⟩,D7 f' hf,r7,r8,ag⟩
 cases b with
 | false =>
  have a1:=R5 (l:=so.defs) (f:=f) (o:=true) ah;simp(disch:=omega)only[oy,da,cj,cE,cr,gK,aS,aR,bt,aE.eval,AS.ca,↓reduceIte,Nat.reduceEqDiff,Option.isSome,Option.isNone,cond_true,cond_false,Nat.reduceBEq,Nat.reduceAdd,Nat.reduceMul,aa,cz,eq_self,reduceCtorEq,gF,de,cn,bL,bound,dj,AS.bG,aP,bN,bz,Nat.reduceLeDiff,cA,putAt,Int.reduceEq,Int.reduceLT,Int.reduceLE,Int.reduceBEq,Int.reduceBNe,Int.reduceAdd,Int.reduceNeg,Int.reduceSub,Int.reduceMul,dX,dW,dV,dU,dS,dR,dZ,dY,ax,bA,avH,avG,q4,q5,q9,a1,cS,cM,avD,avq,ab,cond_false];refine fin _ _ _ f hF ?_ ?_ ?_ ?_ ?_ ?_
  all_goals exact nO5 q2 q3 q5 q7 q8 tv
 | true =>
  have hB:=hF.B ah;have e4:=Io hB (cX c p K);rw[cm] at e4;obtain⟨x,bs,out,p1,p2,ol,ob,e1,e2,e3⟩:=ajl h p (mi f).length (by have:=GS hB;omega)
  have a1:=R5 (l:=so.defs) (f:={ f with layout:=out }) (o:=true) ah
  simp only at a1;simp(disch:=omega)only[oy,da,cj,cE,cr,gK,aS,aR,bt,aE.eval,AS.ca,↓reduceIte,Nat.reduceEqDiff,Option.isSome,Option.isNone,cond_true,cond_false,Nat.reduceBEq,Nat.reduceAdd,Nat.reduceMul,aa,cz,eq_self,reduceCtorEq,gF,de,cn,bL,bound,dj,AS.bG,aP,bN,bz,Nat.reduceLeDiff,cA,putAt,Int.reduceEq,Int.reduceLT,Int.reduceLE,Int.reduceBEq,Int.reduceBNe,Int.reduceAdd,Int.reduceNeg,Int.reduceSub,Int.reduceMul,dX,dW,dV,dU,dS,dR,dZ,dY,ax,bA,avH,avG,q3,q4,q5,q9,e1,e2,e3,e4,bV,a1,cS,cM,avD,avq,ab,aw8,cond_false];refine fin _ _ _ { f with layout:=out } ⟨hF.k,hF.a,hF.sl,hF.sb,hF.w,hF.b,by simp only;omega,ob⟩ ?_ ?_ ?_ ?_ ?_ ?_
  all_goals exact nO5 q2 q3 q5 q7 q8 tv
theorem pn:∀ (n:Nat) (c:aK),(c.post n).post 0=c.post (n+1)
 | 0,.seq a b=>by cases b<;>rfl
 | n+1,.seq a b=>pn n b
 | n,.skip|n,.region ..|n,.rD ..|n,.cond ..|n,.block ..|n,.loop ..|n,.exit ..|n,.ret=>by cases n<;>rfl
theorem ac5{c:Cc}{K:ae}(h:CH c p0 K)(hG:Lo 4 so)(hd:so.defs.length<3){i:Int}(hs:SA c so b T)(h7:T 7=.int .i64 many)(h8:T 8=.int .i64 i)
  (hR:∀ s',RM c K b many i (so.defs.length+1) s'->R s'):W A wq ⟨T,cX c p K,c.mm,g⟩ (andThen R Q):=by
 refine iX 1 _ (Ti h hs h7 h8) fun s1 h1=>?_
 refine iX 0 _ (Th h h1) fun s2 h2=>?_
 rw[pn];refine iX 0 _ (XQ h h2) fun s3 h3=>?_
 grind [pn,ac6]
def Z0{c:Cc}{K:ae}(h:CH c p0 K){s:AS}(hs:∃ n:Nat,n<=3/\s.T 7=.int .i64 n/\SmP c K b (fun Z3=>Z3.defs=[]) s) :
  W A ((ud.body.post 6).pre 0) s (andThen (SmP c K b (fun _=>True)) Q):=by
 obtain⟨n,hn,q7,T,p,g,so,rfl,⟨q2,q3,q5,g4,q4⟩,hG,hd⟩:=hs;unfold ud;simp only[aK.post,aK.pre];simp only at q7;refine nK0 ?_;have Af:∀ {T:aD} {T' : aD},SA c so b T->T' 2=T 2->T' 3=T 3->T' 4=T 4->T' 5=T 5->SA c so b T':=fun h a2 a3 a4 a5=>by
  obtain⟨q2,q3,q5,g4,q4⟩:=h;exact⟨a2.trans q2,a3.trans q3,a5.trans q5,g4,a4.trans q4⟩
 refine cg n 2 (fun i s=>RM c K b n i i s) (SmP c K b (fun _=>True)) (fun _=>False) ?_ (fun s hs=>hs) (fun _ h=>h.elim) 0 _ ah ?_
 ·rintro i s hi ⟨T,p,g,so,rfl,W2,hG,q7,q8,hl⟩
  have Af:∀ {T T' : aD} {so:So},SA c so b T->T' 2=T 2->T' 3=T 3->T' 4=T 4->T' 5=T 5->SA c so b T':=fun h a2 a3 a4 a5=>by
   obtain⟨q2,q3,q5,g4,q4⟩:=h;exact⟨a2.trans q2,a3.trans q3,a5.trans q5,g4,a4.trans q4⟩
  by_cases hc:i<n
  ·refine xY (fun s'=>∃ T g,s'=⟨T,cX c p K,c.mm,g⟩/\SA c so b T/\T 7=.int .i64 n/\T 8=.int .i64 i) ?_ ?_
   ·refine nK2 q7 q8 ?_
    refine⟨_,_,rfl,Af W2 ?_ ?_ ?_ ?_,?_,?_⟩
    all_goals exact WB q7 q8
   ·rintro s' ⟨T,g,rfl,W2,q7,q8⟩
    refine xY (RM c K b n i (i+1)) ?_ ?_
    ·rw[He]
     refine uu (c:=wq) (ac5 h hG ah W2 q7 q8 (R:=RM c K b n i (i+1)) (Q:=fun _ _=>False) (fun s h=>by rw[hl] at h;exact h)) ?_
     intro e s hs;cases e with
     | normal=>exact hs
     | _=>exact hs.elim
    ·rintro s' ⟨T,p,g,so,rfl,W2,hG,q7,q8,hl⟩
     refine nK1 q8 ?_;refine⟨hc,_,_,_,so,rfl,Af W2 ?_ ?_ ?_ ?_,hG,?_,?_,hl⟩
     all_goals exact fj q7
  ·refine nK2 q7 q8 ?_
   refine⟨_,_,_,so,rfl,Af W2 ?_ ?_ ?_ ?_,hG,trivial⟩
   all_goals exact iJ
 ·refine⟨_,_,_,so,rfl,Af ⟨q2,q3,q5,g4,q4⟩ ?_ ?_ ?_ ?_,hG,?_,?_,by rw[hd];rfl⟩
  all_goals exact fj q7
def al2{x:Int}(h0:0<=x)(h1:x<4):∃ s:ay,s.length<=1100000/\([[.str []],[.str [32]],[.str [35,32,101,110,100]],[.str [10,10]]]:List (List AV))[x.toNat]?=some [.str s]:=by
 have:x.toNat=0\/x.toNat=1\/x.toNat=2\/x.toNat=3:=ah
 rcases this with e|e|e|e<;>rw[e]<;>exact⟨_,aI,rfl⟩
def V8{c:Cc}{K:ae}(h:CH c 0 K)(hK:K.take c.mm=K.take c.mm){s:AS}(hs:SmP c K b (fun _=>True) s) :
  W A (ud.body.post 7) s (AM c.mm [.cell 2 true 5] fun x=>∃ so,Lo 4 so/\(nh x.1,x.2)=(.agg (qt so),none)):=by
 obtain⟨T,p,g,so,rfl,⟨q2,q3,q5,g4,q4⟩,hG, -⟩:=hs;unfold ud;simp only[aK.post];have NVr:=@Dn;cases b with
 | true =>
  obtain⟨x,p1,x0,x1,e1⟩:=Ia h p 4 ah;obtain⟨e,el,ee⟩:=al2 x0 x1;refine nL6 q2 q3 q4 q5 (j3 e1 ee @Nat.lt_irrefl) (j5 @cH @cG @fp @Dn @abV) ?_;exact⟨{ so with fin:=e },⟨hG.a,hG.ul,hG.ub,hG.dl,hG.db,hG.hl,hG.hb,el⟩,rfl⟩
 | false =>
  refine nL6 q2 q4 q5 @cH @cG (j3 @fp @Dn @abV) ?_;exact⟨so,hG,rfl⟩
theorem V7(l:List Int)(hl:∀ n∈l,BD n)(H:ae):∃ so,Lo 4 so/\aj A 10 [.slice (ints l) false] H=some (.agg (qt so),none):=by
 have key:∃ r,aj A 10 [.slice (ints l) false] H=some r/\∃ so,Lo 4 so/\r=(.agg (qt so),none):=by
  obtain⟨c,hc⟩:∃ c:Cc,c=⟨H.length,l⟩:=⟨_,rfl⟩;obtain⟨K,hK⟩:∃ K,K=H++[.box 89 [.slice (ints l) false,.int .i64 0]]:=⟨_,rfl⟩;have hcm:c.mm=H.length:=by rw[hc]
  have h:CH c 0 K:=⟨by rw[hcm,hK];rw[hc];exact vu,by rw[hc];exact hl,by rw[hcm,hK];simp⟩
  have hs0:cX c 0 K=K:=by
   unfold cX;refine awH fun j=>?_
   rw[av2];split
   ·rename_i e;subst e;rw[if_pos h.lt,h.h0]
   ·rfl
  obtain⟨u,p1,ul,e1⟩:=OJ h 0;rw[hs0] at e1;obtain⟨x,p2,x0,x1,e2⟩:=Ia h p1 2 ah;refine nF (fn:=ud) rfl rfl rfl rfl ?_;rw[<- hcm];refine iX 3 (fun s=>∃ T p g b so,s=⟨T,cX c p K,c.mm,g⟩/\SA c so b T/\Lo 4 so/\so.lH=[]/\so.defs=[]) ?_ ?_
  ·unfold ud
   simp only[aK.pre];have hK' : H++[bS.box 89 [.slice (ints l) false,.int .i64 0]]=K:=hK.symm;simp(disch:=omega)only[aO,aa,simprocAttr,<- hcm,hK',e1,e2,fw,aw8];refine⟨_,_,_,x==1,⟨u,[],[],[],[]⟩,rfl,⟨?_,?_,?_,1,?_⟩,⟨ul,ag,ag,ag,ag,ag,ag,ag⟩,rfl,rfl⟩
   all_goals exact fj mj
  ·rintro s ⟨T,p,g,b,so,rfl,W2,hG,hu,hd⟩
   refine iX 0 _ (Z2 h W2 hG hu hd) fun s1 h1=>?_
   rw[pn];refine iX 1 _ (Z1 h h1) fun s2 h2=>?_
   have e:(ud.body.post 4).post 1=ud.body.post 6:=rfl;rw[e];refine iX 0 _ (Z0 h h2) fun s3 h3=>?_
   rw[pn];exact V8 h rfl h3
 grind
def od : ∀ {rows:List (List AV)},(∀ r∈rows,r.length=z)->rows.flatten.length=rows.length*z
 | [],_=>ag
 | r :: rows,h=>by
  rw[avy,List.length_append,od (fun r hr=>h r (awc _ hr)),h r (List.mem_cons_self ..),List.length_cons,avV,axg,axA]
def zZ : ∀ {rows:List (List AV)} {i:Nat} {r:List AV} (j:Nat),(∀ r∈rows,r.length=z)->rows[i]?=some r->j<=z->rows.flatten.drop (i*z+j)=r.drop j++(rows.drop (i+1)).flatten
 | [],i,r,j,_,hi,_=>by simp at hi
 | a :: rows,0,r,j,h,hi,hj=>by
  simp only[avk,au4] at hi;subst hi;have ha:=h a (List.mem_cons_self ..);rw[axd,avA,avy,aws ah];rfl
 | a :: rows,i+1,r,j,h,hi,hj=>by
  have ha:=h a (List.mem_cons_self ..);have e:(i+1)*z+j=a.length+(i*z+j):=by rw[avV,axg,ha];omega
  rw[e,avy,<- av7,awE rfl,zZ j (fun r hr=>h r (awc _ hr)) (cY hi) hj]
  rfl
def P7{r:List AV}(h:∀ r∈rows,r.length=z)(hi:rows[i]?=some r)(hj:j<z):rows.flatten[i*z+j]?=r[j]?:=by
 have hr:=h r (avb hi);have:=zZ j h hi (awG hj)
 have e:rows.flatten[i*z+j]?=(rows.flatten.drop (i*z+j))[0]?:=by rw[av9];rfl
 rw[e,this,avd (by rw[avF];omega),av9]
 rfl
def P8{sz:Nat}{r:List AV}{agg:Bool}(h:∀ r∈rows,r.length=z)(hi:rows[i]?=some r)(hz:0<z)(hj:j+sz<=z)(hjz:j<z) :
  ab false agg sz (i*z+j) rows.flatten=ab false agg sz j r:=by
 have hr:=h r (avb hi);have aZ:=(au7.1 hi).1;have hl:rows.flatten.length=rows.length*z:=od h;have hb:i*z+z<=rows.length*z:=by rw[<- Nat.succ_mul];exact avg _ aZ
 cases agg with
 | true =>
  simp only[ab,cond_true,hl,hr,avT (show i*z+j+sz<=rows.length*z by omega),avT hj]
  rw[zZ j h hi ah,awI (by rw[avF];omega)]
 | false =>
  simp only[ab,cond_false];rw[P7 h hi hjz]
def JH : ∀ {rows:List (List AV)} {i j:Nat} {r cs:List AV},(∀ r∈rows,r.length=z)->rows[i]?=some r->j+cs.length<=z->putAt rows.flatten (i*z+j) cs=(rows.set i (putAt r j cs)).flatten
 | [],i,j,r,cs,_,hi,_=>by simp at hi
 | a :: rows,0,j,r,cs,h,hi,hj=>by
  simp only[avk,au4] at hi;subst hi;have ha:=h a (List.mem_cons_self ..);simp only[putAt,axd,avA,avy,axr];rw[awI ah,aws ah];simp only[avj]
 | a :: rows,i+1,j,r,cs,h,hi,hj=>by
  have ha:=h a (List.mem_cons_self ..);have ih:=JH (j:=j) (cs:=cs) (fun r hr=>h r (awc _ hr)) (cY hi) hj
  have e:(i+1)*z+j=a.length+(i*z+j):=by rw[avV,axg,ha];omega
  simp only[avy,axc,<- ih];simp only[putAt,e];rw[List.take_length_add_append,axt,List.drop_length_add_append];simp only[avj]
def AK : ∀ {rows:List (List AV)},(∀ r∈rows,r.length=z)->chunks z rows.length rows.flatten=rows
 | [],_=>rfl
 | r :: rows,h=>by
  have hr:=h r ag;rw[List.length_cons,chunks,avy,<- hr,awy rfl,awE rfl,hr,AK fun r hr=>h r (zo hr)]
def NM{cs:List AV}{agg:Bool}{sz off:Nat} : bU (some (.bZ cs)) agg sz off=ab false agg sz off cs:=rfl
def QY{base:Nat}(h:x.plain=true):x.bw base=true:=by
 cases x<;>first|(simp[AV.plain] at h;done)|exact h
def Y4{H:ae}{base k:Nat}(h:x.bw base=true):gu H base k x=x:=by
 cases k with
 | zero=>rfl
 | succ k =>
  cases x with
  | sref l o n z =>
   have:Nat.ble base l=false:=by
    simp only[AV.bw,avn] at h;cases hb:Nat.ble base l with
    | false=>rfl
    | true=>rw[avv] at hb;omega
   simp only[gu,this,cond_false]
  | _=>rfl
def LU(x:AV):x.drop.drop=x.drop:=by cases x<;>rfl
def yu(cs:List AV):(cs.map AV.drop).map AV.drop=cs.map AV.drop:=by
 rw[awh];exact List.map_congr_left fun x _=>LU x
def BN{base tc tr n:Nat}{s:AS}{out:List AV}{r:Int}(hr:fn.results=[.cell tc true n,.tmp tr])(m8:fn.muts.elem 888888=false)(m7:fn.muts.elem 777777=true)
  (hT:s.T tc=.lbox g cs) (hR:s.T tr=.int .i64 r) (hn:cs.length=n) (xT:s.lo=base) (gW:((cs.map AV.drop).map (gu s.H base 3)).all AV.plain=true) (ho:((cs.map AV.drop).map (gu s.H base 3)).map n2=out) :
  finish base fn s=some (.tuple [.agg out,.int .i64 r],none):=by
 have h1:kB base s=true:=by simp[kB,xT]
 have hc:iW s (.cell tc true n)=some (.agg (cs.map AV.drop)):=by
  simp only[iW,hT,ab,cond_true,avA,hn,avT (Nat.le_refl _),List.drop_zero];rw[<- hn,avL]
 have ht:iW s (.tmp tr)=some (.int .i64 r):=by simp only[iW,hR,aN,cond_true]
 have ft:lY s [.cell tc true n,.tmp tr]=some [.agg (cs.map AV.drop),.int .i64 r]:=by
  simp only[lY,hc,ht,au9,ave,AV.dh,yu,AV.drop]
 have h3:ml base fn s=some (.tuple [.agg ((cs.map AV.drop).map (gu s.H base 3)),.int .i64 r],none):=by
  unfold ml qI oR;rw[h1,m8,hr];simp only[cond_true,cond_false];cases hl:(cs.map AV.drop).all (AV.bw base) with
  | true =>
   have e:(cs.map AV.drop).map (gu s.H base 3)=cs.map AV.drop:=by
    conv=>rhs;rw[<- axX (cs.map AV.drop)]
    exact List.map_congr_left fun x hx=>Y4 (ava.1 hl x hx)
   have h0:iQ base [.cell tc true n,.tmp tr] s=some (.tuple [.agg (cs.map AV.drop),.int .i64 r],none):=by
    simp only[iQ,mC,ft,ave,au9,AV.leaves,List.all_cons,List.all_nil,AV.fu,AV.bw,AV.plain,hl,awb,cond_true,xT,awZ]
   rw[h0,e]
  | false =>
   have h0:iQ base [.cell tc true n,.tmp tr] s=none:=by
    simp only[iQ,mC,ft,ave,au9,AV.leaves,List.all_cons,List.all_nil,AV.fu,AV.bw,AV.plain,hl,avt,cond_false]
   have hp:qZ base [.cell tc true n,.tmp tr] s=none:=by
    have q:rr s base [.cell tc true n,.tmp tr]=none:=by
     have q1:oG s (.cell tc true n)=none:=rfl;rw[rr];cases rr s base [.tmp tr] with
     | none=>rfl
     | some q=>simp only[au9,q1,hc,AV.dh,yu,AV.fu,hl,cond_false]
    simp only[qZ,q,Option.bind_none];rfl
   have hf:tq base [.cell tc true n,.tmp tr] s=some (.tuple [.agg ((cs.map AV.drop).map (gu s.H base 3)),.int .i64 r],none):=by
    have hx:((cs.map AV.drop).map (gu s.H base 3)).all (AV.bw base)=true:=by
     rw[ava] at gW ⊢;exact fun x hx=>QY (gW x hx)
    simp only[tq,vQ,ft,ave,au9,avm,avN,Ma,AV.leaves,List.all_cons,List.all_nil,AV.fu,hx,awb,xT,awZ,cond_true,show gu s.H base 3 (.int .i64 r)=.int .i64 r from rfl,AV.bw,AV.plain]
   rw[h0,hp,hf]
 unfold finish;rw[h3,ave,Dm m7,ae8];simp only[avm,avN,aeV,aeW,ho]
def h2a{H:ae}{b:bS} : (H++[a,b])[H.length]?=some a:=ag
def h2b{H:ae}{b:bS} : (H++[a,b])[H.length+1]?=some b:=by rw[List.getElem?_append_right ah];simp
def h2t{H:ae}{b:bS} : (H++[a,b]).take H.length=H:=ag
def s2b{H:ae}{b c:bS} : (H++[a,b]).set (H.length+1) c=H++[a,c]:=by
 rw[List.set_append_right _ _ ah];simp
def h3a{H:ae}{b c:bS} : (H++[a,b,c])[H.length]?=some a:=ag
def h3c{H:ae}{b c:bS} : (H++[a,b,c])[H.length+2]?=some c:=by rw[List.getElem?_append_right ah];simp
def h3t{H:ae}{b c:bS} : (H++[a,b,c]).take H.length=H:=ag
def l2{H:ae}{b:bS} : (H++[a,b]).length=H.length+2:=ag
def l1{H:ae} : (H++[a]).length=H.length+1:=ag
def aah{l:List Tm} : gC 8 (aC l)=true:=by
 cases l with
 | nil=>simp[aC,gC]
 | cons a r=>simp only[aC,gC,axD,ave,av0,jk];rfl
def J0{H L:ae}{b:bS} : (H++a :: L).set H.length b=H++b :: L:=ag
def hgl{H L:ae}{a:bS} : (H++a :: L).length=H.length+1+L.length:=dq
def ahG:A.aY 3=fF.map .str:=rfl
def ahH:A.aY 1=[.func (.func 129) [] [],.func (.func 220) [] [],.func (.func 221) [] [],.func (.func 221) [] []]:=rfl
def ahI:A.aY 2=mD.map .str:=rfl
theorem uU{c:UInt8} : lg c=decide (kindOf c=1):=by
 unfold kindOf
 grind
def xy{c:UInt8} : isDigit c=decide (kindOf c=2):=by
 unfold kindOf;cases h:lg c<;>cases h2:isDigit c<;>simp
 simp only[lg,isDigit,awx,au6,avf] at h h2;omega
def oX(s:ay):List ay->Nat
 | []=>0
 | x :: r=>if x.isPrefixOf s then x.length else oX s r
theorem zm{b:UInt8}{r:ay} : ∀ l:ay,oX (b :: r) (l.map fun x=>[x])=if l.contains b=true then 1 else 0
 | []=>rfl
 | x :: l=>by
  simp only[avm,oX,List.isPrefixOf,awb,awN,awx,zm l,List.length_cons,List.length_nil]
  grind
theorem KV{b:UInt8}{r:ay}(h:kindOf b=0):oX (b :: r) mD=gI (b :: r):=by
 simp only[gI];rw[if_neg ah];have qK:lj [b]=nR.contains b:=by unfold lj;simp
 rw[qK];have two:(1<=r.length/\lj ((b :: r).take 2)=true)↔([61,61].isPrefixOf (b :: r)=true\/[45,62].isPrefixOf (b :: r)=true):=by
  cases r with
  | nil=>simp[List.isPrefixOf]
  | cons c r' =>
   simp only[avR,avY,lj,List.isPrefixOf,List.length_cons,List.length_nil];simp
   grind
 have e:mD=[61,61] :: [45,62] :: (nR.map fun x=>[x]):=rfl
 rw[e];simp only[oX,zm]
 grind
def IA(s:ay)(H:ae)(h0' : s≠[])(hs:s.length<=4611686018427387904):aj A 49 [.str s] H=some (.int .i64 (gI s),none):=by
 refine cW ai'.eq_1 ?_
 obtain⟨b,r,wA⟩:∃ b r,s=b :: r:=by cases s with|nil=>exact absurd rfl h0'|cons b r=>exact⟨b,r,rfl⟩
 have hb:s[0]?=some b:=by rw[wA];rfl
 have hd:s.drop 1=r:=by rw[wA];rfl
 refine nE1 @ahH ?_;cases hl:lg b with
 | true =>
  have hk:kindOf b=1:=by rw[uU] at hl;simpa using hl
  refine x5 ?_;refine nE4 hb @rV hl (j2 @putAt.eq_1 @ax.eq_1) ?_;refine cg s.length 2 (fun i=>Hd (fun T=>T 0=.str s/\T 4=.lbox 0 [.func (.func 129) [] [],.func (.func 220) [] []]/\T 5=.int .i64 i/\1<=i/\1+cV 1 r=i+cV 1 (s.drop i)) H H.length 1)
   (Hd (fun T=>T 5=.int .i64 ((1+cV 1 r:Nat):Int)) H H.length 1) (fun _=>False) ?_ ?_ (fun _ h=>h.elim) 1 _ (by rw[wA];simp) ?_
  ·rintro i st hi iz
   obtain⟨T,rfl,h0,h4,h5,RC,hc⟩:=iz.out
   by_cases h:i<s.length
   ·rw[avr h] at hc
    have Bp:s[i]?=some s[i]:=au5 h;generalize s[i]=c at hc Bp;simp only[cV,av'] at hc;have he:(lg c || isDigit c)=decide (kindOf c=2\/kindOf c=1):=by rw[uU,xy];by_cases e1:kindOf c=1<;>by_cases e2:kindOf c=2<;>simp[e1,e2]
    by_cases iZ:kindOf c=2\/kindOf c=1
    ·rw[if_pos iZ] at hc
     refine nO5 h0 h4 h5 Bp (j3 @Jp he iZ) ?_;omega
    ·rw[if_neg iZ] at hc
     refine nO5 h0 h4 h5 Bp (j3 @Jp he iZ) ?_;omega
   ·have:i=s.length:=ah
    subst this;rw[awB] at hc;simp only[cV] at hc;refine nO3 h0 h4 h5 ?_;omega
  ·intro st iz
   obtain⟨T,rfl,h5⟩:=iz.out;have ht:gI s=if 16<1+cV 1 r then 0 else 1+cV 1 r:=by rw[wA];simp only[gI,hk,if_pos (show (0:Int)<1 by omega)]
   by_cases h16:16<1+cV 1 r
   ·rw[if_pos h16] at ht
    exact WB h5 ht
   ·rw[if_neg h16] at ht
    exact WB h5 ht
  ·exact vE1 hd
 | false =>
  refine x5 ?_;refine nE4 hb @rV hl (j2 @putAt.eq_1 @ax.eq_1) ?_;refine x5 ?_;cases Mk:isDigit b with
  | true =>
   have hk:kindOf b=2:=by rw[xy] at Mk;simpa using Mk
   refine nE4 hb @yq Mk (j2 @putAt.eq_1 @ax.eq_1) ?_;refine cg s.length 2 (fun i=>Hd (fun T=>T 0=.str s/\T 4=.lbox 1 [.func (.func 221) [] [],.func (.func 221) [] []]/\T 5=.int .i64 i/\1<=i/\1+cV 2 r=i+cV 2 (s.drop i)) H H.length 2)
    (Hd (fun T=>T 5=.int .i64 ((1+cV 2 r:Nat):Int)) H H.length 2) (fun _=>False) ?_ ?_ (fun _ h=>h.elim) 1 _ (by rw[wA];simp) ?_
   ·rintro i st hi iz
    obtain⟨T,rfl,h0,h4,h5,RC,hc⟩:=iz.out
    by_cases h:i<s.length
    ·rw[avr h] at hc
     have Bp:s[i]?=some s[i]:=au5 h;generalize s[i]=c at hc Bp;simp only[cV,show ((2:Int)=1)=False by simp,and_false,aww] at hc
     have he:isDigit c=decide (kindOf c=2):=xy
     by_cases iZ:kindOf c=2
     ·rw[if_pos iZ] at hc
      refine nO5 h0 h4 h5 Bp (j3 @yq he iZ) ?_;omega
     ·rw[if_neg iZ] at hc
      refine nO5 h0 h4 h5 Bp (j3 @yq he iZ) ?_;omega
    ·have:i=s.length:=ah
     subst this;rw[awB] at hc;simp only[cV] at hc;refine nO3 h0 h4 h5 ?_;omega
   ·intro st iz
    obtain⟨T,rfl,h5⟩:=iz.out;have ht:gI s=if 16<1+cV 2 r then 0 else 1+cV 2 r:=by rw[wA];simp only[gI,hk,if_pos (show (0:Int)<2 by omega)]
    by_cases h16:16<1+cV 2 r
    ·rw[if_pos h16] at ht
     exact WB h5 ht
    ·rw[if_neg h16] at ht
     exact WB h5 ht
   ·exact vE1 hd
  | false =>
   have hk:kindOf b=0:=by unfold kindOf;rw[hl,Mk];rfl
   refine nE4 hb @yq Mk (j2 @putAt.eq_1 @ax.eq_1) ?_;refine x5 ?_;refine nE1 @ahI ?_;refine ab9 (.agg (mD.map .str)) Lk ?_;refine nE0 ?_;have ann:oX s mD=gI s:=by rw[wA];exact KV hk
   have h18:mD.length=18:=rfl;refine cg 18 4 (fun i=>Hd (fun T=>T 0=.str s/\T 36=.agg (mD.map .str)/\T 37=.int .i64 i/\gI s=oX s (mD.drop i)) H H.length 2)
    (Hd (fun T=>gI s=0) H H.length 2) (Hd (fun T=>T 2=.int .i64 (gI s)) H H.length 2) ?_ ?_ ?_ 0 _ ah ?_
   ·rintro i st hi iz
    obtain⟨T,rfl,h0,h36,h37,hc⟩:=iz.out
    by_cases h:i<18
    ·have kP:i<mD.length:=by rw[h18];exact h
     have hx:(mD.map AV.str)[i]?=some (.str mD[i]):=by rw[List.getElem?_map,au5 kP];rfl
     rw[avr kP] at hc;simp only[oX] at hc;generalize mD[i]=x at hc hx;cases hp:x.isPrefixOf s with
     | true =>
      rw[if_pos hp] at hc;refine nO5 h0 h36 h37 @Nat.mul_one (j3 hx @AU hp) ?_;omega
     | false =>
      rw[if_neg (zo hp)] at hc;refine nO5 h0 h36 h37 @Nat.mul_one (j3 hx @AU hp) ?_;exact⟨h,hc⟩
    ·have:i=18:=ah
     subst this;rw[show mD.drop 18=[] from rfl] at hc
     simp only[oX] at hc;exact WB h37 hc
   ·intro st iz
    obtain⟨T,rfl,hc⟩:=iz.out;exact vE1 hc
   ·intro st iz
    obtain⟨T,rfl,hc⟩:=iz.out;exact vE1 hc
   ·exact vE1 ann
def O9(s:ay)(H:ae)(hs:s.length<=4611686018427387904):aj A 85 [.str s] H=some (.bool (isWord s),none):=by
 refine cW ajf.eq_1 ?_;cases wA:s with
 | nil=>exact nE1 @isWord.eq_1 tv
 | cons b r =>
 rw[<- wA];have dk:s≠[]:=by rw[wA];simp
 have hl:(s==[])=false:=cY dk;have h27:fF.length=27:=rfl;have hb:s[0]?=some b:=by rw[wA];rfl
 have hw:isWord s=(decide (kindOf b=1)&&!fF.contains s&&decide (gI s=s.length)):=by rw[wA];rfl
 have hk:=uU (c:=b);rw[hw]
 by_cases AY:kindOf b=1
 ·by_cases ht:gI s=s.length
  ·exact nO5 hl hb @rV (j2 hk AY) (j5 (IA s H dk hs) ht @ahG h27 (LR fF s H ah)) tv
  ·exact vO7 hl hb rV hk AY (IA s H dk hs) ht
 ·exact vO5 hl hb rV hk AY
def anO(s:ay)(c:UInt8)(H:ae):aj A 136 [.str s,.int .u8 c.toNat] H=some (.int .i64 (dp c.toNat 0 s),none):=by
 refine gU (A:=A) (f:=136) rfl ?_;have h1:decide ((0:Int)<=c.toNat)=true:=ag;have h2:decide ((c.toNat:Int)<256)=true:=by have:=c.toNat_lt;simp;omega
 simp only[iG,h1,h2,Bool.and_self,cond_true]
def abS(s:ay)(c:UInt8)(H:ae)(hs:s.length<=10000000):aj A 165 [.str s,.str [c]] H=some (.int .i64 (dp c.toNat 0 s),none):=by
 refine cW abQ.eq_1 ?_;have hib:=anO s c H;cases h:(([c]:ay)==s) with
 | true =>
  have e:s=[c]:=(avM.1 h).symm;subst e;have:dp (c.toNat:Int) 0 [c]=0:=by simp[dp]
  rw[this];exact uj
 | false =>
  exact Lm h hib
def an6(s:ay)(c:UInt8)(H:ae)(hs:s.length<=10000000):aj A 141 [.str s,.str [c]] H=some (.int .i64 (dp c.toNat 0 s),none):=by
 have h:=abS s c H hs;refine cW abI.eq_1 ?_;exact nD h
def AL(s:ay)(c:UInt8)(H:ae)(hs:s.length<=10000000):aj A 104 [.str s,.str [c]] H=some (.bool (decide (0<=dp c.toNat 0 s)),none):=by
 have h:=an6 s c H hs;refine cW aby.eq_1 ?_;exact nD h
theorem Ac:∀ (s:ay) (k:Nat),((aX s).2.2=true->dp 46 k s=k+(aX s).1.length/\s=(aX s).1++46 :: (aX s).2.1)/\((aX s).2.2=false->dp 46 k s=-1)
 | [],k=>⟨fun h=>by simp[aX] at h,fun _=>rfl⟩
 | b :: r,k=>by
  by_cases hb:b.toNat=46
  ·have e:b=46:=UInt8.toNat_inj.1 hb
   subst e;refine⟨fun _=>?_,fun h=>by simp[aX] at h⟩
   simp[aX,dp]
  ·have hi:dp 46 k (b :: r)=dp 46 (k+1) r:=by
    have:decide ((b.toNat:Int)=46)=false:=dq
    rw[dp,this,cond_false]
   have hf:aX (b :: r)=(b :: (aX r).1,(aX r).2.1,(aX r).2.2):=by rw[aX,if_neg hb]
   obtain⟨h1,h2⟩:=Ac r (k+1)
   grind
def acJ(s:ay)(H:ae)(hs:s.length<=10000000):aj A 160 [.str s,.str [46]] H=some (.tuple [.str (aX s).1,.str (aX s).2.1,.bool (aX s).2.2],none):=by
 have h:=abS s 46 H hs;rw[show (((46:UInt8).toNat:Nat):Int)=46 from rfl] at h
 obtain⟨h1,h2⟩:=Ac s 0;refine cW abP.eq_1 ?_;cases hf:(aX s).2.2 with
 | true =>
  obtain⟨a1,a2⟩:=h1 hf;rw[a1] at h;rw[show ((0:Nat):Int)+(aX s).1.length=(aX s).1.length by omega] at h
  have hl:=pJ s;obtain⟨p,q,hp,hq,xp⟩:∃ p q,p=(aX s).1/\q=(aX s).2.1/\s=p++46 :: q:=⟨_,_,rfl,rfl,a2⟩;rw[<- hp,<- hq];rw[<- hp] at h;have e1:s.take p.length=p:=by rw[xp];exact awy rfl
  have e2:s.drop (p.length+1)=q:=by rw[xp,List.drop_append];simp
  have e3:p.length+1<=s.length:=by rw[xp,List.length_append,List.length_cons];omega
  have en:asNat (.int .i64 ((p.length:Int)+1))=some (p.length+1):=by rw[bA ah];rfl
  simp(disch:=omega)only[aO,aa,simprocAttr,h,avL,e1,e2,en]
 | false =>
  rw[h2 hf] at h;have e:=qJ hf;have e1:(aX s).1=s:=by rw[e]
  have e2:(aX s).2.1=[]:=by rw[e]
  rw[e1,e2];exact nD h
def ahp(s:ay)(H:ae)(hs:s.length<=10000000):aj A 139 [.str s,.str [46]] H=some (.tuple [.str (aX s).1,.str (aX s).2.1,.bool (aX s).2.2],none):=by
 have h:=acJ s H hs;refine cW abH.eq_1 ?_;exact nD h
theorem aag(s:ay)(c:UInt8)(H:ae)(hs:s.length<=10000000):aj A 142 [.str s,.str [c]] H=some (.str (if [c].isPrefixOf s=true then s.drop 1 else s),none):=by
 have h:=yE s [c] H;refine cW abJ.eq_1 ?_;cases hp:[c].isPrefixOf s with
 | true =>
  have hl:1<=s.length:=by
   grind
  rw[if_pos rfl];simp(disch:=omega)only[aO,aa,simprocAttr,h,hp,avL]
 | false =>
  rw[if_neg aI];exact Lm h hp
def agm(s:ay)(c:UInt8)(H:ae)(hs:s.length<=10000000):aj A 106 [.str s,.str [c]] H=some (.str (if [c].isPrefixOf s=true then s.drop 1 else s),none):=by
 have h:=aag s c H hs;refine cW abA.eq_1 ?_;exact nD h
def XR(b:Bool)(H:ae):aj A 143 [.bool b] H=some (.str (bif b then [116,114,117,101] else [102,97,108,115,101]),none):=by
 refine cW abK.eq_1 ?_;cases b<;>exact uj
def ac7(b:Bool)(H:ae):aj A 107 [.bool b] H=some (.str (bif b then [116,114,117,101] else [102,97,108,115,101]),none):=by
 have h:=XR b H;refine cW abB.eq_1 ?_;exact nD h
def Mx(n:Int)(H:ae)(hn:BD n):aj A 62 [.int .i64 n] H=some (.str (qM n),none):=by
 refine gU (A:=A) (f:=62) rfl ?_;obtain⟨h1,h2⟩:=hn;have e1:decide (-9223372036854775808<=n)=true:=dq;have e2:decide (n<=9223372036854775807)=true:=dq;simp only[Dt,e1,e2,Bool.and_self,cond_true]
def yt:∀ (f n:Nat) (acc:ay),n<f->∃ d r,fS f n acc=d :: r/\d≠45
 | 0,n,acc,h=>ah
 | f+1,n,acc,h=>by
  rw[fS];cases hb:Nat.blt n 10 with
  | true =>
   have hn:n<10:=by simpa [avn] using hb
   refine⟨_,_,rfl,fun e=>?_⟩
   have:=awt UInt8.toNat e
   rw[awW] at this;simp at this;omega
  | false =>
   have hn:¬ n<10:=fun h=>by
    have:Nat.blt n 10=true:=by simpa [avn] using h
    rw[hb] at this;cases this
   exact yt f (n / 10) _ ah
def vy{n:Int}(h:0<=n):qM n=jT n.toNat:=by
 obtain⟨k,rfl⟩:∃ k:Nat,n=k:=⟨n.toNat,ah⟩;rfl
theorem itoa_neg{n:Int}(h:n<0):qM n=45 :: jT (-n).toNat:=by
 cases n with
 | ofNat k=>exact absurd h ag
 | negSucc k =>
  have:(-(Int.negSucc k)).toNat=k+1:=by simp[Int.neg_negSucc]
  rw[this];rfl
theorem Rp(n:Int):(if ([45]:ay).isPrefixOf (qM n)=true then (qM n).drop 1 else qM n)=jT (if n<0 then (-n).toNat else n.toNat):=by
 by_cases h:n<0
 ·grind [itoa_neg]
 ·rw[vy ah,if_neg h]
  obtain⟨d,r,e,hd⟩:=yt (n.toNat+1) n.toNat [] ah;have e' : jT n.toNat=d :: r:=e
  grind
section
structure PS where
 i:Nat
 bad:Bool
def dD(s:ay):Int:=match Lib.atoiAll s with
 | .ok v=>bif decide (1099511627776<v) || !(qM v==s) || decide (v<0) then -1 else v
 | _=>-1
def Hf:ay:=[105,102]
def Ch:ay:=[116,104,101,110]
def Cf:ay:=[101,108,115,101]
def xZ:ay:=[108,101,116]
def RR:ay:=[105,110]
def sJ:ay:=[102,111,108,100]
def Cg:ay:=[111,118,101,114]
def RQ:ay:=[100,111]
def tP:ay:=[110,111,116]
def uq:ay:=[108,101,110]
def wT:ay:=[116,114,117,101]
def sI:ay:=[102,97,108,115,101]
def iN:ay:=[76,105,115,116]
def xX:ay:=[73,110,116]
def sH:ay:=[66,111,111,108]
def nV:ay:=[109,97,116,99,104]
def gH:ay:=[109,111,100,117,108,101]
def rC:ay:=[117,115,101]
def By(w:ay):Option (Int × Int) :=
 (mO.find? fun r=>match r with|.str a :: _=>a==w|_=>false).bind fun r=>match r with|[_,.int _ o,.int _ l]=>some (o,l)|_=>none
section
variable (L:List ay)
def pk(s:PS):ay:=bif s.bad then [] else L.getD s.i []
def PS.up(s:PS):PS:=⟨s.i+1,s.bad⟩
def PS.xe(s:PS):PS:=⟨s.i,true⟩
def aQ(w:ay)(s:PS):PS:=bif pk L s==w then s.up else s.xe
def aF(s:PS):ay × PS:=bif isWord (pk L s) then (pk L s,s.up) else ([],s.xe)
def gR(least:Int)(s:PS):Int × PS:=bif decide (dD (pk L s)<least) then (0,s.xe) else (dD (pk L s),s.up)
def aU(s:PS):ay × PS :=
 bif !(aF L s).2.bad&&(pk L (aF L s).2==[46]) then ((aF L s).1++46 :: (aF L (aF L s).2.up).1,(aF L (aF L s).2.up).2) else aF L s
def nE:Nat->PS->Option (Wd × PS)
 | 0,_=>none
 | n+1,s=>bif pk L s==xX then some (.mk xX [],s.up) else bif pk L s==sH then some (.mk sH [],s.up) else bif pk L s==iN then
   (nE n (aQ L [40] s.up)).map fun r=>(.mk iN [r.1],aQ L [41] r.2)
  else some (.mk (aU L s).1 [],(aU L s).2)
def jD(n:Nat)(s:PS):Option (Wd × PS):=(nE L n (aQ L [40] s)).map fun r=>(r.1,aQ L [41] r.2)
section
variable {α:Type}(elem:α->PS->Option (α × PS))(fin:ay)
def qO:Nat->α->PS->Option (α × PS)
 | 0,_,_=>none
 | k+1,a,s=>(elem a s).bind fun r=>bif !r.2.bad&&(pk L r.2==[44]) then qO k r.1 r.2.up else some (r.1,bif r.2.bad then r.2 else aQ L fin r.2)
def nB(k:Nat)(a:α)(s:PS):Option (α × PS):=bif pk L s==fin then some (a,s.up) else qO L elem fin k a s
end
abbrev EP:=PS->Option (Tm × PS)
def rm(E:EP)(ks:List Tm)(s:PS):Option (List Tm × PS):=(E s).map fun r=>(ks++[r.1],r.2)
def nG(E:EP)(w:ay)(ks:List Tm)(s:PS):Option (List Tm × PS):=bif (aQ L w s).bad then some (ks,aQ L w s) else rm E ks (aQ L w s)
def Ag(E:EP)(a:List ay × List Tm)(s:PS):Option ((List ay × List Tm) × PS) :=
 (rm E a.2 (aQ L [61] (aF L s).2)).map fun r=>((a.1++[(aF L s).1],r.1),r.2)
def xM:List Tm->List Tm
 | a :: b :: r=>b :: a :: r
 | l=>l
def oe(s:PS):List ay × PS :=
 bif (aQ L [44] (aF L s).2).bad then ([(aF L s).1],aQ L [44] (aF L s).2)
 else ([(aF L s).1,(aF L (aQ L [44] (aF L s).2)).1],(aF L (aQ L [44] (aF L s).2)).2)
def qG(E B:EP)(s:PS):Option (Tm × PS) :=
 bif pk L s==Hf then (rm E [] s.up).bind fun a=>(nG L E Ch a.1 a.2).bind fun b=>(nG L E Cf b.1 b.2).map fun c=>(.mk 5 0 [] [] [] [] c.1 [],c.2)
 else bif pk L s==xZ then (nG L E [61] [] (aF L s.up).2).bind fun a=>(nG L E RR a.1 a.2).map fun c=>(.mk 6 0 [] [] [] [] c.1 [(aF L s.up).1],c.2)
 else bif pk L s==sJ then (nG L E [61] [] (oe L s.up).2).bind fun a=>(nG L E Cg a.1 a.2).bind fun b=>(nG L E RQ b.1 b.2).map fun c =>
  (.mk 12 0 [] [] [] [] (bif c.2.bad then c.1 else xM c.1) (oe L s.up).1,c.2)
 else B s
def nJ(E:EP):Nat->List ay × List Tm->PS->Option ((List ay × List Tm) × PS)
 | 0,_,_=>none
 | k+1,a,s=>(E (aQ L [45,62] (aF L (aF L s).2).2)).bind fun r =>
   let b:=(a.1++[(aF L s).1,(aF L (aF L s).2).1],a.2++[r.1])
   bif !r.2.bad&&(pk L r.2==[44]) then nJ E k b r.2.up else some (b,r.2)
def oC(n:Nat)(E:EP)(s:PS):Option (Tm × PS) :=
 (E (aQ L [40] (aU L s).2)).bind fun r=>(nJ L E n ([],[r.1]) (aQ L [123] (aQ L [41] r.2))).map fun q=>(.mk 10 0 (aU L s).1 [] [] [] q.1.2 q.1.1,aQ L [125] q.2)
def pX(E:EP)(nm:ay)(s:PS):Option (Tm × PS) :=
 bif pk L (aF L s).2==[91] then (E (aF L s).2.up).map fun r=>(.mk 8 0 nm (aF L s).1 [] [] [r.1] [],aQ L [93] r.2)
 else (E (aQ L [40] (aF L s).2)).map fun r=>(.mk 9 0 nm (aF L s).1 [] [] [r.1] [],aQ L [41] r.2)
def mZ(n:Nat)(E:EP)(s:PS):Option (Tm × PS) :=
 let nm:=(aU L s).1
 let q:=(aU L s).2
 bif pk L q==[40] then (nB L (rm E) [41] n [] q.up).map fun r=>(.mk 3 0 nm [] [] [] r.1 [],r.2)
 else bif pk L q==[123] then (nB L (Ag L E) [125] n ([],[]) q.up).map fun r=>(.mk 7 0 nm [] [] [] r.1.2 r.1.1,r.2)
 else bif pk L q==[58] then pX L E nm q.up
 else bif decide (0<=dp 46 0 nm) then some (.mk 0 0 nm [] [] [] [] [],q.xe)
 else some (.mk 2 0 nm [] [] [] [] [],q)
def mS(n:Nat)(E:EP)(s:PS):Option (Tm × PS) :=
 bif decide (0<=dD (pk L s)) then some (.mk 0 (gR L 0 s).1 [] [] [] [] [] [],(gR L 0 s).2)
 else bif pk L s==[45] then some (.mk 0 (-(gR L 1 s.up).1) [] [] [] [] [] [],(gR L 1 s.up).2)
 else bif pk L s==wT then some (.mk 1 1 [] [] [] [] [] [],s.up)
 else bif pk L s==sI then some (.mk 1 0 [] [] [] [] [] [],s.up)
 else bif pk L s==[40] then (E s.up).map fun r=>(r.1,aQ L [41] r.2)
 else bif pk L s==iN then (jD L n s.up).bind fun w=>(nB L (rm E) [93] n [] (aQ L [91] w.2)).map fun r=>(.mk 11 0 [] [] w.1.name w.1.kids r.1 [],r.2)
 else bif pk L s==nV then oC L n E s.up
 else mZ L n E s
def uz(B:EP)(level:Int):Nat->Tm->PS->Option (Tm × PS)
 | 0,_,_=>none
 | k+1,t,s=>bif s.bad then some (t,s) else match By (pk L s) with
  | none=>some (t,s)
  | some (o,l)=>bif decide (l=level) then (B s.up).bind fun r =>
    bif decide (level=3) then some (.mk 4 o [] [] [] [] [t,r.1] [],r.2) else uz B level k (.mk 4 o [] [] [] [] [t,r.1] []) r.2
   else some (t,s)
def pE:Nat->Nat->EP
 | 0,_,_=>none
 | n+1,l,s=>match l with
  | 0=>qG L (pE n 0) (pE n 1) s
  | 7=>bif pk L s==tP then (pE n 7 s.up).map fun r=>(.mk 4 9 [] [] [] [] [r.1] [],r.2)
   else bif pk L s==uq then (pE n 7 s.up).map fun r=>(.mk 4 11 [] [] [] [] [r.1] [],r.2)
   else mS L n (pE n 0) s
  | l=>(pE n (l+1) s).bind fun r=>uz L (pE n (l+1)) l n r.1 r.2
def oP(n:Nat)(kd:Int)(a:List Fd)(s:PS):Option (List Fd × PS) :=
 (nE L n (aF L s).2).map fun w=>bif decide (kd=4) then (a++[⟨(aF L s).1,w.1.name,w.1.kids,(gR L 0 w.2).1⟩],(gR L 0 w.2).2) else (a++[⟨(aF L s).1,w.1.name,w.1.kids,0⟩],w.2)
def tm0:Tm:=.mk 0 0 [] [] [] [] [] []
def pL(n:Nat)(E:EP)(s:PS):Option (Fm × PS) :=
 let k:=kM (pk L s) dJ 0
 bif decide (k<0) then some (⟨k,[],[],[],[],tm0,[]⟩,s.xe) else
 (nB L (oP L n k) [41] n [] (aQ L [40] (aF L s.up).2)).bind fun sl =>
  bif decide (k=0) || decide (k=1) then some (⟨k,(aF L s.up).1,sl.1,[],[],tm0,[]⟩,sl.2) else
  (nE L n sl.2).bind fun w=>(E (aQ L [61] w.2)).map fun b=>(⟨k,(aF L s.up).1,sl.1,w.1.name,w.1.kids,b.1,[]⟩,b.2)
def nC:Nat->List ay->PS->Option (List ay × PS)
 | 0,_,_=>none
 | k+1,a,s=>bif !s.bad&&(pk L s==rC) then nC k (a++[(aF L s.up).1]) (aF L s.up).2 else some (a,s)
def lS(n:Nat):Nat->List Fm × List Nat->PS->Option ((List Fm × List Nat) × PS)
 | 0,_,_=>none
 | k+1,a,s=>bif !s.bad&&Nat.blt s.i L.length then (pL L n (pE L n 0) s).bind fun r=>lS n k (a.1++[r.1],a.2++[r.2.i]) r.2 else some (a,s)
def oo(n:Nat):Option ((ay × List ay × List Fm × List Nat) × PS) :=
 (nC L n [] (aF L (aQ L gH ⟨0,false⟩)).2).bind fun u =>
  (lS L n n ([],[u.2.i]) u.2).map fun d=>(((aF L (aQ L gH ⟨0,false⟩)).1,u.1,d.1.1,d.1.2),d.2)
end
end
structure PW (mm:Nat) (K:ae):Prop where
 lt:mm<K.length
 nob:∀ j cs,mm<=j->K[j]?≠some (.bZ cs)
def nx(l:List ay)(b:Bool):bS:=.box 124 [.slice (strs l) true,.bool b]
def cI(mm:Nat)(l:List ay)(b:Bool)(K:ae):ae:=K.set mm (nx l b)
def bu{mm:Nat}{l:List ay}{b:Bool}{K:ae} : (cI mm l b K).length=K.length:=by unfold cI;rw[List.length_set]
def fO{l:List ay}{K:ae}(h:PW mm K):(cI mm l b K)[mm]?=some (nx l b):=by unfold cI;exact List.getElem?_set_self h.lt
def Iu{l:List ay}{K:ae}(h:mm≠j):(cI mm l b K)[j]?=K[j]?:=by unfold cI;exact List.getElem?_set_ne h
def zl{mm:Nat}{l l' : List ay}{b b' : Bool}{K:ae} : (cI mm l b K).set mm (.box 124 [.slice (strs l') true,.bool b'])=cI mm l' b' K:=by unfold cI nx;rw[List.set_set]
theorem fY{mm:Nat}{l:List ay}{b:Bool}{K:ae} : (cI mm l b K).take K.length=cI mm l b K:=List.take_of_length_le (awn bu)
def PW.open{K:ae}(h:PW mm K)(l:List ay)(b:Bool):ni K.length mm (cI mm l b K)=true:=by
 unfold ni;cases hb:Nat.beq mm K.length with
 | true=>rfl
 | false =>
  rw[cond_false,ava];intro x hx;obtain⟨j,hj⟩:=avu hx;rw[fY,av9] at hj;unfold cI at hj;rw[av2] at hj;split at hj
  ·split at hj
   ·cases hj;rfl
   ·cases hj
  ·cases x with
   | bZ cs=>exact absurd hj (h.nob _ cs ah)
   | _=>rfl
def PW.push{K:ae}(h:PW mm K)(ho:∀ cs,o≠.bZ cs):PW mm (K++[o]):=⟨by have:=h.lt;rw[List.length_append];omega,fun j cs hj=>by
 rw[avZ];split
 ·exact h.nob j cs hj
 ·intro e
  cases wz:j-K.length with
  | zero=>rw[wz] at e;exact ho cs (cY e)
  | succ n=>rw[wz] at e;simp at e⟩
def sq{l:List ay}{K:ae}(h:PW mm K){L:ae} : cI mm l b K++L=cI mm l b (K++L):=by unfold cI;rw[List.set_append_left _ _ h.lt]
theorem qd{l:List ay}{K:ae}(h:PW mm K){L:ae} : (cI mm l b (K++L)).take K.length=cI mm l b K:=by
 rw[<- sq h,awy bu]
theorem PW.ON{K:ae}(h:PW mm K){L:ae}(l:List ay)(b:Bool):ni K.length mm (cI mm l b (K++L))=true:=by
 have:=h.open l b
 unfold ni at this ⊢
 grind [qd,fY]
def rB(mm:Nat)(K:ae)(f:FuncId)(args:List AV)(ok:Bool)(jy:List ay)(n:Nat):Prop :=
 ∀ l b,l.length+n<=10000000->∃ l',aj A f args (cI mm l b K)=some (.undef,some ⟨cI mm l' (b || !ok) K,mm⟩)/\((b || !ok)=false->l'=l++jy)/\l'.length<=l.length+n
def Bb{K:ae}(h:PW mm K)(xs:List ay)(hx:xs.length<=1000):rB mm K 58 [.ref mm 0,.slice (strs xs) false] true xs xs.length:=by
 intro l b hl;refine⟨l++xs,?_,fun _=>rfl,ag⟩
 have e:(b || !true)=b:=by cases b<;>rfl
 rw[e];refine cW Yw.eq_1 ?_;have h0:=fO (l:=l) (b:=b) h;unfold nx at h0;have a1:aG false 1 16 (.slice (strs l) true) (.slice (strs xs) false)=some (.slice (strs (l++xs)) true):=cw ah;have aZ:=h.lt;have ho:=h.open (l++xs) b;have h1:∀ x:bS,((cI mm l b K).set mm x)[mm]?=some x:=fun x=>List.getElem?_set_self (by rw[bu];exact aZ)
 simp(disch:=omega)only[oy,da,cj,cE,cr,gK,aS,aR,bt,aE.eval,AS.ca,↓reduceIte,Nat.reduceEqDiff,Option.isSome,Option.isNone,cond_true,cond_false,Nat.reduceBEq,Nat.reduceAdd,Nat.reduceMul,aa,cz,eq_self,reduceCtorEq,gF,de,cn,bL,bound,dj,AS.bG,aP,bN,bz,Nat.reduceLeDiff,cA,putAt,Int.reduceEq,Int.reduceLT,Int.reduceLE,Int.reduceBEq,Int.reduceBNe,Int.reduceAdd,Int.reduceNeg,Int.reduceSub,Int.reduceMul,dX,dW,dV,dU,dS,dR,dZ,dY,ax,bA,avH,avG,h0,h1,a1,bu,zl,List.set_set,fY,ho,cS,cM,avq,ab]
def BI{K:ae}(h:PW mm K)(ok:Bool):rB mm K 61 [.ref mm 0,.bool ok] ok [] 0:=by
 intro l b hl;refine⟨l,?_,fun _=>ag,ag⟩
 refine cW aes.eq_1 ?_;have h0:=fO (l:=l) (b:=b) h;unfold nx at h0;have aZ:=h.lt;have ho:=fun b=>h.open l b
 have h1:∀ x:bS,((cI mm l b K).set mm x)[mm]?=some x:=fun x=>List.getElem?_set_self (by rw[bu];exact aZ)
 cases b<;>exact nL5 h0 @bu @zl @fY ho tv
def Na{K:ae}(h:PW mm K)(xs:List ay)(hx:xs.length<=1000)(h0:K[mm]?=some (.box 124 [.ar,.bool false])):aj A 58 [.ref mm 0,.slice (strs xs) false] K=some (.undef,some ⟨cI mm xs false K,mm⟩):=by
 refine cW Yw.eq_1 ?_;have a1:aG false 1 16 (.slice [] true) (.slice (strs xs) false)=some (.slice (strs xs) true):=cw (l:=[]) dq;have aZ:=h.lt;have ho:=h.open xs false;have h1:∀ x:bS,(K.set mm x)[mm]?=some x:=fun x=>List.getElem?_set_self aZ
 have h2:∀ x:bS,(K.set mm x).length=K.length:=fun x=>List.length_set
 have h3:K.set mm (.box 124 [.slice (strs xs) true,.bool false])=cI mm xs false K:=rfl;simp(disch:=omega)only[aO,aa,simprocAttr,h0,h1,a1,h3,List.set_set,fY,ho,cS,cM,avq,ab]
def tC{K:ae}(h:PW mm K)(s:ay)(hs:s.length<=2000000):rB mm K 59 [.ref mm 0,.str s] (isWord s) [s] 1:=by
 intro l b hl;have hw:=fun K=>O9 s K ah
 obtain⟨l1,e1,t1,n1⟩:=BI h (isWord s) l b ah;obtain⟨l2,e2,t2,n2⟩:=Bb h [s] ag l1 (b || !isWord s) dq;have eo:((b || !isWord s) || !true)=(b || !isWord s):=ag;rw[eo] at e2 t2;have es:strs [s]=[[.str s]]:=rfl;rw[es] at e2;refine⟨l2,?_,fun hk=>by rw[t2 hk,t1 hk];simp,by simp at n2;omega⟩
 refine cW aja.eq_1 ?_;have aZ:=h.lt;have ho:=h.open l2 (b || !isWord s);generalize isWord s=w at *;exact nM (j2 (j5 hw e1 e2 @bu @fY) (j2 ho @Nat.lt_irrefl)) tv
section
abbrev Tk:=ay × ay
def gN(t:Tk):List AV:=[.str t.1,.str t.2]
def aq(tk:List Tk):List ay:=tk.map (·.1)
structure PQ (pl:Nat) (K:ae):Prop where
 lt:pl<K.length
 ob:∀ j cs,pl<=j->K[j]?=some (.bZ cs)->cs.all (AV.bw K.length)=true
def nK(tk:List Tk)(s:PS):bS:=.box 99 [.slice (tk.map gN) false,.int .i64 s.i,.bool s.bad]
def aJ(tk:List Tk)(pl:Nat)(s:PS)(K:ae):ae:=K.set pl (nK tk s)
section
variable {tk:List Tk}{pl:Nat}{K:ae}{s s' : PS}
theorem fG:aJ tk pl s (aJ tk pl s' K)=aJ tk pl s K:=by unfold aJ;rw[List.set_set]
theorem bF:(aJ tk pl s K).length=K.length:=by unfold aJ;rw[List.length_set]
def nu(h:PQ pl K):(aJ tk pl s K)[pl]?=some (nK tk s):=by unfold aJ;exact List.getElem?_set_self h.lt
theorem dH(h:pl≠j):(aJ tk pl s K)[j]?=K[j]?:=by unfold aJ;exact List.getElem?_set_ne h
def ve{i:Nat}{b:Bool} : (aJ tk pl s K).set pl (.box 99 [.slice (tk.map gN) false,.int .i64 i,.bool b])=aJ tk pl ⟨i,b⟩ K:=by unfold aJ nK;rw[List.set_set]
def sk{i:Nat}{b:Bool} : (aJ tk pl s K).set pl (.box 99 [.slice (tk.map gN) false,.int .i64 ((i:Int)+1),.bool b])=aJ tk pl ⟨i+1,b⟩ K:=by unfold aJ nK;rw[List.set_set];rfl
def dE:(aJ tk pl s K).take K.length=aJ tk pl s K:=List.take_of_length_le (awn bF)
def Ho{n:Nat}(h:m<=n):∀ v:AV,v.bw m=true->v.bw n=true:=by
 intro v hv;cases v<;>simp only[AV.bw,avn] at hv ⊢<;>first|exact hv|omega
def PQ.push(h:PQ pl K)(ho:∀ cs,o=.bZ cs->cs.all (AV.bw (K.length+1))=true):PQ pl (K++[o]):=⟨by have:=h.lt;rw[List.length_append];omega,fun j cs hj hc=>by
 have hlen:(K++[o]).length=K.length+1:=ag;rw[hlen];rw[avZ] at hc;split at hc
 ·have:=h.ob j cs hj hc
  rw[ava] at this ⊢;exact fun x hx=>Ho ah x (this x hx)
 ·cases wz:j-K.length with
  | zero=>rw[wz] at hc;exact ho cs (cY hc)
  | succ n=>rw[wz] at hc;simp at hc⟩
def PQ.aJ(h:PQ pl K):PQ pl (aJ tk pl s K):=⟨by rw[bF];exact h.lt,fun j cs hj hc=>by
 rw[bF]
 by_cases e:pl=j
 ·subst e;rw[nu h] at hc;cases hc
 ·rw[dH e] at hc;exact h.ob j cs hj hc⟩
def PQ.open(h:PQ pl K):ni K.length pl (Go.Proofs.YtbadnagdfefbnaaGreatDoor.aJ tk pl s K)=true:=by
 unfold ni;cases hb:Nat.beq pl K.length with
 | true=>rfl
 | false =>
  rw[cond_false,ava];intro x hx;obtain⟨j,hj⟩:=avu hx;rw[dE,av9] at hj;cases x with
  | bZ cs =>
   have:=(h.aJ (tk:=tk) (s:=s)).ob _ cs ah hj
   rwa [bF] at this
  | _=>rfl
end
structure BF (tk:List Tk):Prop where
 len:tk.length<=1000000
 tb:∀ x∈tk,x.1.length<=1000000
def BF.pkl{tk:List Tk}(h:BF tk)(s:PS):(pk (aq tk) s).length<=1000000:=by
 unfold pk;cases s.bad with
 | true=>simp
 | false =>
  rw[cond_false,List.getD_eq_getElem?_getD];cases hx:(aq tk)[s.i]? with
  | none=>simp
  | some w =>
   obtain⟨x,hm,rfl⟩:=List.mem_map.1 (avb hx);exact h.tb x hm
def tY{tk:List Tk}{s:PS}(h:pk (aq tk) s≠[]):s.i<tk.length:=by
 unfold pk at h;cases hb:s.bad with
 | true=>rw[hb] at h;exact absurd rfl h
 | false =>
  rw[hb,cond_false,List.getD_eq_getElem?_getD] at h
  by_cases hl:s.i<tk.length
  ·exact hl
  ·rw[List.getElem?_eq_none (by unfold aq;rw[List.length_map];omega)] at h
   exact absurd rfl h
theorem Dv{tk:List Tk}{pl:Nat}{K:ae}(h:PQ pl K)(hb:BF tk)(s:PS)(hs:s.i<=1000000):aj A 84 [.ref pl 0] (aJ tk pl s K)=some (.str (pk (aq tk) s),none):=by
 refine cJ (fn:=aez) rfl rfl rfl ?_;unfold aez;have h0:=nu (tk:=tk) (s:=s) h;unfold nK at h0;obtain⟨i,b⟩:=s;have hl:=hb.len;simp only at hs h0;have hm:(tk.map gN).length=tk.length:=List.length_map _;cases b with
 | true =>
  have e:pk (aq tk) ⟨i,true⟩=[]:=rfl;rw[e];exact nL4 h0 @bF @dE @gr.eq_1 tv
 | false =>
  by_cases hi:tk.length<=i
  ·have e:pk (aq tk) ⟨i,false⟩=[]:=by
    unfold pk;rw[cond_false,List.getD_eq_getElem?_getD,List.getElem?_eq_none (by unfold aq;rw[List.length_map];omega)];rfl
   rw[e];have h1:decide ((tk.length:Int)<=i)=true:=dq;simp(disch:=omega)only[oy,da,cj,cE,cr,gK,aS,aR,bt,aE.eval,AS.ca,↓reduceIte,Nat.reduceEqDiff,Option.isSome,Option.isNone,cond_true,cond_false,Nat.reduceBEq,Nat.reduceAdd,Nat.reduceMul,aa,cz,eq_self,reduceCtorEq,gF,de,cn,bL,bound,dj,AS.bG,aP,bN,bz,Nat.reduceLeDiff,cA,putAt,Int.reduceEq,Int.reduceLT,Int.reduceLE,Int.reduceBEq,Int.reduceBNe,Int.reduceAdd,Int.reduceNeg,Int.reduceSub,Int.reduceMul,dX,dW,dV,dU,dS,dR,dZ,dY,ax,bA,avH,avG,h0,hm,h1,gr,bF,dE,ab]
   done
  ·obtain⟨x,hx⟩:∃ x,tk[i]?=some x:=⟨tk[i],au5 ah⟩
   have e:pk (aq tk) ⟨i,false⟩=x.1:=by
    unfold pk;rw[cond_false,List.getD_eq_getElem?_getD];unfold aq
    grind
   rw[e];have h1:decide ((tk.length:Int)<=i)=false:=dq;have h2:(tk.map gN)[i]?=some [.str x.1,.str x.2]:=by rw[List.getElem?_map,hx];rfl
   simp(disch:=omega)only[oy,da,cj,cE,cr,gK,aS,aR,bt,aE.eval,AS.ca,↓reduceIte,Nat.reduceEqDiff,Option.isSome,Option.isNone,cond_true,cond_false,Nat.reduceBEq,Nat.reduceAdd,Nat.reduceMul,aa,cz,eq_self,reduceCtorEq,gF,de,cn,bL,bound,dj,AS.bG,aP,bN,bz,Nat.reduceLeDiff,cA,putAt,Int.reduceEq,Int.reduceLT,Int.reduceLE,Int.reduceBEq,Int.reduceBNe,Int.reduceAdd,Int.reduceNeg,Int.reduceSub,Int.reduceMul,dX,dW,dV,dU,dS,dR,dZ,dY,ax,bA,avH,avG,h0,hm,h1,h2,gr,bF,dE,ab]
   done
end
theorem Sc{s:ay}{v:Int}(h:Lib.atoiAll s=.ok v):BD v:=by
 cases s with
 | nil=>cases h
 | cons c r =>
  simp only[Lib.atoiAll] at h
  grind
def NO:AG .neq .iface true .df .df=some (.bool false):=rfl
def ag9{t:TypeId}{v:AV} : AG .neq .iface true (.iface t v) .df=some (.bool true):=rfl
def GH(s:ay)(H:ae)(hs:s.length<=1000000):aj A 133 [.str s] H=some (.int .i64 (dD s),none):=by
 have ha:∀ H,aj A 157 [.str s] H=some (match Lib.atoiAll s with
   | .ok v=>(.tuple [.int .i64 v,.df],none)
   | .range=>(.tuple [.int .i64 (Lib.atoiSat s),.iface 229 .any],none)
   | _=>(.tuple [.int .i64 0,.iface 229 .any],none)):=fun H=>by
  refine gU (A:=A) (f:=157) rfl ?_;have h1:Nat.ble s.length 281474976710656=true:=by rw[avv];omega
  simp only[Ds,h1,cond_true];cases Lib.atoiAll s<;>rfl
 refine cJ (fn:=Ur) rfl rfl rfl ?_;unfold Ur;unfold dD;cases hx:Lib.atoiAll s with
 | ok v =>
  rw[hx] at ha;have hv:BD v:=Sc hx;simp only at ha;have HL:=fun H=>Mx v H hv
  by_cases h1:1099511627776<v
  ·have e1:decide (1099511627776<v)=true:=cY h1
   exact nK3 @NO ha e1 tv
  ·have e1:decide (1099511627776<v)=false:=cY h1
   cases h2:(qM v==s) with
   | false=>exact nK5 @NO ha e1 HL h2 tv
   | true =>
    by_cases h3:v<0
    ·have e3:decide (v<0)=true:=cY h3
     exact nK6 @NO ha e1 HL h2 e3 tv
    ·have e3:decide (v<0)=false:=cY h3
     exact nK6 @NO ha e1 HL h2 e3 tv
 | _ =>
  rw[hx] at ha;simp only at ha;exact nK2 @ag9 ha tv
section
section
variable {tk:List Tk}{pl:Nat}{K:ae}
def J9(h:PQ pl K)(hb:BF tk){s:PS}(hw:w≠[])(e:(pk (aq tk) s==w)=true):aj A 40 [.ref pl 0,.str w] (aJ tk pl s K)=some (.bool true,some ⟨aJ tk pl s.up K,pl⟩):=by
 have aZ:s.i<tk.length:=tY (by rw[avM.1 e];exact hw)
 have hl:=hb.len;have hp:=Dv h hb s ah;have h0:=nu (tk:=tk) (s:=s) h;have ho:=h.open (tk:=tk) (s:=s.up);have gW:=h.lt;unfold nK at h0;refine cJ (fn:=UH) rfl rfl rfl ?_;unfold UH;obtain⟨i,b⟩:=s;simp only[PS.up] at h0 aZ ho ⊢;exact nL6 hp e h0 @bF @sk (j2 @dE ho) tv
def J8(h:PQ pl K)(hb:BF tk){s:PS}(hs:s.i<=tk.length)(e:(pk (aq tk) s==w)=false):aj A 40 [.ref pl 0,.str w] (aJ tk pl s K)=some (.bool false,none):=by
 have hl:=hb.len;have hp:=Dv h hb s ah;refine cJ (fn:=UH) rfl rfl rfl ?_;unfold UH;exact nK2 hp e tv
def DY(h:PQ pl K)(hb:BF tk){s:PS}(hw:w≠[])(hs:s.i<=tk.length):aj A 38 [.ref pl 0,.str w] (aJ tk pl s K)=some (.tuple [],some ⟨aJ tk pl (aQ (aq tk) w s) K,pl⟩):=by
 unfold aQ;have gW:=h.lt;cases e:(pk (aq tk) s==w) with
 | true =>
  have hi:=J9 h hb hw e;have ho:=h.open (tk:=tk) (s:=s.up);refine cJ (fn:=UG) rfl rfl rfl ?_;unfold UG;rw[cond_true];exact nK4 hi @bF @dE ho tv
 | false =>
  have hi:=J8 h hb hs e;have ho:=h.open (tk:=tk) (s:=s.xe);have h0:=nu (tk:=tk) (s:=s) h;unfold nK at h0;refine cJ (fn:=UG) rfl rfl rfl ?_;unfold UG;rw[cond_false];obtain⟨i,b⟩:=s;simp only[PS.xe] at h0 ho ⊢;exact nM (j2 (j5 hi h0 @bF @ve @dE) ho) tv
def vF(h:PQ pl K)(hb:BF tk){s:PS}(hs:s.i<=tk.length):aj A 39 [.ref pl 0] (aJ tk pl s K)=some (.str (aF (aq tk) s).1,some ⟨aJ tk pl (aF (aq tk) s).2 K,pl⟩):=by
 have hl:=hb.len;have hp:=Dv h hb s ah;have gW:=h.lt;have h0:=nu (tk:=tk) (s:=s) h;unfold nK at h0;have hw:=fun H=>O9 (pk (aq tk) s) H (by have:=hb.pkl s;omega)
 unfold aF;refine cJ (fn:=aeo) rfl rfl rfl ?_;unfold aeo;cases e:isWord (pk (aq tk) s) with
 | true =>
  have aZ:s.i<tk.length:=tY (fun h=>by rw[h] at e;cases e)
  rw[e] at hw;have ho:=h.open (tk:=tk) (s:=s.up);rw[cond_true];generalize pk (aq tk) s=w at *;obtain⟨i,b⟩:=s;simp only[PS.up] at h0 aZ ho ⊢;exact nL6 hp hw h0 @bF @sk (j2 @dE ho) tv
 | false =>
  rw[e] at hw;have ho:=h.open (tk:=tk) (s:=s.xe);rw[cond_false];generalize pk (aq tk) s=w at *;obtain⟨i,b⟩:=s;simp only[PS.xe] at h0 ho ⊢;exact nM (j2 (j5 hp hw h0 @bF @ve) (j2 @dE ho)) tv
def A' : dD []=-1:=aI
def ae3(h:PQ pl K)(hb:BF tk){s:PS}(hs:s.i<=tk.length)(h1:0<=least)(h2:least<=10):aj A 90 [.ref pl 0,.int .i64 least] (aJ tk pl s K)=some (.int .i64 (gR (aq tk) least s).1,some ⟨aJ tk pl (gR (aq tk) least s).2 K,pl⟩):=by
 have hl:=hb.len;have hp:=Dv h hb s ah;have gW:=h.lt;have h0:=nu (tk:=tk) (s:=s) h;unfold nK at h0;have hn:=fun H=>GH (pk (aq tk) s) H (hb.pkl s)
 unfold gR;refine cJ (fn:=aeB) rfl rfl rfl ?_;unfold aeB;cases e:decide (dD (pk (aq tk) s)<least) with
 | false =>
  have aZ:s.i<tk.length:=tY (fun h=>by
   rw[h,A'] at e;simp only[avp] at e;omega)
  have ho:=h.open (tk:=tk) (s:=s.up);rw[cond_false];generalize dD (pk (aq tk) s)=w at *;obtain⟨i,b⟩:=s;simp only[PS.up] at h0 aZ ho ⊢;exact nL6 hp hn e h0 @bF (j3 @sk @dE ho) tv
 | true =>
  have ho:=h.open (tk:=tk) (s:=s.xe);rw[cond_true];generalize dD (pk (aq tk) s)=w at *;obtain⟨i,b⟩:=s;simp only[PS.xe] at h0 ho ⊢;exact nM (j2 (j5 hp hn e h0 @bF) (j3 @ve @dE ho)) tv
def lG{s:PS}(hw:w≠[])(e:(pk (aq tk) s==w)=true):s.up.i<=tk.length:=by
 have:=tY (tk:=tk) (s:=s) (by rw[avM.1 e];exact hw)
 exact this
theorem gy{s:PS}(hw:w≠[])(hs:s.i<=tk.length):(aQ (aq tk) w s).i<=tk.length:=by
 unfold aQ;cases e:(pk (aq tk) s==w) with
 | true=>exact lG hw e
 | false=>exact hs
def jY{s:PS}(hs:s.i<=tk.length):(aF (aq tk) s).2.i<=tk.length:=by
 unfold aF;cases e:isWord (pk (aq tk) s) with
 | true=>exact tY (fun h=>by rw[h] at e;cases e)
 | false=>exact hs
def ae4{s:PS}(h1:0<=least)(hs:s.i<=tk.length):(gR (aq tk) least s).2.i<=tk.length:=by
 unfold gR;cases e:decide (dD (pk (aq tk) s)<least) with
 | false=>exact tY (fun h=>by
   rw[h,A'] at e;simp only[avp] at e;omega)
 | true=>exact hs
theorem uW(hb:BF tk){s:PS} : (aF (aq tk) s).1.length<=1000000:=by
 unfold aF;cases e:isWord (pk (aq tk) s) with
 | true=>exact hb.pkl s
 | false=>simp
def Vz{s:PS}(hs:s.i<=tk.length):(aU (aq tk) s).2.i<=tk.length:=by
 unfold aU;cases e:(!(aF (aq tk) s).2.bad&&(pk (aq tk) (aF (aq tk) s).2==[46])) with
 | true =>
  simp only[au6] at e;exact jY (lG ag e.2)
 | false=>exact jY hs
def KF(h:PQ pl K)(hb:BF tk){s:PS}(hs:s.i<=tk.length):aj A 132 [.ref pl 0] (aJ tk pl s K)=some (.str (aU (aq tk) s).1,some ⟨aJ tk pl (aU (aq tk) s).2 K,pl⟩):=by
 have hl:=hb.len;have gW:=h.lt;have hn:=vF h hb hs;have hle:=jY hs (tk:=tk);have hlen:=uW hb (s:=s);unfold aU;generalize aF (aq tk) s=r at *;obtain⟨a,i,b⟩:=r;simp only at hle hlen ⊢;have h0:=nu (tk:=tk) (s:=⟨i,b⟩) h;unfold nK at h0;refine cJ (fn:=Uq) rfl rfl rfl ?_;unfold Uq;cases b with
 | true =>
  have ho:=h.open (tk:=tk) (s:=⟨i,true⟩);rw[av8,avt,cond_false];exact nL5 hn h0 @bF @dE ho tv
 | false =>
  rw[awd,avE];cases e:(pk (aq tk) ⟨i,false⟩==[46]) with
  | false =>
   have hi:=J8 h hb (s:=⟨i,false⟩) hle e;have ho:=h.open (tk:=tk) (s:=⟨i,false⟩);rw[cond_false];exact nL6 hn hi h0 @bF @dE ho tv
  | true =>
   have hi:=J9 h hb (s:=⟨i,false⟩) ag e;have Yb:=vF h hb (s:=PS.up ⟨i,false⟩) (lG ag e);have Mk:=uW hb (s:=PS.up ⟨i,false⟩);rw[cond_true];generalize aF (aq tk) (PS.up ⟨i,false⟩)=q at *;obtain⟨c,s2⟩:=q;simp only at Yb Mk ⊢;have ho:=h.open (tk:=tk) (s:=s2);simp(disch:=omega)only[oy,da,cj,cE,cr,gK,aS,aR,bt,aE.eval,AS.ca,↓reduceIte,Nat.reduceEqDiff,Option.isSome,Option.isNone,cond_true,cond_false,Nat.reduceBEq,Nat.reduceAdd,Nat.reduceMul,aa,cz,eq_self,reduceCtorEq,gF,de,cn,bL,bound,dj,AS.bG,aP,bN,bz,Nat.reduceLeDiff,cA,putAt,Int.reduceEq,Int.reduceLT,Int.reduceLE,Int.reduceBEq,Int.reduceBNe,Int.reduceAdd,Int.reduceNeg,Int.reduceSub,Int.reduceMul,dX,dW,dV,dU,dS,dR,dZ,dY,ax,bA,avH,avG,hn,hi,Yb,h0,bF,dE,ho,ab]
   done
end
end
end Go.Proofs.YtbadnagdfefbnaaGreatDoor
end
