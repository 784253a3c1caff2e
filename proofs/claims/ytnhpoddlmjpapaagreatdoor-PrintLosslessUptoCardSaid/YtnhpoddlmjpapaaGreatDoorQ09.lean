/-
  A part of the proof of PrintLossless: U24, U25, U26, U27, U28, U29, U30, U31, U32, U35, U36, U37, U38, U39, U40, U43, U44, UQ1, U45, UQ2, UQ3a.
-/
import Derived.Test.YtnhpoddlmjpapaaGreatDoorQ08
set_option linter.unusedSimpArgs false
set_option linter.unusedVariables false
set_option linter.defProp false
set_option maxHeartbeats 1000000
set_option maxRecDepth 100000
noncomputable section
namespace Go.Proofs.YtnhpoddlmjpapaaGreatDoor
open Go Go.Abs Go.Proofs
variable {R:AS->Prop}{x:AV}{agg b:Bool}{k many p p0:Int}{rows:List (List AV)}{cs r:List AV}{l lay:List aB}{g i j m mm off sz z:Nat}{T:aD}{fn:ax}{Q:bJ->AS->Prop}{a o:bM}
section
section
variable {t:Tm}{h:Nat}(hF:NY h t)(hO:Fb t)(hK:∀ u∈t.kids,tZ u)(H:ae)
include hF hO hK
theorem amb(hk:t.kind=10):∃ (ws:List (List aB)) (x:Tm),t.kids[0]?=some x/\2<=t.kids.length/\ws.length+1=t.kids.length/\t.names.length=2*ws.length /\
  (∀ (j:Nat) (p q:aB) (u:Tm),t.names[2*j]?=some p->t.names[2*j+1]?=some q->t.kids[j+1]?=some u->ws[j]?=some ([p,q,[45,62]]++af u)) /\
  af t=[[109,97,116,99,104]]++aJ t.name++[[40]]++af x++[[41]]++[[123]]++av ws++[[125]]:=by
 have _:=hK;have Ft:=hF.kl;have h2:¬ t.kids.length<2:=fun aZ=>absurd rfl (gJ hO (c1:=-2) (c2:=0) (by rw[hk];simp[bR,aZ])).1
 have hc:=gJ hO (c1:=-1) (c2:=2*((t.kids.length:Int)-1)) (by rw[hk];simp[bR,h2])
 have uF:=hc.2.2
 by_cases h3:t.kids.length=2
 ·obtain⟨x,y,gG⟩:=xp h3
  obtain⟨p,q,AN⟩:=xp (show t.names.length=2 by omega)
  refine⟨[[p,q,[45,62]]++af y],x,by rw[gG];rfl,ah,dw,dw,?_,?_⟩
  ·grind
  ·rw[bN,hk,gG,AN];rfl
 ·obtain⟨x,y,z,gG⟩:=M3 (show t.kids.length=3 by omega)
  obtain⟨p,q,r,s,AN⟩:∃ p q r s,t.names=[p,q,r,s]:=by
   have h4:t.names.length=4:=ah
   match hn:t.names,h4 with
   | [p,q,r,s],_=>exact⟨p,q,r,s,rfl⟩
  refine⟨[[p,q,[45,62]]++af y,[r,s,[45,62]]++af z],x,by rw[gG];rfl,ah,dw,dw,?_,?_⟩
  ·grind
  ·rw[bN,hk,gG,AN]
   rfl
theorem ao3(hk:t.kind=10):aj A 44 [.agg (aK t)] H=some (.slice (strs (af t)) true,none):=by
 obtain⟨ws,x,D8,h2,hwl,uF,gb,e⟩:=amb hF hO hK hk;have Ft:=hF.kl;have hq:=vD t.name H (by have:=hF.a;omega)
 have hql:=lH t.name;have hxK:=hK x (au0 D8);have dx:=hxK.d H;have lx:=hxK.len;have atx:=DT D8;rw[ai] at dx atx;have ai0:∀ i,i<ws.length->∃ p q u,t.names[2*i]?=some p/\t.names[2*i+1]?=some q/\t.kids[i+1]?=some u/\ws[i]?=some ([p,q,[45,62]]++af u):=by
  intro i hi;have h1:=auS (l:=t.names) (i:=2*i) ah
  grind
 have MP:∀ x∈ws,x.length<=100003:=by
  intro y hy;obtain⟨i,hi⟩:=avl hy;obtain⟨p,q,u,_,_,h4,h5⟩:=ai0 i (auU.1 hi).1;rw[hi] at h5;injection h5 with h5
  rw[h5];have:=(hK u (au0 h4)).len
  grind
 have Ww:∀ i,(av (ws.take i)).length<=3*100004:=fun i=>by
  have h1:=jj (ws.take i) 100003 (fun x hx=>MP x (avL hx))
  grind
 have hlw:(av ws).length<=3*100004:=by have:=Ww ws.length;rwa [avr] at this
 have a1:aF false 1 16 (.slice [[.str [109,97,116,99,104]]] true) (.slice (strs (aJ t.name)) true)=some (.slice (strs ([[109,97,116,99,104]]++aJ t.name)) true):=cx (l:=[[109,97,116,99,104]]) dw;have b1:=mD ([[109,97,116,99,104]]++aJ t.name) (af x) [40] [41] H dw ah true true;have b2:=mD ([[109,97,116,99,104]]++aJ t.name++[[40]]++af x++[[41]]) (av ws) [123] [125] H dw ah true true;rw[e,ai];generalize [[109,97,116,99,104]]++aJ t.name++[[40]]++af x++[[41]]++[[123]]++av ws++[[125]]=out at b2 ⊢;generalize [[109,97,116,99,104]]++aJ t.name++[[40]]++af x++[[41]]=o1 at b1 b2;generalize [[109,97,116,99,104]]++aJ t.name=o0 at a1 b1;refine cW xg.eq_1 ?_;simp(disch:=omega)only[aO,aa,simprocAttr,hk];refine cj ws.length 3 (fun i s=>∃ T,s=⟨T,H,H.length,1⟩/\T 1=.lbox 0 [.int .i64 10,.int .i64 t.n,.str t.name,.str t.field,.str t.wn,.slice (aG t.wk) false,.slice (aC t.kids) false,.slice (strs t.names) false]/\T 10=.slice (strs (av (ws.take i))) true/\T 11=.int .i64 ((i+1:Nat):Int))
  (fun s=>∃ T,s=⟨T,H,H.length,1⟩/\T 1=.lbox 0 [.int .i64 10,.int .i64 t.n,.str t.name,.str t.field,.str t.wn,.slice (aG t.wk) false,.slice (aC t.kids) false,.slice (strs t.names) false]/\T 10=.slice (strs (av ws)) true) (fun _=>False) ?_ ?_ (fun _ h=>h.elim) 0 _ (Nat.zero_le _) ?_
 ·rintro i st hi ⟨T,rfl,e1,e8,e9⟩
  by_cases aZ:i<ws.length
  ·obtain⟨p,q,u,n1,n2,k1,hw⟩:=ai0 i aZ
   have hm:=hK u (au0 k1);have du:=hm.d H;have lu:=hm.len;have atk:=DT k1;have acq:=iz n1;have acr:=iz n2;rw[ai] at du atk;have x1:(2:Int)*((i+1:Nat):Int)-2=((2*i:Nat):Int):=ah;have x2:(2:Int)*((i+1:Nat):Int)-1=((2*i+1:Nat):Int):=ah;have x3:((i+1:Nat):Int)+1=((i+1+1:Nat):Int):=ah;have RI:1<=i+1:=ah;generalize CP:i+1=i1 at e9 x1 x2 x3 k1 atk RI ⊢;generalize Lw:2*i+1=i2 at x2 n2 acr;generalize hm3:2*i=i3 at x1 n1 acq;have mO:ws.take (i+1)=ws.take i++[[p,q,[45,62]]++af u]:=by rw[awj,hw];rfl
   have AO:=jH ([p,q,[45,62]]++af u) (ws.take i);rw[<- mO] at AO;have yq:=Ww i;rw[CP] at mO AO
   by_cases h0:i=0
   ·subst h0
    simp only[avV,awE] at AO e8;have a1:aF false 1 16 (.slice (strs (av [])) true) (.slice [[.str p],[.str q],[.str [45,62]]] true)=some (.slice (strs [p,q,[45,62]]) true):=cx (l:=[]) (m:=[p,q,[45,62]]) ag;have a2:aF false 1 16 (.slice (strs [p,q,[45,62]]) true) (.slice (strs (af u)) true)=some (.slice (strs ([p,q,[45,62]]++af u)) true):=cx dw;generalize [p,q,[45,62]]++af u=q2 at a2 AO;generalize [p,q,[45,62]]=q1 at a1 a2;simp(disch:=omega)only[aO,aa,simprocAttr,e1,e8,e9,cR,x1,x2,atk,acq,acr,du,a1,a2];exact⟨ah,_,rfl,fY e1,by rw[AO];simp(disch:=omega)only[dr,aa,simprocAttr],by first|(simp(disch:=omega)only[dr,aa,simprocAttr];done)|(simp(disch:=omega)only[dr,aa,simprocAttr];rw[<- x3])|(rw[<- x3];simp(disch:=omega)only[dr,aa,simprocAttr])⟩
   ·have dp:¬ (ws.take i=[]):=fun e=>by
     have:=awu List.length e
     rw[avK,List.length_nil] at this;omega
    rw[if_neg dp,<- au8] at AO;generalize av (ws.take i)=acc at e8 yq AO;have a0:aF false 1 16 (.slice (strs acc) true) (.slice [[.str [44]]] true)=some (.slice (strs (acc++[[44]])) true):=gu ah;have a1:aF false 1 16 (.slice (strs (acc++[[44]])) true) (.slice [[.str p],[.str q],[.str [45,62]]] true)=some (.slice (strs (acc++[[44]]++[p,q,[45,62]])) true):=cx (m:=[p,q,[45,62]]) dw;have a2:aF false 1 16 (.slice (strs (acc++[[44]]++[p,q,[45,62]])) true) (.slice (strs (af u)) true)=some (.slice (strs (acc++[[44]]++[p,q,[45,62]]++af u)) true):=cx dw;generalize acc++[[44]]++[p,q,[45,62]]++af u=q2 at a2 AO;generalize acc++[[44]]++[p,q,[45,62]]=q1 at a1 a2;generalize acc++[[44]]=q0 at a0 a1;simp(disch:=omega)only[aO,aa,simprocAttr,e1,e8,e9,cR,x1,x2,atk,acq,acr,du,a0,a1,a2];exact⟨ah,_,rfl,fY e1,by rw[AO];simp(disch:=omega)only[dr,aa,simprocAttr],by first|(simp(disch:=omega)only[dr,aa,simprocAttr];done)|(simp(disch:=omega)only[dr,aa,simprocAttr];rw[<- x3])|(rw[<- x3];simp(disch:=omega)only[dr,aa,simprocAttr])⟩
  ·rw[avq ah] at e8
   simp(disch:=omega)only[aO,aa,simprocAttr,e1,e9,cR];exact⟨_,rfl,fY e1,fY e8⟩
 ·rintro st ⟨T,rfl,e1,e8⟩
  exact vK8 e1 e8 hq a1 atx dx b1 b2
 ·exact⟨_,rfl,jd,by simp(disch:=omega)only[dr,aa,simprocAttr,av,strs],by simp(disch:=omega)only[dr,aa,simprocAttr];first|done|rfl⟩
end
end
def agk{t:Tm}{h:Nat}(hF:NY h t)(hO:Fb t)(hK:∀ u∈t.kids,tZ u)(H:ae):aj A 44 [.agg (aK t)] H=some (.slice (strs (af t)) true,none):=by
 have hk:=yW hO
 rcases uK t.kind with e|e|e|e|e|e|e|e|e|e|e|e|e|e
 ·exact tk0 hF hO hK H e
 ·exact tk1 hF hO hK H e
 ·exact tk2 hF hO hK H e
 ·exact tk3 hF hO hK H e
 ·exact tk4 hF hO hK H e
 ·exact tk5 hF hO hK H e
 ·exact tk6 hF hO hK H e
 ·exact tk7 hF hO hK H e
 ·exact tk8 hF hO hK H e
 ·exact tk9 hF hO hK H e
 ·exact ao3 hF hO hK H e
 ·exact ao4 hF hO hK H e
 ·exact ao5 hF hO hK H e
 ·omega
def C8{p:List aB × Int}{B:Nat}(h:p.1.length<=B):(gH p k).length<=B+2:=avx yL ah
def aaq{B:Nat}(ns:List aB)(tl:List (List aB × Int))(h:∀ p∈tl,p.1.length<=B):(av (List.zipWith (fun s (x:List aB × Int)=>[s,[61]]++x.1) ns tl)).length<=tl.length*(B+3):=by
 have h1:=jj (List.zipWith (fun s (x:List aB × Int)=>[s,[61]]++x.1) ns tl) (B+2) (fun y hy=>by
  obtain⟨i,hi⟩:=avl hy;rw[axy] at hi;cases hs:ns[i]? with
  | none=>rw[hs] at hi;cases hi
  | some s =>
   cases hx:tl[i]? with
   | none=>rw[hs,hx] at hi;cases hi
   | some x =>
    rw[hs,hx] at hi;injection hi with hi
    rw[<- hi];have:=h x (au0 hx)
    simp only[List.length_append,List.length_cons,List.length_nil];omega)
 have h2:(List.zipWith (fun s (x:List aB × Int)=>[s,[61]]++x.1) ns tl).length<=tl.length:=by rw[axN];omega
 exact avx h1 (au6 _ h2)
def XH{B:Nat}(tl:List (List aB × Int))(h:∀ p∈tl,p.1.length<=B):(av (tl.map (·.1))).length<=tl.length*(B+1):=by
 have h1:=jj (tl.map (·.1)) B (fun y hy=>by obtain⟨x,hx,rfl⟩:=List.mem_map.1 hy;exact h x hx)
 rwa [List.length_map] at h1
def Jd{B:Nat} : ∀ (ns:List aB) (tl:List (List aB × Int)),(∀ p∈tl,p.1.length<=B)->(av (jl ns tl)).length<=tl.length*(B+4)
 | [],[],_=>by simp[jl,av]
 | [],_ :: _,_=>by simp[jl,av]
 | [_],[],_=>by simp[jl,av]
 | [_],_ :: _,_=>by simp[jl,av]
 | _ :: _ :: _,[],_=>by simp[jl,av]
 | p :: q :: ns,y :: ys,h=>by
  have ih:=Jd ns ys (fun p hp=>h p (xD hp))
  have hy:=h y ag;rw[jl,List.length_cons,avG];cases he:jl ns ys with
  | nil=>simp only[av,List.length_append,List.length_cons,List.length_nil];omega
  | cons a r =>
   rw[he] at ih;simp only[av,List.length_append,List.length_cons,List.length_nil] at ih ⊢;omega
def Py{n:Int}{a f:aB}{w:Wd}{ns:List aB}{tl:List (List aB × Int)}{B:Nat}(h:∀ p∈tl,p.1.length<=B)(hl:tl.length<=3)(hw:(bQ w).length<=12):(gn k n a f w ns tl).length<=3*B+60:=by
 have hq:=lH a;have h1:=XH tl h;have h2:=aaq ns tl h;have m1:tl.length*(B+1)<=3*(B+1):=au6 _ hl;have m2:tl.length*(B+3)<=3*(B+3):=au6 _ hl;unfold gn
 by_cases h0:k=0
 rw[if_pos h0];rotate_left;rw[if_neg h0]
 by_cases Wt:k=1
 rw[if_pos Wt];rotate_left;rw[if_neg Wt]
 by_cases h2' : k=2
 rw[if_pos h2'];rotate_left;rw[if_neg h2']
 by_cases h3:k=3
 rw[if_pos h3];rotate_left;rw[if_neg h3]
 by_cases h4:k=4
 rw[if_pos h4];rotate_left;rw[if_neg h4]
 by_cases h5:k=5
 rw[if_pos h5];rotate_left;rw[if_neg h5]
 by_cases h6:k=6
 rw[if_pos h6];rotate_left;rw[if_neg h6]
 by_cases h7:k=7
 rw[if_pos h7];rotate_left;rw[if_neg h7]
 by_cases h8:k=8
 rw[if_pos h8];rotate_left;rw[if_neg h8]
 by_cases h9:k=9
 rw[if_pos h9];rotate_left;rw[if_neg h9]
 by_cases h10:k=10
 rw[if_pos h10];rotate_left;rw[if_neg h10]
 by_cases h11:k=11
 rw[if_pos h11];rotate_left;rw[if_neg h11]
 by_cases h12:k=12
 rw[if_pos h12];rotate_left;rw[if_neg h12];simp
 all_goals first|(split<;>first
   | (rename_i x ys;have hx:=h x ag;have ha:=Jd ns ys (fun p hp=>h p (xD hp));have hy:ys.length<=2:=(by simp only[List.length_cons] at hl;omega);have hm:ys.length*(B+4)<=2*(B+4):=au6 _ hy;simp only[List.length_append,List.length_cons,List.length_nil];omega)
   | (simp only[List.length_append,List.length_cons,List.length_nil];omega)
   | (rename_i x;have hx:=h x ag;have hk7:=C8 (k:=7) hx;simp only[List.length_append,List.length_cons,List.length_nil];omega)
   | (rename_i x y;have hx:=h x ag;have hy:=h y ag;have hky:=C8 (k:=(da n).2+1) hy;have zi:=C8 (k:=if (da n).2=3 then 4 else (da n).2) hx;simp only[List.length_append,List.length_cons,List.length_nil];omega)
   | (rename_i x y z;have hx:=h x ag;have hy:=h y ag;have hz:=h z ag;simp only[List.length_append,List.length_cons,List.length_nil];omega)
   | (rename_i x y z a;have hx:=h x ag;have hy:=h y ag;simp only[List.length_append,List.length_cons,List.length_nil];omega)
   | (rename_i x y p q;have hx:=h x ag;have hy:=h y ag;simp only[List.length_append,List.length_cons,List.length_nil];omega)
   | (rename_i x y z p q;have hx:=h x ag;have hy:=h y ag;have hz:=h z ag;simp only[List.length_append,List.length_cons,List.length_nil];omega)
   | (rename_i x y z p q r u;have hx:=h x ag;have hy:=h y ag;have hz:=h z ag;simp only[List.length_append,List.length_cons,List.length_nil];omega)
   | (rename_i x y s;have hx:=h x ag;have hy:=h y ag;simp only[List.length_append,List.length_cons,List.length_nil];omega))|(simp only[List.length_append,List.length_cons,List.length_nil];omega)
def bT:Nat->Nat
 | 0=>0
 | h+1=>3*bT h+60
def zd:∀ (h:Nat) (t:Tm),RV h t->(af t).length<=bT h
 | 0,t,hb=>by cases hb
 | h+1,t,hb=>by
  have hF:=hb.out;rw[bN];refine Py (B:=bT h) (fun p hp=>?_) (by rw[List.length_map];exact hF.kl) (mM 3 _ hF.w)
  obtain⟨u,hu,rfl⟩:=List.mem_map.1 hp;exact zd h u (hF.kb u hu)
def Sl{h:Nat}(hh:h<=6):bT h<=100000:=by
 have:h=0\/h=1\/h=2\/h=3\/h=4\/h=5\/h=6:=ah
 rcases this with rfl|rfl|rfl|rfl|rfl|rfl|rfl<;>decide
def Li:∀ (h:Nat) (t:Tm),h<=6->RV h t->ay t=true->tZ t
 | 0,t,_,hb,_=>by cases hb
 | h+1,t,hh,hb,hp=>by
  have hF:=hb.out;have hO:=vy hp;have hK:∀ u∈t.kids,tZ u:=fun u hu=>Li h u ah (hF.kb u hu) (hO.kids u hu)
  exact⟨fun H=>agk hF hO hK H,avx (zd _ t hb) (Sl hh)⟩
def afW(a b:List aB)(H:ae)(o o' : Bool)(ha:a.length<=10000000):aj A 36 [.slice (strs a) false,.slice (strs b) false] H=some (.bool (a==b),none):=by
 refine cW ajh.eq_1 ?_;simp(disch:=omega)only[jh,aa,simprocAttr,bG];refine jG ?_ ?_<;>intro hlen
 ·have dp:a≠b:=fun e=>by subst e;simp at hlen
  simp(disch:=omega)only[jh,aa,simprocAttr,show (a==b)=false by simpa using dp]
 have Gn:a.length=b.length:=by
  have:(a.length:Int)=b.length:=cT hlen
  omega
 simp(disch:=omega)only[jh,aa,simprocAttr];refine uZ a.length (fun i=>Hd (fun T=>T 0=.slice (strs a) false/\T 1=.slice (strs b) false/\T 5=.int .i64 i/\(a==b)=(a.drop i==b.drop i)) H H.length 0) ?_ 0 _ (Nat.zero_le _) ?_
 ·rintro i s hi hs
  obtain⟨T,rfl,h0,h1,h5,hc⟩:=hs.out;simp(disch:=omega)only[jh,aa,simprocAttr,h0,h5,bG];refine jt ?_ ?_<;>intro h
  ·have j8:i<a.length:=ah
   have Bg:i<b.length:=ah;simp(disch:=omega)only[jh,aa,simprocAttr,h0,h1,h5,iz (auS j8),iz (auS Bg)];refine jG ?_ ?_<;>intro hb
   ·simp(disch:=omega)only[jh,aa,simprocAttr,hc,avf j8,avf Bg,List.cons_beq_cons,show (a[i]==b[i])=false by simpa using hb]
   ·simp(disch:=omega)only[jh,aa,simprocAttr,h0,h1,h5]
    exact⟨j8,by rw[hc,avf j8,avf Bg,List.cons_beq_cons,show (a[i]==b[i])=true by simpa using hb,avv]⟩
  ·have:i=a.length:=ah
   subst this;simp(disch:=omega)only[jh,aa,simprocAttr,hc,awr,show b.drop a.length=[] by rw[Gn,awr]]
 ·simp(disch:=omega)only[jh,aa,simprocAttr]
def agj(a b:aB):Bool:=b==[41] || b==[93] || b==[44] || b==[46] || a==[40] || a==[91] || a==[46]
def aah(l:List aB)(i:Nat):aB:=if 1<=i/\i<l.length/\agj (l.getD (i-1) []) (l.getD i [])=false then [32] else []
def part(l:List aB)(i:Nat):List AV:=(List.range (l.length+1)).map fun j=>AV.str (if j<i then aah l j else [])
def mG{H:ae} : (H++[o])[H.length]?=some o:=ag
def heap_set{H:ae}{o':bM} : (H++[o]).set H.length o'=H++[o']:=ag
def Gk{H:ae} : (H++[o]).take H.length=H:=ag
def getD_at{α:Type}{l:List α}{d:α}(h:i<l.length):l.getD i d=l[i]:=by simp[List.getD,auS h]
def JO{base t l n:Nat}{s:AS}{ty:TypeId}(hr:fn.results=[.tmp t])(hm:fn.muts.elem 888888=true)(hT:s.T t=.sref l off n z)(hH:s.H[l]?=some (.box ty cs))(hl:base<=l)(hp:cs.all AV.plain=true)(we:s.lo=base)(hn:fn.muts.elem 777777=false:=by rfl) :
  finish base fn s=some (.sref base off n z,some ⟨s.H.take base++[.bV cs],s.lo⟩):=by
 have h1:ku base s=true:=by simp[ku,we]
 have h2:Nat.ble base l=true:=by simpa [avm] using hl
 have h3:mc base fn s=some (.sref base off n z,some ⟨s.H.take base++[.bV cs],s.lo⟩):=by
  unfold mc qp oE;rw[h1,hm,hr];simp only[cond_true,sD,iO,hT,aM,auW,hH,h2,hp,Bool.and_self]
 unfold finish;rw[h3,au2,uP hn]
def NP : (l.map AV.str).all AV.plain=true:=by simp[AV.plain]
structure Fd where
 name:aB
 wn:aB
 wk:List Wd
 jy:Int
variable {u:Fd}
structure Fm where
 kind:Int
 name:aB
 bP:List Fd
 rn:aB
 rk:List Wd
 body:Tm
 layout:List aB
variable {f:Fm}
structure So where
 name:aB
 jc:List aB
 defs:List Fm
 head:List aB
 fin:aB
variable {so:So}
def fF(f:Fd):List AV:=[.str f.name,.str f.wn,.slice (aG f.wk) false,.int .i64 f.jy]
def bZ(f:Fm):List AV:=[.int .i64 f.kind,.str f.name,.slice (f.bP.map fF) false,.str f.rn,.slice (aG f.rk) false,
 .int .i64 f.body.kind,.int .i64 f.body.n,.str f.body.name,.str f.body.field,.str f.body.wn,.slice (aG f.body.wk) false,.slice (aC f.body.kids) false,.slice (strs f.body.names) false,.slice (strs f.layout) false]
def nu(s:So):List AV:=[.str s.name,.slice (strs s.jc) false,.slice (s.defs.map bZ) false,.slice (strs s.head) false,.str s.fin]
structure FdB (f:Fd):Prop where
 a:f.name.length<=1100000
 w:Fe 3 (.mk f.wn f.wk)
 m:BZ f.jy
structure FmB (f:Fm):Prop where
 k:0<=f.kind/\f.kind<=5
 a:f.name.length<=1100000
 sl:f.bP.length<=4
 sb:∀ s∈f.bP,FdB s
 w:Fe 3 (.mk f.rn f.rk)
 b:RV 5 f.body
 ll:f.layout.length<=20000
 lb:∀ s∈f.layout,s.length<=1100000
structure SoB (s:So):Prop where
 a:s.name.length<=1100000
 ul:s.jc.length<=1100000
 ub:∀ u∈s.jc,u.length<=1100000
 dl:s.defs.length<=3
 db:∀ f∈s.defs,FmB f
 hl:s.head.length<=20000
 hb:∀ u∈s.head,u.length<=1100000
 e:s.fin.length<=1100000
def Tf{l:List Fd}{e:Fd}(h:l[i]?=some e):(l.map fF)[i]?=some (fF e):=by simp[h]
def aaT{l:List Fm}{e:Fm}(h:l[i]?=some e):(l.map bZ)[i]?=some (bZ e):=by simp[h]
def pZ(n:aB)(ks:List Wd):Bool:=n==[]&&ks.isEmpty
def gX(t:Tm):Bool:=t.kind==0&&(t.n==0&&(t.name==[]&&(t.field==[]&&(pZ t.wn t.wk&&(t.names==[]&&t.kids.isEmpty)))))
def fB(k:Int)(f:Fd):Bool:=isWord f.name&&bX (.mk f.wn f.wk)&&decide (0<=f.jy)&&decide (f.jy<=1099511627776)&&(decide (k=4) || decide (f.jy=0))
def gP(f:Fm):Bool:=isWord f.name&&f.bP.all (fB f.kind)&&bif decide (f.kind=0) || decide (f.kind=1) then pZ f.rn f.rk&&gX f.body else bX (.mk f.rn f.rk)&&ay f.body
def cc(k:Int)(f:Fd):List aB:=[f.name]++bQ (.mk f.wn f.wk)++(if k=4 then [lR f.jy.toNat] else [])
def fj(f:Fm):List aB:=[fI.getD f.kind.toNat [],f.name,[40]]++av (f.bP.map (cc f.kind))++[[41]]++(if f.kind=0\/f.kind=1 then [] else bQ (.mk f.rn f.rk)++[[61]]++af f.body)
def heads(s:So):List aB:=[[109,111,100,117,108,101],s.name]++(s.jc.map fun u=>[[117,115,101],u]).flatten
def agx:aG []=[]:=by simp[aG]
def VQ(n:aB)(ks:List Wd)(H:ae):aj A 116 [.agg [.str n,.slice (aG ks) false],.agg [.str [],.slice [] false]] H=some (.bool (pZ n ks),none):=by
 refine cB (fn:=Ug) rfl rfl rfl ?_;unfold Ug;cases h1:(n==[]) with
 | false=>simp(disch:=omega)only[aO,aa,simprocAttr,h1,pZ]
 | true =>
 cases ks with
 | cons k r =>
  have e:¬ (((aG (k :: r)).length:Int)=0):=by rw[ig,List.length_cons];omega
  simp(disch:=omega)only[aO,aa,simprocAttr,h1,pZ,axl]
 | nil =>
  simp(disch:=omega)only[aO,aa,simprocAttr,h1,agx,pZ,List.isEmpty_nil];refine cj 0 0 (fun i s=>HdG (fun T=>T 2=.lbox 0 [.str n,.slice [] false]/\T 5=.int .i64 0) H H.length s) (HdG (fun T=>True) H H.length) (fun _=>False) ?_ ?_ (fun _ h=>h.elim) 0 _ (Nat.le_refl _) ?_
  ·rintro i s hi hs
   obtain⟨T,g,rfl,e2,e5⟩:=hs.out;exact Lz e2 e5
  ·intro s hs
   obtain⟨T,g,rfl, -⟩:=hs.out;exact tL
  ·exact tL
def VP(t:Tm)(uF:t.names.length<=10000000)(H:ae):aj A 81 [.agg (aK t),.agg [.int .i64 0,.int .i64 0,.str [],.str [],.str [],.slice [] false,.slice [] false,.slice [] false]] H=some (.bool (gX t),none):=by
 have hw:=VQ t.wn t.wk H;have hs:=afW t.names [] H false false uF;rw[ma] at hs;refine cB (fn:=aew) rfl rfl rfl ?_;unfold aew;rw[ai];cases c1:(t.kind==0) with
 | false=>simp(disch:=omega)only[aO,aa,simprocAttr,c1,bne,gX]
 | true =>
 cases c2:(t.n==0) with
 | false=>simp(disch:=omega)only[aO,aa,simprocAttr,c1,c2,bne,gX]
 | true =>
 cases c3:(t.name==[]) with
 | false=>simp(disch:=omega)only[aO,aa,simprocAttr,c1,c2,c3,bne,gX]
 | true =>
 cases c4:(t.field==[]) with
 | false=>simp(disch:=omega)only[aO,aa,simprocAttr,c1,c2,c3,c4,bne,gX]
 | true =>
 cases c5:pZ t.wn t.wk with
 | false=>simp(disch:=omega)only[aO,aa,simprocAttr,c1,c2,c3,c4,c5,hw,bne,gX]
 | true =>
 cases c6:(t.names==[]) with
 | false=>simp(disch:=omega)only[aO,aa,simprocAttr,c1,c2,c3,c4,c5,c6,hw,hs,bne,gX]
 | true =>
 cases hk:t.kids.isEmpty with
 | false =>
  have e:((t.kids.length:Int)==0)=false:=by
   simp_all
  simp(disch:=omega)only[aO,aa,simprocAttr,c1,c2,c3,c4,c5,c6,hw,hs,bne,hk,e,cR,gX]
 | true =>
  have e:t.kids=[]:=aw'.1 hk;rw[e];simp(disch:=omega)only[aO,aa,simprocAttr,c1,c2,c3,c4,c5,c6,hw,hs,bne,hk,aC,gX];refine cj 0 0 (fun i s=>HdG (fun T=>T 2=.lbox 0 [.int .i64 t.kind,.int .i64 t.n,.str t.name,.str t.field,.str t.wn,.slice (aG t.wk) false,.slice [] false,.slice (strs t.names) false]/\T 5=.int .i64 0) H H.length s) (HdG (fun T=>True) H H.length) (fun _=>False) ?_ ?_ (fun _ h=>h.elim) 0 _ (Nat.le_refl _) ?_
  ·rintro i s hi hs
   obtain⟨T,g,rfl,e2,e5⟩:=hs.out;exact Lz e2 e5
  ·intro s hs
   obtain⟨T,g,rfl, -⟩:=hs.out;exact tL
  ·exact tL
def kg{α:Type}{l:List α}{u:α}(h:l[i]?=some u):l.take (i+1)=l.take i++[u]:=by rw[awj,h];rfl
theorem Y5(hb:FmB f)(H:ae):aj A 41 [.agg (bZ f)] H=some (.bool (gP f),none):=by
 have hw:=qx f.name H (by have:=hb.a;omega)
 obtain⟨k0,k5⟩:=hb.k;have hr:=Ac 3 (.mk f.rn f.rk) H hb.w;rw[gR] at hr;have hpt:=GR 5 f.body H hb.b;have uF:f.body.names.length<=10000000:=by have:=hb.b.out.nl;omega
 have hz:=VP f.body uF H;rw[ai] at hpt hz;refine cB (fn:=aek) rfl rfl rfl ?_;rw[bZ];unfold aek;cases hn:isWord f.name with
 | false =>
  have e:gP f=false:=by unfold gP;rw[hn];rfl
  exact vK3 hw hn e
 | true =>
 simp(disch:=omega)only[aO,aa,simprocAttr,hw,hn];refine cj f.bP.length 0 (fun i s=>∃ T g,s=⟨T,H,H.length,g⟩/\T 1=.lbox 0 [.int .i64 f.kind,.str f.name,.slice (f.bP.map fF) false,.str f.rn,.slice (aG f.rk) false,.int .i64 f.body.kind,.int .i64 f.body.n,.str f.body.name,.str f.body.field,.str f.body.wn,.slice (aG f.body.wk) false,.slice (aC f.body.kids) false,.slice (strs f.body.names) false,.slice (strs f.layout) false]/\T 3=.int .i64 i/\(f.bP.take i).all (fB f.kind)=true)
  (fun s=>∃ T g,s=⟨T,H,H.length,g⟩/\T 1=.lbox 0 [.int .i64 f.kind,.str f.name,.slice (f.bP.map fF) false,.str f.rn,.slice (aG f.rk) false,.int .i64 f.body.kind,.int .i64 f.body.n,.str f.body.name,.str f.body.field,.str f.body.wn,.slice (aG f.body.wk) false,.slice (aC f.body.kids) false,.slice (strs f.body.names) false,.slice (strs f.layout) false]/\f.bP.all (fB f.kind)=true) (fun s=>fin H.length [.tmp 2] s=some (.bool (gP f),none)) ?_ ?_ ?_ 0 _ (Nat.zero_le _) ?_
 ·rintro i s hi ⟨T,g,rfl,e1,e3,fq⟩
  by_cases aZ:i<f.bP.length
  ·have hx:=auS aZ
   have hm:=avj aZ;have mO:=kg hx;generalize f.bP[i]=u at hx hm mO;have gb:=Tf hx;rw[fF] at gb;have hu:=hb.sb u hm;obtain⟨m0,m1⟩:=hu.m;have hwu:=qx u.name H (by have:=hu.a;omega)
   have OF:=Ac 3 (.mk u.wn u.wk) H hu.w;rw[gR] at OF;have jo:fB f.kind u=false->gP f=false:=by
    intro h;have:f.bP.all (fB f.kind)=false:=by rw[List.all_eq_false];exact⟨u,hm,by rw[h];decide⟩
    unfold gP;rw[this,Bool.and_false];rfl
   have hgo:fB f.kind u=true->(f.bP.take (i+1)).all (fB f.kind)=true:=by
    grind
   unfold fB at jo hgo;have hf4:f.bP.length<=4:=hb.sl;cases a1:isWord u.name with
   | false =>
    have e:=jo (by simp[a1])
    exact vK6 e1 e3 gb hwu a1 e
   | true =>
   cases a2:bX (.mk u.wn u.wk) with
   | false =>
    have e:=jo (by simp[a1,a2])
    exact vK8 e1 e3 gb hwu OF a1 a2 e
   | true =>
   by_cases a3:u.jy<0
   ·have e:=jo (by simp[show ¬ 0<=u.jy by omega])
    exact vK8 e1 e3 gb hwu OF a1 a2 e
   by_cases a4:1099511627776<u.jy
   ·have e:=jo (by simp[show ¬ u.jy<=1099511627776 by omega])
    exact vK8 e1 e3 gb hwu OF a1 a2 e
   by_cases a5:f.kind=4
   ·have e:=hgo (by simp[a1,a2,a5];omega)
    simp(disch:=omega)only[aO,aa,simprocAttr,e1,e3,gb,hwu,OF,a1,a2];exact⟨aZ,_,_,rfl,fY e1,jd,e⟩
   by_cases a6:u.jy=0
   ·have e:=hgo (by simp[a1,a2,a6])
    simp(disch:=omega)only[aO,aa,simprocAttr,e1,e3,gb,hwu,OF,a1,a2];exact⟨aZ,_,_,rfl,fY e1,jd,e⟩
   ·have e:=jo (by simp[a5,a6])
    exact vK8 e1 e3 gb hwu OF a1 a2 e
  ·simp(disch:=omega)only[aO,aa,simprocAttr,e1,e3]
   exact⟨_,_,rfl,fY e1,by rw[<- fq,avq (by omega)]⟩
 ·rintro s ⟨T,g,rfl,e1,fq⟩
  have hp:gP f=bif decide (f.kind=0) || decide (f.kind=1) then pZ f.rn f.rk&&gX f.body else bX (.mk f.rn f.rk)&&ay f.body:=by
   unfold gP;rw[hn,fq];rfl
  by_cases b0:f.kind=0\/f.kind=1
  ·have e:gP f=(pZ f.rn f.rk&&gX f.body):=by
    rw[hp];rcases b0 with b|b<;>simp[b]
   rw[e];unfold pZ;have hk:(f.kind==0)=true\/(f.kind==0)=false/\(f.kind==1)=true:=by
    rcases b0 with b|b
    ·exact .inl (by simp[b])
    ·exact .inr (by simp[b])
   rcases hk with hk|⟨hk,zi⟩
   ·cases d1:(f.rn==[]) with
    | false=>simp(disch:=omega)only[aO,aa,simprocAttr,e1,hk,d1]
    | true =>
    cases d2:f.rk.isEmpty with
    | false =>
     have e2:((f.rk.length:Int)==0)=false:=by
      cases h:f.rk with
      | nil=>rw[h] at d2;cases d2
      | cons a r=>simp;omega
     simp(disch:=omega)only[aO,aa,simprocAttr,e1,hk,d1,e2,ig]
    | true =>
     have e2:((f.rk.length:Int)==0)=true:=by rw[aw'.1 d2];rfl
     simp(disch:=omega)only[aO,aa,simprocAttr,e1,hk,d1,e2,hz,ig]
   ·cases d1:(f.rn==[]) with
    | false=>simp(disch:=omega)only[aO,aa,simprocAttr,e1,hk,zi,d1]
    | true =>
    cases d2:f.rk.isEmpty with
    | false =>
     have e2:((f.rk.length:Int)==0)=false:=by
      cases h:f.rk with
      | nil=>rw[h] at d2;cases d2
      | cons a r=>simp;omega
     simp(disch:=omega)only[aO,aa,simprocAttr,e1,hk,zi,d1,e2,ig]
    | true =>
     have e2:((f.rk.length:Int)==0)=true:=by rw[aw'.1 d2];rfl
     simp(disch:=omega)only[aO,aa,simprocAttr,e1,hk,zi,d1,e2,hz,ig]
  ·have e:gP f=(bX (.mk f.rn f.rk)&&ay f.body):=by
    rw[hp,show (decide (f.kind=0) || decide (f.kind=1))=false by simpa using b0];rfl
   rw[e];have c0:f.kind≠0:=fun h=>b0 (.inl h)
   have c1:f.kind≠1:=fun h=>b0 (.inr h)
   cases a1:bX (.mk f.rn f.rk) with
   | false=>simp(disch:=omega)only[aO,aa,simprocAttr,e1,hr,a1]
   | true=>simp(disch:=omega)only[aO,aa,simprocAttr,e1,hr,hpt,a1]
 ·intro s hs;exact hs
 ·exact⟨_,_,rfl,jd,jd,by simp⟩
def l9(f:Fm):List aB:=if gP f=true then fj f else []
def ff(s:So):List aB:=if isWord s.name=true/\s.jc.all isWord=true then heads s else []
def UE(hb:FmB f):([[.str [114,101,99]],[.str [99,97,115,101]],[.str [102,117,110]],[.str [111,110]],[.str [116,101,115,116]],[.str [99,111,110,118]]]:List (List AV))[f.kind.toNat]?=some [.str (fI.getD f.kind.toNat [])]:=by
 obtain⟨k0,k5⟩:=hb.k;have:f.kind.toNat=0\/f.kind.toNat=1\/f.kind.toNat=2\/f.kind.toNat=3\/f.kind.toNat=4\/f.kind.toNat=5:=ah
 rcases this with h|h|h|h|h|h<;>rw[h]<;>rfl
theorem Cx(h:FdB u):(cc k u).length<=14:=by
 have:=mM 3 _ h.w
 unfold cc
 grind
theorem Nu(h:gP f=true):(∀ u∈f.bP,fB f.kind u=true)/\(f.kind=0\/f.kind=1\/(bX (.mk f.rn f.rk)=true/\ay f.body=true)):=by
 unfold gP at h
 grind
theorem Gf(hb:FmB f):(fj f).length<=10000:=by
 have h1:=jj (f.bP.map (cc f.kind)) 14 (fun x hx=>by
  obtain⟨u,hu,rfl⟩:=List.mem_map.1 hx;exact Cx (hb.sb u hu))
 have h2:=mM 3 _ hb.w;have h3:(af f.body).length<=7260:=zd 5 f.body hb.b;have h4:=hb.sl;rw[List.length_map] at h1;have h5:f.bP.length*(14+1)<=60:=ah;unfold fj
 grind
theorem Iw(hb:FmB f)(H:ae):aj A 13 [.agg (bZ f)] H=some (.slice (strs (l9 f)) (!(gP f) || !(decide (f.kind=0) || decide (f.kind=1))),none):=by
 have hp:=Y5 hb H;obtain⟨k0,k5⟩:=hb.k;refine cB (fn:=ad7) rfl rfl rfl ?_;rw[bZ] at hp ⊢;unfold ad7 l9;cases hpf:gP f with
 | false =>
  rw[if_neg a8];exact vK3 hp hpf ma
 | true =>
 rw[if_pos rfl];obtain⟨ri,wi⟩:=Nu hpf;have adC:=UE hb;simp(disch:=omega)only[aO,aa,simprocAttr,hp,hpf,adC];generalize uG:([fI.getD f.kind.toNat [],f.name,[40]]:List aB)=pre;have aiJ:pre.length=3:=by rw[<- uG];rfl
 have hpc:([[.str (fI.getD f.kind.toNat [])],[.str f.name],[.str [40]]]:List (List AV))=strs pre:=by rw[<- uG];rfl
 simp only[hpc];have Qo:fj f=pre++av (f.bP.map (cc f.kind))++[[41]]++(if f.kind=0\/f.kind=1 then [] else bQ (.mk f.rn f.rk)++[[61]]++af f.body):=by unfold fj;rw[uG]
 have hlen:=Gf hb;have hf4:=hb.sl;refine cj f.bP.length 0 (fun i s=>∃ T g,s=⟨T,H,H.length,g⟩/\T 1=.lbox 0 [.int .i64 f.kind,.str f.name,.slice (f.bP.map fF) false,.str f.rn,.slice (aG f.rk) false,.int .i64 f.body.kind,.int .i64 f.body.n,.str f.body.name,.str f.body.field,.str f.body.wn,.slice (aG f.body.wk) false,.slice (aC f.body.kids) false,.slice (strs f.body.names) false,.slice (strs f.layout) false]/\T 4=.int .i64 i/\T 3=.slice (strs (pre++av ((f.bP.take i).map (cc f.kind)))) true)
  (fun s=>∃ T g,s=⟨T,H,H.length,g⟩/\T 1=.lbox 0 [.int .i64 f.kind,.str f.name,.slice (f.bP.map fF) false,.str f.rn,.slice (aG f.rk) false,.int .i64 f.body.kind,.int .i64 f.body.n,.str f.body.name,.str f.body.field,.str f.body.wn,.slice (aG f.body.wk) false,.slice (aC f.body.kids) false,.slice (strs f.body.names) false,.slice (strs f.layout) false]/\T 3=.slice (strs (pre++av (f.bP.map (cc f.kind)))) true) (fun _=>False) ?_ ?_ (fun _ h=>h.elim) 0 _ (Nat.zero_le _) ?_
 ·rintro i s hi ⟨T,g,rfl,e1,e4,e3⟩
  by_cases aZ:i<f.bP.length
  ·have hx:=auS aZ
   have hm:=avj aZ;have mO:=kg hx;generalize f.bP[i]=u at hx hm mO;have gb:=Tf hx;rw[fF] at gb;have hu:=hb.sb u hm;have OF:=ri u hm;unfold fB at OF;simp only[auT,au1,awl] at OF;obtain⟨⟨⟨⟨u1,u2⟩,u3⟩,u4⟩,u5⟩:=OF;have QA:=IM 3 (.mk u.wn u.wk) H ah hu.w u2;have hwl:=mM 3 _ hu.w;rw[gR] at QA;have aif:aj A 43 [.int .i64 u.jy] H=some (.str (lR u.jy.toNat),none):=by
    grind [Co]
   have hs:=jH (cc f.kind u) ((f.bP.take i).map (cc f.kind));have jX:(f.bP.take (i+1)).map (cc f.kind)=(f.bP.take i).map (cc f.kind)++[cc f.kind u]:=by rw[mO];simp
   rw[<- jX] at hs;have yq:(av ((f.bP.take i).map (cc f.kind))).length<=45:=by
    have h1:=jj ((f.bP.take i).map (cc f.kind)) 14 (fun x hx=>by
     obtain⟨v,hv,rfl⟩:=List.mem_map.1 hx;exact Cx (hb.sb v (avL hv)))
    grind
   have step:∀ (base:List aB),base.length<=100->base++cc f.kind u=pre++av ((f.bP.take (i+1)).map (cc f.kind)) ->
     aF false 1 16 (.slice (strs base) true) (.slice [[.str u.name]] true)=some (.slice (strs (base++[u.name])) true) /\
     aF false 1 16 (.slice (strs (base++[u.name])) true) (.slice (strs (bQ (.mk u.wn u.wk))) true)=some (.slice (strs (base++[u.name]++bQ (.mk u.wn u.wk))) true) /\
     (f.kind=4->aF false 1 16 (.slice (strs (base++[u.name]++bQ (.mk u.wn u.wk))) true) (.slice [[.str (lR u.jy.toNat)]] true)=some (.slice (strs (pre++av ((f.bP.take (i+1)).map (cc f.kind)))) true)) /\
     (f.kind≠4->base++[u.name]++bQ (.mk u.wn u.wk)=pre++av ((f.bP.take (i+1)).map (cc f.kind))):=by
    intro base w5 he;refine⟨gu ah,cx dw,fun h4=>?_,fun h4=>?_⟩
    ·rw[<- he];unfold cc;rw[if_pos h4]
     grind [gu]
    ·rw[<- he];unfold cc;rw[if_neg h4]
     grind
   have Qc:∀ (T' : aD) (g' : Nat),T' 1=.lbox 0 [.int .i64 f.kind,.str f.name,.slice (f.bP.map fF) false,.str f.rn,.slice (aG f.rk) false,.int .i64 f.body.kind,.int .i64 f.body.n,.str f.body.name,.str f.body.field,.str f.body.wn,.slice (aG f.body.wk) false,.slice (aC f.body.kids) false,.slice (strs f.body.names) false,.slice (strs f.layout) false]->T' 4=.int .i64 ((i:Int)+1)->T' 3=.slice (strs (pre++av ((f.bP.take (i+1)).map (cc f.kind)))) true ->
     i<f.bP.length/\∃ T g,(⟨T',H,H.length,g'⟩:AS)=⟨T,H,H.length,g⟩/\T 1=.lbox 0 [.int .i64 f.kind,.str f.name,.slice (f.bP.map fF) false,.str f.rn,.slice (aG f.rk) false,.int .i64 f.body.kind,.int .i64 f.body.n,.str f.body.name,.str f.body.field,.str f.body.wn,.slice (aG f.body.wk) false,.slice (aC f.body.kids) false,.slice (strs f.body.names) false,.slice (strs f.layout) false]/\T 4=.int .i64 ((i:Int)+1)/\T 3=.slice (strs (pre++av ((f.bP.take (i+1)).map (cc f.kind)))) true :=
    fun T' g' q1 q2 q3=>⟨aZ,_,_,rfl,q1,q2,q3⟩
   by_cases h0:i=0
   ·subst h0
    simp only[avV,avC] at hs e3;rw[if_pos trivial] at hs;rw[show av ([]:List (List aB))=[] from rfl,List.append_nil] at e3
    obtain⟨a1,a2,a3,a4⟩:=step pre ah (by rw[hs])
    generalize pre++av ((f.bP.take (0+1)).map (cc f.kind))=out at a3 a4 Qc ⊢;generalize pre++[u.name]++bQ (.mk u.wn u.wk)=b2 at a2 a3 a4;generalize pre++[u.name]=b1 at a1 a2
    by_cases h4:f.kind=4
    ·have a3:=a3 h4
     simp(disch:=omega)only[aO,aa,simprocAttr,e1,e3,e4,gb,QA,aif,a1,a2,a3];refine Qc _ _ ?_ ?_ ?_
     ·exact fY e1
     ·exact jd
     ·exact jd
    ·have a4:=a4 h4
     simp(disch:=omega)only[aO,aa,simprocAttr,e1,e3,e4,gb,QA,a1,a2];refine Qc _ _ ?_ ?_ ?_
     ·exact fY e1
     ·exact jd
     ·exact fY a4
   ·have dp:¬ ((f.bP.take i).map (cc f.kind)=[]):=fun e=>by
     have:=awu List.length e
     rw[List.length_map,avK,List.length_nil] at this;omega
    rw[if_neg dp] at hs;generalize av ((f.bP.take i).map (cc f.kind))=acc at e3 yq hs;have a0:aF false 1 16 (.slice (strs (pre++acc)) true) (.slice [[.str [44]]] true)=some (.slice (strs (pre++acc++[[44]])) true):=gu dw;obtain⟨a1,a2,a3,a4⟩:=step (pre++acc++[[44]]) dw (by rw[hs];simp)
    generalize pre++av ((f.bP.take (i+1)).map (cc f.kind))=out at a3 a4 Qc ⊢;generalize pre++acc++[[44]]++[u.name]++bQ (.mk u.wn u.wk)=b2 at a2 a3 a4;generalize pre++acc++[[44]]++[u.name]=b1 at a1 a2;generalize pre++acc++[[44]]=b0 at a0 a1
    by_cases h4:f.kind=4
    ·have a3:=a3 h4
     simp(disch:=omega)only[aO,aa,simprocAttr,e1,e3,e4,gb,QA,aif,a0,a1,a2,a3];refine Qc _ _ ?_ ?_ ?_
     ·exact fY e1
     ·exact jd
     ·exact jd
    ·have a4:=a4 h4
     simp(disch:=omega)only[aO,aa,simprocAttr,e1,e3,e4,gb,QA,a0,a1,a2];refine Qc _ _ ?_ ?_ ?_
     ·exact fY e1
     ·exact jd
     ·exact fY a4
  ·rw[avq ah] at e3
   simp(disch:=omega)only[aO,aa,simprocAttr,e1,e4];exact⟨_,_,rfl,fY e1,fY e3⟩
 ·rintro s ⟨T,g,rfl,e1,e3⟩
  have MC:(pre++av (f.bP.map (cc f.kind))).length<=10000:=by
   rw[Qo,List.length_append,List.length_append] at hlen;omega
  have a1:aF false 1 16 (.slice (strs (pre++av (f.bP.map (cc f.kind)))) true) (.slice [[.str [41]]] true)=some (.slice (strs (pre++av (f.bP.map (cc f.kind))++[[41]])) true):=gu ah
  by_cases b0:f.kind=0\/f.kind=1
  ·rw[if_pos b0,List.append_nil] at Qo
   rw[<- Qo] at a1;have eo:(!(decide (f.kind=0) || decide (f.kind=1)))=false:=by rcases b0 with b|b<;>simp[b]
   rw[eo]
   rcases b0 with b|b<;>exact vK3 e1 e3 a1
  ·rw[if_neg b0] at Qo
   have eo:(!(decide (f.kind=0) || decide (f.kind=1)))=true:=cT b0;rw[eo];have c0:f.kind≠0:=fun h=>b0 (.inl h)
   have c1:f.kind≠1:=fun h=>b0 (.inr h)
   obtain⟨r1,r2⟩:bX (.mk f.rn f.rk)=true/\ay f.body=true:=by
    rcases wi with h|h|h
    ·exact absurd h c0
    ·exact absurd h c1
    ·exact h
   have QA:=IM 3 (.mk f.rn f.rk) H ah hb.w r1;have kJ:=(Li 5 f.body ah hb.b r2).d H;rw[gR] at QA;rw[ai] at kJ;have hwl:=mM 3 _ hb.w;have qq:(af f.body).length<=7260:=zd 5 f.body hb.b;generalize bQ (.mk f.rn f.rk)=w at QA hwl Qo;generalize af f.body=tt at kJ qq Qo;generalize pre++av (f.bP.map (cc f.kind))=b0 at a1 e3 MC Qo;have a2:aF false 1 16 (.slice (strs (b0++[[41]])) true) (.slice (strs w) true)=some (.slice (strs (b0++[[41]]++w)) true):=cx dw;have a3:aF false 1 16 (.slice (strs (b0++[[41]]++w)) true) (.slice [[.str [61]]] true)=some (.slice (strs (b0++[[41]]++w++[[61]])) true):=gu dw;have a4:aF false 1 16 (.slice (strs (b0++[[41]]++w++[[61]])) true) (.slice (strs tt) true)=some (.slice (strs (b0++[[41]]++w++[[61]]++tt)) true):=cx dw;rw[show fj f=b0++[[41]]++w++[[61]]++tt by rw[Qo];simp]
   generalize b0++[[41]]++w++[[61]]++tt=b5 at a4 ⊢;generalize b0++[[41]]++w++[[61]]=b4 at a3 a4;generalize b0++[[41]]++w=b3 at a2 a3;generalize b0++[[41]]=b1 at a1 a2;exact vK8 e1 e3 a1 a2 a3 a4 QA kJ
 ·exact⟨_,_,rfl,jd,jd,by simp(disch:=omega)only[dr,aa,simprocAttr,av]⟩
def VE{s:So}(hb:SoB s)(H:ae):aj A 12 [.agg (nu s)] H=some (.slice (strs (ff s)) (!(isWord s.name&&s.jc.all isWord)),none):=by
 have hw:=qx s.name H (by have:=hb.a;omega)
 have T6:=hb.ul;have hn:=KB s.jc H ah (fun u hu=>by have:=hb.ub u hu;omega)
 refine cB (fn:=ad6) rfl rfl rfl ?_;rw[nu];unfold ad6 ff;cases h1:isWord s.name with
 | false =>
  rw[if_neg ag];exact vK3 hw h1 ma
 | true =>
 cases h2:s.jc.all isWord with
 | false =>
  rw[if_neg ag];exact vK5 hw h1 hn h2 ma
 | true =>
 rw[if_pos ⟨rfl,rfl⟩];simp(disch:=omega)only[aO,aa,simprocAttr,hw,h1,hn,h2,Bool.and_self];unfold heads;generalize uG:([[109,111,100,117,108,101],s.name]:List aB)=pre;have aiJ:pre.length=2:=by rw[<- uG];rfl
 have hpc:([[.str [109,111,100,117,108,101]],[.str s.name]]:List (List AV))=strs pre:=by rw[<- uG];rfl
 simp only[hpc];have ful:∀ l:List aB,((l.map fun u=>[[117,115,101],u]).flatten:List aB).length=2*l.length:=by
  intro l;induction l with
  | nil=>rfl
  | cons a r ih=>simp only[au9,avo,List.length_append,ih,List.length_cons,List.length_nil];omega
 refine cj s.jc.length 0 (fun i st=>∃ T g,st=⟨T,H,H.length,g⟩/\T 1=.lbox 0 [.str s.name,.slice (strs s.jc) false,.slice (s.defs.map bZ) false,.slice (strs s.head) false,.str s.fin]/\T 4=.int .i64 i/\T 3=.slice (strs (pre++((s.jc.take i).map fun u=>[[117,115,101],u]).flatten)) true)
  (fun st=>∃ T g,st=⟨T,H,H.length,g⟩/\T 3=.slice (strs (pre++(s.jc.map fun u=>[[117,115,101],u]).flatten)) true) (fun _=>False) ?_ ?_ (fun _ h=>h.elim) 0 _ (Nat.zero_le _) ?_
 ·rintro i st hi ⟨T,g,rfl,e1,e4,e3⟩
  by_cases aZ:i<s.jc.length
  ·have hx:=auS aZ
   have mO:=kg hx;generalize s.jc[i]=u at hx mO;have gb:=iz hx;have hl:=ful (s.jc.take i);rw[avK] at hl;have jX:pre++((s.jc.take (i+1)).map fun u=>[[117,115,101],u]).flatten=pre++((s.jc.take i).map fun u=>[[117,115,101],u]).flatten++[[117,115,101],u]:=by rw[mO];simp
   generalize ((s.jc.take i).map fun u=>[[117,115,101],u]).flatten=acc at e3 hl jX
   have a1:aF false 1 16 (.slice (strs (pre++acc)) true) (.slice [[.str [117,115,101]],[.str u]] true)=some (.slice (strs (pre++acc++[[117,115,101],u])) true):=cx (m:=[[117,115,101],u]) dw;rw[<- jX] at a1;simp(disch:=omega)only[aO,aa,simprocAttr,e1,e3,e4,bG,gb,a1];exact⟨aZ,_,_,rfl,fY e1,jd,jd⟩
  ·rw[avq ah] at e3
   simp(disch:=omega)only[aO,aa,simprocAttr,e1,e4,bG];exact⟨_,_,rfl,fY e3⟩
 ·rintro st ⟨T,g,rfl,e3⟩
  exact nx e3
 ·exact⟨_,_,rfl,by simp(disch:=omega)only[dr,aa,simprocAttr],by simp(disch:=omega)only[dr,aa,simprocAttr],by simp(disch:=omega)only[dr,aa,simprocAttr,av8]⟩
def HE{l:List Fd} : vS 4 (l.map fF):=⟨fun r hr=>by obtain⟨t,_,rfl⟩:=List.mem_map.1 hr;rfl,z8 fun r hr=>by obtain⟨t,_,rfl⟩:=List.mem_map.1 hr;rfl⟩
def R8{l:List Fd}{o:Bool}(h:l.length<=10000000):aF false 4 64 (.slice (l.map fF) true) (.slice [[.str u.name,.str u.wn,.slice (aG u.wk) false,.int .i64 u.jy]] o)=some (.slice ((l++[u]).map fF) true):=by
 have e:([[.str u.name,.str u.wn,.slice (aG u.wk) false,.int .i64 u.jy]]:List (List AV))=[u].map fF:=rfl;rw[e,wM HE HE dw dw,List.map_append]
def Oo{l:List Fm} : vS 14 (l.map bZ):=⟨fun r hr=>by obtain⟨t,_,rfl⟩:=List.mem_map.1 hr;rfl,z8 fun r hr=>by obtain⟨t,_,rfl⟩:=List.mem_map.1 hr;rfl⟩
def R9{l:List Fm}{o:Bool}(h:l.length<=10000000):aF false 14 248 (.slice (l.map bZ) true) (.slice [[.int .i64 f.kind,.str f.name,.slice (f.bP.map fF) false,.str f.rn,.slice (aG f.rk) false,
  .int .i64 f.body.kind,.int .i64 f.body.n,.str f.body.name,.str f.body.field,.str f.body.wn,.slice (aG f.body.wk) false,.slice (aC f.body.kids) false,.slice (strs f.body.names) false,.slice (strs f.layout) false]] o)=some (.slice ((l++[f]).map bZ) true):=by
 have e:([[.int .i64 f.kind,.str f.name,.slice (f.bP.map fF) false,.str f.rn,.slice (aG f.rk) false,
  .int .i64 f.body.kind,.int .i64 f.body.n,.str f.body.name,.str f.body.field,.str f.body.wn,.slice (aG f.body.wk) false,.slice (aC f.body.kids) false,.slice (strs f.body.names) false,.slice (strs f.layout) false]]:List (List AV))=[f].map bZ:=rfl
 rw[e,wM Oo Oo dw dw,List.map_append]
def abL{l:List Fm} : ((l.map bZ).map fun r=>r.map n1)=l.map bZ:=by
 rw[avT];exact List.map_congr_left fun w _=>rfl
def qj:∀ L:List aB,chunks 1 L.length (L.map AV.str)=strs L
 | []=>rfl
 | a :: r=>by
  have:=qj r
  simp only[strs,List.length_cons,au9,chunks,av2,avV,awz,List.drop_zero] at this ⊢;rw[this]
def nX(l lay:List aB)(i:Nat):aB:=((List.range i).map fun j=>lay.getD j []++l.getD j []).flatten
def sO : nX l lay (i+1)=nX l lay i++(lay.getD i []++l.getD i []):=by
 unfold nX;rw[List.range_succ,List.map_append,List.flatten_append];simp
def vl{B:Nat}(h1:∀ s∈l,s.length<=B)(h2:∀ s∈lay,s.length<=B):∀ i,(nX l lay i).length<=i*(2*B)
 | 0=>by simp[nX]
 | i+1=>by
  have ih:=vl h1 h2 i;have a1:(lay.getD i []).length<=B:=by
   by_cases h:i<lay.length
   ·rw[getD_at h];exact h2 _ (avj h)
   ·simp[List.getD,List.getElem?_eq_none (axq h)]
  have a2:(l.getD i []).length<=B:=by
   by_cases h:i<l.length
   ·rw[getD_at h];exact h1 _ (avj h)
   ·simp[List.getD,List.getElem?_eq_none (axq h)]
  rw[sO,List.length_append,List.length_append,avG];omega
def ph{B:Nat}(h:∀ s∈l,s.length<=B)(i:Nat):(l.getD i []).length<=B:=by
 by_cases hi:i<l.length
 ·rw[getD_at hi];exact h _ (avj hi)
 ·simp[List.getD,List.getElem?_eq_none (axq hi)]
def ke(h:i<l.length):(strs l)[i]?=some [.str (l.getD i [])]:=by rw[getD_at h];exact iz (auS h)
structure RT (m:Nat) (f:Fm):Prop where
 k:0<=f.kind/\f.kind<=5
 a:f.name.length<=1100000
 sl:f.bP.length<=3
 sb:∀ s∈f.bP,FdB s
 w:Fe 3 (.mk f.rn f.rk)
 b:At m 5 f.body
 ll:f.layout.length<=19000+m
 lb:∀ s∈f.layout,s.length<=1100000
structure LB (m:Nat) (s:So):Prop where
 a:s.name.length<=1100000
 ul:s.jc.length<=2+m
 ub:∀ u∈s.jc,u.length<=1100000
 dl:s.defs.length<=3
 db:∀ f∈s.defs,RT m f
 hl:s.head.length<=19000
 hb:∀ u∈s.head,u.length<=1100000
 e:s.fin.length<=1100000
def RT.B(hm:m<=8)(h:RT m f):FmB f:=⟨h.k,h.a,by have:=h.sl;omega,h.sb,h.w,h.b.le hm _ _ _ (Nat.le_refl _),by have:=h.ll;omega,h.lb⟩
def LB.B{s:So}(hm:m<=8)(h:LB m s):SoB s:=⟨h.a,by have:=h.ul;omega,h.ub,h.dl,fun f hf=>(h.db f hf).B hm,by have:=h.hl;omega,h.hb,h.e⟩
structure SA (c:Cc) (so:So) (b:Bool) (T:aD):Prop where
 t2:T 2=.lbox 0 [.str [],.slice [] true,.slice [] true,.slice [] true,.str []]
 t3:T 3=.ref c.mm 0
 t5:T 5=.bool b
 t4:∃ g,T 4=.lbox g [.str so.name,.slice (strs so.jc) true,.slice (so.defs.map bZ) true,.slice (strs so.head) true,.str so.fin]
def SmP(c:Cc)(K:ae)(b:Bool)(P:So->Prop)(s:AS):Prop:=∃ T p g so,s=⟨T,df c p K,c.mm,g⟩/\SA c so b T/\LB 4 so/\P so
structure FA (c:Cc) (so:So) (b:Bool) (many i:Int) (f:Fm) (T:aD):Prop where
 sa:SA c so b T
 t7:T 7=.int .i64 many
 t8:T 8=.int .i64 i
 t9:∃ g o1 o2 o3,T 9=.lbox g [.int .i64 f.kind,.str f.name,.slice (f.bP.map fF) true,.str f.rn,.slice (aG f.rk) o1,.int .i64 f.body.kind,.int .i64 f.body.n,.str f.body.name,.str f.body.field,.str f.body.wn,.slice (aG f.body.wk) o2,.slice (aC f.body.kids) o2,.slice (strs f.body.names) o2,.slice (strs f.layout) o3]
def FmP(c:Cc)(K:ae)(so:So)(b:Bool)(many i:Int)(P:Fm->aD->Prop)(s:AS):Prop:=∃ T p g f,s=⟨T,df c p K,c.mm,g⟩/\FA c so b many i f T/\RT 4 f/\P f T
theorem Ik{c:Cc}{K:ae}(h:CH c p0 K)(p n:Int)(hn:0<n):∃ x p',0<=x/\x<n/\aj A 15 [.ref c.mm 0,.int .i64 n] (df c p K)=some (.int .i64 x,some ⟨df c p' K,c.mm⟩):=by
 obtain⟨x,p',a,b,e⟩:=mJ (h.set (p':=p)) n hn
 grind [bp]
theorem OR{c:Cc}{K:ae}(h:CH c p0 K)(p:Int):∃ s p',s.length<=1100000/\aj A 14 [.ref c.mm 0] (df c p K)=some (.str s,some ⟨df c p' K,c.mm⟩):=by
 obtain⟨s,p',a,e⟩:=oq (h.set (p':=p))
 grind [bp,iU]
def abG{c:Cc}{K:ae}(h:CH c p0 K)(p:Int):∃ w p',Fe 3 w/\aj A 18 [.ref c.mm 0,.int .i64 2] (df c p K)=some (.agg [.str w.name,.slice (aG w.kids) false],some ⟨df c p' K,c.mm⟩):=by
 obtain⟨w,p',a,e⟩:=Ko 2 p (df c p K) ah h.set;rw[bp,iu] at e;exact⟨w,p',Wi ah a,e⟩
def G5{c:Cc} : ∀ d:Nat,d<=101->B3 c d
 | 0,_=>akR
 | d+1,h=>akT ah (G5 d ah)
def ab1{c:Cc}{K:ae}(h:CH c p0 K)(p:Int)(d:Nat)(hd:d<=4):∃ t p',At 4 5 t/\aj A 19 [.ref c.mm 0,.int .i64 d] (df c p K)=some (.agg [.int .i64 t.kind,.int .i64 t.n,.str t.name,.str t.field,.str t.wn,.slice (aG t.wk) false,.slice (aC t.kids) false,.slice (strs t.names) false],some ⟨df c p' K,c.mm⟩):=by
 obtain⟨t,p',a,e⟩:=G5 d ah p (df c p K) h.set;rw[bp,ai] at e;exact⟨t,p',a.up (Nat.le_refl _) _ _ _ ah,e⟩
theorem ajB{c:Cc}{K:ae}(h:CH c p0 K)(p:Int)(n:Nat)(hn:n<=12000):∃ (x:Int) (b:aB) (out:List aB) (p1 p2:Int),out.length<=19000/\(∀ s∈out,s.length<=1100000) /\
  aj A 15 [.ref c.mm 0,.int .i64 1000] (df c p K)=some (.int .i64 x,some ⟨df c p1 K,c.mm⟩) /\
  aj A 17 [.int .i64 x,.int .i64 0] (df c p1 K)=some (.str b,none)/\aj A 16 [.ref c.mm 0,.int .i64 n,.str b] (df c p1 K)=some (.slice (strs out) true,some ⟨df c p2 K,c.mm⟩):=by
 obtain⟨x,p1,x0,x1,e1⟩:=Ik h p 1000 ah;obtain⟨b,hb,e2⟩:=aaU x 0 (df c p1 K) (Gr x0 ah);obtain⟨out,p2,ol,ob,e3⟩:=UI (h.set (p':=p1)) n ah b hb
 grind [bp]
theorem ZX{c:Cc}{K:ae}(h:CH c p0 K)(hs:SA c so b T)(hG:LB 4 so)(hu:so.jc=[])(hd:so.defs=[]) :
  W A ((I4.body.post 3).pre 0) ⟨T,df c p K,c.mm,g⟩ (andThen (SmP c K b (fun ZY=>ZY.defs=[])) Q):=by
 obtain⟨q2,q3,q5,g4,q4⟩:=hs;unfold I4;simp only[aH.post,aH.pre];simp(disch:=omega)only[aO,aa,simprocAttr];refine cj 2 0 (fun i s=>∃ T p g so,s=⟨T,df c p K,c.mm,g⟩/\SA c so b T/\LB 4 so/\so.defs=[]/\T 6=.int .i64 i/\so.jc.length=i)
  (SmP c K b (fun ZY=>ZY.defs=[])) (fun _=>False) ?_ (fun s hs=>hs) (fun _ h=>h.elim) 0 _ ah ?_
 ·rintro i s hi ⟨T,p,g,so,rfl,⟨q2,q3,q5,g4,q4⟩,hG,hd,q6,hl⟩
  obtain⟨x,p1,x0,x1,e1⟩:=Ik h p 3 ah
  by_cases hc:(i:Int)<x
  ·obtain⟨u,p2,ul,e2⟩:=OR h p1
   have a1:aF false 1 16 (.slice (strs so.jc) true) (.slice [[.str u]] true)=some (.slice (strs (so.jc++[u])) true):=gu ah;simp(disch:=omega)only[aO,aa,simprocAttr,q3,q4,q6,e1,e2,a1,cO,cJ,avp,avd,ab,au4];refine⟨ah,_,_,_,{ so with jc:=so.jc++[u] },rfl,⟨?_,?_,?_,g4,?_⟩,⟨hG.a,dw,fun v hv=>?_,hG.dl,hG.db,hG.hl,hG.hb,hG.e⟩,hd,?_,by simp[hl]⟩
   ·exact fY q2
   ·exact fY q3
   ·exact fY q5
   ·exact jd
   ·rcases auY.1 hv with hv|hv
    ·exact hG.ub v hv
    ·grind
   ·exact jd
  ·simp(disch:=omega)only[aO,aa,simprocAttr,q3,q6,e1,au4]
   refine⟨_,_,_,so,rfl,⟨?_,?_,?_,g4,?_⟩,hG,hd⟩
   ·exact fY q2
   ·exact fY q3
   ·exact fY q5
   ·exact fY q4
 ·refine⟨_,_,_,so,rfl,⟨?_,?_,?_,g4,?_⟩,hG,hd,?_,by rw[hu];rfl⟩
  ·exact fY q2
  ·exact fY q3
  ·exact fY q5
  ·exact fY q4
  ·exact jd
def ZW{c:Cc}{K:ae}(h:CH c p0 K){s:AS}(hs:SmP c K b (fun ZY=>ZY.defs=[]) s) :
  W A ((I4.body.post 4).pre 1) s (andThen (fun s=>∃ n:Nat,n<=3/\s.T 7=.int .i64 n/\SmP c K b (fun ZY=>ZY.defs=[]) s) Q):=by
 obtain⟨T,p,g,so,rfl,⟨q2,q3,q5,g4,q4⟩,hG,hd⟩:=hs;unfold I4;simp only[aH.post,aH.pre];have T6:=hG.ul;cases b with
 | true =>
  obtain⟨x,bs,out,p1,p2,ol,ob,e1,e2,e3⟩:=ajB h p (2+2*so.jc.length) ah;have en:((2+2*so.jc.length:Nat):Int)=2+2*(so.jc.length:Int):=ah;rw[en] at e3;obtain⟨n,p3,n0,n1,e4⟩:=Ik h p2 4 ah;simp(disch:=omega)only[aO,aa,simprocAttr,q3,q4,q5,e1,e2,e3,e4,bG,ab,au4];refine⟨n.toNat,ah,?_,_,_,_,{ so with head:=out },rfl,⟨?_,?_,?_,g4,?_⟩,⟨hG.a,hG.ul,hG.ub,hG.dl,hG.db,ol,ob,hG.e⟩,hd⟩
  ·rw[axg n0]
  ·exact fY q2
  ·exact fY q3
  ·exact fY q5
  ·exact jd
 | false =>
  obtain⟨n,p3,n0,n1,e4⟩:=Ik h p 4 ah;simp(disch:=omega)only[aO,aa,simprocAttr,q3,q5,e4,au4];refine⟨n.toNat,ah,?_,_,_,_,so,rfl,⟨?_,?_,?_,g4,?_⟩,hG,hd⟩
  ·rw[axg n0]
  ·exact fY q2
  ·exact fY q3
  ·exact fY q5
  ·exact fY q4
abbrev vV:aH:=I4.body.sub [true,true,true,true,true,true,true,false,true,false,false,true,false,false]
abbrev pY:Tm:=.mk 0 0 [] [] [] [] [] []
def GX(h:FmB f):(l9 f).length<=10000:=by
 unfold l9;split
 ·exact Gf h
 ·simp
def agG:At 4 5 pY:=jT ah ah a8
def Tl{c:Cc}{K:ae}(h:CH c p0 K){i:Int}(hs:SA c so b T)(h7:T 7=.int .i64 many)(h8:T 8=.int .i64 i) :
  W A (vV.pre 1) ⟨T,df c p K,c.mm,g⟩ (andThen (FmP c K so b many i (fun f T=>f.bP=[]/\∃ n:Nat,n<=3/\T 10=.int .i64 n)) Q):=by
 obtain⟨q2,q3,q5,g4,q4⟩:=hs;unfold vV I4;simp only[aH.sub,aH.pre];obtain⟨k,p1,k0,k1,e1⟩:=Ik h p 6 ah;obtain⟨u,p2,ul,e2⟩:=OR h p1;obtain⟨n,p3,n0,n1,e3⟩:=Ik h p2 4 ah;simp(disch:=omega)only[aO,aa,simprocAttr,q3,e1,e2,e3,fw,au4];refine⟨_,_,_,⟨k,u,[],[],[],pY,[]⟩,rfl,⟨⟨?_,?_,?_,g4,?_⟩,?_,?_,g,true,true,true,?_⟩,⟨by simp only;omega,ul,ag,ag,lK,agG,ag,ag⟩,rfl,n.toNat,ah,?_⟩
 ·exact fY q2
 ·exact fY q3
 ·exact fY q5
 ·exact fY q4
 ·exact fY h7
 ·exact fY h8
 ·simp(disch:=omega)only[dr,aa,simprocAttr,Tm.kind,Tm.n,Tm.name,Tm.field,Tm.wn,Tm.wk,Tm.kids,Tm.names,aG,aC,ma]
 ·exact fY (axg n0)
def Tj{c:Cc}{K:ae}(h:CH c p0 K){i:Int}{s:AS}(hs:FmP c K so b many i (fun f T=>f.bP=[]/\∃ n:Nat,n<=3/\T 10=.int .i64 n) s) :
  W A ((vV.post 1).pre 0) s (andThen (FmP c K so b many i (fun _ _=>True)) Q):=by
 obtain⟨T,p,g,f,rfl,⟨⟨q2,q3,q5,g4,q4⟩,q7,q8,g9,o1,o2,o3,q9⟩,hF,ri,n,hn,I5⟩:=hs;unfold vV I4;simp only[aH.sub,aH.pre,aH.post];simp(disch:=omega)only[aO,aa,simprocAttr];refine cj n 4 (fun j s=>∃ T p g f,s=⟨T,df c p K,c.mm,g⟩/\FA c so b many i f T/\RT 4 f/\T 10=.int .i64 n/\T 11=.int .i64 j/\f.bP.length=j)
  (FmP c K so b many i (fun _ _=>True)) (fun _=>False) ?_ (fun s hs=>hs) (fun _ h=>h.elim) 0 _ ah ?_
 ·rintro j s hj ⟨T,p,g,f,rfl,⟨⟨q2,q3,q5,g4,q4⟩,q7,q8,g9,o1,o2,o3,q9⟩,hF,I5,q11,hl⟩
  by_cases hc:j<n
  ·obtain⟨u,p1,ul,e1⟩:=OR h p
   obtain⟨w,p2,wb,e2⟩:=abG h p1;obtain⟨m,p3,m0,m1,e3⟩:=Ik h p2 12 ah;have fin:∀ (T' : aD) (p' : Int) (g' : Nat) (x:Int),0<=x->x<12->SA c so b T'->T' 7=.int .i64 many->T' 8=.int .i64 i->T' 10=.int .i64 n->T' 11=.int .i64 ((j:Int)+1) ->
     T' 9=.lbox g9 [.int .i64 f.kind,.str f.name,.slice ((f.bP++[Fd.mk u w.name w.kids x]).map fF) true,.str f.rn,.slice (aG f.rk) o1,.int .i64 f.body.kind,.int .i64 f.body.n,.str f.body.name,.str f.body.field,.str f.body.wn,.slice (aG f.body.wk) o2,.slice (aC f.body.kids) o2,.slice (strs f.body.names) o2,.slice (strs f.layout) o3] ->
     j<n/\∃ T p g f,(⟨T',df c p' K,c.mm,g'⟩:AS)=⟨T,df c p K,c.mm,g⟩/\FA c so b many i f T/\RT 4 f/\T 10=.int .i64 n/\T 11=.int .i64 ((j:Int)+1)/\f.bP.length=j+1:=by
    intro T' p' g' x x0 x1 Wy r7 r8 r10 r11 r9;refine⟨hc,_,_,_,{ f with bP:=f.bP++[Fd.mk u w.name w.kids x] },rfl,⟨Wy,r7,r8,g9,o1,o2,o3,r9⟩,⟨hF.k,hF.a,dw,fun v hv=>?_,hF.w,hF.b,hF.ll,hF.lb⟩,r10,r11,by simp[hl]⟩
    rcases auY.1 hv with hv|hv
    ·exact hF.sb v hv
    ·rw[ava.1 hv];exact⟨ul,by cases w;exact wb,by simp only;omega⟩
   by_cases h4:f.kind=4
   ·have a1:aF false 4 64 (.slice (f.bP.map fF) true) (.slice [[.str u,.str w.name,.slice (aG w.kids) false,.int .i64 m]] true)=some (.slice ((f.bP++[Fd.mk u w.name w.kids m]).map fF) true):=R8 (l:=f.bP) (u:=Fd.mk u w.name w.kids m) ah
    simp(disch:=omega)only[aO,aa,simprocAttr,q3,q9,I5,q11,e1,e2,e3,a1,fw,cO,cJ,avp,avd,ab,au4];refine fin _ _ _ m m0 m1 ⟨?_,?_,?_,g4,?_⟩ ?_ ?_ ?_ ?_ ?_
    ·exact fY q2
    ·exact fY q3
    ·exact fY q5
    ·exact fY q4
    ·exact fY q7
    ·exact fY q8
    ·exact fY I5
    ·exact jd
    ·exact jd
   ·have a1:aF false 4 64 (.slice (f.bP.map fF) true) (.slice [[.str u,.str w.name,.slice (aG w.kids) false,.int .i64 0]] true)=some (.slice ((f.bP++[Fd.mk u w.name w.kids 0]).map fF) true):=R8 (l:=f.bP) (u:=Fd.mk u w.name w.kids 0) ah
    simp(disch:=omega)only[aO,aa,simprocAttr,q3,q9,I5,q11,e1,e2,a1,fw,cO,cJ,avp,avd,ab,au4];refine fin _ _ _ 0 ah ah ⟨?_,?_,?_,g4,?_⟩ ?_ ?_ ?_ ?_ ?_
    ·exact fY q2
    ·exact fY q3
    ·exact fY q5
    ·exact fY q4
    ·exact fY q7
    ·exact fY q8
    ·exact fY I5
    ·exact jd
    ·exact jd
  ·simp(disch:=omega)only[aO,aa,simprocAttr,I5,q11]
   refine⟨_,_,_,f,rfl,⟨⟨?_,?_,?_,g4,?_⟩,?_,?_,g9,o1,o2,o3,?_⟩,hF,trivial⟩
   ·exact fY q2
   ·exact fY q3
   ·exact fY q5
   ·exact fY q4
   ·exact fY q7
   ·exact fY q8
   ·exact fY q9
 ·refine⟨_,_,_,f,rfl,⟨⟨?_,?_,?_,g4,?_⟩,?_,?_,g9,o1,o2,o3,?_⟩,hF,?_,?_,by rw[ri];rfl⟩
  ·exact fY q2
  ·exact fY q3
  ·exact fY q5
  ·exact fY q4
  ·exact fY q7
  ·exact fY q8
  ·exact fY q9
  ·exact fY I5
  ·exact jd
def XA{c:Cc}{K:ae}(h:CH c p0 K){i:Int}{s:AS}(hs:FmP c K so b many i (fun _ _=>True) s) :
  W A ((vV.post 2).pre 0) s (andThen (FmP c K so b many i (fun _ _=>True)) Q):=by
 obtain⟨T,p,g,f,rfl,⟨⟨q2,q3,q5,g4,q4⟩,q7,q8,g9,o1,o2,o3,q9⟩,hF, -⟩:=hs;unfold vV I4;simp only[aH.sub,aH.pre,aH.post];have fin:∀ (T' : aD) (p' : Int) (g' : Nat) (f' : Fm) (o1 o2:Bool),T' 2=.lbox 0 [.str [],.slice [] true,.slice [] true,.slice [] true,.str []]->T' 3=.ref c.mm 0->T' 5=.bool b->T' 4=.lbox g4 [.str so.name,.slice (strs so.jc) true,.slice (so.defs.map bZ) true,.slice (strs so.head) true,.str so.fin]->T' 7=.int .i64 many->T' 8=.int .i64 i ->
   T' 9=.lbox g9 [.int .i64 f'.kind,.str f'.name,.slice (f'.bP.map fF) true,.str f'.rn,.slice (aG f'.rk) o1,.int .i64 f'.body.kind,.int .i64 f'.body.n,.str f'.body.name,.str f'.body.field,.str f'.body.wn,.slice (aG f'.body.wk) o2,.slice (aC f'.body.kids) o2,.slice (strs f'.body.names) o2,.slice (strs f'.layout) o3]->RT 4 f'->FmP c K so b many i (fun _ _=>True) ⟨T',df c p' K,c.mm,g'⟩ :=
  fun T' p' g' f' o1 o2 r2 r3 r5 r4 r7 r8 r9 hf=>⟨_,_,_,f',rfl,⟨⟨r2,r3,r5,g4,r4⟩,r7,r8,g9,o1,o2,o3,r9⟩,hf,trivial⟩
 by_cases k0:f.kind=0
 ·simp(disch:=omega)only[aO,aa,simprocAttr,q9,ab]
  refine fin _ _ _ f o1 o2 ?_ ?_ ?_ ?_ ?_ ?_ ?_ hF
  all_goals exact vO7 q2 q3 q4 q5 q7 q8 q9
 by_cases k1:f.kind=1
 ·simp(disch:=omega)only[aO,aa,simprocAttr,q9,ab]
  refine fin _ _ _ f o1 o2 ?_ ?_ ?_ ?_ ?_ ?_ ?_ hF
  all_goals exact vO7 q2 q3 q4 q5 q7 q8 q9
 obtain⟨w,p1,wb,e1⟩:=abG h p;obtain⟨t,p2,tb,e2⟩:=ab1 h p1 4 ah;rw[show ((4:Nat):Int)=4 from rfl] at e2
 obtain⟨u,p3,ub,e3⟩:=ab1 h p2 0 ah;rw[show ((0:Nat):Int)=0 from rfl] at e3
 have Bc:RT 4 { f with rn:=w.name,rk:=w.kids,body:=t }:=⟨hF.k,hF.a,hF.sl,hF.sb,by cases w;exact wb,tb,hF.ll,hF.lb⟩
 have J0:RT 4 { f with rn:=w.name,rk:=w.kids,body:=u }:=⟨hF.k,hF.a,hF.sl,hF.sb,by cases w;exact wb,ub,hF.ll,hF.lb⟩
 have e4:=Iw (Bc.B ah) (df c p2 K);rw[bZ] at e4;simp only at e4;simp(disch:=omega)only[aO,aa,simprocAttr,q3,q9,e1,e2,e4,bG,ab,au4];refine jt ?_ ?_<;>intro hlen
 ·simp(disch:=omega)only[aO,aa,simprocAttr,q3,e3,au4]
  refine fin _ _ _ { f with rn:=w.name,rk:=w.kids,body:=u } false false ?_ ?_ ?_ ?_ ?_ ?_ ?_ J0
  all_goals exact vO6 q2 q3 q4 q5 q7 q8
 ·simp(disch:=omega)only[aO,aa,simprocAttr]
  refine fin _ _ _ { f with rn:=w.name,rk:=w.kids,body:=t } false false ?_ ?_ ?_ ?_ ?_ ?_ ?_ Bc
  all_goals exact vO6 q2 q3 q4 q5 q7 q8
def RS(c:Cc)(K:ae)(b:Bool)(many i:Int)(nd:Nat)(s:AS):Prop:=∃ T p g so,s=⟨T,df c p K,c.mm,g⟩/\SA c so b T/\LB 4 so/\T 7=.int .i64 many/\T 8=.int .i64 i/\so.defs.length=nd
theorem acZ{c:Cc}{K:ae}(h:CH c p0 K)(hG:LB 4 so)(hd:so.defs.length<3){i:Int}{s:AS}(hs:FmP c K so b many i (fun _ _=>True) s)
  (hR:∀ s',RS c K b many i (so.defs.length+1) s'->R s'):W A (vV.post 3) s (andThen R Q):=by
 obtain⟨T,p,g,f,rfl,⟨⟨q2,q3,q5,g4,q4⟩,q7,q8,g9,o1,o2,o3,q9⟩,hF, -⟩:=hs;unfold vV I4;simp only[aH.sub,aH.post];have D6:∀ f',RT 4 f'->LB 4 { so with defs:=so.defs++[f'] }:=fun f' hf=>⟨hG.a,hG.ul,hG.ub,dw,fun v hv=>by
  rcases auY.1 hv with hv|hv
  ·exact hG.db v hv
  ·rw[ava.1 hv];exact hf,hG.hl,hG.hb,hG.e⟩
 have fin:∀ (T' : aD) (p' : Int) (g' : Nat) (f' : Fm),RT 4 f'->T' 2=.lbox 0 [.str [],.slice [] true,.slice [] true,.slice [] true,.str []]->T' 3=.ref c.mm 0->T' 5=.bool b->T' 4=.lbox g4 [.str so.name,.slice (strs so.jc) true,.slice ((so.defs++[f']).map bZ) true,.slice (strs so.head) true,.str so.fin]->T' 7=.int .i64 many->T' 8=.int .i64 i->R ⟨T',df c p' K,c.mm,g'⟩ :=
  fun T' p' g' f' hf r2 r3 r5 r4 r7 r8=>hR _ ⟨_,_,_,{ so with defs:=so.defs++[f'] },rfl,⟨r2,r3,r5,g4,r4⟩,D6 f' hf,r7,r8,ag⟩
 cases b with
 | false =>
  have a1:=R9 (l:=so.defs) (f:=f) (o:=true) ah;simp(disch:=omega)only[nK,cY,cb,ct,cm,gC,aP,aQ,br,aE.eval,AS.bW,↓reduceIte,Nat.reduceEqDiff,Option.isSome,Option.isNone,cond_true,cond_false,Nat.reduceBEq,Nat.reduceAdd,Nat.reduceMul,aa,cn,avs,reduceCtorEq,gr,cZ,cd,bD,bound,dc,AS.bC,aN,bI,bu,Nat.reduceLeDiff,cq,putAt,Int.reduceEq,Int.reduceLT,Int.reduceLE,Int.reduceBEq,Int.reduceBNe,Int.reduceAdd,Int.reduceNeg,Int.reduceSub,Int.reduceMul,dQ,dP,dO,dN,dM,dL,dS,dR,au,bA,au5,au7,q4,q5,q9,a1,cO,cJ,avp,avd,ab,cond_false];refine fin _ _ _ f hF ?_ ?_ ?_ ?_ ?_ ?_
  all_goals simp(disch:=omega)only[nK,cY,cb,ct,cm,gC,aP,aQ,br,aE.eval,AS.bW,↓reduceIte,Nat.reduceEqDiff,Option.isSome,Option.isNone,cond_true,cond_false,Nat.reduceBEq,Nat.reduceAdd,Nat.reduceMul,aa,cn,avs,reduceCtorEq,gr,cZ,cd,bD,bound,dc,AS.bC,aN,bI,bu,Nat.reduceLeDiff,cq,putAt,Int.reduceEq,Int.reduceLT,Int.reduceLE,Int.reduceBEq,Int.reduceBNe,Int.reduceAdd,Int.reduceNeg,Int.reduceSub,Int.reduceMul,dQ,dP,dO,dN,dM,dL,dS,dR,q2,q3,q5,q7,q8]
 | true =>
  have hB:=hF.B ah;have e4:=Iw hB (df c p K);rw[bZ] at e4;obtain⟨x,bs,out,p1,p2,ol,ob,e1,e2,e3⟩:=ajB h p (l9 f).length (by have:=GX hB;omega)
  have a1:=R9 (l:=so.defs) (f:={ f with layout:=out }) (o:=true) ah
  simp only at a1;simp(disch:=omega)only[nK,cY,cb,ct,cm,gC,aP,aQ,br,aE.eval,AS.bW,↓reduceIte,Nat.reduceEqDiff,Option.isSome,Option.isNone,cond_true,cond_false,Nat.reduceBEq,Nat.reduceAdd,Nat.reduceMul,aa,cn,avs,reduceCtorEq,gr,cZ,cd,bD,bound,dc,AS.bC,aN,bI,bu,Nat.reduceLeDiff,cq,putAt,Int.reduceEq,Int.reduceLT,Int.reduceLE,Int.reduceBEq,Int.reduceBNe,Int.reduceAdd,Int.reduceNeg,Int.reduceSub,Int.reduceMul,dQ,dP,dO,dN,dM,dL,dS,dR,au,bA,au5,au7,q3,q4,q5,q9,e1,e2,e3,e4,bG,a1,cO,cJ,avp,avd,ab,au4,cond_false];refine fin _ _ _ { f with layout:=out } ⟨hF.k,hF.a,hF.sl,hF.sb,hF.w,hF.b,by simp only;omega,ob⟩ ?_ ?_ ?_ ?_ ?_ ?_
  all_goals simp(disch:=omega)only[nK,cY,cb,ct,cm,gC,aP,aQ,br,aE.eval,AS.bW,↓reduceIte,Nat.reduceEqDiff,Option.isSome,Option.isNone,cond_true,cond_false,Nat.reduceBEq,Nat.reduceAdd,Nat.reduceMul,aa,cn,avs,reduceCtorEq,gr,cZ,cd,bD,bound,dc,AS.bC,aN,bI,bu,Nat.reduceLeDiff,cq,putAt,Int.reduceEq,Int.reduceLT,Int.reduceLE,Int.reduceBEq,Int.reduceBNe,Int.reduceAdd,Int.reduceNeg,Int.reduceSub,Int.reduceMul,dQ,dP,dO,dN,dM,dL,dS,dR,q2,q3,q5,q7,q8]
theorem oW:∀ (n:Nat) (c:aH),(c.post n).post 0=c.post (n+1)
 | 0,.seq a b=>by cases b<;>rfl
 | n+1,.seq a b=>oW n b
 | n,.skip|n,.region ..|n,.qQ ..|n,.cond ..|n,.block ..|n,.loop ..|n,.exit ..|n,.ret=>by cases n<;>rfl
theorem acY{c:Cc}{K:ae}(h:CH c p0 K)(hG:LB 4 so)(hd:so.defs.length<3){i:Int}(hs:SA c so b T)(h7:T 7=.int .i64 many)(h8:T 8=.int .i64 i)
  (hR:∀ s',RS c K b many i (so.defs.length+1) s'->R s'):W A vV ⟨T,df c p K,c.mm,g⟩ (andThen R Q):=by
 refine im 1 _ (Tl h hs h7 h8) fun s1 h1=>?_
 refine im 0 _ (Tj h h1) fun s2 h2=>?_
 rw[oW];refine im 0 _ (XA h h2) fun s3 h3=>?_
 grind [oW,acZ]
def ZV{c:Cc}{K:ae}(h:CH c p0 K){s:AS}(hs:∃ n:Nat,n<=3/\s.T 7=.int .i64 n/\SmP c K b (fun ZY=>ZY.defs=[]) s) :
  W A ((I4.body.post 6).pre 0) s (andThen (SmP c K b (fun _=>True)) Q):=by
 obtain⟨n,hn,q7,T,p,g,so,rfl,⟨q2,q3,q5,g4,q4⟩,hG,hd⟩:=hs;unfold I4;simp only[aH.post,aH.pre];simp only at q7;simp(disch:=omega)only[aO,aa,simprocAttr];have zY:∀ {T:aD} {T' : aD},SA c so b T->T' 2=T 2->T' 3=T 3->T' 4=T 4->T' 5=T 5->SA c so b T':=fun h a2 a3 a4 a5=>by
  obtain⟨q2,q3,q5,g4,q4⟩:=h;exact⟨a2.trans q2,a3.trans q3,a5.trans q5,g4,a4.trans q4⟩
 refine cj n 2 (fun i s=>RS c K b n i i s) (SmP c K b (fun _=>True)) (fun _=>False) ?_ (fun s hs=>hs) (fun _ h=>h.elim) 0 _ ah ?_
 ·rintro i s hi ⟨T,p,g,so,rfl,Wy,hG,q7,q8,hl⟩
  have zY:∀ {T T' : aD} {so:So},SA c so b T->T' 2=T 2->T' 3=T 3->T' 4=T 4->T' 5=T 5->SA c so b T':=fun h a2 a3 a4 a5=>by
   obtain⟨q2,q3,q5,g4,q4⟩:=h;exact⟨a2.trans q2,a3.trans q3,a5.trans q5,g4,a4.trans q4⟩
  by_cases hc:i<n
  ·refine xP (fun s'=>∃ T g,s'=⟨T,df c p K,c.mm,g⟩/\SA c so b T/\T 7=.int .i64 n/\T 8=.int .i64 i) ?_ ?_
   ·simp(disch:=omega)only[aO,aa,simprocAttr,q7,q8]
    refine⟨_,_,rfl,zY Wy ?_ ?_ ?_ ?_,?_,?_⟩
    all_goals exact RQ q7 q8
   ·rintro s' ⟨T,g,rfl,Wy,q7,q8⟩
    refine xP (RS c K b n i (i+1)) ?_ ?_
    ·rw[Hj]
     refine uc (c:=vV) (acY h hG ah Wy q7 q8 (R:=RS c K b n i (i+1)) (Q:=fun _ _=>False) (fun s h=>by rw[hl] at h;exact h)) ?_
     intro e s hs;cases e with
     | normal=>exact hs
     | _=>exact hs.elim
    ·rintro s' ⟨T,p,g,so,rfl,Wy,hG,q7,q8,hl⟩
     simp(disch:=omega)only[aO,aa,simprocAttr,q8];refine⟨hc,_,_,_,so,rfl,zY Wy ?_ ?_ ?_ ?_,hG,?_,?_,hl⟩
     all_goals exact fY q7
  ·simp(disch:=omega)only[aO,aa,simprocAttr,q7,q8]
   refine⟨_,_,_,so,rfl,zY Wy ?_ ?_ ?_ ?_,hG,trivial⟩
   all_goals exact jd
 ·refine⟨_,_,_,so,rfl,zY ⟨q2,q3,q5,g4,q4⟩ ?_ ?_ ?_ ?_,hG,?_,?_,by rw[hd];rfl⟩
  all_goals exact fY q7
def amn{x:Int}(h0:0<=x)(h1:x<4):∃ s:aB,s.length<=1100000/\([[.str []],[.str [32]],[.str [35,32,101,110,100]],[.str [10,10]]]:List (List AV))[x.toNat]?=some [.str s]:=by
 have:x.toNat=0\/x.toNat=1\/x.toNat=2\/x.toNat=3:=ah
 rcases this with e|e|e|e<;>rw[e]<;>exact⟨_,a8,rfl⟩
def VT{c:Cc}{K:ae}(h:CH c 0 K)(hK:K.take c.mm=K.take c.mm){s:AS}(hs:SmP c K b (fun _=>True) s) :
  W A (I4.body.post 7) s (AD c.mm [.cell 2 true 5] fun x=>∃ so,LB 4 so/\(ng x.1,x.2)=(.agg (nu so),none)):=by
 obtain⟨T,p,g,so,rfl,⟨q2,q3,q5,g4,q4⟩,hG, -⟩:=hs;unfold I4;simp only[aH.post];have NVr:=@Dk;cases b with
 | true =>
  obtain⟨x,p1,x0,x1,e1⟩:=Ik h p 4 ah;obtain⟨e,el,ee⟩:=amn x0 x1;simp(disch:=omega)only[aO,aa,simprocAttr,q2,q3,q4,q5,e1,ee,ab,au4,cH,cG,fp,Dk,abL];exact⟨{ so with fin:=e },⟨hG.a,hG.ul,hG.ub,hG.dl,hG.db,hG.hl,hG.hb,el⟩,rfl⟩
 | false =>
  simp(disch:=omega)only[aO,aa,simprocAttr,q2,q4,q5,ab,cH,cG,fp,Dk,abL];exact⟨so,hG,rfl⟩
theorem VS(l:List Int)(hl:∀ n∈l,BZ n)(H:ae):∃ so,LB 4 so/\aj A 5 [.slice (ints l) false] H=some (.agg (nu so),none):=by
 have key:∃ r,aj A 5 [.slice (ints l) false] H=some r/\∃ so,LB 4 so/\r=(.agg (nu so),none):=by
  obtain⟨c,hc⟩:∃ c:Cc,c=⟨H.length,l⟩:=⟨_,rfl⟩;obtain⟨K,hK⟩:∃ K,K=H++[.box 53 [.slice (ints l) false,.int .i64 0]]:=⟨_,rfl⟩;have hcm:c.mm=H.length:=by rw[hc]
  have h:CH c 0 K:=⟨by rw[hcm,hK];rw[hc];exact mG,by rw[hc];exact hl,by rw[hcm,hK];simp⟩
  have hs0:df c 0 K=K:=by
   unfold df;refine awi fun j=>?_
   rw[avO];split
   ·rename_i e;subst e;rw[if_pos h.lt,h.h0]
   ·rfl
  obtain⟨u,p1,ul,e1⟩:=OR h 0;rw[hs0] at e1;obtain⟨x,p2,x0,x1,e2⟩:=Ik h p1 2 ah;refine nz (fn:=I4) rfl rfl rfl rfl ?_;rw[<- hcm];refine im 3 (fun s=>∃ T p g b so,s=⟨T,df c p K,c.mm,g⟩/\SA c so b T/\LB 4 so/\so.jc=[]/\so.defs=[]) ?_ ?_
  ·unfold I4
   simp only[aH.pre];have hK' : H++[bM.box 53 [.slice (ints l) false,.int .i64 0]]=K:=hK.symm;simp(disch:=omega)only[aO,aa,simprocAttr,<- hcm,hK',e1,e2,fw,au4];refine⟨_,_,_,x==1,⟨u,[],[],[],[]⟩,rfl,⟨?_,?_,?_,1,?_⟩,⟨ul,ag,ag,ag,ag,ag,ag,ag⟩,rfl,rfl⟩
   all_goals exact fY ma
  ·rintro s ⟨T,p,g,b,so,rfl,Wy,hG,hu,hd⟩
   refine im 0 _ (ZX h Wy hG hu hd) fun s1 h1=>?_
   rw[oW];refine im 1 _ (ZW h h1) fun s2 h2=>?_
   have e:(I4.body.post 4).post 1=I4.body.post 6:=rfl;rw[e];refine im 0 _ (ZV h h2) fun s3 h3=>?_
   rw[oW];exact VT h rfl h3
 grind
def nV : ∀ {rows:List (List AV)},(∀ r∈rows,r.length=z)->rows.flatten.length=rows.length*z
 | [],_=>ag
 | r :: rows,h=>by
  rw[avo,List.length_append,nV (fun r hr=>h r (av3 _ hr)),h r (List.mem_cons_self ..),List.length_cons,avG,aw6,axp]
def zO : ∀ {rows:List (List AV)} {i:Nat} {r:List AV} (j:Nat),(∀ r∈rows,r.length=z)->rows[i]?=some r->j<=z->rows.flatten.drop (i*z+j)=r.drop j++(rows.drop (i+1)).flatten
 | [],i,r,j,_,hi,_=>by simp at hi
 | a :: rows,0,r,j,h,hi,hj=>by
  simp only[avb,auR] at hi;subst hi;have ha:=h a (List.mem_cons_self ..);rw[aw2,avt,avo,awM ah];rfl
 | a :: rows,i+1,r,j,h,hi,hj=>by
  have ha:=h a (List.mem_cons_self ..);have e:(i+1)*z+j=a.length+(i*z+j):=by rw[avG,aw6,ha];omega
  rw[e,avo,<- av',awm rfl,zO j (fun r hr=>h r (av3 _ hr)) (cT hi) hj]
  rfl
def Qe(h:∀ r∈rows,r.length=z)(hi:rows[i]?=some r)(hj:j<z):rows.flatten[i*z+j]?=r[j]?:=by
 have hr:=h r (au0 hi);have:=zO j h hi (awx hj)
 have e:rows.flatten[i*z+j]?=(rows.flatten.drop (i*z+j))[0]?:=by rw[avY];rfl
 rw[e,this,au3 (by rw[avw];omega),avY]
 rfl
def Qf(h:∀ r∈rows,r.length=z)(hi:rows[i]?=some r)(hz:0<z)(hj:j+sz<=z)(hjz:j<z) :
  ab false agg sz (i*z+j) rows.flatten=ab false agg sz j r:=by
 have hr:=h r (au0 hi);have aZ:=(auU.1 hi).1;have hl:rows.flatten.length=rows.length*z:=nV h;have hb:i*z+z<=rows.length*z:=by rw[<- Nat.succ_mul];exact au6 _ aZ
 cases agg with
 | true =>
  simp only[ab,cond_true,hl,hr,avA (show i*z+j+sz<=rows.length*z by omega),avA hj]
  rw[zO j h hi ah,awg (by rw[avw];omega)]
 | false =>
  simp only[ab,cond_false];rw[Qe h hi hjz]
def JU : ∀ {rows:List (List AV)} {i j:Nat} {r cs:List AV},(∀ r∈rows,r.length=z)->rows[i]?=some r->j+cs.length<=z->putAt rows.flatten (i*z+j) cs=(rows.set i (putAt r j cs)).flatten
 | [],i,j,r,cs,_,hi,_=>by simp at hi
 | a :: rows,0,j,r,cs,h,hi,hj=>by
  simp only[avb,auR] at hi;subst hi;have ha:=h a (List.mem_cons_self ..);simp only[putAt,aw2,avt,avo,axh];rw[awg ah,awM ah];simp only[au8]
 | a :: rows,i+1,j,r,cs,h,hi,hj=>by
  have ha:=h a (List.mem_cons_self ..);have ih:=JU (j:=j) (cs:=cs) (fun r hr=>h r (av3 _ hr)) (cT hi) hj
  have e:(i+1)*z+j=a.length+(i*z+j):=by rw[avG,aw6,ha];omega
  simp only[avo,aw1,<- ih];simp only[putAt,e];rw[List.take_length_add_append,axk,List.drop_length_add_append];simp only[au8]
def AA : ∀ {rows:List (List AV)},(∀ r∈rows,r.length=z)->chunks z rows.length rows.flatten=rows
 | [],_=>rfl
 | r :: rows,h=>by
  have hr:=h r ag;rw[List.length_cons,chunks,avo,<- hr,awn rfl,awm rfl,hr,AA fun r hr=>h r (xD hr)]
def aft{A:AP}{H:ae}{lo gen t:Nat}{os:List aS}{K:AS->Prop}{x:aE} : WO A (⟨some t,none,.L1 x⟩ :: os) ⟨T,H,lo,gen⟩ K =
  ca ((x.eval A.aW T).drop.cells.bind fun cs=>cond (cs.all aM) (some cs) none) fun cs=>WO A os ⟨T.put t (.ref H.length 0),H++[.bV (cs.map AV.drop)],cond (Nat.blt H.length lo) H.length lo,gen⟩ K:=by
 rw[rO rfl];simp only[aQ];cases (x.eval A.aW T).drop.cells with
 | none=>simp[ca]
 | some cs =>
  simp only[auW];cases cs.all aM with
  | false=>simp[ca]
  | true=>simp only[cond_true,aU];rfl
def u9 : bS (some (.bV cs)) agg sz off=ab false agg sz off cs:=rfl
def Q4{base:Nat}(h:x.plain=true):x.bz base=true:=by
 cases x<;>first|(simp[AV.plain] at h;done)|exact h
def YY{H:ae}{base k:Nat}(h:x.bz base=true):gx H base k x=x:=by
 cases k with
 | zero=>rfl
 | succ k =>
  cases x with
  | sref l o n z =>
   have:Nat.ble base l=false:=by
    simp only[AV.bz,avh] at h;cases hb:Nat.ble base l with
    | false=>rfl
    | true=>rw[avm] at hb;omega
   simp only[gx,this,cond_false]
  | _=>rfl
def Mc(x:AV):x.drop.drop=x.drop:=by cases x<;>rfl
def yh(cs:List AV):(cs.map AV.drop).map AV.drop=cs.map AV.drop:=by
 rw[avT];exact List.map_congr_left fun x _=>Mc x
def BC{base tc tr n:Nat}{s:AS}{out:List AV}{r:Int}(hr:fn.results=[.cell tc true n,.tmp tr])(m8:fn.muts.elem 888888=false)(m7:fn.muts.elem 777777=true)
  (hT:s.T tc=.lbox g cs) (hR:s.T tr=.int .i64 r) (hn:cs.length=n) (we:s.lo=base) (ij:((cs.map AV.drop).map (gx s.H base 3)).all AV.plain=true) (ho:((cs.map AV.drop).map (gx s.H base 3)).map n2=out) :
  finish base fn s=some (.tuple [.agg out,.int .i64 r],none):=by
 have h1:ku base s=true:=by simp[ku,we]
 have hc:iO s (.cell tc true n)=some (.agg (cs.map AV.drop)):=by
  simp only[iO,hT,ab,cond_true,avt,hn,avA (Nat.le_refl _),List.drop_zero];rw[<- hn,avr]
 have ht:iO s (.tmp tr)=some (.int .i64 r):=by simp only[iO,hR,aM,cond_true]
 have fq:lN s [.cell tc true n,.tmp tr]=some [.agg (cs.map AV.drop),.int .i64 r]:=by
  simp only[lN,hc,ht,auW,au2,AV.dk,yh,AV.drop]
 have h3:mc base fn s=some (.tuple [.agg ((cs.map AV.drop).map (gx s.H base 3)),.int .i64 r],none):=by
  unfold mc qp oE;rw[h1,m8,hr];simp only[cond_true,cond_false];cases hl:(cs.map AV.drop).all (AV.bz base) with
  | true =>
   have e:(cs.map AV.drop).map (gx s.H base 3)=cs.map AV.drop:=by
    conv=>rhs;rw[<- axT (cs.map AV.drop)]
    exact List.map_congr_left fun x hx=>YY (auX.1 hl x hx)
   have h0:iI base [.cell tc true n,.tmp tr] s=some (.tuple [.agg (cs.map AV.drop),.int .i64 r],none):=by
    simp only[iI,my,fq,au2,auW,AV.leaves,List.all_cons,List.all_nil,AV.ft,AV.bz,AV.plain,hl,avI,cond_true,we,awF]
   rw[h0,e]
  | false =>
   have h0:iI base [.cell tc true n,.tmp tr] s=none:=by
    simp only[iI,my,fq,au2,auW,AV.leaves,List.all_cons,List.all_nil,AV.ft,AV.bz,AV.plain,hl,avk,cond_false]
   have hp:qA base [.cell tc true n,.tmp tr] s=none:=by
    have q:qL s base [.cell tc true n,.tmp tr]=none:=by
     have q1:ow s (.cell tc true n)=none:=rfl;rw[qL];cases qL s base [.tmp tr] with
     | none=>rfl
     | some q=>simp only[auW,q1,hc,AV.dk,yh,AV.ft,hl,cond_false]
    simp only[qA,q,Option.bind_none];rfl
   have hf:sG base [.cell tc true n,.tmp tr] s=some (.tuple [.agg ((cs.map AV.drop).map (gx s.H base 3)),.int .i64 r],none):=by
    have hx:((cs.map AV.drop).map (gx s.H base 3)).all (AV.bz base)=true:=by
     rw[auX] at ij ⊢;exact fun x hx=>Q4 (ij x hx)
    simp only[sG,vG,fq,au2,auW,au9,avC,Ms,AV.leaves,List.all_cons,List.all_nil,AV.ft,hx,avI,we,awF,cond_true,show gx s.H base 3 (.int .i64 r)=.int .i64 r from rfl,AV.bz,AV.plain]
   rw[h0,hp,hf]
 unfold finish;rw[h3,au2,Dj m7,ae'];simp only[au9,avC,aeX,aeY,ho]
def h2a{H:ae}{b:bM} : (H++[a,b])[H.length]?=some a:=ag
def h2b{H:ae}{b:bM} : (H++[a,b])[H.length+1]?=some b:=by rw[List.getElem?_append_right ah];simp
def h2t{H:ae}{b:bM} : (H++[a,b]).take H.length=H:=ag
def s2b{H:ae}{b c:bM} : (H++[a,b]).set (H.length+1) c=H++[a,c]:=by
 rw[List.set_append_right _ _ ah];simp
def h3a{H:ae}{b c:bM} : (H++[a,b,c])[H.length]?=some a:=ag
def h3c{H:ae}{b c:bM} : (H++[a,b,c])[H.length+2]?=some c:=by rw[List.getElem?_append_right ah];simp
def h3t{H:ae}{b c:bM} : (H++[a,b,c]).take H.length=H:=ag
def l2{H:ae}{b:bM} : (H++[a,b]).length=H.length+2:=ag
def l1{H:ae} : (H++[a]).length=H.length+1:=ag
def aad{l:List Tm} : gF 8 (aC l)=true:=by
 cases l with
 | nil=>simp[aC,gF]
 | cons a r=>simp only[aC,gF,axs,au2,avN,ja];rfl
def Mz{H L:ae}{b:bM} : (H++a :: L).set H.length b=H++b :: L:=ag
def hgl{H L:ae} : (H++a :: L).length=H.length+1+L.length:=dw
def ahR:A.aW 3=fG.map .str:=rfl
def ahS:A.aW 1=[.func (.func 90) [] [],.func (.func 188) [] [],.func (.func 189) [] [],.func (.func 189) [] []]:=rfl
def ahT:A.aW 2=mA.map .str:=rfl
theorem uL{c:UInt8} : kV c=decide (kindOf c=1):=by
 unfold kindOf
 grind
def xn{c:UInt8} : isDigit c=decide (kindOf c=2):=by
 unfold kindOf;cases h:kV c<;>cases h2:isDigit c<;>simp
 simp only[kV,isDigit,awl,auT,au1] at h h2;omega
def oL(s:aB):List aB->Nat
 | []=>0
 | x :: r=>if x.isPrefixOf s then x.length else oL s r
theorem y8{b:UInt8}{r:aB} : ∀ l:aB,oL (b :: r) (l.map fun x=>[x])=if l.contains b=true then 1 else 0
 | []=>rfl
 | x :: l=>by
  simp only[au9,oL,List.isPrefixOf,avI,awA,awl,y8 l,List.length_cons,List.length_nil]
  grind
theorem K9{b:UInt8}{r:aB}(h:kindOf b=0):oL (b :: r) mA=il (b :: r):=by
 simp only[il];rw[if_neg ah];have qa:mq [b]=nI.contains b:=by unfold mq;simp
 rw[qa];have two:(1<=r.length/\mq ((b :: r).take 2)=true)↔([61,61].isPrefixOf (b :: r)=true\/[45,62].isPrefixOf (b :: r)=true):=by
  cases r with
  | nil=>simp[List.isPrefixOf]
  | cons c r' =>
   simp only[av2,avV,mq,List.isPrefixOf,List.length_cons,List.length_nil];simp
   grind
 have e:mA=[61,61] :: [45,62] :: (nI.map fun x=>[x]):=rfl
 rw[e];simp only[oL,y8]
 grind
def IG(s:aB)(H:ae)(XJ:s≠[])(hs:s.length<=4611686018427387904):aj A 51 [.str s] H=some (.int .i64 (il s),none):=by
 refine cW ajm.eq_1 ?_
 obtain⟨b,r,wj⟩:∃ b r,s=b :: r:=by cases s with|nil=>exact absurd rfl XJ|cons b r=>exact⟨b,r,rfl⟩
 have hb:s[0]?=some b:=by rw[wj];rfl
 have hd:s.drop 1=r:=by rw[wj];rfl
 simp(disch:=omega)only[jh,aa,simprocAttr,ahS];cases hl:kV b with
 | true =>
  have hk:kindOf b=1:=by rw[uL] at hl;simpa using hl
  refine xR ?_;simp(disch:=omega)only[jh,aa,simprocAttr,au,putAt,hb,ru,hl];refine cj s.length 2 (fun i=>Hd (fun T=>T 0=.str s/\T 4=.lbox 0 [.func (.func 90) [] [],.func (.func 188) [] []]/\T 5=.int .i64 i/\1<=i/\1+dH 1 r=i+dH 1 (s.drop i)) H H.length 1)
   (Hd (fun T=>T 5=.int .i64 ((1+dH 1 r:Nat):Int)) H H.length 1) (fun _=>False) ?_ ?_ (fun _ h=>h.elim) 1 _ (by rw[wj];simp) ?_
  ·rintro i st hi gZ
   obtain⟨T,rfl,h0,h4,h5,RI,hc⟩:=gZ.out
   by_cases h:i<s.length
   ·rw[avf h] at hc
    have Bg:s[i]?=some s[i]:=auS h;generalize s[i]=c at hc Bg;simp only[dH,avZ] at hc;have he:(kV c || isDigit c)=decide (kindOf c=2\/kindOf c=1):=by rw[uL,xn];by_cases e1:kindOf c=1<;>by_cases e2:kindOf c=2<;>simp[e1,e2]
    by_cases iY:kindOf c=2\/kindOf c=1
    ·rw[if_pos iY] at hc
     simp(disch:=omega)only[dr,aa,simprocAttr,h0,h4,h5,Bg,JA,he,iY];omega
    ·rw[if_neg iY] at hc
     simp(disch:=omega)only[dr,aa,simprocAttr,h0,h4,h5,Bg,JA,he,iY];omega
   ·have:i=s.length:=ah
    subst this;rw[awr] at hc;simp only[dH] at hc;simp(disch:=omega)only[dr,aa,simprocAttr,h0,h4,h5];omega
  ·intro st gZ
   obtain⟨T,rfl,h5⟩:=gZ.out;have ht:il s=if 16<1+dH 1 r then 0 else 1+dH 1 r:=by rw[wj];simp only[il,hk,if_pos (show (0:Int)<1 by omega)]
   by_cases h16:16<1+dH 1 r
   ·rw[if_pos h16] at ht
    exact RQ h5 ht
   ·rw[if_neg h16] at ht
    exact RQ h5 ht
  ·exact vE1 hd
 | false =>
  refine xR ?_;simp(disch:=omega)only[jh,aa,simprocAttr,au,putAt,hb,ru,hl];refine xR ?_;cases MC:isDigit b with
  | true =>
   have hk:kindOf b=2:=by rw[xn] at MC;simpa using MC
   simp(disch:=omega)only[jh,aa,simprocAttr,au,putAt,hb,yd,MC];refine cj s.length 2 (fun i=>Hd (fun T=>T 0=.str s/\T 4=.lbox 1 [.func (.func 189) [] [],.func (.func 189) [] []]/\T 5=.int .i64 i/\1<=i/\1+dH 2 r=i+dH 2 (s.drop i)) H H.length 2)
    (Hd (fun T=>T 5=.int .i64 ((1+dH 2 r:Nat):Int)) H H.length 2) (fun _=>False) ?_ ?_ (fun _ h=>h.elim) 1 _ (by rw[wj];simp) ?_
   ·rintro i st hi gZ
    obtain⟨T,rfl,h0,h4,h5,RI,hc⟩:=gZ.out
    by_cases h:i<s.length
    ·rw[avf h] at hc
     have Bg:s[i]?=some s[i]:=auS h;generalize s[i]=c at hc Bg;simp only[dH,show ((2:Int)=1)=False by simp,and_false,awk] at hc
     have he:isDigit c=decide (kindOf c=2):=xn
     by_cases iY:kindOf c=2
     ·rw[if_pos iY] at hc
      simp(disch:=omega)only[dr,aa,simprocAttr,h0,h4,h5,Bg,yd,he,iY];omega
     ·rw[if_neg iY] at hc
      simp(disch:=omega)only[dr,aa,simprocAttr,h0,h4,h5,Bg,yd,he,iY];omega
    ·have:i=s.length:=ah
     subst this;rw[awr] at hc;simp only[dH] at hc;simp(disch:=omega)only[dr,aa,simprocAttr,h0,h4,h5];omega
   ·intro st gZ
    obtain⟨T,rfl,h5⟩:=gZ.out;have ht:il s=if 16<1+dH 2 r then 0 else 1+dH 2 r:=by rw[wj];simp only[il,hk,if_pos (show (0:Int)<2 by omega)]
    by_cases h16:16<1+dH 2 r
    ·rw[if_pos h16] at ht
     exact RQ h5 ht
    ·rw[if_neg h16] at ht
     exact RQ h5 ht
   ·exact vE1 hd
  | false =>
   have hk:kindOf b=0:=by unfold kindOf;rw[hl,MC];rfl
   simp(disch:=omega)only[jh,aa,simprocAttr,au,putAt,hb,yd,MC];refine xR ?_;simp(disch:=omega)only[jh,aa,simprocAttr,ahT];refine abZ (.agg (mA.map .str)) Bl ?_;simp(disch:=omega)only[jh,aa,simprocAttr];have anZ:oL s mA=il s:=by rw[wj];exact K9 hk
   have h18:mA.length=18:=rfl;refine cj 18 4 (fun i=>Hd (fun T=>T 0=.str s/\T 36=.agg (mA.map .str)/\T 37=.int .i64 i/\il s=oL s (mA.drop i)) H H.length 2)
    (Hd (fun T=>il s=0) H H.length 2) (Hd (fun T=>T 2=.int .i64 (il s)) H H.length 2) ?_ ?_ ?_ 0 _ ah ?_
   ·rintro i st hi gZ
    obtain⟨T,rfl,h0,h36,h37,hc⟩:=gZ.out
    by_cases h:i<18
    ·have j8:i<mA.length:=by rw[h18];exact h
     have hx:(mA.map AV.str)[i]?=some (.str mA[i]):=by rw[List.getElem?_map,auS j8];rfl
     rw[avf j8] at hc;simp only[oL] at hc;generalize mA[i]=x at hc hx;cases hp:x.isPrefixOf s with
     | true =>
      rw[if_pos hp] at hc;simp(disch:=omega)only[dr,aa,simprocAttr,h0,h36,h37,awK,hx,AK,hp];omega
     | false =>
      rw[if_neg (xD hp)] at hc;simp(disch:=omega)only[dr,aa,simprocAttr,h0,h36,h37,awK,hx,AK,hp];exact⟨h,hc⟩
    ·have:i=18:=ah
     subst this;rw[show mA.drop 18=[] from rfl] at hc
     simp only[oL] at hc;exact RQ h37 hc
   ·intro st gZ
    obtain⟨T,rfl,hc⟩:=gZ.out;exact vE1 hc
   ·intro st gZ
    obtain⟨T,rfl,hc⟩:=gZ.out;exact vE1 hc
   ·exact vE1 anZ
def Ph(s:aB)(H:ae)(hs:s.length<=4611686018427387904):aj A 53 [.str s] H=some (.bool (isWord s),none):=by
 refine cW ajn.eq_1 ?_;cases wj:s with
 | nil=>simp(disch:=omega)only[jh,aa,simprocAttr,isWord]
 | cons b r =>
 rw[<- wj];have dp:s≠[]:=by rw[wj];simp
 have hl:(s==[])=false:=cT dp;have h27:fG.length=27:=rfl;have hb:s[0]?=some b:=by rw[wj];rfl
 have hw:isWord s=(decide (kindOf b=1)&&!fG.contains s&&decide (il s=s.length)):=by rw[wj];rfl
 have hk:=uL (c:=b);rw[hw]
 by_cases zi:kindOf b=1
 ·by_cases ht:il s=s.length
  ·simp(disch:=omega)only[dr,aa,simprocAttr,hl,hb,ru,hk,zi,IG s H dp hs,ht,ahR,h27,Ma fG s H ah]
  ·exact vO7 hl hb ru hk zi (IG s H dp hs) ht
 ·exact vO5 hl hb ru hk zi
def aoq(s:aB)(c:UInt8)(H:ae):aj A 110 [.str s,.int .u8 c.toNat] H=some (.int .i64 (dD c.toNat 0 s),none):=by
 refine fZ (A:=A) (f:=110) rfl ?_;have h1:decide ((0:Int)<=c.toNat)=true:=ag;have h2:decide ((c.toNat:Int)<256)=true:=by have:=c.toNat_lt;simp;omega
 simp only[iC,h1,h2,Bool.and_self,cond_true]
def abE(s:aB)(c:UInt8)(H:ae)(hs:s.length<=10000000):aj A 144 [.str s,.str [c]] H=some (.int .i64 (dD c.toNat 0 s),none):=by
 refine cW abC.eq_1 ?_;have hib:=aoq s c H;cases h:(([c]:aB)==s) with
 | true =>
  have e:s=[c]:=(avB.1 h).symm;subst e;have:dD (c.toNat:Int) 0 [c]=0:=by simp[dD]
  rw[this];exact tL
 | false =>
  exact Lz h hib
def aoE(s:aB)(c:UInt8)(H:ae)(hs:s.length<=10000000):aj A 125 [.str s,.str [c]] H=some (.int .i64 (dD c.toNat 0 s),none):=by
 have h:=abE s c H hs;refine cW abw.eq_1 ?_;exact nx h
def AB(s:aB)(c:UInt8)(H:ae)(hs:s.length<=10000000):aj A 101 [.str s,.str [c]] H=some (.bool (decide (0<=dD c.toNat 0 s)),none):=by
 have h:=aoE s c H hs;refine cW abn.eq_1 ?_;exact nx h
theorem zU:∀ (s:aB) (k:Nat),((aV s).2.2=true->dD 46 k s=k+(aV s).1.length/\s=(aV s).1++46 :: (aV s).2.1)/\((aV s).2.2=false->dD 46 k s=-1)
 | [],k=>⟨fun h=>by simp[aV] at h,fun _=>rfl⟩
 | b :: r,k=>by
  by_cases hb:b.toNat=46
  ·have e:b=46:=aw0.1 hb
   subst e;refine⟨fun _=>?_,fun h=>by simp[aV] at h⟩
   simp[aV,dD]
  ·have hi:dD 46 k (b :: r)=dD 46 (k+1) r:=by
    have:decide ((b.toNat:Int)=46)=false:=dw
    rw[dD,this,cond_false]
   have hf:aV (b :: r)=(b :: (aV r).1,(aV r).2.1,(aV r).2.2):=by rw[aV,if_neg hb]
   obtain⟨h1,h2⟩:=zU r (k+1)
   grind
def acB(s:aB)(H:ae)(hs:s.length<=10000000):aj A 139 [.str s,.str [46]] H=some (.tuple [.str (aV s).1,.str (aV s).2.1,.bool (aV s).2.2],none):=by
 have h:=abE s 46 H hs;rw[show (((46:UInt8).toNat:Nat):Int)=46 from rfl] at h
 obtain⟨h1,h2⟩:=zU s 0;refine cW abB.eq_1 ?_;cases hf:(aV s).2.2 with
 | true =>
  obtain⟨a1,a2⟩:=h1 hf;rw[a1] at h;rw[show ((0:Nat):Int)+(aV s).1.length=(aV s).1.length by omega] at h
  have hl:=pf s;obtain⟨p,q,hp,hq,xe⟩:∃ p q,p=(aV s).1/\q=(aV s).2.1/\s=p++46 :: q:=⟨_,_,rfl,rfl,a2⟩;rw[<- hp,<- hq];rw[<- hp] at h;have e1:s.take p.length=p:=by rw[xe];exact awn rfl
  have e2:s.drop (p.length+1)=q:=by rw[xe,List.drop_append];simp
  have e3:p.length+1<=s.length:=by rw[xe,List.length_append,List.length_cons];omega
  have en:asNat (.int .i64 ((p.length:Int)+1))=some (p.length+1):=by rw[bA ah];rfl
  simp(disch:=omega)only[aO,aa,simprocAttr,h,avr,e1,e2,en]
 | false =>
  rw[h2 hf] at h;have e:=uw hf;have e1:(aV s).1=s:=by rw[e]
  have e2:(aV s).2.1=[]:=by rw[e]
  rw[e1,e2];exact nx h
def ahA(s:aB)(H:ae)(hs:s.length<=10000000):aj A 123 [.str s,.str [46]] H=some (.tuple [.str (aV s).1,.str (aV s).2.1,.bool (aV s).2.2],none):=by
 have h:=acB s H hs;refine cW abv.eq_1 ?_;exact nx h
theorem aac(s:aB)(c:UInt8)(H:ae)(hs:s.length<=10000000):aj A 126 [.str s,.str [c]] H=some (.str (if [c].isPrefixOf s=true then s.drop 1 else s),none):=by
 have h:=yr s [c] H;refine cW abx.eq_1 ?_;cases hp:[c].isPrefixOf s with
 | true =>
  have hl:1<=s.length:=by
   grind
  rw[if_pos rfl];simp(disch:=omega)only[aO,aa,simprocAttr,h,hp,avr]
 | false =>
  rw[if_neg a8];exact Lz h hp
def agn(s:aB)(c:UInt8)(H:ae)(hs:s.length<=10000000):aj A 103 [.str s,.str [c]] H=some (.str (if [c].isPrefixOf s=true then s.drop 1 else s),none):=by
 have h:=aac s c H hs;refine cW abp.eq_1 ?_;exact nx h
def XB(b:Bool)(H:ae):aj A 127 [.bool b] H=some (.str (bif b then [116,114,117,101] else [102,97,108,115,101]),none):=by
 refine cW aby.eq_1 ?_;cases b<;>exact tL
def ac0(b:Bool)(H:ae):aj A 104 [.bool b] H=some (.str (bif b then [116,114,117,101] else [102,97,108,115,101]),none):=by
 have h:=XB b H;refine cW abq.eq_1 ?_;exact nx h
def MV(n:Int)(H:ae)(hn:BZ n):aj A 64 [.int .i64 n] H=some (.str (rp n),none):=by
 refine fZ (A:=A) (f:=64) rfl ?_;obtain⟨h1,h2⟩:=hn;have e1:decide (-9223372036854775808<=n)=true:=dw;have e2:decide (n<=9223372036854775807)=true:=dw;simp only[Dq,e1,e2,Bool.and_self,cond_true]
def yg:∀ (f n:Nat) (acc:aB),n<f->∃ d r,gO f n acc=d :: r/\d≠45
 | 0,n,acc,h=>ah
 | f+1,n,acc,h=>by
  rw[gO];cases hb:Nat.blt n 10 with
  | true =>
   have hn:n<10:=by simpa [avh] using hb
   refine⟨_,_,rfl,fun e=>?_⟩
   have:=awu UInt8.toNat e
   rw[UInt8.toNat_ofNat'] at this;simp at this;omega
  | false =>
   have hn:¬ n<10:=fun h=>by
    have:Nat.blt n 10=true:=by simpa [avh] using h
    rw[hb] at this;cases this
   exact yg f (n / 10) _ ah
def H7{n:Int}(h:0<=n):rp n=lR n.toNat:=by
 obtain⟨k,rfl⟩:∃ k:Nat,n=k:=⟨n.toNat,ah⟩;rfl
theorem itoa_neg{n:Int}(h:n<0):rp n=45 :: lR (-n).toNat:=by
 cases n with
 | ofNat k=>exact absurd h ag
 | negSucc k =>
  have:(-(Int.negSucc k)).toNat=k+1:=by simp[Int.neg_negSucc]
  rw[this];rfl
theorem Rt(n:Int):(if ([45]:aB).isPrefixOf (rp n)=true then (rp n).drop 1 else rp n)=lR (if n<0 then (-n).toNat else n.toNat):=by
 by_cases h:n<0
 ·grind [itoa_neg]
 ·rw[H7 ah,if_neg h]
  obtain⟨d,r,e,hd⟩:=yg (n.toNat+1) n.toNat [] ah;have e' : lR n.toNat=d :: r:=e
  grind
section
structure PS where
 i:Nat
 bad:Bool
def fL(s:aB):Int:=match Lib.atoiAll s with
 | .ok v=>bif decide (1099511627776<v) || !(rp v==s) || decide (v<0) then -1 else v
 | _=>-1
def LD:aB:=[105,102]
def LG:aB:=[116,104,101,110]
def LC:aB:=[101,108,115,101]
def B4:aB:=[108,101,116]
def acf:aB:=[105,110]
def wK:aB:=[102,111,108,100]
def LF:aB:=[111,118,101,114]
def acd:aB:=[100,111]
def vU:aB:=[110,111,116]
def xQ:aB:=[108,101,110]
def zA:aB:=[116,114,117,101]
def u6:aB:=[102,97,108,115,101]
def ki:aB:=[76,105,115,116]
def ua:aB:=[73,110,116]
def oZ:aB:=[66,111,111,108]
def rV:aB:=[109,97,116,99,104]
def jW:aB:=[109,111,100,117,108,101]
def Au:aB:=[117,115,101]
def Bo(w:aB):Option (Int × Int) :=
 (mR.find? fun r=>match r with|.str a :: _=>a==w|_=>false).bind fun r=>match r with|[_,.int _ o,.int _ l]=>some (o,l)|_=>none
section
variable (L:List aB)
def pk(s:PS):aB:=bif s.bad then [] else L.getD s.i []
def PS.up(s:PS):PS:=⟨s.i+1,s.bad⟩
def PS.wX(s:PS):PS:=⟨s.i,true⟩
def aY(w:aB)(s:PS):PS:=bif pk L s==w then s.up else s.wX
def aL(s:PS):aB × PS:=bif isWord (pk L s) then (pk L s,s.up) else ([],s.wX)
def jR(least:Int)(s:PS):Int × PS:=bif decide (fL (pk L s)<least) then (0,s.wX) else (fL (pk L s),s.up)
def aR(s:PS):aB × PS :=
 bif !(aL L s).2.bad&&(pk L (aL L s).2==[46]) then ((aL L s).1++46 :: (aL L (aL L s).2.up).1,(aL L (aL L s).2.up).2) else aL L s
def pX:Nat->PS->Option (Wd × PS)
 | 0,_=>none
 | n+1,s=>bif pk L s==ua then some (.mk ua [],s.up) else bif pk L s==oZ then some (.mk oZ [],s.up) else bif pk L s==ki then
   (pX n (aY L [40] s.up)).map fun r=>(.mk ki [r.1],aY L [41] r.2)
  else some (.mk (aR L s).1 [],(aR L s).2)
def lS(n:Nat)(s:PS):Option (Wd × PS):=(pX L n (aY L [40] s)).map fun r=>(r.1,aY L [41] r.2)
section
variable {α:Type}(elem:α->PS->Option (α × PS))(fin:aB)
def uM:Nat->α->PS->Option (α × PS)
 | 0,_,_=>none
 | k+1,a,s=>(elem a s).bind fun r=>bif !r.2.bad&&(pk L r.2==[44]) then uM k r.1 r.2.up else some (r.1,bif r.2.bad then r.2 else aY L fin r.2)
def tI(k:Nat)(a:α)(s:PS):Option (α × PS):=bif pk L s==fin then some (a,s.up) else uM L elem fin k a s
end
abbrev EP:=PS->Option (Tm × PS)
def uJ(E:EP)(ks:List Tm)(s:PS):Option (List Tm × PS):=(E s).map fun r=>(ks++[r.1],r.2)
def oI(E:EP)(w:aB)(ks:List Tm)(s:PS):Option (List Tm × PS):=bif (aY L w s).bad then some (ks,aY L w s) else uJ E ks (aY L w s)
def FD(E:EP)(a:List aB × List Tm)(s:PS):Option ((List aB × List Tm) × PS) :=
 (uJ E a.2 (aY L [61] (aL L s).2)).map fun r=>((a.1++[(aL L s).1],r.1),r.2)
def DR:List Tm->List Tm
 | a :: b :: r=>b :: a :: r
 | l=>l
def v8(s:PS):List aB × PS :=
 bif (aY L [44] (aL L s).2).bad then ([(aL L s).1],aY L [44] (aL L s).2)
 else ([(aL L s).1,(aL L (aY L [44] (aL L s).2)).1],(aL L (aY L [44] (aL L s).2)).2)
def uu(E B:EP)(s:PS):Option (Tm × PS) :=
 bif pk L s==LD then (uJ E [] s.up).bind fun a=>(oI L E LG a.1 a.2).bind fun b=>(oI L E LC b.1 b.2).map fun c=>(.mk 5 0 [] [] [] [] c.1 [],c.2)
 else bif pk L s==B4 then (oI L E [61] [] (aL L s.up).2).bind fun a=>(oI L E acf a.1 a.2).map fun c=>(.mk 6 0 [] [] [] [] c.1 [(aL L s.up).1],c.2)
 else bif pk L s==wK then (oI L E [61] [] (v8 L s.up).2).bind fun a=>(oI L E LF a.1 a.2).bind fun b=>(oI L E acd b.1 b.2).map fun c =>
  (.mk 12 0 [] [] [] [] (bif c.2.bad then c.1 else DR c.1) (v8 L s.up).1,c.2)
 else B s
def qG(E:EP):Nat->List aB × List Tm->PS->Option ((List aB × List Tm) × PS)
 | 0,_,_=>none
 | k+1,a,s=>(E (aY L [45,62] (aL L (aL L s).2).2)).bind fun r =>
   let b:=(a.1++[(aL L s).1,(aL L (aL L s).2).1],a.2++[r.1])
   bif !r.2.bad&&(pk L r.2==[44]) then qG E k b r.2.up else some (b,r.2)
def sR(n:Nat)(E:EP)(s:PS):Option (Tm × PS) :=
 (E (aY L [40] (aR L s).2)).bind fun r=>(qG L E n ([],[r.1]) (aY L [123] (aY L [41] r.2))).map fun q=>(.mk 10 0 (aR L s).1 [] [] [] q.1.2 q.1.1,aY L [125] q.2)
def xx(E:EP)(nm:aB)(s:PS):Option (Tm × PS) :=
 bif pk L (aL L s).2==[91] then (E (aL L s).2.up).map fun r=>(.mk 8 0 nm (aL L s).1 [] [] [r.1] [],aY L [93] r.2)
 else (E (aY L [40] (aL L s).2)).map fun r=>(.mk 9 0 nm (aL L s).1 [] [] [r.1] [],aY L [41] r.2)
def qH(n:Nat)(E:EP)(s:PS):Option (Tm × PS) :=
 let nm:=(aR L s).1
 let q:=(aR L s).2
 bif pk L q==[40] then (tI L (uJ E) [41] n [] q.up).map fun r=>(.mk 3 0 nm [] [] [] r.1 [],r.2)
 else bif pk L q==[123] then (tI L (FD L E) [125] n ([],[]) q.up).map fun r=>(.mk 7 0 nm [] [] [] r.1.2 r.1.1,r.2)
 else bif pk L q==[58] then xx L E nm q.up
 else bif decide (0<=dD 46 0 nm) then some (.mk 0 0 nm [] [] [] [] [],q.wX)
 else some (.mk 2 0 nm [] [] [] [] [],q)
def qi(n:Nat)(E:EP)(s:PS):Option (Tm × PS) :=
 bif decide (0<=fL (pk L s)) then some (.mk 0 (jR L 0 s).1 [] [] [] [] [] [],(jR L 0 s).2)
 else bif pk L s==[45] then some (.mk 0 (-(jR L 1 s.up).1) [] [] [] [] [] [],(jR L 1 s.up).2)
 else bif pk L s==zA then some (.mk 1 1 [] [] [] [] [] [],s.up)
 else bif pk L s==u6 then some (.mk 1 0 [] [] [] [] [] [],s.up)
 else bif pk L s==[40] then (E s.up).map fun r=>(r.1,aY L [41] r.2)
 else bif pk L s==ki then (lS L n s.up).bind fun w=>(tI L (uJ E) [93] n [] (aY L [91] w.2)).map fun r=>(.mk 11 0 [] [] w.1.name w.1.kids r.1 [],r.2)
 else bif pk L s==rV then sR L n E s.up
 else qH L n E s
def xV(B:EP)(level:Int):Nat->Tm->PS->Option (Tm × PS)
 | 0,_,_=>none
 | k+1,t,s=>bif s.bad then some (t,s) else match Bo (pk L s) with
  | none=>some (t,s)
  | some (o,l)=>bif decide (l=level) then (B s.up).bind fun r =>
    bif decide (level=3) then some (.mk 4 o [] [] [] [] [t,r.1] [],r.2) else xV B level k (.mk 4 o [] [] [] [] [t,r.1] []) r.2
   else some (t,s)
def pE:Nat->Nat->EP
 | 0,_,_=>none
 | n+1,l,s=>match l with
  | 0=>uu L (pE n 0) (pE n 1) s
  | 7=>bif pk L s==vU then (pE n 7 s.up).map fun r=>(.mk 4 9 [] [] [] [] [r.1] [],r.2)
   else bif pk L s==xQ then (pE n 7 s.up).map fun r=>(.mk 4 11 [] [] [] [] [r.1] [],r.2)
   else qi L n (pE n 0) s
  | l=>(pE n (l+1) s).bind fun r=>xV L (pE n (l+1)) l n r.1 r.2
def rM(n:Nat)(kd:Int)(a:List Fd)(s:PS):Option (List Fd × PS) :=
 (pX L n (aL L s).2).map fun w=>bif decide (kd=4) then (a++[⟨(aL L s).1,w.1.name,w.1.kids,(jR L 0 w.2).1⟩],(jR L 0 w.2).2) else (a++[⟨(aL L s).1,w.1.name,w.1.kids,0⟩],w.2)
def tm0:Tm:=.mk 0 0 [] [] [] [] [] []
def tB(n:Nat)(E:EP)(s:PS):Option (Fm × PS) :=
 let k:=mP (pk L s) fI 0
 bif decide (k<0) then some (⟨k,[],[],[],[],tm0,[]⟩,s.wX) else
 (tI L (rM L n k) [41] n [] (aY L [40] (aL L s.up).2)).bind fun sl =>
  bif decide (k=0) || decide (k=1) then some (⟨k,(aL L s.up).1,sl.1,[],[],tm0,[]⟩,sl.2) else
  (pX L n sl.2).bind fun w=>(E (aY L [61] w.2)).map fun b=>(⟨k,(aL L s.up).1,sl.1,w.1.name,w.1.kids,b.1,[]⟩,b.2)
def rQ:Nat->List aB->PS->Option (List aB × PS)
 | 0,_,_=>none
 | k+1,a,s=>bif !s.bad&&(pk L s==Au) then rQ k (a++[(aL L s.up).1]) (aL L s.up).2 else some (a,s)
def o8(n:Nat):Nat->List Fm × List Nat->PS->Option ((List Fm × List Nat) × PS)
 | 0,_,_=>none
 | k+1,a,s=>bif !s.bad&&Nat.blt s.i L.length then (tB L n (pE L n 0) s).bind fun r=>o8 n k (a.1++[r.1],a.2++[r.2.i]) r.2 else some (a,s)
def wy(n:Nat):Option ((aB × List aB × List Fm × List Nat) × PS) :=
 (rQ L n [] (aL L (aY L jW ⟨0,false⟩)).2).bind fun u =>
  (o8 L n n ([],[u.2.i]) u.2).map fun d=>(((aL L (aY L jW ⟨0,false⟩)).1,u.1,d.1.1,d.1.2),d.2)
end
end
structure PW (mm:Nat) (K:ae):Prop where
 lt:mm<K.length
 nob:∀ j cs,mm<=j->K[j]?≠some (.bV cs)
def nq(l:List aB)(b:Bool):bM:=.box 115 [.slice (strs l) true,.bool b]
def cI(mm:Nat)(l:List aB)(b:Bool)(K:ae):ae:=K.set mm (nq l b)
def bw{K:ae} : (cI mm l b K).length=K.length:=by unfold cI;rw[List.length_set]
def fQ{K:ae}(h:PW mm K):(cI mm l b K)[mm]?=some (nq l b):=by unfold cI;exact List.getElem?_set_self h.lt
def IA{K:ae}(h:mm≠j):(cI mm l b K)[j]?=K[j]?:=by unfold cI;exact List.getElem?_set_ne h
def y7{l':List aB}{b':Bool}{K:ae} : (cI mm l b K).set mm (.box 115 [.slice (strs l') true,.bool b'])=cI mm l' b' K:=by unfold cI nq;rw[List.set_set]
theorem gk{K:ae} : (cI mm l b K).take K.length=cI mm l b K:=avq (awc bw)
def PW.open{K:ae}(h:PW mm K)(l:List aB)(b:Bool):l7 K.length mm (cI mm l b K)=true:=by
 unfold l7;cases hb:Nat.beq mm K.length with
 | true=>rfl
 | false =>
  rw[cond_false,auX];intro x hx;obtain⟨j,hj⟩:=avl hx;rw[gk,avY] at hj;unfold cI at hj;rw[avO] at hj;split at hj
  ·split at hj
   ·cases hj;rfl
   ·cases hj
  ·cases x with
   | bV cs=>exact absurd hj (h.nob _ cs ah)
   | _=>rfl
def PW.push{K:ae}(h:PW mm K)(ho:∀ cs,o≠.bV cs):PW mm (K++[o]):=⟨by have:=h.lt;rw[List.length_append];omega,fun j cs hj=>by
 rw[avJ];split
 ·exact h.nob j cs hj
 ·intro e
  cases tU:j-K.length with
  | zero=>rw[tU] at e;exact ho cs (cT e)
  | succ n=>rw[tU] at e;simp at e⟩
def rK{K:ae}(h:PW mm K){L:ae} : cI mm l b K++L=cI mm l b (K++L):=by unfold cI;rw[List.set_append_left _ _ h.lt]
theorem pQ{K:ae}(h:PW mm K){L:ae} : (cI mm l b (K++L)).take K.length=cI mm l b K:=by
 rw[<- rK h,awn bw]
theorem PW.OW{K:ae}(h:PW mm K){L:ae}(l:List aB)(b:Bool):l7 K.length mm (cI mm l b (K++L))=true:=by
 have:=h.open l b
 unfold l7 at this ⊢
 grind [pQ,gk]
def qP(mm:Nat)(K:ae)(f:FuncId)(args:List AV)(ok:Bool)(jq:List aB)(n:Nat):Prop :=
 ∀ l b,l.length+n<=10000000->∃ l',aj A f args (cI mm l b K)=some (.undef,some ⟨cI mm l' (b || !ok) K,mm⟩)/\((b || !ok)=false->l'=l++jq)/\l'.length<=l.length+n
def A2{K:ae}(h:PW mm K)(xs:List aB)(hx:xs.length<=1000):qP mm K 60 [.ref mm 0,.slice (strs xs) false] true xs xs.length:=by
 intro l b hl;refine⟨l++xs,?_,fun _=>rfl,ag⟩
 have e:(b || !true)=b:=by cases b<;>rfl
 rw[e];refine cW Yl.eq_1 ?_;have h0:=fQ (l:=l) (b:=b) h;unfold nq at h0;have a1:aF false 1 16 (.slice (strs l) true) (.slice (strs xs) false)=some (.slice (strs (l++xs)) true):=cx ah;have aZ:=h.lt;have ho:=h.open (l++xs) b;have h1:∀ x:bM,((cI mm l b K).set mm x)[mm]?=some x:=fun x=>List.getElem?_set_self (by rw[bw];exact aZ)
 simp(disch:=omega)only[nK,cY,cb,ct,cm,gC,aP,aQ,br,aE.eval,AS.bW,↓reduceIte,Nat.reduceEqDiff,Option.isSome,Option.isNone,cond_true,cond_false,Nat.reduceBEq,Nat.reduceAdd,Nat.reduceMul,aa,cn,avs,reduceCtorEq,gr,cZ,cd,bD,bound,dc,AS.bC,aN,bI,bu,Nat.reduceLeDiff,cq,putAt,Int.reduceEq,Int.reduceLT,Int.reduceLE,Int.reduceBEq,Int.reduceBNe,Int.reduceAdd,Int.reduceNeg,Int.reduceSub,Int.reduceMul,dQ,dP,dO,dN,dM,dL,dS,dR,au,bA,au5,au7,h0,h1,a1,bw,y7,List.set_set,gk,ho,cO,cJ,avd,ab]
def Bx{K:ae}(h:PW mm K)(ok:Bool):qP mm K 63 [.ref mm 0,.bool ok] ok [] 0:=by
 intro l b hl;refine⟨l,?_,fun _=>ag,ag⟩
 refine cW aes.eq_1 ?_;have h0:=fQ (l:=l) (b:=b) h;unfold nq at h0;have aZ:=h.lt;have ho:=fun b=>h.open l b
 have h1:∀ x:bM,((cI mm l b K).set mm x)[mm]?=some x:=fun x=>List.getElem?_set_self (by rw[bw];exact aZ)
 cases b<;>simp(disch:=omega)only[nK,cY,cb,ct,cm,gC,aP,aQ,br,aE.eval,AS.bW,↓reduceIte,Nat.reduceEqDiff,Option.isSome,Option.isNone,cond_true,cond_false,Nat.reduceBEq,Nat.reduceAdd,Nat.reduceMul,aa,cn,avs,reduceCtorEq,gr,cZ,cd,bD,bound,dc,AS.bC,aN,bI,bu,Nat.reduceLeDiff,cq,putAt,Int.reduceEq,Int.reduceLT,Int.reduceLE,Int.reduceBEq,Int.reduceBNe,Int.reduceAdd,Int.reduceNeg,Int.reduceSub,Int.reduceMul,dQ,dP,dO,dN,dM,dL,dS,dR,au,bA,au5,au7,h0,bw,y7,gk,ho,ab]
def Nw{K:ae}(h:PW mm K)(xs:List aB)(hx:xs.length<=1000)(h0:K[mm]?=some (.box 115 [.aq,.bool false])):aj A 60 [.ref mm 0,.slice (strs xs) false] K=some (.undef,some ⟨cI mm xs false K,mm⟩):=by
 refine cW Yl.eq_1 ?_;have a1:aF false 1 16 (.slice [] true) (.slice (strs xs) false)=some (.slice (strs xs) true):=cx (l:=[]) dw;have aZ:=h.lt;have ho:=h.open xs false;have h1:∀ x:bM,(K.set mm x)[mm]?=some x:=fun x=>List.getElem?_set_self aZ
 have h2:∀ x:bM,(K.set mm x).length=K.length:=fun x=>List.length_set
 have h3:K.set mm (.box 115 [.slice (strs xs) true,.bool false])=cI mm xs false K:=rfl;simp(disch:=omega)only[aO,aa,simprocAttr,h0,h1,a1,h3,List.set_set,gk,ho,cO,cJ,avd,ab]
def sU{K:ae}(h:PW mm K)(s:aB)(hs:s.length<=2000000):qP mm K 61 [.ref mm 0,.str s] (isWord s) [s] 1:=by
 intro l b hl;have hw:=fun K=>Ph s K ah
 obtain⟨l1,e1,t1,n1⟩:=Bx h (isWord s) l b ah;obtain⟨l2,e2,t2,n2⟩:=A2 h [s] ag l1 (b || !isWord s) dw;have eo:((b || !isWord s) || !true)=(b || !isWord s):=ag;rw[eo] at e2 t2;have es:strs [s]=[[.str s]]:=rfl;rw[es] at e2;refine⟨l2,?_,fun hk=>by rw[t2 hk,t1 hk];simp,by simp at n2;omega⟩
 refine cW ajo.eq_1 ?_;have aZ:=h.lt;have ho:=h.open l2 (b || !isWord s);generalize isWord s=w at *;simp(disch:=omega)only[nK,cY,cb,ct,cm,gC,aP,aQ,br,aE.eval,AS.bW,↓reduceIte,Nat.reduceEqDiff,Option.isSome,Option.isNone,cond_true,cond_false,Nat.reduceBEq,Nat.reduceAdd,Nat.reduceMul,aa,cn,avs,reduceCtorEq,gr,cZ,cd,bD,bound,dc,AS.bC,aN,bI,bu,Nat.reduceLeDiff,cq,putAt,Int.reduceEq,Int.reduceLT,Int.reduceLE,Int.reduceBEq,Int.reduceBNe,Int.reduceAdd,Int.reduceNeg,Int.reduceSub,Int.reduceMul,dQ,dP,dO,dN,dM,dL,dS,dR,au,bA,au5,au7,hw,e1,e2,bw,gk,ho,au4,cond_false]
section
abbrev Tk:=aB × aB
def gL(t:Tk):List AV:=[.str t.1,.str t.2]
def az(tk:List Tk):List aB:=tk.map (·.1)
structure PQ (pl:Nat) (K:ae):Prop where
 lt:pl<K.length
 ob:∀ j cs,pl<=j->K[j]?=some (.bV cs)->cs.all (AV.bz K.length)=true
def nC(tk:List Tk)(s:PS):bM:=.box 74 [.slice (tk.map gL) false,.int .i64 s.i,.bool s.bad]
def aI(tk:List Tk)(pl:Nat)(s:PS)(K:ae):ae:=K.set pl (nC tk s)
section
variable {tk:List Tk}{pl:Nat}{K:ae}{s s' : PS}
theorem fK:aI tk pl s (aI tk pl s' K)=aI tk pl s K:=by unfold aI;rw[List.set_set]
theorem bF:(aI tk pl s K).length=K.length:=by unfold aI;rw[List.length_set]
def nj(h:PQ pl K):(aI tk pl s K)[pl]?=some (nC tk s):=by unfold aI;exact List.getElem?_set_self h.lt
theorem dV(h:pl≠j):(aI tk pl s K)[j]?=K[j]?:=by unfold aI;exact List.getElem?_set_ne h
def uU : (aI tk pl s K).set pl (.box 74 [.slice (tk.map gL) false,.int .i64 i,.bool b])=aI tk pl ⟨i,b⟩ K:=by unfold aI nC;rw[List.set_set]
def rI : (aI tk pl s K).set pl (.box 74 [.slice (tk.map gL) false,.int .i64 ((i:Int)+1),.bool b])=aI tk pl ⟨i+1,b⟩ K:=by unfold aI nC;rw[List.set_set];rfl
def dK:(aI tk pl s K).take K.length=aI tk pl s K:=avq (awc bF)
def Hs{n:Nat}(h:m<=n):∀ v:AV,v.bz m=true->v.bz n=true:=by
 intro v hv;cases v<;>simp only[AV.bz,avh] at hv ⊢<;>first|exact hv|omega
def PQ.push(h:PQ pl K)(ho:∀ cs,o=.bV cs->cs.all (AV.bz (K.length+1))=true):PQ pl (K++[o]):=⟨by have:=h.lt;rw[List.length_append];omega,fun j cs hj hc=>by
 have hlen:(K++[o]).length=K.length+1:=ag;rw[hlen];rw[avJ] at hc;split at hc
 ·have:=h.ob j cs hj hc
  rw[auX] at this ⊢;exact fun x hx=>Hs ah x (this x hx)
 ·cases tU:j-K.length with
  | zero=>rw[tU] at hc;exact ho cs (cT hc)
  | succ n=>rw[tU] at hc;simp at hc⟩
def PQ.aI(h:PQ pl K):PQ pl (aI tk pl s K):=⟨by rw[bF];exact h.lt,fun j cs hj hc=>by
 rw[bF]
 by_cases e:pl=j
 ·subst e;rw[nj h] at hc;cases hc
 ·rw[dV e] at hc;exact h.ob j cs hj hc⟩
def PQ.open(h:PQ pl K):l7 K.length pl (Go.Proofs.YtnhpoddlmjpapaaGreatDoor.aI tk pl s K)=true:=by
 unfold l7;cases hb:Nat.beq pl K.length with
 | true=>rfl
 | false =>
  rw[cond_false,auX];intro x hx;obtain⟨j,hj⟩:=avl hx;rw[dK,avY] at hj;cases x with
  | bV cs =>
   have:=(h.aI (tk:=tk) (s:=s)).ob _ cs ah hj
   rwa [bF] at this
  | _=>rfl
end
structure Bu (tk:List Tk):Prop where
 len:tk.length<=1000000
 tb:∀ x∈tk,x.1.length<=1000000
def Bu.pkl{tk:List Tk}(h:Bu tk)(s:PS):(pk (az tk) s).length<=1000000:=by
 unfold pk;cases s.bad with
 | true=>simp
 | false =>
  rw[cond_false,List.getD_eq_getElem?_getD];cases hx:(az tk)[s.i]? with
  | none=>simp
  | some w =>
   obtain⟨x,hm,rfl⟩:=List.mem_map.1 (au0 hx);exact h.tb x hm
def tK{tk:List Tk}{s:PS}(h:pk (az tk) s≠[]):s.i<tk.length:=by
 unfold pk at h;cases hb:s.bad with
 | true=>rw[hb] at h;exact absurd rfl h
 | false =>
  rw[hb,cond_false,List.getD_eq_getElem?_getD] at h
  by_cases hl:s.i<tk.length
  ·exact hl
  ·rw[List.getElem?_eq_none (by unfold az;rw[List.length_map];omega)] at h
   exact absurd rfl h
theorem Du{tk:List Tk}{pl:Nat}{K:ae}(h:PQ pl K)(hb:Bu tk)(s:PS)(hs:s.i<=1000000):aj A 52 [.ref pl 0] (aI tk pl s K)=some (.str (pk (az tk) s),none):=by
 refine cB (fn:=aep) rfl rfl rfl ?_;unfold aep;have h0:=nj (tk:=tk) (s:=s) h;unfold nC at h0;obtain⟨i,b⟩:=s;have hl:=hb.len;simp only at hs h0;have hm:(tk.map gL).length=tk.length:=List.length_map _;cases b with
 | true =>
  have e:pk (az tk) ⟨i,true⟩=[]:=rfl;rw[e];simp(disch:=omega)only[nK,cY,cb,ct,cm,gC,aP,aQ,br,aE.eval,AS.bW,↓reduceIte,Nat.reduceEqDiff,Option.isSome,Option.isNone,cond_true,cond_false,Nat.reduceBEq,Nat.reduceAdd,Nat.reduceMul,aa,cn,avs,reduceCtorEq,gr,cZ,cd,bD,bound,dc,AS.bC,aN,bI,bu,Nat.reduceLeDiff,cq,putAt,Int.reduceEq,Int.reduceLT,Int.reduceLE,Int.reduceBEq,Int.reduceBNe,Int.reduceAdd,Int.reduceNeg,Int.reduceSub,Int.reduceMul,dQ,dP,dO,dN,dM,dL,dS,dR,au,bA,au5,au7,h0,gv,bF,dK,ab]
 | false =>
  by_cases hi:tk.length<=i
  ·have e:pk (az tk) ⟨i,false⟩=[]:=by
    unfold pk;rw[cond_false,List.getD_eq_getElem?_getD,List.getElem?_eq_none (by unfold az;rw[List.length_map];omega)];rfl
   rw[e];have h1:decide ((tk.length:Int)<=i)=true:=dw;simp(disch:=omega)only[nK,cY,cb,ct,cm,gC,aP,aQ,br,aE.eval,AS.bW,↓reduceIte,Nat.reduceEqDiff,Option.isSome,Option.isNone,cond_true,cond_false,Nat.reduceBEq,Nat.reduceAdd,Nat.reduceMul,aa,cn,avs,reduceCtorEq,gr,cZ,cd,bD,bound,dc,AS.bC,aN,bI,bu,Nat.reduceLeDiff,cq,putAt,Int.reduceEq,Int.reduceLT,Int.reduceLE,Int.reduceBEq,Int.reduceBNe,Int.reduceAdd,Int.reduceNeg,Int.reduceSub,Int.reduceMul,dQ,dP,dO,dN,dM,dL,dS,dR,au,bA,au5,au7,h0,hm,h1,gv,bF,dK,ab]
   done
  ·obtain⟨x,hx⟩:∃ x,tk[i]?=some x:=⟨tk[i],auS ah⟩
   have e:pk (az tk) ⟨i,false⟩=x.1:=by
    unfold pk;rw[cond_false,List.getD_eq_getElem?_getD];unfold az
    grind
   rw[e];have h1:decide ((tk.length:Int)<=i)=false:=dw;have h2:(tk.map gL)[i]?=some [.str x.1,.str x.2]:=by rw[List.getElem?_map,hx];rfl
   simp(disch:=omega)only[nK,cY,cb,ct,cm,gC,aP,aQ,br,aE.eval,AS.bW,↓reduceIte,Nat.reduceEqDiff,Option.isSome,Option.isNone,cond_true,cond_false,Nat.reduceBEq,Nat.reduceAdd,Nat.reduceMul,aa,cn,avs,reduceCtorEq,gr,cZ,cd,bD,bound,dc,AS.bC,aN,bI,bu,Nat.reduceLeDiff,cq,putAt,Int.reduceEq,Int.reduceLT,Int.reduceLE,Int.reduceBEq,Int.reduceBNe,Int.reduceAdd,Int.reduceNeg,Int.reduceSub,Int.reduceMul,dQ,dP,dO,dN,dM,dL,dS,dR,au,bA,au5,au7,h0,hm,h1,h2,gv,bF,dK,ab]
   done
end
theorem Sj{s:aB}{v:Int}(h:Lib.atoiAll s=.ok v):BZ v:=by
 cases s with
 | nil=>cases h
 | cons c r =>
  simp only[Lib.atoiAll] at h
  grind
def N7:Av .neq .iface true .de .de=some (.bool false):=rfl
def ahj{t:TypeId}{v:AV} : Av .neq .iface true (.iface t v) .de=some (.bool true):=rfl
def GK(s:aB)(H:ae)(hs:s.length<=1000000):aj A 94 [.str s] H=some (.int .i64 (fL s),none):=by
 have ha:∀ H,aj A 121 [.str s] H=some (match Lib.atoiAll s with
   | .ok v=>(.tuple [.int .i64 v,.de],none)
   | .range=>(.tuple [.int .i64 (Lib.atoiSat s),.iface 194 .any],none)
   | _=>(.tuple [.int .i64 0,.iface 194 .any],none)):=fun H=>by
  refine fZ (A:=A) (f:=121) rfl ?_;have h1:Nat.ble s.length 281474976710656=true:=by rw[avm];omega
  simp only[Dp,h1,cond_true];cases Lib.atoiAll s<;>rfl
 refine cB (fn:=aeE) rfl rfl rfl ?_;unfold aeE;unfold fL;cases hx:Lib.atoiAll s with
 | ok v =>
  rw[hx] at ha;have hv:BZ v:=Sj hx;simp only at ha;have HQ:=fun H=>MV v H hv
  by_cases h1:1099511627776<v
  ·have e1:decide (1099511627776<v)=true:=cT h1
   simp(disch:=omega)only[nK,cY,cb,ct,cm,gC,aP,aQ,br,aE.eval,AS.bW,↓reduceIte,Nat.reduceEqDiff,Option.isSome,Option.isNone,cond_true,cond_false,Nat.reduceBEq,Nat.reduceAdd,Nat.reduceMul,aa,cn,avs,reduceCtorEq,gr,cZ,cd,bD,bound,dc,AS.bC,aN,bI,bu,Nat.reduceLeDiff,cq,putAt,Int.reduceEq,Int.reduceLT,Int.reduceLE,Int.reduceBEq,Int.reduceBNe,Int.reduceAdd,Int.reduceNeg,Int.reduceSub,Int.reduceMul,dQ,dP,dO,dN,dM,dL,dS,dR,au,bA,au5,au7,N7,ha,e1]
  ·have e1:decide (1099511627776<v)=false:=cT h1
   cases h2:(rp v==s) with
   | false=>simp(disch:=omega)only[nK,cY,cb,ct,cm,gC,aP,aQ,br,aE.eval,AS.bW,↓reduceIte,Nat.reduceEqDiff,Option.isSome,Option.isNone,cond_true,cond_false,Nat.reduceBEq,Nat.reduceAdd,Nat.reduceMul,aa,cn,avs,reduceCtorEq,gr,cZ,cd,bD,bound,dc,AS.bC,aN,bI,bu,Nat.reduceLeDiff,cq,putAt,Int.reduceEq,Int.reduceLT,Int.reduceLE,Int.reduceBEq,Int.reduceBNe,Int.reduceAdd,Int.reduceNeg,Int.reduceSub,Int.reduceMul,dQ,dP,dO,dN,dM,dL,dS,dR,au,bA,au5,au7,N7,ha,e1,HQ,h2]
   | true =>
    by_cases h3:v<0
    ·have e3:decide (v<0)=true:=cT h3
     simp(disch:=omega)only[nK,cY,cb,ct,cm,gC,aP,aQ,br,aE.eval,AS.bW,↓reduceIte,Nat.reduceEqDiff,Option.isSome,Option.isNone,cond_true,cond_false,Nat.reduceBEq,Nat.reduceAdd,Nat.reduceMul,aa,cn,avs,reduceCtorEq,gr,cZ,cd,bD,bound,dc,AS.bC,aN,bI,bu,Nat.reduceLeDiff,cq,putAt,Int.reduceEq,Int.reduceLT,Int.reduceLE,Int.reduceBEq,Int.reduceBNe,Int.reduceAdd,Int.reduceNeg,Int.reduceSub,Int.reduceMul,dQ,dP,dO,dN,dM,dL,dS,dR,au,bA,au5,au7,N7,ha,e1,HQ,h2,e3]
    ·have e3:decide (v<0)=false:=cT h3
     simp(disch:=omega)only[nK,cY,cb,ct,cm,gC,aP,aQ,br,aE.eval,AS.bW,↓reduceIte,Nat.reduceEqDiff,Option.isSome,Option.isNone,cond_true,cond_false,Nat.reduceBEq,Nat.reduceAdd,Nat.reduceMul,aa,cn,avs,reduceCtorEq,gr,cZ,cd,bD,bound,dc,AS.bC,aN,bI,bu,Nat.reduceLeDiff,cq,putAt,Int.reduceEq,Int.reduceLT,Int.reduceLE,Int.reduceBEq,Int.reduceBNe,Int.reduceAdd,Int.reduceNeg,Int.reduceSub,Int.reduceMul,dQ,dP,dO,dN,dM,dL,dS,dR,au,bA,au5,au7,N7,ha,e1,HQ,h2,e3]
 | _ =>
  rw[hx] at ha;simp only at ha;simp(disch:=omega)only[nK,cY,cb,ct,cm,gC,aP,aQ,br,aE.eval,AS.bW,↓reduceIte,Nat.reduceEqDiff,Option.isSome,Option.isNone,cond_true,cond_false,Nat.reduceBEq,Nat.reduceAdd,Nat.reduceMul,aa,cn,avs,reduceCtorEq,gr,cZ,cd,bD,bound,dc,AS.bC,aN,bI,bu,Nat.reduceLeDiff,cq,putAt,Int.reduceEq,Int.reduceLT,Int.reduceLE,Int.reduceBEq,Int.reduceBNe,Int.reduceAdd,Int.reduceNeg,Int.reduceSub,Int.reduceMul,dQ,dP,dO,dN,dM,dL,dS,dR,au,bA,au5,au7,ahj,ha]
end Go.Proofs.YtnhpoddlmjpapaaGreatDoor
end
