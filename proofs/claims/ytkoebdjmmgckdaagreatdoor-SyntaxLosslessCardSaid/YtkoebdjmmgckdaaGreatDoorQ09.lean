/-
  A part of the proof of SyntaxLossless: U24, U25, U26, U27, U28, U29, U30, U31, U32, U35, U36, U37, U38, U39, U40, U43, U44, UQ1, U45, UQ2, UQ3a, UQ3.
-/
import Derived.Test.YtkoebdjmmgckdaaGreatDoorQ08
set_option linter.unusedSimpArgs false
set_option linter.unusedVariables false
set_option linter.defProp false
set_option maxHeartbeats 1000000
set_option maxRecDepth 100000
noncomputable section
namespace Go.Proofs.YtkoebdjmmgckdaaGreatDoor
open Go Go.Abs Go.Proofs
variable {R:AS->Prop}{x:AV}{b:Bool}{k least many p p0:Int}{rows:List (List AV)}{cs r:List AV}{l lay:List av}{g i j m mm z:Nat}{fn:aD}{w:av}{T:az}{Q:bB->AS->Prop}{a o:bG}
section
section
variable {t:Tm}{h:Nat}(hF:OV h t)(hO:F2 t)(hK:∀ u∈t.kids,uF u)(H:aa)
include hF hO hK
theorem aoq(hk:t.kind=10):∃ (ws:List (List av)) (x:Tm),t.kids[0]?=some x/\2<=t.kids.length/\ws.length+1=t.kids.length/\t.names.length=2*ws.length /\
  (∀ (j:Nat) (p q:av) (u:Tm),t.names[2*j]?=some p->t.names[2*j+1]?=some q->t.kids[j+1]?=some u->ws[j]?=some ([p,q,[45,62]]++ag u)) /\
  ag t=[[109,97,116,99,104]]++aL t.name++[[40]]++ag x++[[41]]++[[123]]++ar ws++[[125]]:=by
 have _:=hK;have Gf:=hF.kl;have h2:¬ t.kids.length<2:=fun aP=>absurd rfl (gm hO (c1:=-2) (c2:=0) (by rw[hk];simp[bP,aP])).1
 have hc:=gm hO (c1:=-1) (c2:=2*((t.kids.length:Int)-1)) (by rw[hk];simp[bP,h2])
 have u9:=hc.2.2
 by_cases h3:t.kids.length=2
 ·obtain⟨x,y,fU⟩:=ux h3
  obtain⟨p,q,BC⟩:=ux (show t.names.length=2 by omega)
  refine⟨[[p,q,[45,62]]++ag y],x,by rw[fU];rfl,af,df,df,?_,?_⟩
  ·grind
  ·rw[bC,hk,fU,BC];rfl
 ·obtain⟨x,y,z,fU⟩:=I3 (show t.kids.length=3 by omega)
  obtain⟨p,q,r,s,BC⟩:∃ p q r s,t.names=[p,q,r,s]:=by
   have h4:t.names.length=4:=af
   match hn:t.names,h4 with
   | [p,q,r,s],_=>exact⟨p,q,r,s,rfl⟩
  refine⟨[[p,q,[45,62]]++ag y,[r,s,[45,62]]++ag z],x,by rw[fU];rfl,af,df,df,?_,?_⟩
  ·grind
  ·rw[bC,hk,fU,BC]
   rfl
theorem ard(hk:t.kind=10):ai A 50 [.agg (aK t)] H=some (.slice (strs (ag t)) true,none):=by
 obtain⟨ws,x,CC,h2,hwl,u9,ft,e⟩:=aoq hF hO hK hk;have Gf:=hF.kl;have hq:=wj t.name H (by have:=hF.a;omega)
 have hql:=lK t.name;have hxK:=hK x (axc CC);have dx:=hxK.d H;have lx:=hxK.len;have atx:=BT CC;rw[aj] at dx atx;have ala:∀ i,i<ws.length->∃ p q u,t.names[2*i]?=some p/\t.names[2*i+1]?=some q/\t.kids[i+1]?=some u/\ws[i]?=some ([p,q,[45,62]]++ag u):=by
  intro i hi;have h1:=aw3 (l:=t.names) (i:=2*i) af
  grind
 have NK:∀ x∈ws,x.length<=100003:=by
  intro y hy;obtain⟨i,hi⟩:=axu hy;obtain⟨p,q,u,_,_,h4,h5⟩:=ala i (aw5.1 hi).1;rw[hi] at h5;injection h5 with h5
  rw[h5];have:=(hK u (axc h4)).len
  grind
 have Yg:∀ i,(ar (ws.take i)).length<=3*100004:=fun i=>by
  have h1:=jg (ws.take i) 100003 (fun x hx=>NK x (axV hx))
  grind
 have hlw:(ar ws).length<=3*100004:=by have:=Yg ws.length;rwa [axz] at this
 have a1:aC false 1 16 (.slice [[.str [109,97,116,99,104]]] true) (.slice (strs (aL t.name)) true)=some (.slice (strs ([[109,97,116,99,104]]++aL t.name)) true):=ca (l:=[[109,97,116,99,104]]) df;have b1:=mO ([[109,97,116,99,104]]++aL t.name) (ag x) [40] [41] H df af true true;have b2:=mO ([[109,97,116,99,104]]++aL t.name++[[40]]++ag x++[[41]]) (ar ws) [123] [125] H df af true true;rw[e,aj];generalize [[109,97,116,99,104]]++aL t.name++[[40]]++ag x++[[41]]++[[123]]++ar ws++[[125]]=out at b2 ⊢;generalize [[109,97,116,99,104]]++aL t.name++[[40]]++ag x++[[41]]=o1 at b1 b2;generalize [[109,97,116,99,104]]++aL t.name=o0 at a1 b1;refine cW xR.eq_1 ?_;refine P9 hk ?_;refine bK ws.length 3 (fun i s=>∃ T,s=⟨T,H,H.length,1⟩/\T 1=.lbox 0 [.int .i64 10,.int .i64 t.n,.str t.name,.str t.field,.str t.wn,.slice (aM t.wk) false,.slice (aF t.kids) false,.slice (strs t.names) false]/\T 10=.slice (strs (ar (ws.take i))) true/\T 11=.int .i64 ((i+1:Nat):Int))
  (fun s=>∃ T,s=⟨T,H,H.length,1⟩/\T 1=.lbox 0 [.int .i64 10,.int .i64 t.n,.str t.name,.str t.field,.str t.wn,.slice (aM t.wk) false,.slice (aF t.kids) false,.slice (strs t.names) false]/\T 10=.slice (strs (ar ws)) true) (fun _=>False) ?_ ?_ (fun _ h=>h.elim) 0 _ (axh _) ?_
 ·rintro i st hi ⟨T,rfl,e1,e8,e9⟩
  by_cases aP:i<ws.length
  ·obtain⟨p,q,u,n1,n2,k1,hw⟩:=ala i aP
   have hm:=hK u (axc k1);have du:=hm.d H;have lu:=hm.len;have atk:=BT k1;have aek:=gY n1;have ael:=gY n2;rw[aj] at du atk;have x1:(2:Int)*((i+1:Nat):Int)-2=((2*i:Nat):Int):=af;have x2:(2:Int)*((i+1:Nat):Int)-1=((2*i+1:Nat):Int):=af;have x3:((i+1:Nat):Int)+1=((i+1+1:Nat):Int):=af;have S6:1<=i+1:=af;generalize Cz:i+1=i1 at e9 x1 x2 x3 k1 atk S6 ⊢;generalize Mv:2*i+1=i2 at x2 n2 ael;generalize hm3:2*i=i3 at x1 n1 aek;have mD:ws.take (i+1)=ws.take i++[[p,q,[45,62]]++ag u]:=by rw[ayr,hw];rfl
   have BD:=jJ ([p,q,[45,62]]++ag u) (ws.take i);rw[<- mD] at BD;have yV:=Yg i;rw[Cz] at mD BD
   by_cases h0:i=0
   ·subst h0
    simp only[axQ,ayE] at BD e8;have a1:aC false 1 16 (.slice (strs (ar [])) true) (.slice [[.str p],[.str q],[.str [45,62]]] true)=some (.slice (strs [p,q,[45,62]]) true):=ca (l:=[]) (m:=[p,q,[45,62]]) ae;have a2:aC false 1 16 (.slice (strs [p,q,[45,62]]) true) (.slice (strs (ag u)) true)=some (.slice (strs ([p,q,[45,62]]++ag u)) true):=ca df;generalize [p,q,[45,62]]++ag u=q2 at a2 BD;generalize [p,q,[45,62]]=q1 at a1 a2;refine l8 e1 e8 e9 @cx (j3 x1 x2 atk) (j5 aek ael du a1 a2) ?_;exact⟨af,_,rfl,cV e1,by rw[BD];exact Lw tv,by first|exact Lw tv|(simp(disch:=omega)only[gO,ab,simprocAttr];rw[<- x3])|(rw[<- x3];simp(disch:=omega)only[gO,ab,simprocAttr])⟩
   ·have da:¬ (ws.take i=[]):=fun e=>by
     have:=ayj List.length e
     rw[axO,List.length_nil] at this;omega
    rw[if_neg da,<- axf] at BD;generalize ar (ws.take i)=acc at e8 yV BD;have a0:aC false 1 16 (.slice (strs acc) true) (.slice [[.str [44]]] true)=some (.slice (strs (acc++[[44]])) true):=fM af;have a1:aC false 1 16 (.slice (strs (acc++[[44]])) true) (.slice [[.str p],[.str q],[.str [45,62]]] true)=some (.slice (strs (acc++[[44]]++[p,q,[45,62]])) true):=ca (m:=[p,q,[45,62]]) df;have a2:aC false 1 16 (.slice (strs (acc++[[44]]++[p,q,[45,62]])) true) (.slice (strs (ag u)) true)=some (.slice (strs (acc++[[44]]++[p,q,[45,62]]++ag u)) true):=ca df;generalize acc++[[44]]++[p,q,[45,62]]++ag u=q2 at a2 BD;generalize acc++[[44]]++[p,q,[45,62]]=q1 at a1 a2;generalize acc++[[44]]=q0 at a0 a1;refine l8 e1 e8 e9 @cx (j4 x1 x2 atk aek) (j5 ael du a0 a1 a2) ?_;exact⟨af,_,rfl,cV e1,by rw[BD];exact Lw tv,by first|exact Lw tv|(simp(disch:=omega)only[gO,ab,simprocAttr];rw[<- x3])|(rw[<- x3];simp(disch:=omega)only[gO,ab,simprocAttr])⟩
  ·rw[axy af] at e8
   refine ry e1 e9 @cx ?_;exact⟨_,rfl,cV e1,cV e8⟩
 ·rintro st ⟨T,rfl,e1,e8⟩
  exact vK8 e1 e8 hq a1 atx dx b1 b2
 ·exact⟨_,rfl,dS,Wt @ar.eq_1 @strs.eq_1 tv,by simp(disch:=omega)only[gO,ab,simprocAttr];first|done|rfl⟩
end
end
def aim{t:Tm}{h:Nat}(hF:OV h t)(hO:F2 t)(hK:∀ u∈t.kids,uF u)(H:aa):ai A 50 [.agg (aK t)] H=some (.slice (strs (ag t)) true,none):=by
 have hk:=vl hO
 rcases tG t.kind with e|e|e|e|e|e|e|e|e|e|e|e|e|e
 ·exact tk0 hF hO hK H e
 ·exact tk1 hF hO hK H e
 ·exact tk2 hF hO hK H e
 ·exact tk3 hF hO hK H e
 ·exact tk4 hF hO hK H e
 ·exact tk5 hF hO hK H e
 ·exact tk6 hF hO hK H e
 ·exact tk7 hF hO hK H e
 ·exact tk8 hF hO hK H e
 ·exact tk9 hF hO hK H e
 ·exact ard hF hO hK H e
 ·exact are hF hO hK H e
 ·exact arf hF hO hK H e
 ·omega
def DS{p:List av × Int}{B:Nat}(h:p.1.length<=B):(fV p k).length<=B+2:=axx zt af
def ace{B:Nat}(ns:List av)(tl:List (List av × Int))(h:∀ p∈tl,p.1.length<=B):(ar (List.zipWith (fun s (x:List av × Int)=>[s,[61]]++x.1) ns tl)).length<=tl.length*(B+3):=by
 have h1:=jg (List.zipWith (fun s (x:List av × Int)=>[s,[61]]++x.1) ns tl) (B+2) (fun y hy=>by
  obtain⟨i,hi⟩:=axu hy;rw[azF] at hi;cases hs:ns[i]? with
  | none=>rw[hs] at hi;cases hi
  | some s =>
   cases hx:tl[i]? with
   | none=>rw[hs,hx] at hi;cases hi
   | some x =>
    rw[hs,hx] at hi;injection hi with hi
    rw[<- hi];have:=h x (axc hx)
    simp only[List.length_append,List.length_cons,List.length_nil];omega)
 have h2:(List.zipWith (fun s (x:List av × Int)=>[s,[61]]++x.1) ns tl).length<=tl.length:=by rw[azP];omega
 exact axx h1 (axg _ h2)
def Zt{B:Nat}(tl:List (List av × Int))(h:∀ p∈tl,p.1.length<=B):(ar (tl.map (·.1))).length<=tl.length*(B+1):=by
 have h1:=jg (tl.map (·.1)) B (fun y hy=>by obtain⟨x,hx,rfl⟩:=List.mem_map.1 hy;exact h x hx)
 rwa [List.length_map] at h1
def J6{B:Nat} : ∀ (ns:List av) (tl:List (List av × Int)),(∀ p∈tl,p.1.length<=B)->(ar (ig ns tl)).length<=tl.length*(B+4)
 | [],[],_=>by simp[ig,ar]
 | [],_ :: _,_=>by simp[ig,ar]
 | [_],[],_=>by simp[ig,ar]
 | [_],_ :: _,_=>by simp[ig,ar]
 | _ :: _ :: _,[],_=>by simp[ig,ar]
 | p :: q :: ns,y :: ys,h=>by
  have ih:=J6 ns ys (fun p hp=>h p (yd hp))
  have hy:=h y ae;rw[ig,List.length_cons,axT];cases he:ig ns ys with
  | nil=>simp only[ar,List.length_append,List.length_cons,List.length_nil];omega
  | cons a r =>
   rw[he] at ih;simp only[ar,List.length_append,List.length_cons,List.length_nil] at ih ⊢;omega
def QZ{n:Int}{a f:av}{w:Wd}{ns:List av}{tl:List (List av × Int)}{B:Nat}(h:∀ p∈tl,p.1.length<=B)(hl:tl.length<=3)(hw:(bM w).length<=12):(fK k n a f w ns tl).length<=3*B+60:=by
 have hq:=lK a;have h1:=Zt tl h;have h2:=ace ns tl h;have m1:tl.length*(B+1)<=3*(B+1):=axg _ hl;have m2:tl.length*(B+3)<=3*(B+3):=axg _ hl;unfold fK
 by_cases h0:k=0
 rw[if_pos h0];rotate_left;rw[if_neg h0]
 by_cases Yc:k=1
 rw[if_pos Yc];rotate_left;rw[if_neg Yc]
 by_cases h2' : k=2
 rw[if_pos h2'];rotate_left;rw[if_neg h2']
 by_cases h3:k=3
 rw[if_pos h3];rotate_left;rw[if_neg h3]
 by_cases h4:k=4
 rw[if_pos h4];rotate_left;rw[if_neg h4]
 by_cases h5:k=5
 rw[if_pos h5];rotate_left;rw[if_neg h5]
 by_cases h6:k=6
 rw[if_pos h6];rotate_left;rw[if_neg h6]
 by_cases h7:k=7
 rw[if_pos h7];rotate_left;rw[if_neg h7]
 by_cases h8:k=8
 rw[if_pos h8];rotate_left;rw[if_neg h8]
 by_cases h9:k=9
 rw[if_pos h9];rotate_left;rw[if_neg h9]
 by_cases h10:k=10
 rw[if_pos h10];rotate_left;rw[if_neg h10]
 by_cases h11:k=11
 rw[if_pos h11];rotate_left;rw[if_neg h11]
 by_cases h12:k=12
 rw[if_pos h12];rotate_left;rw[if_neg h12];simp
 all_goals first|(split<;>first
   | (rename_i x ys;have hx:=h x ae;have ha:=J6 ns ys (fun p hp=>h p (yd hp));have hy:ys.length<=2:=(by simp only[List.length_cons] at hl;omega);have hm:ys.length*(B+4)<=2*(B+4):=axg _ hy;simp only[List.length_append,List.length_cons,List.length_nil];omega)
   | exact iA
   | (rename_i x;have hx:=h x ae;have hk7:=DS (k:=7) hx;simp only[List.length_append,List.length_cons,List.length_nil];omega)
   | (rename_i x y;have hx:=h x ae;have hy:=h y ae;have hky:=DS (k:=(cD n).2+1) hy;have Aa:=DS (k:=if (cD n).2=3 then 4 else (cD n).2) hx;simp only[List.length_append,List.length_cons,List.length_nil];omega)
   | (rename_i x y z;have hx:=h x ae;have hy:=h y ae;have hz:=h z ae;simp only[List.length_append,List.length_cons,List.length_nil];omega)
   | (rename_i x y z a;have hx:=h x ae;have hy:=h y ae;simp only[List.length_append,List.length_cons,List.length_nil];omega)
   | (rename_i x y p q;have hx:=h x ae;have hy:=h y ae;simp only[List.length_append,List.length_cons,List.length_nil];omega)
   | (rename_i x y z p q;have hx:=h x ae;have hy:=h y ae;have hz:=h z ae;simp only[List.length_append,List.length_cons,List.length_nil];omega)
   | (rename_i x y z p q r u;have hx:=h x ae;have hy:=h y ae;have hz:=h z ae;simp only[List.length_append,List.length_cons,List.length_nil];omega)
   | (rename_i x y s;have hx:=h x ae;have hy:=h y ae;simp only[List.length_append,List.length_cons,List.length_nil];omega))|exact iA
def bT:Nat->Nat
 | 0=>0
 | h+1=>3*bT h+60
def zU:∀ (h:Nat) (t:Tm),Tj h t->(ag t).length<=bT h
 | 0,t,hb=>by cases hb
 | h+1,t,hb=>by
  have hF:=hb.out;rw[bC];refine QZ (B:=bT h) (fun p hp=>?_) (by rw[List.length_map];exact hF.kl) (mW 3 _ hF.w)
  obtain⟨u,hu,rfl⟩:=List.mem_map.1 hp;exact zU h u (hF.kb u hu)
def TN{h:Nat}(hh:h<=6):bT h<=100000:=by
 have:h=0\/h=1\/h=2\/h=3\/h=4\/h=5\/h=6:=af
 rcases this with rfl|rfl|rfl|rfl|rfl|rfl|rfl<;>decide
def Mj:∀ (h:Nat) (t:Tm),h<=6->Tj h t->ax t=true->uF t
 | 0,t,_,hb,_=>by cases hb
 | h+1,t,hh,hb,hp=>by
  have hF:=hb.out;have hO:=qR hp;have hK:∀ u∈t.kids,uF u:=fun u hu=>Mj h u af (hF.kb u hu) (hO.kids u hu)
  exact⟨fun H=>aim hF hO hK H,axx (zU _ t hb) (TN hh)⟩
def ahX(a b:List av)(H:aa)(o o' : Bool)(ha:a.length<=10000000):ai A 74 [.slice (strs a) false,.slice (strs b) false] H=some (.bool (a==b),none):=by
 refine cW alF.eq_1 ?_;refine Yn @bu ?_;refine jI ?_ ?_<;>intro hlen
 ·have da:a≠b:=fun e=>by subst e;simp at hlen
  exact Yn (show (a==b)=false by simpa using da) tv
 have G4:a.length=b.length:=by
  have:(a.length:Int)=b.length:=cJ hlen
  omega
 refine N6 ?_;refine vC a.length (fun i=>Hd (fun T=>T 0=.slice (strs a) false/\T 1=.slice (strs b) false/\T 5=.int .i64 i/\(a==b)=(a.drop i==b.drop i)) H H.length 0) ?_ 0 _ (axh _) ?_
 ·rintro i s hi hs
  obtain⟨T,rfl,h0,h1,h5,hc⟩:=hs.out;refine nE3 h0 h5 @bu ?_;refine ju ?_ ?_<;>intro h
  ·have j6:i<a.length:=af
   have B3:i<b.length:=af;refine I6 h0 h1 h5 (j2 (gY (aw3 j6)) (gY (aw3 B3))) ?_;refine jI ?_ ?_<;>intro hb
   ·simp(disch:=omega)only[yQ,ab,simprocAttr,hc,axk j6,axk B3,List.cons_beq_cons,show (a[i]==b[i])=false by simpa using hb]
   ·refine nE3 h0 h1 h5 ?_
    exact⟨j6,by rw[hc,axk j6,axk B3,List.cons_beq_cons,show (a[i]==b[i])=true by simpa using hb,axF]⟩
  ·have:i=a.length:=af
   subst this;simp(disch:=omega)only[yQ,ab,simprocAttr,hc,ayy,show b.drop a.length=[] by rw[G4,ayy]]
 ·exact N6 tv
def ail(a b:av):Bool:=b==[41] || b==[93] || b==[44] || b==[46] || a==[40] || a==[91] || a==[46]
def ab4(l:List av)(i:Nat):av:=if 1<=i/\i<l.length/\ail (l.getD (i-1) []) (l.getD i [])=false then [32] else []
def part(l:List av)(i:Nat):List AV:=(List.range (l.length+1)).map fun j=>AV.str (if j<i then ab4 l j else [])
def mR{H:aa} : (H++[o])[H.length]?=some o:=ae
def heap_set{H:aa}{o':bG} : (H++[o]).set H.length o'=H++[o']:=ae
def G1{H:aa} : (H++[o]).take H.length=H:=ae
def getD_at{α:Type}{l:List α}{d:α}(h:i<l.length):l.getD i d=l[i]:=by simp[List.getD,aw3 h]
def KC{base t l off n:Nat}{s:AS}{ty:TypeId}(hr:fn.results=[.tmp t])(hm:fn.muts.elem 888888=true)(hT:s.T t=.sref l off n z)(hH:s.H[l]?=some (.box ty cs))(hl:base<=l)(hp:cs.all AV.plain=true)(yp:s.lo=base)(hn:fn.muts.elem 777777=false:=by rfl) :
  finish base fn s=some (.sref base off n z,some ⟨s.H.take base++[.bR cs],s.lo⟩):=by
 have h1:kg base s=true:=by simp[kg,yp]
 have h2:Nat.ble base l=true:=by simpa [axv] using hl
 have h3:mj base fn s=some (.sref base off n z,some ⟨s.H.take base++[.bR cs],s.lo⟩):=by
  unfold mj qM o7;rw[h1,hm,hr];simp only[cond_true,tz,iP,hT,aO,aw7,hH,h2,hp,Bool.and_self]
 unfold finish;rw[h3,axa,vk hn]
def OM : (l.map AV.str).all AV.plain=true:=by simp[AV.plain]
structure Fd where
 name:av
 wn:av
 wk:List Wd
 jA:Int
variable {u:Fd}
structure Fm where
 kind:Int
 name:av
 bI:List Fd
 rn:av
 rk:List Wd
 body:Tm
 layout:List av
variable {f:Fm}
structure So where
 name:av
 gZ:List av
 defs:List Fm
 head:List av
 fin:av
variable {so:So}
def dc(f:Fd):List AV:=[.str f.name,.str f.wn,.slice (aM f.wk) false,.int .i64 f.jA]
def bJ(f:Fm):List AV:=[.int .i64 f.kind,.str f.name,.slice (f.bI.map dc) false,.str f.rn,.slice (aM f.rk) false,
 .int .i64 f.body.kind,.int .i64 f.body.n,.str f.body.name,.str f.body.field,.str f.body.wn,.slice (aM f.body.wk) false,.slice (aF f.body.kids) false,.slice (strs f.body.names) false,.slice (strs f.layout) false]
def mz(s:So):List AV:=[.str s.name,.slice (strs s.gZ) false,.slice (s.defs.map bJ) false,.slice (strs s.head) false,.str s.fin]
structure FdB (f:Fd):Prop where
 a:f.name.length<=1100000
 w:F4 3 (.mk f.wn f.wk)
 m:CU f.jA
structure FmB (f:Fm):Prop where
 k:0<=f.kind/\f.kind<=5
 a:f.name.length<=1100000
 sl:f.bI.length<=4
 sb:∀ s∈f.bI,FdB s
 w:F4 3 (.mk f.rn f.rk)
 b:Tj 5 f.body
 ll:f.layout.length<=20000
 lb:∀ s∈f.layout,s.length<=1100000
structure SoB (s:So):Prop where
 a:s.name.length<=1100000
 ul:s.gZ.length<=1100000
 ub:∀ u∈s.gZ,u.length<=1100000
 dl:s.defs.length<=3
 db:∀ f∈s.defs,FmB f
 hl:s.head.length<=20000
 hb:∀ u∈s.head,u.length<=1100000
 e:s.fin.length<=1100000
def UJ{l:List Fd}{e:Fd}(h:l[i]?=some e):(l.map dc)[i]?=some (dc e):=by simp[h]
def Pp{l:List Fm}{e:Fm}(h:l[i]?=some e):(l.map bJ)[i]?=some (bJ e):=by simp[h]
def oG(n:av)(ks:List Wd):Bool:=n==[]&&ks.isEmpty
def gG(t:Tm):Bool:=t.kind==0&&(t.n==0&&(t.name==[]&&(t.field==[]&&(oG t.wn t.wk&&(t.names==[]&&t.kids.isEmpty)))))
def dP(k:Int)(f:Fd):Bool:=isWord f.name&&bD (.mk f.wn f.wk)&&decide (0<=f.jA)&&decide (f.jA<=1099511627776)&&(decide (k=4) || decide (f.jA=0))
def gb(f:Fm):Bool:=isWord f.name&&f.bI.all (dP f.kind)&&bif decide (f.kind=0) || decide (f.kind=1) then oG f.rn f.rk&&gG f.body else bD (.mk f.rn f.rk)&&ax f.body
def bU(k:Int)(f:Fd):List av:=[f.name]++bM (.mk f.wn f.wk)++(if k=4 then [lV f.jA.toNat] else [])
def dD(f:Fm):List av:=[cG.getD f.kind.toNat [],f.name,[40]]++ar (f.bI.map (bU f.kind))++[[41]]++(if f.kind=0\/f.kind=1 then [] else bM (.mk f.rn f.rk)++[[61]]++ag f.body)
def heads(s:So):List av:=[[109,111,100,117,108,101],s.name]++(s.gZ.map fun u=>[[117,115,101],u]).flatten
def aiD:aM []=[]:=by simp[aM]
def isEmpty_eq{α:Type}{l:List α}(h:l.isEmpty=true):l=[]:=ayO.1 h
def Xr(n:av)(ks:List Wd)(H:aa):ai A 73 [.agg [.str n,.slice (aM ks) false],.agg [.str [],.slice [] false]] H=some (.bool (oG n ks),none):=by
 refine cy (fn:=agp) rfl rfl rfl ?_;unfold agp;cases h1:(n==[]) with
 | false=>exact qx h1 @oG.eq_1 tv
 | true =>
 cases ks with
 | cons k r =>
  have e:¬ (((aM (k :: r)).length:Int)=0):=by rw[gF,List.length_cons];omega
  simp(disch:=omega)only[dJ,ab,simprocAttr,h1,oG,azs]
 | nil =>
  simp(disch:=omega)only[dJ,ab,simprocAttr,h1,aiD,oG,List.isEmpty_nil];refine bK 0 0 (fun i s=>HdG (fun T=>T 2=.lbox 0 [.str n,.slice [] false]/\T 5=.int .i64 0) H H.length s) (HdG (fun T=>True) H H.length) (fun _=>False) ?_ ?_ (fun _ h=>h.elim) 0 _ (Nat.le_refl _) ?_
  ·rintro i s hi hs
   obtain⟨T,g,rfl,e2,e5⟩:=hs.out;exact My e2 e5
  ·intro s hs
   obtain⟨T,g,rfl, -⟩:=hs.out;exact sH
  ·exact sH
def Xq(t:Tm)(u9:t.names.length<=10000000)(H:aa):ai A 35 [.agg (aK t),.agg [.int .i64 0,.int .i64 0,.str [],.str [],.str [],.slice [] false,.slice [] false,.slice [] false]] H=some (.bool (gG t),none):=by
 have hw:=Xr t.wn t.wk H;have hs:=ahX t.names [] H false false u9;rw[mh] at hs;refine cy (fn:=agc) rfl rfl rfl ?_;unfold agc;rw[aj];cases c1:(t.kind==0) with
 | false=>simp(disch:=omega)only[dJ,ab,simprocAttr,c1,bne,gG]
 | true =>
 cases c2:(t.n==0) with
 | false=>simp(disch:=omega)only[dJ,ab,simprocAttr,c1,c2,bne,gG]
 | true =>
 cases c3:(t.name==[]) with
 | false=>simp(disch:=omega)only[dJ,ab,simprocAttr,c1,c2,c3,bne,gG]
 | true =>
 cases c4:(t.field==[]) with
 | false=>simp(disch:=omega)only[dJ,ab,simprocAttr,c1,c2,c3,c4,bne,gG]
 | true =>
 cases c5:oG t.wn t.wk with
 | false=>simp(disch:=omega)only[dJ,ab,simprocAttr,c1,c2,c3,c4,c5,hw,bne,gG]
 | true =>
 cases c6:(t.names==[]) with
 | false=>simp(disch:=omega)only[dJ,ab,simprocAttr,c1,c2,c3,c4,c5,c6,hw,hs,bne,gG]
 | true =>
 cases hk:t.kids.isEmpty with
 | false =>
  have e:((t.kids.length:Int)==0)=false:=by
   simp_all
  simp(disch:=omega)only[dJ,ab,simprocAttr,c1,c2,c3,c4,c5,c6,hw,hs,bne,hk,e,cx,gG]
 | true =>
  have e:t.kids=[]:=ayO.1 hk;rw[e];simp(disch:=omega)only[dJ,ab,simprocAttr,c1,c2,c3,c4,c5,c6,hw,hs,bne,hk,aF,gG];refine bK 0 0 (fun i s=>HdG (fun T=>T 2=.lbox 0 [.int .i64 t.kind,.int .i64 t.n,.str t.name,.str t.field,.str t.wn,.slice (aM t.wk) false,.slice [] false,.slice (strs t.names) false]/\T 5=.int .i64 0) H H.length s) (HdG (fun T=>True) H H.length) (fun _=>False) ?_ ?_ (fun _ h=>h.elim) 0 _ (Nat.le_refl _) ?_
  ·rintro i s hi hs
   obtain⟨T,g,rfl,e2,e5⟩:=hs.out;exact My e2 e5
  ·intro s hs
   obtain⟨T,g,rfl, -⟩:=hs.out;exact sH
  ·exact sH
def jD{α:Type}{l:List α}{u:α}(h:l[i]?=some u):l.take (i+1)=l.take i++[u]:=by rw[ayr,h];rfl
theorem aaO(hb:FmB f)(H:aa):ai A 47 [.agg (bJ f)] H=some (.bool (gb f),none):=by
 have hw:=qW f.name H (by have:=hb.a;omega)
 obtain⟨k0,k5⟩:=hb.k;have hr:=AY 3 (.mk f.rn f.rk) H hb.w;rw[fN] at hr;have hpt:=HB 5 f.body H hb.b;have u9:f.body.names.length<=10000000:=by have:=hb.b.out.nl;omega
 have hz:=Xq f.body u9 H;rw[aj] at hpt hz;refine cy (fn:=agh) rfl rfl rfl ?_;rw[bJ];unfold agh;cases hn:isWord f.name with
 | false =>
  have e:gb f=false:=by unfold gb;rw[hn];rfl
  exact vK3 hw hn e
 | true =>
 refine qx hw hn ?_;refine bK f.bI.length 0 (fun i s=>∃ T g,s=⟨T,H,H.length,g⟩/\T 1=.lbox 0 [.int .i64 f.kind,.str f.name,.slice (f.bI.map dc) false,.str f.rn,.slice (aM f.rk) false,.int .i64 f.body.kind,.int .i64 f.body.n,.str f.body.name,.str f.body.field,.str f.body.wn,.slice (aM f.body.wk) false,.slice (aF f.body.kids) false,.slice (strs f.body.names) false,.slice (strs f.layout) false]/\T 3=.int .i64 i/\(f.bI.take i).all (dP f.kind)=true)
  (fun s=>∃ T g,s=⟨T,H,H.length,g⟩/\T 1=.lbox 0 [.int .i64 f.kind,.str f.name,.slice (f.bI.map dc) false,.str f.rn,.slice (aM f.rk) false,.int .i64 f.body.kind,.int .i64 f.body.n,.str f.body.name,.str f.body.field,.str f.body.wn,.slice (aM f.body.wk) false,.slice (aF f.body.kids) false,.slice (strs f.body.names) false,.slice (strs f.layout) false]/\f.bI.all (dP f.kind)=true) (fun s=>fin H.length [.tmp 2] s=some (.bool (gb f),none)) ?_ ?_ ?_ 0 _ (axh _) ?_
 ·rintro i s hi ⟨T,g,rfl,e1,e3,dQ⟩
  by_cases aP:i<f.bI.length
  ·have hx:=aw3 aP
   have hm:=axn aP;have mD:=jD hx;generalize f.bI[i]=u at hx hm mD;have ft:=UJ hx;rw[dc] at ft;have hu:=hb.sb u hm;obtain⟨m0,m1⟩:=hu.m;have hwu:=qW u.name H (by have:=hu.a;omega)
   have PG:=AY 3 (.mk u.wn u.wk) H hu.w;rw[fN] at PG;have jl:dP f.kind u=false->gb f=false:=by
    intro h;have:f.bI.all (dP f.kind)=false:=by rw[List.all_eq_false];exact⟨u,hm,by rw[h];decide⟩
    unfold gb;rw[this,Bool.and_false];rfl
   have hgo:dP f.kind u=true->(f.bI.take (i+1)).all (dP f.kind)=true:=by
    grind
   unfold dP at jl hgo;have hf4:f.bI.length<=4:=hb.sl;cases a1:isWord u.name with
   | false =>
    have e:=jl (by simp[a1])
    exact vK6 e1 e3 ft hwu a1 e
   | true =>
   cases a2:bD (.mk u.wn u.wk) with
   | false =>
    have e:=jl (by simp[a1,a2])
    exact vK8 e1 e3 ft hwu PG a1 a2 e
   | true =>
   by_cases a3:u.jA<0
   ·have e:=jl (by simp[show ¬ 0<=u.jA by omega])
    exact vK8 e1 e3 ft hwu PG a1 a2 e
   by_cases a4:1099511627776<u.jA
   ·have e:=jl (by simp[show ¬ u.jA<=1099511627776 by omega])
    exact vK8 e1 e3 ft hwu PG a1 a2 e
   by_cases a5:f.kind=4
   ·have e:=hgo (by simp[a1,a2,a5];omega)
    refine l8 e1 e3 ft hwu PG (j2 a1 a2) ?_;exact⟨aP,_,_,rfl,cV e1,dS,e⟩
   by_cases a6:u.jA=0
   ·have e:=hgo (by simp[a1,a2,a6])
    refine l8 e1 e3 ft hwu PG (j2 a1 a2) ?_;exact⟨aP,_,_,rfl,cV e1,dS,e⟩
   ·have e:=jl (by simp[a5,a6])
    exact vK8 e1 e3 ft hwu PG a1 a2 e
  ·refine qx e1 e3 ?_
   exact⟨_,_,rfl,cV e1,by rw[<- dQ,axy (by omega)]⟩
 ·rintro s ⟨T,g,rfl,e1,dQ⟩
  have hp:gb f=bif decide (f.kind=0) || decide (f.kind=1) then oG f.rn f.rk&&gG f.body else bD (.mk f.rn f.rk)&&ax f.body:=by
   unfold gb;rw[hn,dQ];rfl
  by_cases b0:f.kind=0\/f.kind=1
  ·have e:gb f=(oG f.rn f.rk&&gG f.body):=by
    rw[hp];rcases b0 with b|b<;>simp[b]
   rw[e];unfold oG;have hk:(f.kind==0)=true\/(f.kind==0)=false/\(f.kind==1)=true:=by
    rcases b0 with b|b
    ·exact .inl (by simp[b])
    ·exact .inr (by simp[b])
   rcases hk with hk|⟨hk,Aa⟩
   ·cases d1:(f.rn==[]) with
    | false=>exact ry e1 hk d1 tv
    | true =>
    cases d2:f.rk.isEmpty with
    | false =>
     have e2:((f.rk.length:Int)==0)=false:=by
      cases h:f.rk with
      | nil=>rw[h] at d2;cases d2
      | cons a r=>simp;omega
     exact Hk e1 hk d1 e2 @gF tv
    | true =>
     have e2:((f.rk.length:Int)==0)=true:=by rw[ayO.1 d2];rfl
     exact l8 e1 hk d1 e2 hz @gF tv
   ·cases d1:(f.rn==[]) with
    | false=>exact wK e1 hk Aa d1 tv
    | true =>
    cases d2:f.rk.isEmpty with
    | false =>
     have e2:((f.rk.length:Int)==0)=false:=by
      cases h:f.rk with
      | nil=>rw[h] at d2;cases d2
      | cons a r=>simp;omega
     exact l8 e1 hk Aa d1 e2 @gF tv
    | true =>
     have e2:((f.rk.length:Int)==0)=true:=by rw[ayO.1 d2];rfl
     exact l8 e1 hk Aa d1 e2 (j2 hz @gF) tv
  ·have e:gb f=(bD (.mk f.rn f.rk)&&ax f.body):=by
    rw[hp,show (decide (f.kind=0) || decide (f.kind=1))=false by simpa using b0];rfl
   rw[e];have c0:f.kind≠0:=fun h=>b0 (.inl h)
   have c1:f.kind≠1:=fun h=>b0 (.inr h)
   cases a1:bD (.mk f.rn f.rk) with
   | false=>exact ry e1 hr a1 tv
   | true=>exact wK e1 hr hpt a1 tv
 ·intro s hs;exact hs
 ·exact⟨_,_,rfl,dS,dS,by simp⟩
def mf(f:Fm):List av:=if gb f=true then dD f else []
def de(s:So):List av:=if isWord s.name=true/\s.gZ.all isWord=true then heads s else []
def V8(hb:FmB f):([[.str [114,101,99]],[.str [99,97,115,101]],[.str [102,117,110]],[.str [111,110]],[.str [116,101,115,116]],[.str [99,111,110,118]]]:List (List AV))[f.kind.toNat]?=some [.str (cG.getD f.kind.toNat [])]:=by
 obtain⟨k0,k5⟩:=hb.k;have:f.kind.toNat=0\/f.kind.toNat=1\/f.kind.toNat=2\/f.kind.toNat=3\/f.kind.toNat=4\/f.kind.toNat=5:=af
 rcases this with h|h|h|h|h|h<;>rw[h]<;>rfl
theorem Dp(h:FdB u):(bU k u).length<=14:=by
 have:=mW 3 _ h.w
 unfold bU
 grind
theorem Oq(h:gb f=true):(∀ u∈f.bI,dP f.kind u=true)/\(f.kind=0\/f.kind=1\/(bD (.mk f.rn f.rk)=true/\ax f.body=true)):=by
 unfold gb at h
 grind
theorem GZ(hb:FmB f):(dD f).length<=10000:=by
 have h1:=jg (f.bI.map (bU f.kind)) 14 (fun x hx=>by
  obtain⟨u,hu,rfl⟩:=List.mem_map.1 hx;exact Dp (hb.sb u hu))
 have h2:=mW 3 _ hb.w;have h3:(ag f.body).length<=7260:=zU 5 f.body hb.b;have h4:=hb.sl;rw[List.length_map] at h1;have h5:f.bI.length*(14+1)<=60:=af;unfold dD
 grind
theorem Jj(hb:FmB f)(H:aa):ai A 16 [.agg (bJ f)] H=some (.slice (strs (mf f)) (!(gb f) || !(decide (f.kind=0) || decide (f.kind=1))),none):=by
 have hp:=aaO hb H;obtain⟨k0,k5⟩:=hb.k;refine cy (fn:=af5) rfl rfl rfl ?_;rw[bJ] at hp ⊢;unfold af5 mf;cases Vq:gb f with
 | false =>
  rw[if_neg aB];exact vK3 hp Vq mh
 | true =>
 rw[if_pos rfl];obtain⟨qu,wX⟩:=Oq Vq;have afu:=V8 hb;refine ry hp Vq afu ?_;generalize vb:([cG.getD f.kind.toNat [],f.name,[40]]:List av)=pre;have akW:pre.length=3:=by rw[<- vb];rfl
 have hpc:([[.str (cG.getD f.kind.toNat [])],[.str f.name],[.str [40]]]:List (List AV))=strs pre:=by rw[<- vb];rfl
 simp only[hpc];have PB:dD f=pre++ar (f.bI.map (bU f.kind))++[[41]]++(if f.kind=0\/f.kind=1 then [] else bM (.mk f.rn f.rk)++[[61]]++ag f.body):=by unfold dD;rw[vb]
 have hlen:=GZ hb;have hf4:=hb.sl;refine bK f.bI.length 0 (fun i s=>∃ T g,s=⟨T,H,H.length,g⟩/\T 1=.lbox 0 [.int .i64 f.kind,.str f.name,.slice (f.bI.map dc) false,.str f.rn,.slice (aM f.rk) false,.int .i64 f.body.kind,.int .i64 f.body.n,.str f.body.name,.str f.body.field,.str f.body.wn,.slice (aM f.body.wk) false,.slice (aF f.body.kids) false,.slice (strs f.body.names) false,.slice (strs f.layout) false]/\T 4=.int .i64 i/\T 3=.slice (strs (pre++ar ((f.bI.take i).map (bU f.kind)))) true)
  (fun s=>∃ T g,s=⟨T,H,H.length,g⟩/\T 1=.lbox 0 [.int .i64 f.kind,.str f.name,.slice (f.bI.map dc) false,.str f.rn,.slice (aM f.rk) false,.int .i64 f.body.kind,.int .i64 f.body.n,.str f.body.name,.str f.body.field,.str f.body.wn,.slice (aM f.body.wk) false,.slice (aF f.body.kids) false,.slice (strs f.body.names) false,.slice (strs f.layout) false]/\T 3=.slice (strs (pre++ar (f.bI.map (bU f.kind)))) true) (fun _=>False) ?_ ?_ (fun _ h=>h.elim) 0 _ (axh _) ?_
 ·rintro i s hi ⟨T,g,rfl,e1,e4,e3⟩
  by_cases aP:i<f.bI.length
  ·have hx:=aw3 aP
   have hm:=axn aP;have mD:=jD hx;generalize f.bI[i]=u at hx hm mD;have ft:=UJ hx;rw[dc] at ft;have hu:=hb.sb u hm;have PG:=qu u hm;unfold dP at PG;simp only[aw4,aw',ayt] at PG;obtain⟨⟨⟨⟨u1,u2⟩,u3⟩,u4⟩,u5⟩:=PG;have RX:=JB 3 (.mk u.wn u.wk) H af hu.w u2;have hwl:=mW 3 _ hu.w;rw[fN] at RX;have akt:ai A 49 [.int .i64 u.jA] H=some (.str (lV u.jA.toNat),none):=by
    grind [Df]
   have hs:=jJ (bU f.kind u) ((f.bI.take i).map (bU f.kind));have jm:(f.bI.take (i+1)).map (bU f.kind)=(f.bI.take i).map (bU f.kind)++[bU f.kind u]:=by rw[mD];simp
   rw[<- jm] at hs;have yV:(ar ((f.bI.take i).map (bU f.kind))).length<=45:=by
    have h1:=jg ((f.bI.take i).map (bU f.kind)) 14 (fun x hx=>by
     obtain⟨v,hv,rfl⟩:=List.mem_map.1 hx;exact Dp (hb.sb v (axV hv)))
    grind
   have step:∀ (base:List av),base.length<=100->base++bU f.kind u=pre++ar ((f.bI.take (i+1)).map (bU f.kind)) ->
     aC false 1 16 (.slice (strs base) true) (.slice [[.str u.name]] true)=some (.slice (strs (base++[u.name])) true) /\
     aC false 1 16 (.slice (strs (base++[u.name])) true) (.slice (strs (bM (.mk u.wn u.wk))) true)=some (.slice (strs (base++[u.name]++bM (.mk u.wn u.wk))) true) /\
     (f.kind=4->aC false 1 16 (.slice (strs (base++[u.name]++bM (.mk u.wn u.wk))) true) (.slice [[.str (lV u.jA.toNat)]] true)=some (.slice (strs (pre++ar ((f.bI.take (i+1)).map (bU f.kind)))) true)) /\
     (f.kind≠4->base++[u.name]++bM (.mk u.wn u.wk)=pre++ar ((f.bI.take (i+1)).map (bU f.kind))):=by
    intro base yZ he;refine⟨fM af,ca df,fun h4=>?_,fun h4=>?_⟩
    ·rw[<- he];unfold bU;rw[if_pos h4]
     grind [fM]
    ·rw[<- he];unfold bU;rw[if_neg h4]
     grind
   have Rs:∀ (T' : az) (g' : Nat),T' 1=.lbox 0 [.int .i64 f.kind,.str f.name,.slice (f.bI.map dc) false,.str f.rn,.slice (aM f.rk) false,.int .i64 f.body.kind,.int .i64 f.body.n,.str f.body.name,.str f.body.field,.str f.body.wn,.slice (aM f.body.wk) false,.slice (aF f.body.kids) false,.slice (strs f.body.names) false,.slice (strs f.layout) false]->T' 4=.int .i64 ((i:Int)+1)->T' 3=.slice (strs (pre++ar ((f.bI.take (i+1)).map (bU f.kind)))) true ->
     i<f.bI.length/\∃ T g,(⟨T',H,H.length,g'⟩:AS)=⟨T,H,H.length,g⟩/\T 1=.lbox 0 [.int .i64 f.kind,.str f.name,.slice (f.bI.map dc) false,.str f.rn,.slice (aM f.rk) false,.int .i64 f.body.kind,.int .i64 f.body.n,.str f.body.name,.str f.body.field,.str f.body.wn,.slice (aM f.body.wk) false,.slice (aF f.body.kids) false,.slice (strs f.body.names) false,.slice (strs f.layout) false]/\T 4=.int .i64 ((i:Int)+1)/\T 3=.slice (strs (pre++ar ((f.bI.take (i+1)).map (bU f.kind)))) true :=
    fun T' g' q1 q2 q3=>⟨aP,_,_,rfl,q1,q2,q3⟩
   by_cases h0:i=0
   ·subst h0
    simp only[axQ,axB] at hs e3;rw[if_pos trivial] at hs;rw[show ar ([]:List (List av))=[] from rfl,List.append_nil] at e3
    obtain⟨a1,a2,a3,a4⟩:=step pre af (by rw[hs])
    generalize pre++ar ((f.bI.take (0+1)).map (bU f.kind))=out at a3 a4 Rs ⊢;generalize pre++[u.name]++bM (.mk u.wn u.wk)=b2 at a2 a3 a4;generalize pre++[u.name]=b1 at a1 a2
    by_cases h4:f.kind=4
    ·have a3:=a3 h4
     refine l8 e1 e3 e4 ft RX (j4 akt a1 a2 a3) ?_;refine Rs _ _ ?_ ?_ ?_
     ·exact cV e1
     ·exact dS
     ·exact dS
    ·have a4:=a4 h4
     refine l8 e1 e3 e4 ft RX (j2 a1 a2) ?_;refine Rs _ _ ?_ ?_ ?_
     ·exact cV e1
     ·exact dS
     ·exact cV a4
   ·have da:¬ ((f.bI.take i).map (bU f.kind)=[]):=fun e=>by
     have:=ayj List.length e
     rw[List.length_map,axO,List.length_nil] at this;omega
    rw[if_neg da] at hs;generalize ar ((f.bI.take i).map (bU f.kind))=acc at e3 yV hs;have a0:aC false 1 16 (.slice (strs (pre++acc)) true) (.slice [[.str [44]]] true)=some (.slice (strs (pre++acc++[[44]])) true):=fM df;obtain⟨a1,a2,a3,a4⟩:=step (pre++acc++[[44]]) df (by rw[hs];simp)
    generalize pre++ar ((f.bI.take (i+1)).map (bU f.kind))=out at a3 a4 Rs ⊢;generalize pre++acc++[[44]]++[u.name]++bM (.mk u.wn u.wk)=b2 at a2 a3 a4;generalize pre++acc++[[44]]++[u.name]=b1 at a1 a2;generalize pre++acc++[[44]]=b0 at a0 a1
    by_cases h4:f.kind=4
    ·have a3:=a3 h4
     refine l8 e1 e3 e4 ft RX (j5 akt a0 a1 a2 a3) ?_;refine Rs _ _ ?_ ?_ ?_
     ·exact cV e1
     ·exact dS
     ·exact dS
    ·have a4:=a4 h4
     refine l8 e1 e3 e4 ft RX (j3 a0 a1 a2) ?_;refine Rs _ _ ?_ ?_ ?_
     ·exact cV e1
     ·exact dS
     ·exact cV a4
  ·rw[axy af] at e3
   refine qx e1 e4 ?_;exact⟨_,_,rfl,cV e1,cV e3⟩
 ·rintro s ⟨T,g,rfl,e1,e3⟩
  have Nw:(pre++ar (f.bI.map (bU f.kind))).length<=10000:=by
   rw[PB,List.length_append,List.length_append] at hlen;omega
  have a1:aC false 1 16 (.slice (strs (pre++ar (f.bI.map (bU f.kind)))) true) (.slice [[.str [41]]] true)=some (.slice (strs (pre++ar (f.bI.map (bU f.kind))++[[41]])) true):=fM af
  by_cases b0:f.kind=0\/f.kind=1
  ·rw[if_pos b0,List.append_nil] at PB
   rw[<- PB] at a1;have eo:(!(decide (f.kind=0) || decide (f.kind=1)))=false:=by rcases b0 with b|b<;>simp[b]
   rw[eo]
   rcases b0 with b|b<;>exact vK3 e1 e3 a1
  ·rw[if_neg b0] at PB
   have eo:(!(decide (f.kind=0) || decide (f.kind=1)))=true:=cJ b0;rw[eo];have c0:f.kind≠0:=fun h=>b0 (.inl h)
   have c1:f.kind≠1:=fun h=>b0 (.inr h)
   obtain⟨r1,r2⟩:bD (.mk f.rn f.rk)=true/\ax f.body=true:=by
    rcases wX with h|h|h
    ·exact absurd h c0
    ·exact absurd h c1
    ·exact h
   have RX:=JB 3 (.mk f.rn f.rk) H af hb.w r1;have kE:=(Mj 5 f.body af hb.b r2).d H;rw[fN] at RX;rw[aj] at kE;have hwl:=mW 3 _ hb.w;have qO:(ag f.body).length<=7260:=zU 5 f.body hb.b;generalize bM (.mk f.rn f.rk)=w at RX hwl PB;generalize ag f.body=tt at kE qO PB;generalize pre++ar (f.bI.map (bU f.kind))=b0 at a1 e3 Nw PB;have a2:aC false 1 16 (.slice (strs (b0++[[41]])) true) (.slice (strs w) true)=some (.slice (strs (b0++[[41]]++w)) true):=ca df;have a3:aC false 1 16 (.slice (strs (b0++[[41]]++w)) true) (.slice [[.str [61]]] true)=some (.slice (strs (b0++[[41]]++w++[[61]])) true):=fM df;have a4:aC false 1 16 (.slice (strs (b0++[[41]]++w++[[61]])) true) (.slice (strs tt) true)=some (.slice (strs (b0++[[41]]++w++[[61]]++tt)) true):=ca df;rw[show dD f=b0++[[41]]++w++[[61]]++tt by rw[PB];simp]
   generalize b0++[[41]]++w++[[61]]++tt=b5 at a4 ⊢;generalize b0++[[41]]++w++[[61]]=b4 at a3 a4;generalize b0++[[41]]++w=b3 at a2 a3;generalize b0++[[41]]=b1 at a1 a2;exact vK8 e1 e3 a1 a2 a3 a4 RX kE
 ·exact⟨_,_,rfl,dS,dS,Lx @ar.eq_1 tv⟩
def Xf{s:So}(hb:SoB s)(H:aa):ai A 15 [.agg (mz s)] H=some (.slice (strs (de s)) (!(isWord s.name&&s.gZ.all isWord)),none):=by
 have hw:=qW s.name H (by have:=hb.a;omega)
 have PN:=hb.ul;have hn:=LA s.gZ H af (fun u hu=>by have:=hb.ub u hu;omega)
 refine cy (fn:=af4) rfl rfl rfl ?_;rw[mz];unfold af4 de;cases h1:isWord s.name with
 | false =>
  rw[if_neg ae];exact vK3 hw h1 mh
 | true =>
 cases h2:s.gZ.all isWord with
 | false =>
  rw[if_neg ae];exact vK5 hw h1 hn h2 mh
 | true =>
 rw[if_pos ⟨rfl,rfl⟩];refine Hk hw h1 hn h2 @Bool.and_self ?_;unfold heads;generalize vb:([[109,111,100,117,108,101],s.name]:List av)=pre;have akW:pre.length=2:=by rw[<- vb];rfl
 have hpc:([[.str [109,111,100,117,108,101]],[.str s.name]]:List (List AV))=strs pre:=by rw[<- vb];rfl
 simp only[hpc];have ful:∀ l:List av,((l.map fun u=>[[117,115,101],u]).flatten:List av).length=2*l.length:=by
  intro l;induction l with
  | nil=>rfl
  | cons a r ih=>simp only[axe,axw,List.length_append,ih,List.length_cons,List.length_nil];omega
 refine bK s.gZ.length 0 (fun i st=>∃ T g,st=⟨T,H,H.length,g⟩/\T 1=.lbox 0 [.str s.name,.slice (strs s.gZ) false,.slice (s.defs.map bJ) false,.slice (strs s.head) false,.str s.fin]/\T 4=.int .i64 i/\T 3=.slice (strs (pre++((s.gZ.take i).map fun u=>[[117,115,101],u]).flatten)) true)
  (fun st=>∃ T g,st=⟨T,H,H.length,g⟩/\T 3=.slice (strs (pre++(s.gZ.map fun u=>[[117,115,101],u]).flatten)) true) (fun _=>False) ?_ ?_ (fun _ h=>h.elim) 0 _ (axh _) ?_
 ·rintro i st hi ⟨T,g,rfl,e1,e4,e3⟩
  by_cases aP:i<s.gZ.length
  ·have hx:=aw3 aP
   have mD:=jD hx;generalize s.gZ[i]=u at hx mD;have ft:=gY hx;have hl:=ful (s.gZ.take i);rw[axO] at hl;have jm:pre++((s.gZ.take (i+1)).map fun u=>[[117,115,101],u]).flatten=pre++((s.gZ.take i).map fun u=>[[117,115,101],u]).flatten++[[117,115,101],u]:=by rw[mD];simp
   generalize ((s.gZ.take i).map fun u=>[[117,115,101],u]).flatten=acc at e3 hl jm
   have a1:aC false 1 16 (.slice (strs (pre++acc)) true) (.slice [[.str [117,115,101]],[.str u]] true)=some (.slice (strs (pre++acc++[[117,115,101],u])) true):=ca (m:=[[117,115,101],u]) df;rw[<- jm] at a1;refine l8 e1 e3 e4 @bu ft a1 ?_;exact⟨aP,_,_,rfl,cV e1,dS,dS⟩
  ·rw[axy af] at e3
   refine ry e1 e4 @bu ?_;exact⟨_,_,rfl,cV e3⟩
 ·rintro st ⟨T,g,rfl,e3⟩
  exact n8 e3
 ·exact⟨_,_,rfl,by simp(disch:=omega)only[gO,ab,simprocAttr],by simp(disch:=omega)only[gO,ab,simprocAttr],by simp(disch:=omega)only[gO,ab,simprocAttr,ayi]⟩
def Iw{l:List Fd} : wO 4 (l.map dc):=⟨fun r hr=>by obtain⟨t,_,rfl⟩:=List.mem_map.1 hr;rfl,AR fun r hr=>by obtain⟨t,_,rfl⟩:=List.mem_map.1 hr;rfl⟩
def Tz{l:List Fd}{o:Bool}(h:l.length<=10000000):aC false 4 64 (.slice (l.map dc) true) (.slice [[.str u.name,.str u.wn,.slice (aM u.wk) false,.int .i64 u.jA]] o)=some (.slice ((l++[u]).map dc) true):=by
 have e:([[.str u.name,.str u.wn,.slice (aM u.wk) false,.int .i64 u.jA]]:List (List AV))=[u].map dc:=rfl;rw[e,xw Iw Iw df df,List.map_append]
def Pq{l:List Fm} : wO 14 (l.map bJ):=⟨fun r hr=>by obtain⟨t,_,rfl⟩:=List.mem_map.1 hr;rfl,AR fun r hr=>by obtain⟨t,_,rfl⟩:=List.mem_map.1 hr;rfl⟩
def TA{l:List Fm}{o:Bool}(h:l.length<=10000000):aC false 14 248 (.slice (l.map bJ) true) (.slice [[.int .i64 f.kind,.str f.name,.slice (f.bI.map dc) false,.str f.rn,.slice (aM f.rk) false,
  .int .i64 f.body.kind,.int .i64 f.body.n,.str f.body.name,.str f.body.field,.str f.body.wn,.slice (aM f.body.wk) false,.slice (aF f.body.kids) false,.slice (strs f.body.names) false,.slice (strs f.layout) false]] o)=some (.slice ((l++[f]).map bJ) true):=by
 have e:([[.int .i64 f.kind,.str f.name,.slice (f.bI.map dc) false,.str f.rn,.slice (aM f.rk) false,
  .int .i64 f.body.kind,.int .i64 f.body.n,.str f.body.name,.str f.body.field,.str f.body.wn,.slice (aM f.body.wk) false,.slice (aF f.body.kids) false,.slice (strs f.body.names) false,.slice (strs f.layout) false]]:List (List AV))=[f].map bJ:=rfl
 rw[e,xw Pq Pq df df,List.map_append]
def adK{l:List Fm} : ((l.map bJ).map fun r=>r.map n1)=l.map bJ:=by
 rw[List.map_map];exact List.map_congr_left fun w _=>rfl
def qH:∀ L:List av,chunks 1 L.length (L.map AV.str)=strs L
 | []=>rfl
 | a :: r=>by
  have:=qH r
  simp only[strs,List.length_cons,axe,chunks,axJ,axQ,ayH,List.drop_zero] at this ⊢;rw[this]
def ij(l lay:List av)(i:Nat):av:=((List.range i).map fun j=>lay.getD j []++l.getD j []).flatten
def mE : ij l lay (i+1)=ij l lay i++(lay.getD i []++l.getD i []):=by
 unfold ij;rw[List.range_succ,List.map_append,List.flatten_append];simp
def vN{B:Nat}(h1:∀ s∈l,s.length<=B)(h2:∀ s∈lay,s.length<=B):∀ i,(ij l lay i).length<=i*(2*B)
 | 0=>by simp[ij]
 | i+1=>by
  have ih:=vN h1 h2 i;have a1:(lay.getD i []).length<=B:=by
   by_cases h:i<lay.length
   ·rw[getD_at h];exact h2 _ (axn h)
   ·simp[List.getD,List.getElem?_eq_none (azx h)]
  have a2:(l.getD i []).length<=B:=by
   by_cases h:i<l.length
   ·rw[getD_at h];exact h1 _ (axn h)
   ·simp[List.getD,List.getElem?_eq_none (azx h)]
  rw[mE,List.length_append,List.length_append,axT];omega
def nw{B:Nat}(h:∀ s∈l,s.length<=B)(i:Nat):(l.getD i []).length<=B:=by
 by_cases hi:i<l.length
 ·rw[getD_at hi];exact h _ (axn hi)
 ·simp[List.getD,List.getElem?_eq_none (azx hi)]
def iu(h:i<l.length):(strs l)[i]?=some [.str (l.getD i [])]:=by rw[getD_at h];exact gY (aw3 h)
structure Th (m:Nat) (f:Fm):Prop where
 k:0<=f.kind/\f.kind<=5
 a:f.name.length<=1100000
 sl:f.bI.length<=3
 sb:∀ s∈f.bI,FdB s
 w:F4 3 (.mk f.rn f.rk)
 b:Bj m 5 f.body
 ll:f.layout.length<=19000+m
 lb:∀ s∈f.layout,s.length<=1100000
structure MA (m:Nat) (s:So):Prop where
 a:s.name.length<=1100000
 ul:s.gZ.length<=2+m
 ub:∀ u∈s.gZ,u.length<=1100000
 dl:s.defs.length<=3
 db:∀ f∈s.defs,Th m f
 hl:s.head.length<=19000
 hb:∀ u∈s.head,u.length<=1100000
 e:s.fin.length<=1100000
def Th.B(hm:m<=8)(h:Th m f):FmB f:=⟨h.k,h.a,by have:=h.sl;omega,h.sb,h.w,h.b.le hm _ _ _ (Nat.le_refl _),by have:=h.ll;omega,h.lb⟩
def MA.B{s:So}(hm:m<=8)(h:MA m s):SoB s:=⟨h.a,by have:=h.ul;omega,h.ub,h.dl,fun f hf=>(h.db f hf).B hm,by have:=h.hl;omega,h.hb,h.e⟩
structure SA (c:Cc) (so:So) (b:Bool) (T:az):Prop where
 t2:T 2=.lbox 0 [.str [],.slice [] true,.slice [] true,.slice [] true,.str []]
 t3:T 3=.ref c.mm 0
 t5:T 5=.bool b
 t4:∃ g,T 4=.lbox g [.str so.name,.slice (strs so.gZ) true,.slice (so.defs.map bJ) true,.slice (strs so.head) true,.str so.fin]
def SmP(c:Cc)(K:aa)(b:Bool)(P:So->Prop)(s:AS):Prop:=∃ T p g so,s=⟨T,cT c p K,c.mm,g⟩/\SA c so b T/\MA 4 so/\P so
structure FA (c:Cc) (so:So) (b:Bool) (many i:Int) (f:Fm) (T:az):Prop where
 sa:SA c so b T
 t7:T 7=.int .i64 many
 t8:T 8=.int .i64 i
 t9:∃ g o1 o2 o3,T 9=.lbox g [.int .i64 f.kind,.str f.name,.slice (f.bI.map dc) true,.str f.rn,.slice (aM f.rk) o1,.int .i64 f.body.kind,.int .i64 f.body.n,.str f.body.name,.str f.body.field,.str f.body.wn,.slice (aM f.body.wk) o2,.slice (aF f.body.kids) o2,.slice (strs f.body.names) o2,.slice (strs f.layout) o3]
def FmP(c:Cc)(K:aa)(so:So)(b:Bool)(many i:Int)(P:Fm->az->Prop)(s:AS):Prop:=∃ T p g f,s=⟨T,cT c p K,c.mm,g⟩/\FA c so b many i f T/\Th 4 f/\P f T
theorem I'{c:Cc}{K:aa}(h:CH c p0 K)(p n:Int)(hn:0<n):∃ x p',0<=x/\x<n/\ai A 18 [.ref c.mm 0,.int .i64 n] (cT c p K)=some (.int .i64 x,some ⟨cT c p' K,c.mm⟩):=by
 obtain⟨x,p',a,b,e⟩:=mU (h.set (p':=p)) n hn
 grind [aZ]
theorem Qb{c:Cc}{K:aa}(h:CH c p0 K)(p:Int):∃ s p',s.length<=1100000/\ai A 17 [.ref c.mm 0] (cT c p K)=some (.str s,some ⟨cT c p' K,c.mm⟩):=by
 obtain⟨s,p',a,e⟩:=oO (h.set (p':=p))
 grind [aZ,iT]
def adD{c:Cc}{K:aa}(h:CH c p0 K)(p:Int):∃ w p',F4 3 w/\ai A 21 [.ref c.mm 0,.int .i64 2] (cT c p K)=some (.agg [.str w.name,.slice (aM w.kids) false],some ⟨cT c p' K,c.mm⟩):=by
 obtain⟨w,p',a,e⟩:=Li 2 p (cT c p K) af h.set;rw[aZ,fI] at e;exact⟨w,p',XY af a,e⟩
def HP{c:Cc} : ∀ d:Nat,d<=101->CX c d
 | 0,_=>anb
 | d+1,h=>ane af (HP d af)
def ad3{c:Cc}{K:aa}(h:CH c p0 K)(p:Int)(d:Nat)(hd:d<=4):∃ t p',Bj 4 5 t/\ai A 22 [.ref c.mm 0,.int .i64 d] (cT c p K)=some (.agg [.int .i64 t.kind,.int .i64 t.n,.str t.name,.str t.field,.str t.wn,.slice (aM t.wk) false,.slice (aF t.kids) false,.slice (strs t.names) false],some ⟨cT c p' K,c.mm⟩):=by
 obtain⟨t,p',a,e⟩:=HP d af p (cT c p K) h.set;rw[aZ,aj] at e;exact⟨t,p',a.up (Nat.le_refl _) _ _ _ af,e⟩
theorem alV{c:Cc}{K:aa}(h:CH c p0 K)(p:Int)(n:Nat)(hn:n<=12000):∃ (x:Int) (b:av) (out:List av) (p1 p2:Int),out.length<=19000/\(∀ s∈out,s.length<=1100000) /\
  ai A 18 [.ref c.mm 0,.int .i64 1000] (cT c p K)=some (.int .i64 x,some ⟨cT c p1 K,c.mm⟩) /\
  ai A 20 [.int .i64 x,.int .i64 0] (cT c p1 K)=some (.str b,none)/\ai A 19 [.ref c.mm 0,.int .i64 n,.str b] (cT c p1 K)=some (.slice (strs out) true,some ⟨cT c p2 K,c.mm⟩):=by
 obtain⟨x,p1,x0,x1,e1⟩:=I' h p 1000 af;obtain⟨b,hb,e2⟩:=acJ x 0 (cT c p1 K) (G7 x0 af);obtain⟨out,p2,ol,ob,e3⟩:=Wb (h.set (p':=p1)) n af b hb
 grind [aZ]
theorem abG{c:Cc}{K:aa}(h:CH c p0 K)(hs:SA c so b T)(hG:MA 4 so)(hu:so.gZ=[])(hd:so.defs=[]) :
  W A ((JU.body.post 3).pre 0) ⟨T,cT c p K,c.mm,g⟩ (andThen (SmP c K b (fun so'=>so'.defs=[])) Q):=by
 obtain⟨q2,q3,q5,g4,q4⟩:=hs;unfold JU;simp only[aG.post,aG.pre];refine Ce ?_;refine bK 2 0 (fun i s=>∃ T p g so,s=⟨T,cT c p K,c.mm,g⟩/\SA c so b T/\MA 4 so/\so.defs=[]/\T 6=.int .i64 i/\so.gZ.length=i)
  (SmP c K b (fun so'=>so'.defs=[])) (fun _=>False) ?_ (fun s hs=>hs) (fun _ h=>h.elim) 0 _ af ?_
 ·rintro i s hi ⟨T,p,g,so,rfl,⟨q2,q3,q5,g4,q4⟩,hG,hd,q6,hl⟩
  obtain⟨x,p1,x0,x1,e1⟩:=I' h p 3 af
  by_cases hc:(i:Int)<x
  ·obtain⟨u,p2,ul,e2⟩:=Qb h p1
   have a1:aC false 1 16 (.slice (strs so.gZ) true) (.slice [[.str u]] true)=some (.slice (strs (so.gZ++[u])) true):=fM af;simp(disch:=omega)only[dJ,ab,simprocAttr,q3,q4,q6,e1,e2,a1,cH,cA,axA,axr,ah,ayL];refine⟨af,_,_,_,{ so with gZ:=so.gZ++[u] },rfl,⟨?_,?_,?_,g4,?_⟩,⟨hG.a,df,fun v hv=>?_,hG.dl,hG.db,hG.hl,hG.hb,hG.e⟩,hd,?_,by simp[hl]⟩
   ·exact cV q2
   ·exact cV q3
   ·exact cV q5
   ·exact dS
   ·rcases aw9.1 hv with hv|hv
    ·exact hG.ub v hv
    ·grind
   ·exact dS
  ·refine wK q3 q6 e1 @Nat.lt_irrefl ?_
   refine⟨_,_,_,so,rfl,⟨?_,?_,?_,g4,?_⟩,hG,hd⟩
   ·exact cV q2
   ·exact cV q3
   ·exact cV q5
   ·exact cV q4
 ·refine⟨_,_,_,so,rfl,⟨?_,?_,?_,g4,?_⟩,hG,hd,?_,by rw[hu];rfl⟩
  ·exact cV q2
  ·exact cV q3
  ·exact cV q5
  ·exact cV q4
  ·exact dS
def abF{c:Cc}{K:aa}(h:CH c p0 K){s:AS}(hs:SmP c K b (fun so'=>so'.defs=[]) s) :
  W A ((JU.body.post 4).pre 1) s (andThen (fun s=>∃ n:Nat,n<=3/\s.T 7=.int .i64 n/\SmP c K b (fun so'=>so'.defs=[]) s) Q):=by
 obtain⟨T,p,g,so,rfl,⟨q2,q3,q5,g4,q4⟩,hG,hd⟩:=hs;unfold JU;simp only[aG.post,aG.pre];have PN:=hG.ul;cases b with
 | true =>
  obtain⟨x,bs,out,p1,p2,ol,ob,e1,e2,e3⟩:=alV h p (2+2*so.gZ.length) af;have en:((2+2*so.gZ.length:Nat):Int)=2+2*(so.gZ.length:Int):=af;rw[en] at e3;obtain⟨n,p3,n0,n1,e4⟩:=I' h p2 4 af;refine l9 q3 q4 q5 e1 e2 (j4 e3 e4 @bu @Nat.lt_irrefl) ?_;refine⟨n.toNat,af,?_,_,_,_,{ so with head:=out },rfl,⟨?_,?_,?_,g4,?_⟩,⟨hG.a,hG.ul,hG.ub,hG.dl,hG.db,ol,ob,hG.e⟩,hd⟩
  ·rw[azk n0]
  ·exact cV q2
  ·exact cV q3
  ·exact cV q5
  ·exact dS
 | false =>
  obtain⟨n,p3,n0,n1,e4⟩:=I' h p 4 af;refine wK q3 q5 e4 @Nat.lt_irrefl ?_;refine⟨n.toNat,af,?_,_,_,_,so,rfl,⟨?_,?_,?_,g4,?_⟩,hG,hd⟩
  ·rw[azk n0]
  ·exact cV q2
  ·exact cV q3
  ·exact cV q5
  ·exact cV q4
abbrev wQ:aG:=JU.body.sub [true,true,true,true,true,true,true,false,true,false,false,true,false,false]
abbrev qt:Tm:=.mk 0 0 [] [] [] [] [] []
def HG(h:FmB f):(mf f).length<=10000:=by
 unfold mf;split
 ·exact GZ h
 ·simp
def aiM:Bj 4 5 qt:=jU af af aB
def UO{c:Cc}{K:aa}(h:CH c p0 K){i:Int}(hs:SA c so b T)(h7:T 7=.int .i64 many)(h8:T 8=.int .i64 i) :
  W A (wQ.pre 1) ⟨T,cT c p K,c.mm,g⟩ (andThen (FmP c K so b many i (fun f T=>f.bI=[]/\∃ n:Nat,n<=3/\T 10=.int .i64 n)) Q):=by
 obtain⟨q2,q3,q5,g4,q4⟩:=hs;unfold wQ JU;simp only[aG.sub,aG.pre];obtain⟨k,p1,k0,k1,e1⟩:=I' h p 6 af;obtain⟨u,p2,ul,e2⟩:=Qb h p1;obtain⟨n,p3,n0,n1,e3⟩:=I' h p2 4 af;refine l8 q3 e1 e2 e3 @Nat.lt_irrefl @dW.eq_1 ?_;refine⟨_,_,_,⟨k,u,[],[],[],qt,[]⟩,rfl,⟨⟨?_,?_,?_,g4,?_⟩,?_,?_,g,true,true,true,?_⟩,⟨by simp only;omega,ul,ae,ae,lO,aiM,ae,ae⟩,rfl,n.toNat,af,?_⟩
 ·exact cV q2
 ·exact cV q3
 ·exact cV q5
 ·exact cV q4
 ·exact cV h7
 ·exact cV h8
 ·exact Ac @mh @Tm.field.eq_1 @Tm.kids.eq_1 (j3 @Tm.kind.eq_1 @Tm.n.eq_1 @Tm.name.eq_1) (j5 @Tm.names.eq_1 @Tm.wk.eq_1 @Tm.wn.eq_1 @aF.eq_1 @aM.eq_1) tv
 ·exact cV (azk n0)
def UN{c:Cc}{K:aa}(h:CH c p0 K){i:Int}{s:AS}(hs:FmP c K so b many i (fun f T=>f.bI=[]/\∃ n:Nat,n<=3/\T 10=.int .i64 n) s) :
  W A ((wQ.post 1).pre 0) s (andThen (FmP c K so b many i (fun _ _=>True)) Q):=by
 obtain⟨T,p,g,f,rfl,⟨⟨q2,q3,q5,g4,q4⟩,q7,q8,g9,o1,o2,o3,q9⟩,hF,qu,n,hn,JV⟩:=hs;unfold wQ JU;simp only[aG.sub,aG.pre,aG.post];refine Ce ?_;refine bK n 4 (fun j s=>∃ T p g f,s=⟨T,cT c p K,c.mm,g⟩/\FA c so b many i f T/\Th 4 f/\T 10=.int .i64 n/\T 11=.int .i64 j/\f.bI.length=j)
  (FmP c K so b many i (fun _ _=>True)) (fun _=>False) ?_ (fun s hs=>hs) (fun _ h=>h.elim) 0 _ af ?_
 ·rintro j s hj ⟨T,p,g,f,rfl,⟨⟨q2,q3,q5,g4,q4⟩,q7,q8,g9,o1,o2,o3,q9⟩,hF,JV,q11,hl⟩
  by_cases hc:j<n
  ·obtain⟨u,p1,ul,e1⟩:=Qb h p
   obtain⟨w,p2,wb,e2⟩:=adD h p1;obtain⟨m,p3,m0,m1,e3⟩:=I' h p2 12 af;have fin:∀ (T' : az) (p' : Int) (g' : Nat) (x:Int),0<=x->x<12->SA c so b T'->T' 7=.int .i64 many->T' 8=.int .i64 i->T' 10=.int .i64 n->T' 11=.int .i64 ((j:Int)+1) ->
     T' 9=.lbox g9 [.int .i64 f.kind,.str f.name,.slice ((f.bI++[Fd.mk u w.name w.kids x]).map dc) true,.str f.rn,.slice (aM f.rk) o1,.int .i64 f.body.kind,.int .i64 f.body.n,.str f.body.name,.str f.body.field,.str f.body.wn,.slice (aM f.body.wk) o2,.slice (aF f.body.kids) o2,.slice (strs f.body.names) o2,.slice (strs f.layout) o3] ->
     j<n/\∃ T p g f,(⟨T',cT c p' K,c.mm,g'⟩:AS)=⟨T,cT c p K,c.mm,g⟩/\FA c so b many i f T/\Th 4 f/\T 10=.int .i64 n/\T 11=.int .i64 ((j:Int)+1)/\f.bI.length=j+1:=by
    intro T' p' g' x x0 x1 Yi r7 r8 r10 r11 r9;refine⟨hc,_,_,_,{ f with bI:=f.bI++[Fd.mk u w.name w.kids x] },rfl,⟨Yi,r7,r8,g9,o1,o2,o3,r9⟩,⟨hF.k,hF.a,df,fun v hv=>?_,hF.w,hF.b,hF.ll,hF.lb⟩,r10,r11,by simp[hl]⟩
    rcases aw9.1 hv with hv|hv
    ·exact hF.sb v hv
    ·rw[axi.1 hv];exact⟨ul,by cases w;exact wb,by simp only;omega⟩
   by_cases h4:f.kind=4
   ·have a1:aC false 4 64 (.slice (f.bI.map dc) true) (.slice [[.str u,.str w.name,.slice (aM w.kids) false,.int .i64 m]] true)=some (.slice ((f.bI++[Fd.mk u w.name w.kids m]).map dc) true):=Tz (l:=f.bI) (u:=Fd.mk u w.name w.kids m) af
    simp(disch:=omega)only[dJ,ab,simprocAttr,q3,q9,JV,q11,e1,e2,e3,a1,dW,cH,cA,axA,axr,ah,ayL];refine fin _ _ _ m m0 m1 ⟨?_,?_,?_,g4,?_⟩ ?_ ?_ ?_ ?_ ?_
    ·exact cV q2
    ·exact cV q3
    ·exact cV q5
    ·exact cV q4
    ·exact cV q7
    ·exact cV q8
    ·exact cV JV
    ·exact dS
    ·exact dS
   ·have a1:aC false 4 64 (.slice (f.bI.map dc) true) (.slice [[.str u,.str w.name,.slice (aM w.kids) false,.int .i64 0]] true)=some (.slice ((f.bI++[Fd.mk u w.name w.kids 0]).map dc) true):=Tz (l:=f.bI) (u:=Fd.mk u w.name w.kids 0) af
    simp(disch:=omega)only[dJ,ab,simprocAttr,q3,q9,JV,q11,e1,e2,a1,dW,cH,cA,axA,axr,ah,ayL];refine fin _ _ _ 0 af af ⟨?_,?_,?_,g4,?_⟩ ?_ ?_ ?_ ?_ ?_
    ·exact cV q2
    ·exact cV q3
    ·exact cV q5
    ·exact cV q4
    ·exact cV q7
    ·exact cV q8
    ·exact cV JV
    ·exact dS
    ·exact dS
  ·refine qx JV q11 ?_
   refine⟨_,_,_,f,rfl,⟨⟨?_,?_,?_,g4,?_⟩,?_,?_,g9,o1,o2,o3,?_⟩,hF,trivial⟩
   ·exact cV q2
   ·exact cV q3
   ·exact cV q5
   ·exact cV q4
   ·exact cV q7
   ·exact cV q8
   ·exact cV q9
 ·refine⟨_,_,_,f,rfl,⟨⟨?_,?_,?_,g4,?_⟩,?_,?_,g9,o1,o2,o3,?_⟩,hF,?_,?_,by rw[qu];rfl⟩
  ·exact cV q2
  ·exact cV q3
  ·exact cV q5
  ·exact cV q4
  ·exact cV q7
  ·exact cV q8
  ·exact cV q9
  ·exact cV JV
  ·exact dS
def Zl{c:Cc}{K:aa}(h:CH c p0 K){i:Int}{s:AS}(hs:FmP c K so b many i (fun _ _=>True) s) :
  W A ((wQ.post 2).pre 0) s (andThen (FmP c K so b many i (fun _ _=>True)) Q):=by
 obtain⟨T,p,g,f,rfl,⟨⟨q2,q3,q5,g4,q4⟩,q7,q8,g9,o1,o2,o3,q9⟩,hF, -⟩:=hs;unfold wQ JU;simp only[aG.sub,aG.pre,aG.post];have fin:∀ (T' : az) (p' : Int) (g' : Nat) (f' : Fm) (o1 o2:Bool),T' 2=.lbox 0 [.str [],.slice [] true,.slice [] true,.slice [] true,.str []]->T' 3=.ref c.mm 0->T' 5=.bool b->T' 4=.lbox g4 [.str so.name,.slice (strs so.gZ) true,.slice (so.defs.map bJ) true,.slice (strs so.head) true,.str so.fin]->T' 7=.int .i64 many->T' 8=.int .i64 i ->
   T' 9=.lbox g9 [.int .i64 f'.kind,.str f'.name,.slice (f'.bI.map dc) true,.str f'.rn,.slice (aM f'.rk) o1,.int .i64 f'.body.kind,.int .i64 f'.body.n,.str f'.body.name,.str f'.body.field,.str f'.body.wn,.slice (aM f'.body.wk) o2,.slice (aF f'.body.kids) o2,.slice (strs f'.body.names) o2,.slice (strs f'.layout) o3]->Th 4 f'->FmP c K so b many i (fun _ _=>True) ⟨T',cT c p' K,c.mm,g'⟩ :=
  fun T' p' g' f' o1 o2 r2 r3 r5 r4 r7 r8 r9 hf=>⟨_,_,_,f',rfl,⟨⟨r2,r3,r5,g4,r4⟩,r7,r8,g9,o1,o2,o3,r9⟩,hf,trivial⟩
 by_cases k0:f.kind=0
 ·refine nL1 q9 ?_
  refine fin _ _ _ f o1 o2 ?_ ?_ ?_ ?_ ?_ ?_ ?_ hF
  all_goals exact vO7 q2 q3 q4 q5 q7 q8 q9
 by_cases k1:f.kind=1
 ·refine nL1 q9 ?_
  refine fin _ _ _ f o1 o2 ?_ ?_ ?_ ?_ ?_ ?_ ?_ hF
  all_goals exact vO7 q2 q3 q4 q5 q7 q8 q9
 obtain⟨w,p1,wb,e1⟩:=adD h p;obtain⟨t,p2,tb,e2⟩:=ad3 h p1 4 af;rw[show ((4:Nat):Int)=4 from rfl] at e2
 obtain⟨u,p3,ub,e3⟩:=ad3 h p2 0 af;rw[show ((0:Nat):Int)=0 from rfl] at e3
 have BY:Th 4 { f with rn:=w.name,rk:=w.kids,body:=t }:=⟨hF.k,hF.a,hF.sl,hF.sb,by cases w;exact wb,tb,hF.ll,hF.lb⟩
 have KO:Th 4 { f with rn:=w.name,rk:=w.kids,body:=u }:=⟨hF.k,hF.a,hF.sl,hF.sb,by cases w;exact wb,ub,hF.ll,hF.lb⟩
 have e4:=Jj (BY.B af) (cT c p2 K);rw[bJ] at e4;simp only at e4;refine l9 q3 q9 e1 e2 e4 (j2 @bu @Nat.lt_irrefl) ?_;refine ju ?_ ?_<;>intro hlen
 ·refine ry q3 e3 @Nat.lt_irrefl ?_
  refine fin _ _ _ { f with rn:=w.name,rk:=w.kids,body:=u } false false ?_ ?_ ?_ ?_ ?_ ?_ ?_ KO
  all_goals exact vO6 q2 q3 q4 q5 q7 q8
 ·refine Ce ?_
  refine fin _ _ _ { f with rn:=w.name,rk:=w.kids,body:=t } false false ?_ ?_ ?_ ?_ ?_ ?_ ?_ BY
  all_goals exact vO6 q2 q3 q4 q5 q7 q8
def Tg(c:Cc)(K:aa)(b:Bool)(many i:Int)(nd:Nat)(s:AS):Prop:=∃ T p g so,s=⟨T,cT c p K,c.mm,g⟩/\SA c so b T/\MA 4 so/\T 7=.int .i64 many/\T 8=.int .i64 i/\so.defs.length=nd
theorem aeS{c:Cc}{K:aa}(h:CH c p0 K)(hG:MA 4 so)(hd:so.defs.length<3){i:Int}{s:AS}(hs:FmP c K so b many i (fun _ _=>True) s)
  (hR:∀ s',Tg c K b many i (so.defs.length+1) s'->R s'):W A (wQ.post 3) s (andThen R Q):=by
 obtain⟨T,p,g,f,rfl,⟨⟨q2,q3,q5,g4,q4⟩,q7,q8,g9,o1,o2,o3,q9⟩,hF, -⟩:=hs;unfold wQ JU;simp only[aG.sub,aG.post];have FZ:∀ f',Th 4 f'->MA 4 { so with defs:=so.defs++[f'] }:=fun f' hf=>⟨hG.a,hG.ul,hG.ub,df,fun v hv=>by
  rcases aw9.1 hv with hv|hv
  ·exact hG.db v hv
  ·rw[axi.1 hv];exact hf,hG.hl,hG.hb,hG.e⟩
 have fin:∀ (T' : az) (p' : Int) (g' : Nat) (f' : Fm),Th 4 f'->T' 2=.lbox 0 [.str [],.slice [] true,.slice [] true,.slice [] true,.str []]->T' 3=.ref c.mm 0->T' 5=.bool b->T' 4=.lbox g4 [.str so.name,.slice (strs so.gZ) true,.slice ((so.defs++[f']).map bJ) true,.slice (strs so.head) true,.str so.fin]->T' 7=.int .i64 many->T' 8=.int .i64 i->R ⟨T',cT c p' K,c.mm,g'⟩ :=
  fun T' p' g' f' hf r2 r3 r5 r4 r7 r8=>hR _ ⟨_,_,_,{ so with defs:=so.defs++[f'] },rfl,⟨r2,r3,r5,g4,r4⟩,FZ f' hf,r7,r8,ae⟩
 cases b with
 | false =>
  have a1:=TA (l:=so.defs) (f:=f) (o:=true) af;refine nM (j4 q4 q5 q9 a1) ?_;refine fin _ _ _ f hF ?_ ?_ ?_ ?_ ?_ ?_
  all_goals exact Ac q2 q3 q5 q7 q8 tv
 | true =>
  have hB:=hF.B af;have e4:=Jj hB (cT c p K);rw[bJ] at e4;obtain⟨x,bs,out,p1,p2,ol,ob,e1,e2,e3⟩:=alV h p (mf f).length (by have:=HG hB;omega)
  have a1:=TA (l:=so.defs) (f:={ f with layout:=out }) (o:=true) af
  simp only at a1;refine nM (j3 (j5 q3 q4 q5 q9 e1) (j5 e2 e3 e4 @bu a1) @Nat.lt_irrefl) ?_;refine fin _ _ _ { f with layout:=out } ⟨hF.k,hF.a,hF.sl,hF.sb,hF.w,hF.b,by simp only;omega,ob⟩ ?_ ?_ ?_ ?_ ?_ ?_
  all_goals exact Ac q2 q3 q5 q7 q8 tv
theorem pK:∀ (n:Nat) (c:aG),(c.post n).post 0=c.post (n+1)
 | 0,.seq a b=>by cases b<;>rfl
 | n+1,.seq a b=>pK n b
 | n,.skip|n,.region ..|n,.rD ..|n,.cond ..|n,.block ..|n,.loop ..|n,.exit ..|n,.ret=>by cases n<;>rfl
theorem aeR{c:Cc}{K:aa}(h:CH c p0 K)(hG:MA 4 so)(hd:so.defs.length<3){i:Int}(hs:SA c so b T)(h7:T 7=.int .i64 many)(h8:T 8=.int .i64 i)
  (hR:∀ s',Tg c K b many i (so.defs.length+1) s'->R s'):W A wQ ⟨T,cT c p K,c.mm,g⟩ (andThen R Q):=by
 refine iC 1 _ (UO h hs h7 h8) fun s1 h1=>?_
 refine iC 0 _ (UN h h1) fun s2 h2=>?_
 rw[pK];refine iC 0 _ (Zl h h2) fun s3 h3=>?_
 grind [pK,aeS]
def abE{c:Cc}{K:aa}(h:CH c p0 K){s:AS}(hs:∃ n:Nat,n<=3/\s.T 7=.int .i64 n/\SmP c K b (fun so'=>so'.defs=[]) s) :
  W A ((JU.body.post 6).pre 0) s (andThen (SmP c K b (fun _=>True)) Q):=by
 obtain⟨n,hn,q7,T,p,g,so,rfl,⟨q2,q3,q5,g4,q4⟩,hG,hd⟩:=hs;unfold JU;simp only[aG.post,aG.pre];simp only at q7;refine Ce ?_;have AK:∀ {T:az} {T' : az},SA c so b T->T' 2=T 2->T' 3=T 3->T' 4=T 4->T' 5=T 5->SA c so b T':=fun h a2 a3 a4 a5=>by
  obtain⟨q2,q3,q5,g4,q4⟩:=h;exact⟨a2.trans q2,a3.trans q3,a5.trans q5,g4,a4.trans q4⟩
 refine bK n 2 (fun i s=>Tg c K b n i i s) (SmP c K b (fun _=>True)) (fun _=>False) ?_ (fun s hs=>hs) (fun _ h=>h.elim) 0 _ af ?_
 ·rintro i s hi ⟨T,p,g,so,rfl,Yi,hG,q7,q8,hl⟩
  have AK:∀ {T T' : az} {so:So},SA c so b T->T' 2=T 2->T' 3=T 3->T' 4=T 4->T' 5=T 5->SA c so b T':=fun h a2 a3 a4 a5=>by
   obtain⟨q2,q3,q5,g4,q4⟩:=h;exact⟨a2.trans q2,a3.trans q3,a5.trans q5,g4,a4.trans q4⟩
  by_cases hc:i<n
  ·refine yu (fun s'=>∃ T g,s'=⟨T,cT c p K,c.mm,g⟩/\SA c so b T/\T 7=.int .i64 n/\T 8=.int .i64 i) ?_ ?_
   ·refine qx q7 q8 ?_
    refine⟨_,_,rfl,AK Yi ?_ ?_ ?_ ?_,?_,?_⟩
    all_goals exact XX q7 q8
   ·rintro s' ⟨T,g,rfl,Yi,q7,q8⟩
    refine yu (Tg c K b n i (i+1)) ?_ ?_
    ·rw[H4]
     refine uH (c:=wQ) (aeR h hG af Yi q7 q8 (R:=Tg c K b n i (i+1)) (Q:=fun _ _=>False) (fun s h=>by rw[hl] at h;exact h)) ?_
     intro e s hs;cases e with
     | normal=>exact hs
     | _=>exact hs.elim
    ·rintro s' ⟨T,p,g,so,rfl,Yi,hG,q7,q8,hl⟩
     refine P9 q8 ?_;refine⟨hc,_,_,_,so,rfl,AK Yi ?_ ?_ ?_ ?_,hG,?_,?_,hl⟩
     all_goals exact cV q7
  ·refine qx q7 q8 ?_
   refine⟨_,_,_,so,rfl,AK Yi ?_ ?_ ?_ ?_,hG,trivial⟩
   all_goals exact dS
 ·refine⟨_,_,_,so,rfl,AK ⟨q2,q3,q5,g4,q4⟩ ?_ ?_ ?_ ?_,hG,?_,?_,by rw[hd];rfl⟩
  all_goals exact cV q7
def aoE{x:Int}(h0:0<=x)(h1:x<4):∃ s:av,s.length<=1100000/\([[.str []],[.str [32]],[.str [35,32,101,110,100]],[.str [10,10]]]:List (List AV))[x.toNat]?=some [.str s]:=by
 have:x.toNat=0\/x.toNat=1\/x.toNat=2\/x.toNat=3:=af
 rcases this with e|e|e|e<;>rw[e]<;>exact⟨_,aB,rfl⟩
def Xt{c:Cc}{K:aa}(h:CH c 0 K)(hK:K.take c.mm=K.take c.mm){s:AS}(hs:SmP c K b (fun _=>True) s) :
  W A (JU.body.post 7) s (Bu c.mm [.cell 2 true 5] fun x=>∃ so,MA 4 so/\(nC x.1,x.2)=(.agg (mz so),none)):=by
 obtain⟨T,p,g,so,rfl,⟨q2,q3,q5,g4,q4⟩,hG, -⟩:=hs;unfold JU;simp only[aG.post];have NVr:=@D6;cases b with
 | true =>
  obtain⟨x,p1,x0,x1,e1⟩:=I' h p 4 af;obtain⟨e,el,ee⟩:=aoE x0 x1;refine l9 q2 q3 q4 q5 (j3 e1 ee @Nat.lt_irrefl) (j5 @cr @cq @dR @D6 @adK) ?_;exact⟨{ so with fin:=e },⟨hG.a,hG.ul,hG.ub,hG.dl,hG.db,hG.hl,hG.hb,el⟩,rfl⟩
 | false =>
  refine l9 q2 q4 q5 @cr @cq (j3 @dR @D6 @adK) ?_;exact⟨so,hG,rfl⟩
theorem Xs(l:List Int)(hl:∀ n∈l,CU n)(H:aa):∃ so,MA 4 so/\ai A 6 [.slice (ints l) false] H=some (.agg (mz so),none):=by
 have key:∃ r,ai A 6 [.slice (ints l) false] H=some r/\∃ so,MA 4 so/\r=(.agg (mz so),none):=by
  obtain⟨c,hc⟩:∃ c:Cc,c=⟨H.length,l⟩:=⟨_,rfl⟩;obtain⟨K,hK⟩:∃ K,K=H++[.box 60 [.slice (ints l) false,.int .i64 0]]:=⟨_,rfl⟩;have hcm:c.mm=H.length:=by rw[hc]
  have h:CH c 0 K:=⟨by rw[hcm,hK];rw[hc];exact mR,by rw[hc];exact hl,by rw[hcm,hK];simp⟩
  have hs0:cT c 0 K=K:=by
   unfold cT;refine ayq fun j=>?_
   rw[axI];split
   ·rename_i e;subst e;rw[if_pos h.lt,h.h0]
   ·rfl
  obtain⟨u,p1,ul,e1⟩:=Qb h 0;rw[hs0] at e1;obtain⟨x,p2,x0,x1,e2⟩:=I' h p1 2 af;refine nQ (fn:=JU) rfl rfl rfl rfl ?_;rw[<- hcm];refine iC 3 (fun s=>∃ T p g b so,s=⟨T,cT c p K,c.mm,g⟩/\SA c so b T/\MA 4 so/\so.gZ=[]/\so.defs=[]) ?_ ?_
  ·unfold JU
   simp only[aG.pre];have hK' : H++[bG.box 60 [.slice (ints l) false,.int .i64 0]]=K:=hK.symm;simp(disch:=omega)only[dJ,ab,simprocAttr,<- hcm,hK',e1,e2,dW,ayL];refine⟨_,_,_,x==1,⟨u,[],[],[],[]⟩,rfl,⟨?_,?_,?_,1,?_⟩,⟨ul,ae,ae,ae,ae,ae,ae,ae⟩,rfl,rfl⟩
   all_goals exact cV mh
  ·rintro s ⟨T,p,g,b,so,rfl,Yi,hG,hu,hd⟩
   refine iC 0 _ (abG h Yi hG hu hd) fun s1 h1=>?_
   rw[pK];refine iC 1 _ (abF h h1) fun s2 h2=>?_
   have e:(JU.body.post 4).post 1=JU.body.post 6:=rfl;rw[e];refine iC 0 _ (abE h h2) fun s3 h3=>?_
   rw[pK];exact Xt h rfl h3
 grind
def ox : ∀ {rows:List (List AV)},(∀ r∈rows,r.length=z)->rows.flatten.length=rows.length*z
 | [],_=>ae
 | r :: rows,h=>by
  rw[axw,List.length_append,ox (fun r hr=>h r (ax8 _ hr)),h r (List.mem_cons_self ..),List.length_cons,axT,azc,azw]
def AB : ∀ {rows:List (List AV)} {i:Nat} {r:List AV} (j:Nat),(∀ r∈rows,r.length=z)->rows[i]?=some r->j<=z->rows.flatten.drop (i*z+j)=r.drop j++(rows.drop (i+1)).flatten
 | [],i,r,j,_,hi,_=>by simp at hi
 | a :: rows,0,r,j,h,hi,hj=>by
  simp only[axl,aw2] at hi;subst hi;have ha:=h a (List.mem_cons_self ..);rw[ay',axC,axw,ayW af];rfl
 | a :: rows,i+1,r,j,h,hi,hj=>by
  have ha:=h a (List.mem_cons_self ..);have e:(i+1)*z+j=a.length+(i*z+j):=by rw[axT,azc,ha];omega
  rw[e,axw,<- ax6,ayu rfl,AB j (fun r hr=>h r (ax8 _ hr)) (cJ hi) hj]
  rfl
def Ru(h:∀ r∈rows,r.length=z)(hi:rows[i]?=some r)(hj:j<z):rows.flatten[i*z+j]?=r[j]?:=by
 have hr:=h r (axc hi);have:=AB j h hi (ayD hj)
 have e:rows.flatten[i*z+j]?=(rows.flatten.drop (i*z+j))[0]?:=by rw[ax9];rfl
 rw[e,this,axd (by rw[axD];omega),ax9]
 rfl
def Rv{sz:Nat}{agg:Bool}(h:∀ r∈rows,r.length=z)(hi:rows[i]?=some r)(hz:0<z)(hj:j+sz<=z)(hjz:j<z) :
  ah false agg sz (i*z+j) rows.flatten=ah false agg sz j r:=by
 have hr:=h r (axc hi);have aP:=(aw5.1 hi).1;have hl:rows.flatten.length=rows.length*z:=ox h;have hb:i*z+z<=rows.length*z:=by rw[<- Nat.succ_mul];exact axg _ aP
 cases agg with
 | true =>
  simp only[ah,cond_true,hl,hr,axH (show i*z+j+sz<=rows.length*z by omega),axH hj]
  rw[AB j h hi af,ayF (by rw[axD];omega)]
 | false =>
  simp only[ah,cond_false];rw[Ru h hi hjz]
def KH : ∀ {rows:List (List AV)} {i j:Nat} {r cs:List AV},(∀ r∈rows,r.length=z)->rows[i]?=some r->j+cs.length<=z->putAt rows.flatten (i*z+j) cs=(rows.set i (putAt r j cs)).flatten
 | [],i,j,r,cs,_,hi,_=>by simp at hi
 | a :: rows,0,j,r,cs,h,hi,hj=>by
  simp only[axl,aw2] at hi;subst hi;have ha:=h a (List.mem_cons_self ..);simp only[putAt,ay',axC,axw,azo];rw[ayF af,ayW af];simp only[axf]
 | a :: rows,i+1,j,r,cs,h,hi,hj=>by
  have ha:=h a (List.mem_cons_self ..);have ih:=KH (j:=j) (cs:=cs) (fun r hr=>h r (ax8 _ hr)) (cJ hi) hj
  have e:(i+1)*z+j=a.length+(i*z+j):=by rw[axT,azc,ha];omega
  simp only[axw,ay9,<- ih];simp only[putAt,e];rw[List.take_length_add_append,azr,List.drop_length_add_append];simp only[axf]
def Br : ∀ {rows:List (List AV)},(∀ r∈rows,r.length=z)->chunks z rows.length rows.flatten=rows
 | [],_=>rfl
 | r :: rows,h=>by
  have hr:=h r ae;rw[List.length_cons,chunks,axw,<- hr,ayv rfl,ayu rfl,hr,Br fun r hr=>h r (yd hr)]
def O5{cs:List AV}{agg:Bool}{sz off:Nat} : bN (some (.bR cs)) agg sz off=ah false agg sz off cs:=rfl
def Ss{base:Nat}(h:x.plain=true):x.bp base=true:=by
 cases x<;>first|(simp[AV.plain] at h;done)|exact h
def aaI{H:aa}{base k:Nat}(h:x.bp base=true):fP H base k x=x:=by
 cases k with
 | zero=>rfl
 | succ k =>
  cases x with
  | sref l o n z =>
   have:Nat.ble base l=false:=by
    simp only[AV.bp,axp] at h;cases hb:Nat.ble base l with
    | false=>rfl
    | true=>rw[axv] at hb;omega
   simp only[fP,this,cond_false]
  | _=>rfl
def M1(x:AV):x.drop.drop=x.drop:=by cases x<;>rfl
def yO(cs:List AV):(cs.map AV.drop).map AV.drop=cs.map AV.drop:=by
 rw[List.map_map];exact List.map_congr_left fun x _=>M1 x
def Cr{base tc tr n:Nat}{s:AS}{out:List AV}{r:Int}(hr:fn.results=[.cell tc true n,.tmp tr])(m8:fn.muts.elem 888888=false)(m7:fn.muts.elem 777777=true)
  (hT:s.T tc=.lbox g cs) (hR:s.T tr=.int .i64 r) (hn:cs.length=n) (yp:s.lo=base) (gI:((cs.map AV.drop).map (fP s.H base 3)).all AV.plain=true) (ho:((cs.map AV.drop).map (fP s.H base 3)).map n2=out) :
  finish base fn s=some (.tuple [.agg out,.int .i64 r],none):=by
 have h1:kg base s=true:=by simp[kg,yp]
 have hc:iP s (.cell tc true n)=some (.agg (cs.map AV.drop)):=by
  simp only[iP,hT,ah,cond_true,axC,hn,axH (Nat.le_refl _),List.drop_zero];rw[<- hn,axz]
 have ht:iP s (.tmp tr)=some (.int .i64 r):=by simp only[iP,hR,aO,cond_true]
 have dQ:lS s [.cell tc true n,.tmp tr]=some [.agg (cs.map AV.drop),.int .i64 r]:=by
  simp only[lS,hc,ht,aw7,axa,AV.cU,yO,AV.drop]
 have h3:mj base fn s=some (.tuple [.agg ((cs.map AV.drop).map (fP s.H base 3)),.int .i64 r],none):=by
  unfold mj qM o7;rw[h1,m8,hr];simp only[cond_true,cond_false];cases hl:(cs.map AV.drop).all (AV.bp base) with
  | true =>
   have e:(cs.map AV.drop).map (fP s.H base 3)=cs.map AV.drop:=by
    conv=>rhs;rw[<- azU (cs.map AV.drop)]
    exact List.map_congr_left fun x hx=>aaI (aw8.1 hl x hx)
   have h0:iF base [.cell tc true n,.tmp tr] s=some (.tuple [.agg (cs.map AV.drop),.int .i64 r],none):=by
    simp only[iF,mJ,dQ,axa,aw7,AV.leaves,List.all_cons,List.all_nil,AV.dU,AV.bp,AV.plain,hl,axX,cond_true,yp,ayP]
   rw[h0,e]
  | false =>
   have h0:iF base [.cell tc true n,.tmp tr] s=none:=by
    simp only[iF,mJ,dQ,axa,aw7,AV.leaves,List.all_cons,List.all_nil,AV.dU,AV.bp,AV.plain,hl,axt,cond_false]
   have hp:qZ base [.cell tc true n,.tmp tr] s=none:=by
    have q:rr s base [.cell tc true n,.tmp tr]=none:=by
     have q1:oR s (.cell tc true n)=none:=rfl;rw[rr];cases rr s base [.tmp tr] with
     | none=>rfl
     | some q=>simp only[aw7,q1,hc,AV.cU,yO,AV.dU,hl,cond_false]
    simp only[qZ,q,Option.bind_none];rfl
   have hf:tA base [.cell tc true n,.tmp tr] s=some (.tuple [.agg ((cs.map AV.drop).map (fP s.H base 3)),.int .i64 r],none):=by
    have hx:((cs.map AV.drop).map (fP s.H base 3)).all (AV.bp base)=true:=by
     rw[aw8] at gI ⊢;exact fun x hx=>Ss (gI x hx)
    simp only[tA,wq,dQ,axa,aw7,axe,axB,Nj,AV.leaves,List.all_cons,List.all_nil,AV.dU,hx,axX,yp,ayP,cond_true,show fP s.H base 3 (.int .i64 r)=.int .i64 r from rfl,AV.bp,AV.plain]
   rw[h0,hp,hf]
 unfold finish;rw[h3,axa,D5 m7,ahc];simp only[axe,axB,agS,agT,ho]
def h2a{H:aa}{b:bG} : (H++[a,b])[H.length]?=some a:=ae
def h2b{H:aa}{b:bG} : (H++[a,b])[H.length+1]?=some b:=by rw[List.getElem?_append_right af];simp
def h2t{H:aa}{b:bG} : (H++[a,b]).take H.length=H:=ae
def s2b{H:aa}{b c:bG} : (H++[a,b]).set (H.length+1) c=H++[a,c]:=by
 rw[List.set_append_right _ _ af];simp
def h3a{H:aa}{b c:bG} : (H++[a,b,c])[H.length]?=some a:=ae
def h3c{H:aa}{b c:bG} : (H++[a,b,c])[H.length+2]?=some c:=by rw[List.getElem?_append_right af];simp
def h3t{H:aa}{b c:bG} : (H++[a,b,c]).take H.length=H:=ae
def l2{H:aa}{b:bG} : (H++[a,b]).length=H.length+2:=ae
def l1{H:aa} : (H++[a]).length=H.length+1:=ae
def abY{l:List Tm} : fZ 8 (aF l)=true:=by
 cases l with
 | nil=>simp[aF,fZ]
 | cons a r=>simp only[aF,fZ,azz,axa,ax0,ja];rfl
def Nt{H L:aa}{b:bG} : (H++a :: L).set H.length b=H++b :: L:=ae
def hgl{H L:aa}{a:bG} : (H++a :: L).length=H.length+1+L.length:=df
def aj1:A.aX 3=fg.map .str:=rfl
def aj2:A.aX 1=[.func (.func 94) [] [],.func (.func 191) [] [],.func (.func 192) [] [],.func (.func 192) [] []]:=rfl
def aj3:A.aX 2=mL.map .str:=rfl
theorem vf{c:UInt8} : kT c=decide (kindOf c=1):=by
 unfold kindOf
 grind
def xV{c:UInt8} : isDigit c=decide (kindOf c=2):=by
 unfold kindOf;cases h:kT c<;>cases h2:isDigit c<;>simp
 simp only[kT,isDigit,ayt,aw4,aw'] at h h2;omega
def ph(s:av):List av->Nat
 | []=>0
 | x :: r=>if x.isPrefixOf s then x.length else ph s r
theorem zO{b:UInt8}{r:av} : ∀ l:av,ph (b :: r) (l.map fun x=>[x])=if l.contains b=true then 1 else 0
 | []=>rfl
 | x :: l=>by
  simp only[axe,ph,List.isPrefixOf,axX,ayJ,ayt,zO l,List.length_cons,List.length_nil]
  grind
theorem Ma{b:UInt8}{r:av}(h:kindOf b=0):ph (b :: r) mL=fW (b :: r):=by
 simp only[fW];rw[if_neg af];have pH:kU [b]=nY.contains b:=by unfold kU;simp
 rw[pH];have two:(1<=r.length/\kU ((b :: r).take 2)=true)↔([61,61].isPrefixOf (b :: r)=true\/[45,62].isPrefixOf (b :: r)=true):=by
  cases r with
  | nil=>simp[List.isPrefixOf]
  | cons c r' =>
   simp only[axJ,axQ,kU,List.isPrefixOf,List.length_cons,List.length_nil];simp
   grind
 have e:mL=[61,61] :: [45,62] :: (nY.map fun x=>[x]):=rfl
 rw[e];simp only[ph,zO]
 grind
def Jv(s:av)(H:aa)(h0' : s≠[])(hs:s.length<=4611686018427387904):ai A 55 [.str s] H=some (.int .i64 (fW s),none):=by
 refine cW alC.eq_1 ?_
 obtain⟨b,r,wY⟩:∃ b r,s=b :: r:=by cases s with|nil=>exact absurd rfl h0'|cons b r=>exact⟨b,r,rfl⟩
 have hb:s[0]?=some b:=by rw[wY];rfl
 have hd:s.drop 1=r:=by rw[wY];rfl
 refine Yn @aj2 ?_;cases hl:kT b with
 | true =>
  have hk:kindOf b=1:=by rw[vf] at hl;simpa using hl
  refine yw ?_;refine I6 hb @rW hl (j2 @putAt.eq_1 @aW.eq_1) ?_;refine bK s.length 2 (fun i=>Hd (fun T=>T 0=.str s/\T 4=.lbox 0 [.func (.func 94) [] [],.func (.func 191) [] []]/\T 5=.int .i64 i/\1<=i/\1+cS 1 r=i+cS 1 (s.drop i)) H H.length 1)
   (Hd (fun T=>T 5=.int .i64 ((1+cS 1 r:Nat):Int)) H H.length 1) (fun _=>False) ?_ ?_ (fun _ h=>h.elim) 1 _ (by rw[wY];simp) ?_
  ·rintro i st hi gP
   obtain⟨T,rfl,h0,h4,h5,S6,hc⟩:=gP.out
   by_cases h:i<s.length
   ·rw[axk h] at hc
    have B3:s[i]?=some s[i]:=aw3 h;generalize s[i]=c at hc B3;simp only[cS,ax'] at hc;have he:(kT c || isDigit c)=decide (kindOf c=2\/kindOf c=1):=by rw[vf,xV];by_cases e1:kindOf c=1<;>by_cases e2:kindOf c=2<;>simp[e1,e2]
    by_cases iX:kindOf c=2\/kindOf c=1
    ·rw[if_pos iX] at hc
     refine Ac h0 h4 h5 B3 (j3 @Kp he iX) ?_;omega
    ·rw[if_neg iX] at hc
     refine Ac h0 h4 h5 B3 (j3 @Kp he iX) ?_;omega
   ·have:i=s.length:=af
    subst this;rw[ayy] at hc;simp only[cS] at hc;refine nO3 h0 h4 h5 ?_;omega
  ·intro st gP
   obtain⟨T,rfl,h5⟩:=gP.out;have ht:fW s=if 16<1+cS 1 r then 0 else 1+cS 1 r:=by rw[wY];simp only[fW,hk,if_pos (show (0:Int)<1 by omega)]
   by_cases h16:16<1+cS 1 r
   ·rw[if_pos h16] at ht
    exact XX h5 ht
   ·rw[if_neg h16] at ht
    exact XX h5 ht
  ·exact vE1 hd
 | false =>
  refine yw ?_;refine I6 hb @rW hl (j2 @putAt.eq_1 @aW.eq_1) ?_;refine yw ?_;cases Nw:isDigit b with
  | true =>
   have hk:kindOf b=2:=by rw[xV] at Nw;simpa using Nw
   refine I6 hb @yL Nw (j2 @putAt.eq_1 @aW.eq_1) ?_;refine bK s.length 2 (fun i=>Hd (fun T=>T 0=.str s/\T 4=.lbox 1 [.func (.func 192) [] [],.func (.func 192) [] []]/\T 5=.int .i64 i/\1<=i/\1+cS 2 r=i+cS 2 (s.drop i)) H H.length 2)
    (Hd (fun T=>T 5=.int .i64 ((1+cS 2 r:Nat):Int)) H H.length 2) (fun _=>False) ?_ ?_ (fun _ h=>h.elim) 1 _ (by rw[wY];simp) ?_
   ·rintro i st hi gP
    obtain⟨T,rfl,h0,h4,h5,S6,hc⟩:=gP.out
    by_cases h:i<s.length
    ·rw[axk h] at hc
     have B3:s[i]?=some s[i]:=aw3 h;generalize s[i]=c at hc B3;simp only[cS,show ((2:Int)=1)=False by simp,and_false,ays] at hc
     have he:isDigit c=decide (kindOf c=2):=xV
     by_cases iX:kindOf c=2
     ·rw[if_pos iX] at hc
      refine Ac h0 h4 h5 B3 (j3 @yL he iX) ?_;omega
     ·rw[if_neg iX] at hc
      refine Ac h0 h4 h5 B3 (j3 @yL he iX) ?_;omega
    ·have:i=s.length:=af
     subst this;rw[ayy] at hc;simp only[cS] at hc;refine nO3 h0 h4 h5 ?_;omega
   ·intro st gP
    obtain⟨T,rfl,h5⟩:=gP.out;have ht:fW s=if 16<1+cS 2 r then 0 else 1+cS 2 r:=by rw[wY];simp only[fW,hk,if_pos (show (0:Int)<2 by omega)]
    by_cases h16:16<1+cS 2 r
    ·rw[if_pos h16] at ht
     exact XX h5 ht
    ·rw[if_neg h16] at ht
     exact XX h5 ht
   ·exact vE1 hd
  | false =>
   have hk:kindOf b=0:=by unfold kindOf;rw[hl,Nw];rfl
   refine I6 hb @yL Nw (j2 @putAt.eq_1 @aW.eq_1) ?_;refine yw ?_;refine Yn @aj3 ?_;refine ad0 (.agg (mL.map .str)) cB ?_;refine N6 ?_;have aqc:ph s mL=fW s:=by rw[wY];exact Ma hk
   have h18:mL.length=18:=rfl;refine bK 18 4 (fun i=>Hd (fun T=>T 0=.str s/\T 36=.agg (mL.map .str)/\T 37=.int .i64 i/\fW s=ph s (mL.drop i)) H H.length 2)
    (Hd (fun T=>fW s=0) H H.length 2) (Hd (fun T=>T 2=.int .i64 (fW s)) H H.length 2) ?_ ?_ ?_ 0 _ af ?_
   ·rintro i st hi gP
    obtain⟨T,rfl,h0,h36,h37,hc⟩:=gP.out
    by_cases h:i<18
    ·have j6:i<mL.length:=by rw[h18];exact h
     have hx:(mL.map AV.str)[i]?=some (.str mL[i]):=by rw[List.getElem?_map,aw3 j6];rfl
     rw[axk j6] at hc;simp only[ph] at hc;generalize mL[i]=x at hc hx;cases hp:x.isPrefixOf s with
     | true =>
      rw[if_pos hp] at hc;refine Ac h0 h36 h37 @Nat.mul_one (j3 hx @BA hp) ?_;omega
     | false =>
      rw[if_neg (yd hp)] at hc;refine Ac h0 h36 h37 @Nat.mul_one (j3 hx @BA hp) ?_;exact⟨h,hc⟩
    ·have:i=18:=af
     subst this;rw[show mL.drop 18=[] from rfl] at hc
     simp only[ph] at hc;exact XX h37 hc
   ·intro st gP
    obtain⟨T,rfl,hc⟩:=gP.out;exact vE1 hc
   ·intro st gP
    obtain⟨T,rfl,hc⟩:=gP.out;exact vE1 hc
   ·exact vE1 aqc
def QH(s:av)(H:aa)(hs:s.length<=4611686018427387904):ai A 57 [.str s] H=some (.bool (isWord s),none):=by
 refine cW alD.eq_1 ?_;cases wY:s with
 | nil=>exact Yn @isWord.eq_1 tv
 | cons b r =>
 rw[<- wY];have da:s≠[]:=by rw[wY];simp
 have hl:(s==[])=false:=cJ da;have h27:fg.length=27:=rfl;have hb:s[0]?=some b:=by rw[wY];rfl
 have hw:isWord s=(decide (kindOf b=1)&&!fg.contains s&&decide (fW s=s.length)):=by rw[wY];rfl
 have hk:=vf (c:=b);rw[hw]
 by_cases Aa:kindOf b=1
 ·by_cases ht:fW s=s.length
  ·exact Ac hl hb @rW (j2 hk Aa) (j5 (Jv s H da hs) ht @aj1 h27 (MZ fg s H af)) tv
  ·exact vO7 hl hb rW hk Aa (Jv s H da hs) ht
 ·exact vO5 hl hb rW hk Aa
def aqC(s:av)(c:UInt8)(H:aa):ai A 114 [.str s,.int .u8 c.toNat] H=some (.int .i64 (cw c.toNat 0 s),none):=by
 refine fC (A:=A) (f:=114) rfl ?_;have h1:decide ((0:Int)<=c.toNat)=true:=ae;have h2:decide ((c.toNat:Int)<256)=true:=by have:=c.toNat_lt;simp;omega
 simp only[ik,h1,h2,Bool.and_self,cond_true]
def adB(s:av)(c:UInt8)(H:aa)(hs:s.length<=10000000):ai A 147 [.str s,.str [c]] H=some (.int .i64 (cw c.toNat 0 s),none):=by
 refine cW adz.eq_1 ?_;have hib:=aqC s c H;cases h:(([c]:av)==s) with
 | true =>
  have e:s=[c]:=(axL.1 h).symm;subst e;have:cw (c.toNat:Int) 0 [c]=0:=by simp[cw]
  rw[this];exact sH
 | false =>
  exact My h hib
def aqL(s:av)(c:UInt8)(H:aa)(hs:s.length<=10000000):ai A 129 [.str s,.str [c]] H=some (.int .i64 (cw c.toNat 0 s),none):=by
 have h:=adB s c H hs;refine cW adt.eq_1 ?_;exact n8 h
def Bt(s:av)(c:UInt8)(H:aa)(hs:s.length<=10000000):ai A 105 [.str s,.str [c]] H=some (.bool (decide (0<=cw c.toNat 0 s)),none):=by
 have h:=aqL s c H hs;refine cW adi.eq_1 ?_;exact n8 h
theorem AH:∀ (s:av) (k:Nat),((aU s).2.2=true->cw 46 k s=k+(aU s).1.length/\s=(aU s).1++46 :: (aU s).2.1)/\((aU s).2.2=false->cw 46 k s=-1)
 | [],k=>⟨fun h=>by simp[aU] at h,fun _=>rfl⟩
 | b :: r,k=>by
  by_cases hb:b.toNat=46
  ·have e:b=46:=UInt8.toNat_inj.1 hb
   subst e;refine⟨fun _=>?_,fun h=>by simp[aU] at h⟩
   simp[aU,cw]
  ·have hi:cw 46 k (b :: r)=cw 46 (k+1) r:=by
    have:decide ((b.toNat:Int)=46)=false:=df
    rw[cw,this,cond_false]
   have hf:aU (b :: r)=(b :: (aU r).1,(aU r).2.1,(aU r).2.2):=by rw[aU,if_neg hb]
   obtain⟨h1,h2⟩:=AH r (k+1)
   grind
def aew(s:av)(H:aa)(hs:s.length<=10000000):ai A 142 [.str s,.str [46]] H=some (.tuple [.str (aU s).1,.str (aU s).2.1,.bool (aU s).2.2],none):=by
 have h:=adB s 46 H hs;rw[show (((46:UInt8).toNat:Nat):Int)=46 from rfl] at h
 obtain⟨h1,h2⟩:=AH s 0;refine cW ady.eq_1 ?_;cases hf:(aU s).2.2 with
 | true =>
  obtain⟨a1,a2⟩:=h1 hf;rw[a1] at h;rw[show ((0:Nat):Int)+(aU s).1.length=(aU s).1.length by omega] at h
  have hl:=pV s;obtain⟨p,q,hp,hq,xP⟩:∃ p q,p=(aU s).1/\q=(aU s).2.1/\s=p++46 :: q:=⟨_,_,rfl,rfl,a2⟩;rw[<- hp,<- hq];rw[<- hp] at h;have e1:s.take p.length=p:=by rw[xP];exact ayv rfl
  have e2:s.drop (p.length+1)=q:=by rw[xP,List.drop_append];simp
  have e3:p.length+1<=s.length:=by rw[xP,List.length_append,List.length_cons];omega
  have en:asNat (.int .i64 ((p.length:Int)+1))=some (p.length+1):=by rw[gf af];rfl
  simp(disch:=omega)only[dJ,ab,simprocAttr,h,axz,e1,e2,en]
 | false =>
  rw[h2 hf] at h;have e:=uT hf;have e1:(aU s).1=s:=by rw[e]
  have e2:(aU s).2.1=[]:=by rw[e]
  rw[e1,e2];exact n8 h
def ajF(s:av)(H:aa)(hs:s.length<=10000000):ai A 127 [.str s,.str [46]] H=some (.tuple [.str (aU s).1,.str (aU s).2.1,.bool (aU s).2.2],none):=by
 have h:=aew s H hs;refine cW ads.eq_1 ?_;exact n8 h
theorem abX(s:av)(c:UInt8)(H:aa)(hs:s.length<=10000000):ai A 130 [.str s,.str [c]] H=some (.str (if [c].isPrefixOf s=true then s.drop 1 else s),none):=by
 have h:=yW s [c] H;refine cW adu.eq_1 ?_;cases hp:[c].isPrefixOf s with
 | true =>
  have hl:1<=s.length:=by
   grind
  rw[if_pos rfl];simp(disch:=omega)only[dJ,ab,simprocAttr,h,hp,axz]
 | false =>
  rw[if_neg aB];exact My h hp
def aio(s:av)(c:UInt8)(H:aa)(hs:s.length<=10000000):ai A 107 [.str s,.str [c]] H=some (.str (if [c].isPrefixOf s=true then s.drop 1 else s),none):=by
 have h:=abX s c H hs;refine cW adk.eq_1 ?_;exact n8 h
def Zm(b:Bool)(H:aa):ai A 131 [.bool b] H=some (.str (bif b then [116,114,117,101] else [102,97,108,115,101]),none):=by
 refine cW adv.eq_1 ?_;cases b<;>exact sH
def aeT(b:Bool)(H:aa):ai A 108 [.bool b] H=some (.str (bif b then [116,114,117,101] else [102,97,108,115,101]),none):=by
 have h:=Zm b H;refine cW adl.eq_1 ?_;exact n8 h
def NQ(n:Int)(H:aa)(hn:CU n):ai A 68 [.int .i64 n] H=some (.str (rU n),none):=by
 refine fC (A:=A) (f:=68) rfl ?_;obtain⟨h1,h2⟩:=hn;have e1:decide (-9223372036854775808<=n)=true:=df;have e2:decide (n<=9223372036854775807)=true:=df;simp only[Fb,e1,e2,Bool.and_self,cond_true]
def yN:∀ (f n:Nat) (acc:av),n<f->∃ d r,gy f n acc=d :: r/\d≠45
 | 0,n,acc,h=>af
 | f+1,n,acc,h=>by
  rw[gy];cases hb:Nat.blt n 10 with
  | true =>
   have hn:n<10:=by simpa [axp] using hb
   refine⟨_,_,rfl,fun e=>?_⟩
   have:=ayj UInt8.toNat e
   rw[UInt8.toNat_ofNat'] at this;simp at this;omega
  | false =>
   have hn:¬ n<10:=fun h=>by
    have:Nat.blt n 10=true:=by simpa [axp] using h
    rw[hb] at this;cases this
   exact yN f (n / 10) _ af
def IX{n:Int}(h:0<=n):rU n=lV n.toNat:=by
 obtain⟨k,rfl⟩:∃ k:Nat,n=k:=⟨n.toNat,af⟩;rfl
theorem itoa_neg{n:Int}(h:n<0):rU n=45 :: lV (-n).toNat:=by
 cases n with
 | ofNat k=>exact absurd h ae
 | negSucc k =>
  have:(-(Int.negSucc k)).toNat=k+1:=by simp[Int.neg_negSucc]
  rw[this];rfl
theorem SS(n:Int):(if ([45]:av).isPrefixOf (rU n)=true then (rU n).drop 1 else rU n)=lV (if n<0 then (-n).toNat else n.toNat):=by
 by_cases h:n<0
 ·grind [itoa_neg]
 ·rw[IX af,if_neg h]
  obtain⟨d,r,e,hd⟩:=yN (n.toNat+1) n.toNat [] af;have e' : lV n.toNat=d :: r:=e
  grind
section
structure PS where
 i:Nat
 bad:Bool
def dE(s:av):Int:=match Lib.atoiAll s with
 | .ok v=>bif decide (1099511627776<v) || !(rU v==s) || decide (v<0) then -1 else v
 | _=>-1
def JZ:av:=[105,102]
def H7:av:=[116,104,101,110]
def H5:av:=[101,108,115,101]
def Bk:av:=[108,101,116]
def Yv:av:=[105,110]
def uG:av:=[102,111,108,100]
def H6:av:=[111,118,101,114]
def Yu:av:=[100,111]
def rC:av:=[110,111,116]
def ua:av:=[108,101,110]
def xt:av:=[116,114,117,101]
def sQ:av:=[102,97,108,115,101]
def jr:av:=[76,105,115,116]
def tZ:av:=[73,110,116]
def oJ:av:=[66,111,111,108]
def qF:av:=[109,97,116,99,104]
def js:av:=[109,111,100,117,108,101]
def Bl:av:=[117,115,101]
def wL(w:av):Option (Int × Int) :=
 (mZ.find? fun r=>match r with|.str a :: _=>a==w|_=>false).bind fun r=>match r with|[_,.int _ o,.int _ l]=>some (o,l)|_=>none
section
variable (L:List av)
def pk(s:PS):av:=bif s.bad then [] else L.getD s.i []
def PS.up(s:PS):PS:=⟨s.i+1,s.bad⟩
def PS.xI(s:PS):PS:=⟨s.i,true⟩
def aN(w:av)(s:PS):PS:=bif pk L s==w then s.up else s.xI
def aE(s:PS):av × PS:=bif isWord (pk L s) then (pk L s,s.up) else ([],s.xI)
def iE(least:Int)(s:PS):Int × PS:=bif decide (dE (pk L s)<least) then (0,s.xI) else (dE (pk L s),s.up)
def aJ(s:PS):av × PS :=
 bif !(aE L s).2.bad&&(pk L (aE L s).2==[46]) then ((aE L s).1++46 :: (aE L (aE L s).2.up).1,(aE L (aE L s).2.up).2) else aE L s
def mi:Nat->PS->Option (Wd × PS)
 | 0,_=>none
 | n+1,s=>bif pk L s==tZ then some (.mk tZ [],s.up) else bif pk L s==oJ then some (.mk oJ [],s.up) else bif pk L s==jr then
   (mi n (aN L [40] s.up)).map fun r=>(.mk jr [r.1],aN L [41] r.2)
  else some (.mk (aJ L s).1 [],(aJ L s).2)
def gS(n:Nat)(s:PS):Option (Wd × PS):=(mi L n (aN L [40] s)).map fun r=>(r.1,aN L [41] r.2)
section
variable {α:Type}(elem:α->PS->Option (α × PS))(fin:av)
def oB:Nat->α->PS->Option (α × PS)
 | 0,_,_=>none
 | k+1,a,s=>(elem a s).bind fun r=>bif !r.2.bad&&(pk L r.2==[44]) then oB k r.1 r.2.up else some (r.1,bif r.2.bad then r.2 else aN L fin r.2)
def nP(k:Nat)(a:α)(s:PS):Option (α × PS):=bif pk L s==fin then some (a,s.up) else oB L elem fin k a s
end
abbrev EP:=PS->Option (Tm × PS)
def qB(E:EP)(ks:List Tm)(s:PS):Option (List Tm × PS):=(E s).map fun r=>(ks++[r.1],r.2)
def mY(E:EP)(w:av)(ks:List Tm)(s:PS):Option (List Tm × PS):=bif (aN L w s).bad then some (ks,aN L w s) else qB E ks (aN L w s)
def wH(E:EP)(a:List av × List Tm)(s:PS):Option ((List av × List Tm) × PS) :=
 (qB E a.2 (aN L [61] (aE L s).2)).map fun r=>((a.1++[(aE L s).1],r.1),r.2)
def FI:List Tm->List Tm
 | a :: b :: r=>b :: a :: r
 | l=>l
def nu(s:PS):List av × PS :=
 bif (aN L [44] (aE L s).2).bad then ([(aE L s).1],aN L [44] (aE L s).2)
 else ([(aE L s).1,(aE L (aN L [44] (aE L s).2)).1],(aE L (aN L [44] (aE L s).2)).2)
def ow(E B:EP)(s:PS):Option (Tm × PS) :=
 bif pk L s==JZ then (qB E [] s.up).bind fun a=>(mY L E H7 a.1 a.2).bind fun b=>(mY L E H5 b.1 b.2).map fun c=>(.mk 5 0 [] [] [] [] c.1 [],c.2)
 else bif pk L s==Bk then (mY L E [61] [] (aE L s.up).2).bind fun a=>(mY L E Yv a.1 a.2).map fun c=>(.mk 6 0 [] [] [] [] c.1 [(aE L s.up).1],c.2)
 else bif pk L s==uG then (mY L E [61] [] (nu L s.up).2).bind fun a=>(mY L E H6 a.1 a.2).bind fun b=>(mY L E Yu b.1 b.2).map fun c =>
  (.mk 12 0 [] [] [] [] (bif c.2.bad then c.1 else FI c.1) (nu L s.up).1,c.2)
 else B s
def lR(E:EP):Nat->List av × List Tm->PS->Option ((List av × List Tm) × PS)
 | 0,_,_=>none
 | k+1,a,s=>(E (aN L [45,62] (aE L (aE L s).2).2)).bind fun r =>
   let b:=(a.1++[(aE L s).1,(aE L (aE L s).2).1],a.2++[r.1])
   bif !r.2.bad&&(pk L r.2==[44]) then lR E k b r.2.up else some (b,r.2)
def mG(n:Nat)(E:EP)(s:PS):Option (Tm × PS) :=
 (E (aN L [40] (aJ L s).2)).bind fun r=>(lR L E n ([],[r.1]) (aN L [123] (aN L [41] r.2))).map fun q=>(.mk 10 0 (aJ L s).1 [] [] [] q.1.2 q.1.1,aN L [125] q.2)
def oP(E:EP)(nm:av)(s:PS):Option (Tm × PS) :=
 bif pk L (aE L s).2==[91] then (E (aE L s).2.up).map fun r=>(.mk 8 0 nm (aE L s).1 [] [] [r.1] [],aN L [93] r.2)
 else (E (aN L [40] (aE L s).2)).map fun r=>(.mk 9 0 nm (aE L s).1 [] [] [r.1] [],aN L [41] r.2)
def kW(n:Nat)(E:EP)(s:PS):Option (Tm × PS) :=
 let nm:=(aJ L s).1
 let q:=(aJ L s).2
 bif pk L q==[40] then (nP L (qB E) [41] n [] q.up).map fun r=>(.mk 3 0 nm [] [] [] r.1 [],r.2)
 else bif pk L q==[123] then (nP L (wH L E) [125] n ([],[]) q.up).map fun r=>(.mk 7 0 nm [] [] [] r.1.2 r.1.1,r.2)
 else bif pk L q==[58] then oP L E nm q.up
 else bif decide (0<=cw 46 0 nm) then some (.mk 0 0 nm [] [] [] [] [],q.xI)
 else some (.mk 2 0 nm [] [] [] [] [],q)
def lN(n:Nat)(E:EP)(s:PS):Option (Tm × PS) :=
 bif decide (0<=dE (pk L s)) then some (.mk 0 (iE L 0 s).1 [] [] [] [] [] [],(iE L 0 s).2)
 else bif pk L s==[45] then some (.mk 0 (-(iE L 1 s.up).1) [] [] [] [] [] [],(iE L 1 s.up).2)
 else bif pk L s==xt then some (.mk 1 1 [] [] [] [] [] [],s.up)
 else bif pk L s==sQ then some (.mk 1 0 [] [] [] [] [] [],s.up)
 else bif pk L s==[40] then (E s.up).map fun r=>(r.1,aN L [41] r.2)
 else bif pk L s==jr then (gS L n s.up).bind fun w=>(nP L (qB E) [93] n [] (aN L [91] w.2)).map fun r=>(.mk 11 0 [] [] w.1.name w.1.kids r.1 [],r.2)
 else bif pk L s==qF then mG L n E s.up
 else kW L n E s
def rJ(B:EP)(level:Int):Nat->Tm->PS->Option (Tm × PS)
 | 0,_,_=>none
 | k+1,t,s=>bif s.bad then some (t,s) else match wL (pk L s) with
  | none=>some (t,s)
  | some (o,l)=>bif decide (l=level) then (B s.up).bind fun r =>
    bif decide (level=3) then some (.mk 4 o [] [] [] [] [t,r.1] [],r.2) else rJ B level k (.mk 4 o [] [] [] [] [t,r.1] []) r.2
   else some (t,s)
def pE:Nat->Nat->EP
 | 0,_,_=>none
 | n+1,l,s=>match l with
  | 0=>ow L (pE n 0) (pE n 1) s
  | 7=>bif pk L s==rC then (pE n 7 s.up).map fun r=>(.mk 4 9 [] [] [] [] [r.1] [],r.2)
   else bif pk L s==ua then (pE n 7 s.up).map fun r=>(.mk 4 11 [] [] [] [] [r.1] [],r.2)
   else lN L n (pE n 0) s
  | l=>(pE n (l+1) s).bind fun r=>rJ L (pE n (l+1)) l n r.1 r.2
def mV(n:Nat)(kd:Int)(a:List Fd)(s:PS):Option (List Fd × PS) :=
 (mi L n (aE L s).2).map fun w=>bif decide (kd=4) then (a++[⟨(aE L s).1,w.1.name,w.1.kids,(iE L 0 w.2).1⟩],(iE L 0 w.2).2) else (a++[⟨(aE L s).1,w.1.name,w.1.kids,0⟩],w.2)
def tm0:Tm:=.mk 0 0 [] [] [] [] [] []
def lW(n:Nat)(E:EP)(s:PS):Option (Fm × PS) :=
 let k:=kR (pk L s) cG 0
 bif decide (k<0) then some (⟨k,[],[],[],[],tm0,[]⟩,s.xI) else
 (nP L (mV L n k) [41] n [] (aN L [40] (aE L s.up).2)).bind fun sl =>
  bif decide (k=0) || decide (k=1) then some (⟨k,(aE L s.up).1,sl.1,[],[],tm0,[]⟩,sl.2) else
  (mi L n sl.2).bind fun w=>(E (aN L [61] w.2)).map fun b=>(⟨k,(aE L s.up).1,sl.1,w.1.name,w.1.kids,b.1,[]⟩,b.2)
def o5:Nat->List av->PS->Option (List av × PS)
 | 0,_,_=>none
 | k+1,a,s=>bif !s.bad&&(pk L s==Bl) then o5 k (a++[(aE L s.up).1]) (aE L s.up).2 else some (a,s)
def lU(n:Nat):Nat->List Fm × List Nat->PS->Option ((List Fm × List Nat) × PS)
 | 0,_,_=>none
 | k+1,a,s=>bif !s.bad&&Nat.blt s.i L.length then (lW L n (pE L n 0) s).bind fun r=>lU n k (a.1++[r.1],a.2++[r.2.i]) r.2 else some (a,s)
def qS(n:Nat):Option ((av × List av × List Fm × List Nat) × PS) :=
 (o5 L n [] (aE L (aN L js ⟨0,false⟩)).2).bind fun u =>
  (lU L n n ([],[u.2.i]) u.2).map fun d=>(((aE L (aN L js ⟨0,false⟩)).1,u.1,d.1.1,d.1.2),d.2)
end
end
structure PW (mm:Nat) (K:aa):Prop where
 lt:mm<K.length
 nob:∀ j cs,mm<=j->K[j]?≠some (.bR cs)
def nJ(l:List av)(b:Bool):bG:=.box 125 [.slice (strs l) true,.bool b]
def ct(mm:Nat)(l:List av)(b:Bool)(K:aa):aa:=K.set mm (nJ l b)
def bf{mm:Nat}{l:List av}{b:Bool}{K:aa} : (ct mm l b K).length=K.length:=by unfold ct;rw[List.length_set]
def fu{K:aa}(h:PW mm K):(ct mm l b K)[mm]?=some (nJ l b):=by unfold ct;exact List.getElem?_set_self h.lt
def Jn{K:aa}(h:mm≠j):(ct mm l b K)[j]?=K[j]?:=by unfold ct;exact List.getElem?_set_ne h
def zN{mm:Nat}{l l' : List av}{b b' : Bool}{K:aa} : (ct mm l b K).set mm (.box 125 [.slice (strs l') true,.bool b'])=ct mm l' b' K:=by unfold ct nJ;rw[List.set_set]
theorem fF{mm:Nat}{l:List av}{b:Bool}{K:aa} : (ct mm l b K).take K.length=ct mm l b K:=axy (Nat.le_of_eq bf)
def PW.open{K:aa}(h:PW mm K)(l:List av)(b:Bool):mc K.length mm (ct mm l b K)=true:=by
 unfold mc;cases hb:Nat.beq mm K.length with
 | true=>rfl
 | false =>
  rw[cond_false,aw8];intro x hx;obtain⟨j,hj⟩:=axu hx;rw[fF,ax9] at hj;unfold ct at hj;rw[axI] at hj;split at hj
  ·split at hj
   ·cases hj;rfl
   ·cases hj
  ·cases x with
   | bR cs=>exact absurd hj (h.nob _ cs af)
   | _=>rfl
def PW.push{K:aa}(h:PW mm K)(ho:∀ cs,o≠.bR cs):PW mm (K++[o]):=⟨by have:=h.lt;rw[List.length_append];omega,fun j cs hj=>by
 rw[axY];split
 ·exact h.nob j cs hj
 ·intro e
  cases uY:j-K.length with
  | zero=>rw[uY] at e;exact ho cs (cJ e)
  | succ n=>rw[uY] at e;simp at e⟩
def sw{K:aa}(h:PW mm K){L:aa} : ct mm l b K++L=ct mm l b (K++L):=by unfold ct;rw[List.set_append_left _ _ h.lt]
theorem ql{K:aa}(h:PW mm K){L:aa} : (ct mm l b (K++L)).take K.length=ct mm l b K:=by
 rw[<- sw h,ayv bf]
theorem PW.Qf{K:aa}(h:PW mm K){L:aa}(l:List av)(b:Bool):mc K.length mm (ct mm l b (K++L))=true:=by
 have:=h.open l b
 unfold mc at this ⊢
 grind [ql,fF]
def rB(mm:Nat)(K:aa)(f:FuncId)(args:List AV)(ok:Bool)(jo:List av)(n:Nat):Prop :=
 ∀ l b,l.length+n<=10000000->∃ l',ai A f args (ct mm l b K)=some (.undef,some ⟨ct mm l' (b || !ok) K,mm⟩)/\((b || !ok)=false->l'=l++jo)/\l'.length<=l.length+n
def BN{K:aa}(h:PW mm K)(xs:List av)(hx:xs.length<=1000):rB mm K 64 [.ref mm 0,.slice (strs xs) false] true xs xs.length:=by
 intro l b hl;refine⟨l++xs,?_,fun _=>rfl,ae⟩
 have e:(b || !true)=b:=by cases b<;>rfl
 rw[e];refine cW Z5.eq_1 ?_;have h0:=fu (l:=l) (b:=b) h;unfold nJ at h0;have a1:aC false 1 16 (.slice (strs l) true) (.slice (strs xs) false)=some (.slice (strs (l++xs)) true):=ca af;have aP:=h.lt;have ho:=h.open (l++xs) b;have h1:∀ x:bG,((ct mm l b K).set mm x)[mm]?=some x:=fun x=>List.getElem?_set_self (by rw[bf];exact aP)
 exact nM (j2 (j5 h0 h1 a1 @bf @zN) (j3 (@List.set_set bG) @fF ho)) tv
def Cm{K:aa}(h:PW mm K)(ok:Bool):rB mm K 67 [.ref mm 0,.bool ok] ok [] 0:=by
 intro l b hl;refine⟨l,?_,fun _=>ae,ae⟩
 refine cW ago.eq_1 ?_;have h0:=fu (l:=l) (b:=b) h;unfold nJ at h0;have aP:=h.lt;have ho:=fun b=>h.open l b
 have h1:∀ x:bG,((ct mm l b K).set mm x)[mm]?=some x:=fun x=>List.getElem?_set_self (by rw[bf];exact aP)
 cases b<;>exact nL5 h0 @bf @zN @fF ho tv
def Ou{K:aa}(h:PW mm K)(xs:List av)(hx:xs.length<=1000)(h0:K[mm]?=some (.box 125 [.al,.bool false])):ai A 64 [.ref mm 0,.slice (strs xs) false] K=some (.undef,some ⟨ct mm xs false K,mm⟩):=by
 refine cW Z5.eq_1 ?_;have a1:aC false 1 16 (.slice [] true) (.slice (strs xs) false)=some (.slice (strs xs) true):=ca (l:=[]) df;have aP:=h.lt;have ho:=h.open xs false;have h1:∀ x:bG,(K.set mm x)[mm]?=some x:=fun x=>List.getElem?_set_self aP
 have h2:∀ x:bG,(K.set mm x).length=K.length:=fun x=>List.length_set
 have h3:K.set mm (.box 125 [.slice (strs xs) true,.bool false])=ct mm xs false K:=rfl;simp(disch:=omega)only[dJ,ab,simprocAttr,h0,h1,a1,h3,List.set_set,fF,ho,cH,cA,axr,ah]
def tJ{K:aa}(h:PW mm K)(s:av)(hs:s.length<=2000000):rB mm K 65 [.ref mm 0,.str s] (isWord s) [s] 1:=by
 intro l b hl;have hw:=fun K=>QH s K af
 obtain⟨l1,e1,t1,n1⟩:=Cm h (isWord s) l b af;obtain⟨l2,e2,t2,n2⟩:=BN h [s] ae l1 (b || !isWord s) df;have eo:((b || !isWord s) || !true)=(b || !isWord s):=ae;rw[eo] at e2 t2;have es:strs [s]=[[.str s]]:=rfl;rw[es] at e2;refine⟨l2,?_,fun hk=>by rw[t2 hk,t1 hk];simp,by simp at n2;omega⟩
 refine cW alE.eq_1 ?_;have aP:=h.lt;have ho:=h.open l2 (b || !isWord s);generalize isWord s=w at *;exact nM (j2 (j5 hw e1 e2 @bf @fF) (j2 ho @Nat.lt_irrefl)) tv
section
abbrev Tk:=av × av
def gp(t:Tk):List AV:=[.str t.1,.str t.2]
def aq(tk:List Tk):List av:=tk.map (·.1)
structure PQ (pl:Nat) (K:aa):Prop where
 lt:pl<K.length
 ob:∀ j cs,pl<=j->K[j]?=some (.bR cs)->cs.all (AV.bp K.length)=true
def nS(tk:List Tk)(s:PS):bG:=.box 74 [.slice (tk.map gp) false,.int .i64 s.i,.bool s.bad]
def aH(tk:List Tk)(pl:Nat)(s:PS)(K:aa):aa:=K.set pl (nS tk s)
section
variable {tk:List Tk}{pl:Nat}{K:aa}{s s' : PS}
theorem fh:aH tk pl s (aH tk pl s' K)=aH tk pl s K:=by unfold aH;rw[List.set_set]
theorem bA:(aH tk pl s K).length=K.length:=by unfold aH;rw[List.length_set]
def nI(h:PQ pl K):(aH tk pl s K)[pl]?=some (nS tk s):=by unfold aH;exact List.getElem?_set_self h.lt
theorem dA(h:pl≠j):(aH tk pl s K)[j]?=K[j]?:=by unfold aH;exact List.getElem?_set_ne h
def vu{i:Nat}{b:Bool} : (aH tk pl s K).set pl (.box 74 [.slice (tk.map gp) false,.int .i64 i,.bool b])=aH tk pl ⟨i,b⟩ K:=by unfold aH nS;rw[List.set_set]
def su{i:Nat}{b:Bool} : (aH tk pl s K).set pl (.box 74 [.slice (tk.map gp) false,.int .i64 ((i:Int)+1),.bool b])=aH tk pl ⟨i+1,b⟩ K:=by unfold aH nS;rw[List.set_set];rfl
def dq:(aH tk pl s K).take K.length=aH tk pl s K:=axy (Nat.le_of_eq bA)
def Ii{n:Nat}(h:m<=n):∀ v:AV,v.bp m=true->v.bp n=true:=by
 intro v hv;cases v<;>simp only[AV.bp,axp] at hv ⊢<;>first|exact hv|omega
def PQ.push(h:PQ pl K)(ho:∀ cs,o=.bR cs->cs.all (AV.bp (K.length+1))=true):PQ pl (K++[o]):=⟨by have:=h.lt;rw[List.length_append];omega,fun j cs hj hc=>by
 have hlen:(K++[o]).length=K.length+1:=ae;rw[hlen];rw[axY] at hc;split at hc
 ·have:=h.ob j cs hj hc
  rw[aw8] at this ⊢;exact fun x hx=>Ii af x (this x hx)
 ·cases uY:j-K.length with
  | zero=>rw[uY] at hc;exact ho cs (cJ hc)
  | succ n=>rw[uY] at hc;simp at hc⟩
def PQ.aH(h:PQ pl K):PQ pl (aH tk pl s K):=⟨by rw[bA];exact h.lt,fun j cs hj hc=>by
 rw[bA]
 by_cases e:pl=j
 ·subst e;rw[nI h] at hc;cases hc
 ·rw[dA e] at hc;exact h.ob j cs hj hc⟩
def PQ.open(h:PQ pl K):mc K.length pl (Go.Proofs.YtkoebdjmmgckdaaGreatDoor.aH tk pl s K)=true:=by
 unfold mc;cases hb:Nat.beq pl K.length with
 | true=>rfl
 | false =>
  rw[cond_false,aw8];intro x hx;obtain⟨j,hj⟩:=axu hx;rw[dq,ax9] at hj;cases x with
  | bR cs =>
   have:=(h.aH (tk:=tk) (s:=s)).ob _ cs af hj
   rwa [bA] at this
  | _=>rfl
end
structure Cj (tk:List Tk):Prop where
 len:tk.length<=1000000
 tb:∀ x∈tk,x.1.length<=1000000
def Cj.pkl{tk:List Tk}(h:Cj tk)(s:PS):(pk (aq tk) s).length<=1000000:=by
 unfold pk;cases s.bad with
 | true=>simp
 | false =>
  rw[cond_false,List.getD_eq_getElem?_getD];cases hx:(aq tk)[s.i]? with
  | none=>simp
  | some w =>
   obtain⟨x,hm,rfl⟩:=List.mem_map.1 (axc hx);exact h.tb x hm
def um{tk:List Tk}{s:PS}(h:pk (aq tk) s≠[]):s.i<tk.length:=by
 unfold pk at h;cases hb:s.bad with
 | true=>rw[hb] at h;exact absurd rfl h
 | false =>
  rw[hb,cond_false,List.getD_eq_getElem?_getD] at h
  by_cases hl:s.i<tk.length
  ·exact hl
  ·rw[List.getElem?_eq_none (by unfold aq;rw[List.length_map];omega)] at h
   exact absurd rfl h
theorem Fe{tk:List Tk}{pl:Nat}{K:aa}(h:PQ pl K)(hb:Cj tk)(s:PS)(hs:s.i<=1000000):ai A 56 [.ref pl 0] (aH tk pl s K)=some (.str (pk (aq tk) s),none):=by
 refine cy (fn:=agl) rfl rfl rfl ?_;unfold agl;have h0:=nI (tk:=tk) (s:=s) h;unfold nS at h0;obtain⟨i,b⟩:=s;have hl:=hb.len;simp only at hs h0;have hm:(tk.map gp).length=tk.length:=List.length_map _;cases b with
 | true =>
  have e:pk (aq tk) ⟨i,true⟩=[]:=rfl;rw[e];exact nL4 h0 @bA @dq @fY.eq_1 tv
 | false =>
  by_cases hi:tk.length<=i
  ·have e:pk (aq tk) ⟨i,false⟩=[]:=by
    unfold pk;rw[cond_false,List.getD_eq_getElem?_getD,List.getElem?_eq_none (by unfold aq;rw[List.length_map];omega)];rfl
   rw[e];have h1:decide ((tk.length:Int)<=i)=true:=df;exact nM (j5 h0 hm h1 @bA @dq) tv
   done
  ·obtain⟨x,hx⟩:∃ x,tk[i]?=some x:=⟨tk[i],aw3 af⟩
   have e:pk (aq tk) ⟨i,false⟩=x.1:=by
    unfold pk;rw[cond_false,List.getD_eq_getElem?_getD];unfold aq
    grind
   rw[e];have h1:decide ((tk.length:Int)<=i)=false:=df;have h2:(tk.map gp)[i]?=some [.str x.1,.str x.2]:=by rw[List.getElem?_map,hx];rfl
   exact nM (j2 (j5 h0 hm h1 h2 @bA) @dq) tv
   done
end
theorem TK{s:av}{v:Int}(h:Lib.atoiAll s=.ok v):CU v:=by
 cases s with
 | nil=>cases h
 | cons c r =>
  simp only[Lib.atoiAll] at h
  grind
def O6:Bm .neq .iface true .cM .cM=some (.bool false):=rfl
def ajn{t:TypeId}{v:AV} : Bm .neq .iface true (.iface t v) .cM=some (.bool true):=rfl
def Hs(s:av)(H:aa)(hs:s.length<=1000000):ai A 98 [.str s] H=some (.int .i64 (dE s),none):=by
 have ha:∀ H,ai A 125 [.str s] H=some (match Lib.atoiAll s with
   | .ok v=>(.tuple [.int .i64 v,.cM],none)
   | .range=>(.tuple [.int .i64 (Lib.atoiSat s),.iface 199 .any],none)
   | _=>(.tuple [.int .i64 0,.iface 199 .any],none)):=fun H=>by
  refine fC (A:=A) (f:=125) rfl ?_;have h1:Nat.ble s.length 281474976710656=true:=by rw[axv];omega
  simp only[Fa,h1,cond_true];cases Lib.atoiAll s<;>rfl
 refine cy (fn:=agA) rfl rfl rfl ?_;unfold agA;unfold dE;cases hx:Lib.atoiAll s with
 | ok v =>
  rw[hx] at ha;have hv:CU v:=TK hx;simp only at ha;have IH:=fun H=>NQ v H hv
  by_cases h1:1099511627776<v
  ·have e1:decide (1099511627776<v)=true:=cJ h1
   exact ry @O6 ha e1 tv
  ·have e1:decide (1099511627776<v)=false:=cJ h1
   cases h2:(rU v==s) with
   | false=>exact Hk @O6 ha e1 IH h2 tv
   | true =>
    by_cases h3:v<0
    ·have e3:decide (v<0)=true:=cJ h3
     exact l8 @O6 ha e1 IH h2 e3 tv
    ·have e3:decide (v<0)=false:=cJ h3
     exact l8 @O6 ha e1 IH h2 e3 tv
 | _ =>
  rw[hx] at ha;simp only at ha;exact qx @ajn ha tv
section
section
variable {tk:List Tk}{pl:Nat}{K:aa}
def Lf(h:PQ pl K)(hb:Cj tk){s:PS}(hw:w≠[])(e:(pk (aq tk) s==w)=true):ai A 26 [.ref pl 0,.str w] (aH tk pl s K)=some (.bool true,some ⟨aH tk pl s.up K,pl⟩):=by
 have aP:s.i<tk.length:=um (by rw[axL.1 e];exact hw)
 have hl:=hb.len;have hp:=Fe h hb s af;have h0:=nI (tk:=tk) (s:=s) h;have ho:=h.open (tk:=tk) (s:=s.up);have gI:=h.lt;unfold nS at h0;refine cy (fn:=VW) rfl rfl rfl ?_;unfold VW;obtain⟨i,b⟩:=s;simp only[PS.up] at h0 aP ho ⊢;exact l9 hp e h0 @bA @su (j2 @dq ho) tv
def Ld(h:PQ pl K)(hb:Cj tk){s:PS}(hs:s.i<=tk.length)(e:(pk (aq tk) s==w)=false):ai A 26 [.ref pl 0,.str w] (aH tk pl s K)=some (.bool false,none):=by
 have hl:=hb.len;have hp:=Fe h hb s af;refine cy (fn:=VW) rfl rfl rfl ?_;unfold VW;exact qx hp e tv
def FO(h:PQ pl K)(hb:Cj tk){s:PS}(hw:w≠[])(hs:s.i<=tk.length):ai A 24 [.ref pl 0,.str w] (aH tk pl s K)=some (.tuple [],some ⟨aH tk pl (aN (aq tk) w s) K,pl⟩):=by
 unfold aN;have gI:=h.lt;cases e:(pk (aq tk) s==w) with
 | true =>
  have hi:=Lf h hb hw e;have ho:=h.open (tk:=tk) (s:=s.up);refine cy (fn:=VV) rfl rfl rfl ?_;unfold VV;rw[cond_true];exact wK hi @bA @dq ho tv
 | false =>
  have hi:=Ld h hb hs e;have ho:=h.open (tk:=tk) (s:=s.xI);have h0:=nI (tk:=tk) (s:=s) h;unfold nS at h0;refine cy (fn:=VV) rfl rfl rfl ?_;unfold VV;rw[cond_false];obtain⟨i,b⟩:=s;simp only[PS.xI] at h0 ho ⊢;exact nM (j2 (j5 hi h0 @bA @vu @dq) ho) tv
def vW(h:PQ pl K)(hb:Cj tk){s:PS}(hs:s.i<=tk.length):ai A 25 [.ref pl 0] (aH tk pl s K)=some (.str (aE (aq tk) s).1,some ⟨aH tk pl (aE (aq tk) s).2 K,pl⟩):=by
 have hl:=hb.len;have hp:=Fe h hb s af;have gI:=h.lt;have h0:=nI (tk:=tk) (s:=s) h;unfold nS at h0;have hw:=fun H=>QH (pk (aq tk) s) H (by have:=hb.pkl s;omega)
 unfold aE;refine cy (fn:=af') rfl rfl rfl ?_;unfold af';cases e:isWord (pk (aq tk) s) with
 | true =>
  have aP:s.i<tk.length:=um (fun h=>by rw[h] at e;cases e)
  rw[e] at hw;have ho:=h.open (tk:=tk) (s:=s.up);rw[cond_true];generalize pk (aq tk) s=w at *;obtain⟨i,b⟩:=s;simp only[PS.up] at h0 aP ho ⊢;exact l9 hp hw h0 @bA @su (j2 @dq ho) tv
 | false =>
  rw[e] at hw;have ho:=h.open (tk:=tk) (s:=s.xI);rw[cond_false];generalize pk (aq tk) s=w at *;obtain⟨i,b⟩:=s;simp only[PS.xI] at h0 ho ⊢;exact nM (j2 (j5 hp hw h0 @bA @vu) (j2 @dq ho)) tv
def BL:dE []=-1:=aB
def ag8(h:PQ pl K)(hb:Cj tk){s:PS}(hs:s.i<=tk.length)(h1:0<=least)(h2:least<=10):ai A 62 [.ref pl 0,.int .i64 least] (aH tk pl s K)=some (.int .i64 (iE (aq tk) least s).1,some ⟨aH tk pl (iE (aq tk) least s).2 K,pl⟩):=by
 have hl:=hb.len;have hp:=Fe h hb s af;have gI:=h.lt;have h0:=nI (tk:=tk) (s:=s) h;unfold nS at h0;have hn:=fun H=>Hs (pk (aq tk) s) H (hb.pkl s)
 unfold iE;refine cy (fn:=agn) rfl rfl rfl ?_;unfold agn;cases e:decide (dE (pk (aq tk) s)<least) with
 | false =>
  have aP:s.i<tk.length:=um (fun h=>by
   rw[h,BL] at e;simp only[axo] at e;omega)
  have ho:=h.open (tk:=tk) (s:=s.up);rw[cond_false];generalize dE (pk (aq tk) s)=w at *;obtain⟨i,b⟩:=s;simp only[PS.up] at h0 aP ho ⊢;exact l9 hp hn e h0 @bA (j3 @su @dq ho) tv
 | true =>
  have ho:=h.open (tk:=tk) (s:=s.xI);rw[cond_true];generalize dE (pk (aq tk) s)=w at *;obtain⟨i,b⟩:=s;simp only[PS.xI] at h0 ho ⊢;exact nM (j2 (j5 hp hn e h0 @bA) (j3 @vu @dq ho)) tv
def lp{s:PS}(hw:w≠[])(e:(pk (aq tk) s==w)=true):s.up.i<=tk.length:=by
 have:=um (tk:=tk) (s:=s) (by rw[axL.1 e];exact hw)
 exact this
theorem fT{s:PS}(hw:w≠[])(hs:s.i<=tk.length):(aN (aq tk) w s).i<=tk.length:=by
 unfold aN;cases e:(pk (aq tk) s==w) with
 | true=>exact lp hw e
 | false=>exact hs
def jS{s:PS}(hs:s.i<=tk.length):(aE (aq tk) s).2.i<=tk.length:=by
 unfold aE;cases e:isWord (pk (aq tk) s) with
 | true=>exact um (fun h=>by rw[h] at e;cases e)
 | false=>exact hs
def ag9{s:PS}(h1:0<=least)(hs:s.i<=tk.length):(iE (aq tk) least s).2.i<=tk.length:=by
 unfold iE;cases e:decide (dE (pk (aq tk) s)<least) with
 | false=>exact um (fun h=>by
   rw[h,BL] at e;simp only[axo] at e;omega)
 | true=>exact hs
theorem vj(hb:Cj tk){s:PS} : (aE (aq tk) s).1.length<=1000000:=by
 unfold aE;cases e:isWord (pk (aq tk) s) with
 | true=>exact hb.pkl s
 | false=>simp
def WU{s:PS}(hs:s.i<=tk.length):(aJ (aq tk) s).2.i<=tk.length:=by
 unfold aJ;cases e:(!(aE (aq tk) s).2.bad&&(pk (aq tk) (aE (aq tk) s).2==[46])) with
 | true =>
  simp only[aw4] at e;exact jS (lp ae e.2)
 | false=>exact jS hs
def LW(h:PQ pl K)(hb:Cj tk){s:PS}(hs:s.i<=tk.length):ai A 97 [.ref pl 0] (aH tk pl s K)=some (.str (aJ (aq tk) s).1,some ⟨aH tk pl (aJ (aq tk) s).2 K,pl⟩):=by
 have hl:=hb.len;have gI:=h.lt;have hn:=vW h hb hs;have hle:=jS hs (tk:=tk);have hlen:=vj hb (s:=s);unfold aJ;generalize aE (aq tk) s=r at *;obtain⟨a,i,b⟩:=r;simp only at hle hlen ⊢;have h0:=nI (tk:=tk) (s:=⟨i,b⟩) h;unfold nS at h0;refine cy (fn:=agz) rfl rfl rfl ?_;unfold agz;cases b with
 | true =>
  have ho:=h.open (tk:=tk) (s:=⟨i,true⟩);rw[ax7,axt,cond_false];exact nL5 hn h0 @bA @dq ho tv
 | false =>
  rw[ayb,axF];cases e:(pk (aq tk) ⟨i,false⟩==[46]) with
  | false =>
   have hi:=Ld h hb (s:=⟨i,false⟩) hle e;have ho:=h.open (tk:=tk) (s:=⟨i,false⟩);rw[cond_false];exact l9 hn hi h0 @bA @dq ho tv
  | true =>
   have hi:=Lf h hb (s:=⟨i,false⟩) ae e;have ZJ:=vW h hb (s:=PS.up ⟨i,false⟩) (lp ae e);have Nw:=vj hb (s:=PS.up ⟨i,false⟩);rw[cond_true];generalize aE (aq tk) (PS.up ⟨i,false⟩)=q at *;obtain⟨c,s2⟩:=q;simp only at ZJ Nw ⊢;have ho:=h.open (tk:=tk) (s:=s2);exact nM (j2 (j5 hn hi ZJ h0 @bA) (j2 @dq ho)) tv
   done
end
end
end Go.Proofs.YtkoebdjmmgckdaaGreatDoor
end
