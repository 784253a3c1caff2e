/-
  A part of the proof of PrintForms: F33, F34, F35, F36, F37, F38, F39, F40, F41, F42, F43.
-/
import Derived.Test.YtbdnnjjcdcacnaaGreatDoorP13
set_option linter.unusedSimpArgs false
set_option linter.unusedVariables false
set_option linter.defProp false
set_option maxHeartbeats 1000000
set_option maxRecDepth 100000
namespace Go.Proofs.YtbdnnjjcdcacnaaGreatDoor
open Go Go.Abs Go.Proofs
theorem x7:∀ (k f n:Nat) (acc:bq),n<10 ^ (k+1)->(fU f n acc).length<=acc.length+k+1
 | _,0,n,acc,_=>by rw[fU];omega
 | 0,f+1,n,acc,h=>by
  have:Nat.blt n 10=true:=by simp[aoO];omega
  rw[fU,this,cond_true];simp
 | k+1,f+1,n,acc,h=>by
  rw[fU]
  cases hb:Nat.blt n 10 with
  | true=>simp only[cond_true,an5];omega
  | false =>
   simp only[an8]
   have h2:n / 10<10 ^ (k+1):=by rw[Nat.pow_succ] at h;omega
   have:=x7 k f (n / 10) (UInt8.ofNat (48+n % 10) :: acc) h2
   rw[an5] at this
   omega
theorem qE{n:Nat}(h:n<=2199023255552):(mF n).length<=14:=by
 have:=x7 12 (n+1) n [] (by omega)
 unfold mF
 rw[an6] at this
 omega
def Sh(l:List bq):Prop:=∀ s∈l,s.length<=40
theorem Sh.nil:Sh []:=by intro s h;cases h
theorem Sh.cons{a:bq}{l:List bq}(h1:a.length<=40)(h2:Sh l):Sh (a :: l):=by
 intro s h
 rcases aoN.1 h with rfl|h
 ·exact h1
 ·exact h2 s h
theorem Sh.app{a b:List bq}(h1:Sh a)(h2:Sh b):Sh (a++b):=by
 intro s h
 rcases aog.1 h with h|h
 ·exact h1 s h
 ·exact h2 s h
theorem Sh.listed:∀ {l:List (List bq)},(∀ x∈l,Sh x)->Sh (aO l)
 | [],_=>by rw[aO];exact Sh.nil
 | [a],h=>by rw[aO];exact h a (by simp)
 | a :: b :: r,h=>by
  rw[aO]
  exact ((h a (by simp)).app (Sh.cons (by decide) Sh.nil)).app (Sh.listed fun x hx=>h x (by simp only[aoN] at hx ⊢;exact .inr hx))
theorem Hm{s:bq}(h:s.length<=20):Sh (cA s):=by
 have:=nv s
 unfold cA
 split
 ·exact Sh.cons (by omega) (Sh.cons (by decide) (Sh.cons (by omega) Sh.nil))
 ·exact Sh.cons (by omega) Sh.nil
theorem lr(n:Int):(dF n).1.length<=40:=by
 unfold dF
 split
 ·decide
 ·rename_i h
  have:n.toNat=0\/n.toNat=1\/n.toNat=2\/n.toNat=3\/n.toNat=4\/n.toNat=5\/n.toNat=6\/n.toNat=7\/n.toNat=8\/n.toNat=9\/n.toNat=10\/n.toNat=11:=by omega
  rcases this with e|e|e|e|e|e|e|e|e|e|e|e<;>rw[e]<;>decide
theorem zM{n:bq}{ks:List Wd}(dn:n≠fL):dh (.mk n ks)=if (n==xe || n==qm)=true then [n] else cA n:=by
 cases ks with
 | nil=>rw[dh]<;>simp[dn]
 | cons a r=>cases r<;>rw[dh]<;>simp[dn]
theorem zN:∀ (h:Nat) (w:Wd),wi h w->Sh (dh w):=by
 have leaf:∀ (n:bq) (ks:List Wd),n.length<=20->n≠fL->Sh (dh (.mk n ks)):=by
  intro n ks hn dn
  rw[zM dn]
  split
  ·exact Sh.cons (by omega) Sh.nil
  ·exact Hm hn
 intro h
 induction h with
 | zero =>
  intro w hb
  obtain⟨n,ks⟩:=w
  obtain⟨h1,h2⟩:=hb
  simp only[Wd.kids,Wd.name] at h1 h2
  subst h2
  by_cases hn:n=fL
  ·subst hn
   rw[dh]<;>first|exact fun s hs=>by revert s;decide|simp
  ·exact leaf n [] h1 hn
 | succ h ih =>
  intro w hb
  obtain⟨n,ks⟩:=w
  obtain⟨h1,h2,h3⟩:=hb
  simp only[Wd.kids,Wd.name] at h1 h2 h3
  by_cases hn:n=fL
  ·subst hn
   match ks,h2,h3 with
   | [],_,_=>rw[dh]<;>first|exact fun s hs=>by revert s;decide|simp
   | [k],_,h3 =>
    have:=ih k (h3 k (by simp))
    rw[dh]
    simp only[apB]
    exact ((Sh.cons (by decide) (Sh.cons (by decide) Sh.nil)).app this).app (Sh.cons (by decide) Sh.nil)
  ·exact leaf n ks h1 hn
theorem lj{p:List bq × Int}{k:Int}(h:Sh p.1):Sh (oc p k):=by
 unfold oc
 split
 ·exact ((Sh.cons (by decide) Sh.nil).app h).app (Sh.cons (by decide) Sh.nil)
 ·exact h
theorem Ta:∀ {ns:List bq} {tl:List (List bq × Int)},(∀ s∈ns,s.length<=20)->(∀ p∈tl,Sh p.1)->∀ x∈List.zipWith (fun s (x:List bq × Int)=>[s,[61]]++x.1) ns tl,Sh x
 | [],_,_,_,x,hx=>by simp at hx
 | _ :: _,[],_,_,x,hx=>by simp at hx
 | s :: ns,p :: tl,h1,h2,x,hx=>by
  rw[List.zipWith_cons_cons,aoN] at hx
  rcases hx with rfl|hx
  ·exact Sh.cons (by have:=h1 s (by simp);omega) (Sh.cons (by decide) (h2 p (by simp)))
  ·exact Ta (fun u hu=>h1 u (by simp[hu])) (fun q hq=>h2 q (by simp[hq])) x hx
theorem N'{k n:Int}{a f:bq}{w:Wd}{ns:List bq}{tl:List (List bq × Int)}(hn:-2199023255552<=n/\n<=2199023255552)(ha:a.length<=20)(hf:f.length<=20)(hw:Sh (dh w))(pB:∀ s∈ns,s.length<=20)(h:∀ p∈tl,Sh p.1):Sh (fz k n a f w ns tl):=by
 have hq:=Hm ha
 have hl:Sh (aO (tl.map (·.1))):=Sh.listed fun x hx=>by obtain⟨p,hp,rfl⟩:=aoy.1 hx;exact h p hp
 have hz:=Sh.listed (Ta pB h)
 unfold fz
 by_cases h0:k=0
 ·rw[if_pos h0]
  split
  ·exact Sh.cons (by decide) (Sh.cons (by have:=qE (n:=(-n).toNat) (by omega);omega) Sh.nil)
  ·exact Sh.cons (by have:=qE (n:=n.toNat) (by omega);omega) Sh.nil
 rw[if_neg h0]
 by_cases h1:k=1
 ·rw[if_pos h1]
  exact Sh.cons (by split<;>decide) Sh.nil
 rw[if_neg h1]
 by_cases h2:k=2
 ·rw[if_pos h2]
  repeat' first
   | exact Sh.nil
   | exact hq
   | exact hw
   | exact hl
   | exact hz
   | exact h _ (by simp)
   | exact lj (h _ (by simp))
   | refine Sh.app ?_ ?_
   | refine Sh.cons (by first|decide|omega|exact lr _|exact aoS (pB _ (by simp)) (by decide)) ?_
 rw[if_neg h2]
 by_cases h3:k=3
 ·rw[if_pos h3]
  repeat' first
   | exact Sh.nil
   | exact hq
   | exact hw
   | exact hl
   | exact hz
   | exact h _ (by simp)
   | exact lj (h _ (by simp))
   | refine Sh.app ?_ ?_
   | refine Sh.cons (by first|decide|omega|exact lr _|exact aoS (pB _ (by simp)) (by decide)) ?_
 rw[if_neg h3]
 by_cases h4:k=4
 ·rw[if_pos h4]
  split
  all_goals repeat' first
   | exact Sh.nil
   | exact hq
   | exact hw
   | exact hl
   | exact hz
   | exact h _ (by simp)
   | exact lj (h _ (by simp))
   | refine Sh.app ?_ ?_
   | refine Sh.cons (by first|decide|omega|exact lr _|exact aoS (pB _ (by simp)) (by decide)) ?_
 rw[if_neg h4]
 by_cases h5:k=5
 ·rw[if_pos h5]
  split
  all_goals repeat' first
   | exact Sh.nil
   | exact hq
   | exact hw
   | exact hl
   | exact hz
   | exact h _ (by simp)
   | exact lj (h _ (by simp))
   | refine Sh.app ?_ ?_
   | refine Sh.cons (by first|decide|omega|exact lr _|exact aoS (pB _ (by simp)) (by decide)) ?_
 rw[if_neg h5]
 by_cases h6:k=6
 ·rw[if_pos h6]
  split
  all_goals repeat' first
   | exact Sh.nil
   | exact hq
   | exact hw
   | exact hl
   | exact hz
   | exact h _ (by simp)
   | exact lj (h _ (by simp))
   | refine Sh.app ?_ ?_
   | refine Sh.cons (by first|decide|omega|exact lr _|exact aoS (pB _ (by simp)) (by decide)) ?_
 rw[if_neg h6]
 by_cases h7:k=7
 ·rw[if_pos h7]
  repeat' first
   | exact Sh.nil
   | exact hq
   | exact hw
   | exact hl
   | exact hz
   | exact h _ (by simp)
   | exact lj (h _ (by simp))
   | refine Sh.app ?_ ?_
   | refine Sh.cons (by first|decide|omega|exact lr _|exact aoS (pB _ (by simp)) (by decide)) ?_
 rw[if_neg h7]
 by_cases h8:k=8
 ·rw[if_pos h8]
  split
  all_goals repeat' first
   | exact Sh.nil
   | exact hq
   | exact hw
   | exact hl
   | exact hz
   | exact h _ (by simp)
   | exact lj (h _ (by simp))
   | refine Sh.app ?_ ?_
   | refine Sh.cons (by first|decide|omega|exact lr _|exact aoS (pB _ (by simp)) (by decide)) ?_
 rw[if_neg h8]
 by_cases h9:k=9
 ·rw[if_pos h9]
  split
  all_goals repeat' first
   | exact Sh.nil
   | exact hq
   | exact hw
   | exact hl
   | exact hz
   | exact h _ (by simp)
   | exact lj (h _ (by simp))
   | refine Sh.app ?_ ?_
   | refine Sh.cons (by first|decide|omega|exact lr _|exact aoS (pB _ (by simp)) (by decide)) ?_
 rw[if_neg h9]
 by_cases h10:k=10
 ·rw[if_pos h10]
  split
  all_goals repeat' first
   | exact Sh.nil
   | exact hq
   | exact hw
   | exact hl
   | exact hz
   | exact h _ (by simp)
   | exact lj (h _ (by simp))
   | refine Sh.app ?_ ?_
   | refine Sh.cons (by first|decide|omega|exact lr _|exact aoS (pB _ (by simp)) (by decide)) ?_
 rw[if_neg h10]
 by_cases h11:k=11
 ·rw[if_pos h11]
  repeat' first
   | exact Sh.nil
   | exact hq
   | exact hw
   | exact hl
   | exact hz
   | exact h _ (by simp)
   | exact lj (h _ (by simp))
   | refine Sh.app ?_ ?_
   | refine Sh.cons (by first|decide|omega|exact lr _|exact aoS (pB _ (by simp)) (by decide)) ?_
 rw[if_neg h11]
 by_cases Ys:k=12
 ·rw[if_pos Ys]
  split
  all_goals repeat' first
   | exact Sh.nil
   | exact hq
   | exact hw
   | exact hl
   | exact hz
   | exact h _ (by simp)
   | exact lj (h _ (by simp))
   | refine Sh.app ?_ ?_
   | refine Sh.cons (by first|decide|omega|exact lr _|exact aoS (pB _ (by simp)) (by decide)) ?_
 rw[if_neg Ys]
 exact Sh.nil
theorem HJ:∀ (h:Nat) (t:Tm),Lp h t->Sh (ay t)
 | 0,t,hb=>by cases hb
 | h+1,t,hb=>by
  have hF:=hb.out
  rw[cu]
  refine N' hF.n hF.a hF.f (zN 3 _ hF.w) hF.nb fun p hp=>?_
  obtain⟨u,hu,rfl⟩:=aoy.1 hp
  exact HJ h u (hF.kb u hu)
theorem L7{k:Int}{u:Fd}(h:FdB u):Sh (cK k u):=by
 have h1:=zN 3 _ h.w
 have h2:=h.a
 have h3:=h.m
 unfold cK
 refine (Sh.app (Sh.cons (by omega) Sh.nil) h1).app ?_
 split
 ·exact Sh.cons (by have:=qE (n:=u.ga.toNat) (by omega);omega) Sh.nil
 ·exact Sh.nil
theorem OW{f:Fm}(h:HP f):Sh (nA f):=by
 have h1:=zN 3 _ h.w
 have h2:=h.a
 have h3:=HJ 5 _ h.b
 have h4:Sh (aO (f.a8.map (cK f.kind))):=Sh.listed fun x hx=>by obtain⟨p,hp,rfl⟩:=aoy.1 hx;exact L7 (h.sb p hp)
 unfold nA
 refine (((Sh.cons ?_ (Sh.cons (by omega) (Sh.cons (by decide) Sh.nil))).app h4).app (Sh.cons (by decide) Sh.nil)).app ?_
 ·exact aoS (nB (l:=nN) (B:=4) (by decide) _) (by omega)
 ·split
  ·exact Sh.nil
  ·exact (h1.app (Sh.cons (by decide) Sh.nil)).app h3
theorem zp{f:Fm}(h:HP f):Sh (gn f):=by
 unfold gn;split
 ·exact OW h
 ·exact Sh.nil
theorem sd{f:Fm}(h:HP f):(gn f).length<=10000:=by
 unfold gn;split
 ·exact A1 h
 ·simp
theorem r6{s:So}(h:To s):Sh (fB s):=by
 have h1:=h.a
 unfold fB;split
 ·unfold heads
  refine Sh.app (Sh.cons (by decide) (Sh.cons (by omega) Sh.nil)) ?_
  intro x hx
  obtain⟨y,hy,hx⟩:=ap'.1 hx
  obtain⟨u,hu,rfl⟩:=aoy.1 hy
  have:=h.ub u hu
  rcases aoN.1 hx with rfl|hx
  ·decide
  ·rw[aos.1 hx];omega
 ·exact Sh.nil
theorem Mo(s:So):(heads s).length=2+2*s.cB.length:=by
 unfold heads
 have:∀ l:List bq,((l.map fun u=>[[117,115,101],u]).flatten:List bq).length=2*l.length:=by
  intro l;induction l with
  | nil=>rfl
  | cons a r ih=>simp only[aoh,aoP,List.length_append,ih,an5,an6];omega
 rw[List.length_append,this];rfl
theorem p7{s:So}(h:To s):(fB s).length<=100:=by
 have:=h.ul
 unfold fB;split
 ·rw[Mo];omega
 ·simp
def ue(f:Fm):bq:=if gn f=[] then [] else mB (gn f) f.layout
def gX(l:List Fm):bq:=(l.map ue).flatten
def gY(s:So):bq:=if fB s=[]\/∃ f∈s.defs,gn f=[] then [] else mB (fB s) s.head++gX s.defs++s.fin
theorem x4{f:Fm}(h:HP f):(ue f).length<=1600040:=by
 unfold ue;split
 ·simp
 ·exact JC (by have:=sd h;omega) (zp h) (fun s hs=>by have:=h.lb s hs;omega)
theorem Ol{f:Fm}(hb:HP f)(H:ah):aD A 11 [.agg (cN f)] H=some (.str (ue f),none):=by
 have ht:=xC hb (H++[.box 55 (cN f)])
 have hj:=K2 (gn f) f.layout (H++[.box 55 (cN f)]) (by have:=sd hb;omega) (zp hb) (fun s hs=>by have:=hb.lb s hs;omega) (by have:=hb.ll;omega)
 refine aB (fn:=PX) rfl rfl rfl ?_
 rw[cN] at ht hj ⊢
 unfold PX ue
 by_cases hc:gn f=[]
 ·rw[if_pos hc]
  rw[hc,gv] at ht
  generalize (!(dI f) || !(decide (f.kind=0) || decide (f.kind=1)))=o at ht
  cases o<;>simp(disch:=omega)only[aP,aa,simprocAttr,ht,cr,an6,aq,ab]
 ·rw[if_neg hc]
  have dn:(((gn f).length:Int)==0)=false:=by
   cases h:gn f with
   | nil=>exact absurd h hc
   | cons a r=>simp;omega
  generalize (!(dI f) || !(decide (f.kind=0) || decide (f.kind=1)))=o at ht
  cases o<;>simp(disch:=omega)only[aP,aa,simprocAttr,ht,cr,aW,dn,hj,aq,ab]
theorem AQ{l:List Fm}(h:∀ f∈l,HP f):(gX l).length<=l.length*1600040:=by
 induction l with
 | nil=>simp[gX]
 | cons a r ih =>
  have h1:=x4 (h a (by simp))
  have h2:=ih fun f hf=>h f (by simp[hf])
  simp only[gX,aoh,aoP,List.length_append,an5,aoT] at h2 ⊢
  omega
theorem x5{l:List Fm}{u:Fm} : gX (l++[u])=gX l++ue u:=by simp[gX]
theorem MS{s:So}(hb:To s)(H:ah):aD A 8 [.agg (iL s)] H=some (.str (gY s),none):=by
 have ht:=Sf hb (H++[.box 26 (iL s)])
 have hj:=K2 (fB s) s.head (H++[.box 26 (iL s)]) (by have:=p7 hb;omega) (r6 hb) (fun u hu=>by have:=hb.hb u hu;omega) (by have:=hb.hl;omega)
 have sn:=JC (l:=fB s) (lay:=s.head) (by have:=p7 hb;omega) (r6 hb) (fun u hu=>by have:=hb.hb u hu;omega)
 refine aB (fn:=ir8) rfl rfl rfl ?_
 have hH:∀ s' : AS,True:=fun _=>trivial
 have hdl:=hb.dl
 have Uc:=hb.e
 have Pa:∀ i,(gX (s.defs.take i)).length<=3*1600040:=fun i=>by
  have h1:=AQ (l:=s.defs.take i) fun f hf=>hb.db f (apx hf)
  have h2:(s.defs.take i).length*1600040<=3*1600040:=aot _ (by rw[List.length_take];exact aoS (Nat.min_le_right _ _) hdl)
  exact aoS h1 h2
 rw[iL] at ht hj ⊢
 have F4:(H++[bZ.box 26 [.str s.name,.slice (strs s.cB) false,.slice (s.defs.map cN) false,.slice (strs s.head) false,.str s.fin]])[H.length]?=some (.box 26 [.str s.name,.slice (strs s.cB) false,.slice (s.defs.map cN) false,.slice (strs s.head) false,.str s.fin]):=cr
 have nH:(H++[bZ.box 26 [.str s.name,.slice (strs s.cB) false,.slice (s.defs.map cN) false,.slice (strs s.head) false,.str s.fin]]).take H.length=H:=rO
 generalize hK:H++[bZ.box 26 [.str s.name,.slice (strs s.cB) false,.slice (s.defs.map cN) false,.slice (strs s.head) false,.str s.fin]]=K at ht hj F4 nH
 unfold ir8
 by_cases hc:fB s=[]
 ·have e:gY s=[]:=by unfold gY;rw[if_pos (.inl hc)]
  rw[hc,gv] at ht
  generalize (!(isWord s.name&&s.cB.all isWord))=o at ht
  rw[e]
  cases o<;>simp(disch:=omega)only[aP,aa,simprocAttr,hK,ht,F4,nH,an6,aq,ab]
 have dn:(((fB s).length:Int)==0)=false:=by
  cases h:fB s with
  | nil=>exact absurd h hc
  | cons a r=>simp;omega
 have main:∀ (T:aQ) (o:Bool),T 1=.ref H.length 0->T 4=.str (mB (fB s) s.head) ->
   W A (ir8.body.post 3) ⟨T,K,H.length,0⟩ (done H.length [.tmp 2] (.str (gY s),none)):=by
  intro T o e1 e4
  obtain⟨J,hJ⟩:∃ J,J=mB (fB s) s.head:=⟨_,rfl⟩
  rw[<- hJ] at e4 sn
  unfold ir8
  simp only[aY.post]
  simp(disch:=omega)only[aP,aa,simprocAttr,e1,e4]
  refine bM s.defs.length 0 (fun i st=>∃ T,st=⟨T,K,H.length,0⟩/\T 1=.ref H.length 0/\T 5=.int .i64 i/\T 4=.str (J++gX (s.defs.take i))/\∀ f∈s.defs.take i,gn f≠[])
   (fun st=>∃ T,st=⟨T,K,H.length,0⟩/\T 1=.ref H.length 0/\T 4=.str (J++gX s.defs)/\∀ f∈s.defs,gn f≠[]) (fun st=>fin H.length [.tmp 2] st=some (.str (gY s),none)) ?_ ?_ ?_ 0 _ (ao9 _) ?_
  ·rintro i st hi ⟨T,rfl,e1,e5,e4,dA⟩
   by_cases bf:i<s.defs.length
   ·have hx:=an' bf
    have hm:=aoW bf
    have j6:=gE hx
    generalize s.defs[i]=u at hx hm j6
    have fE:=FQ hx
    have hu:=hb.db u hm
    have hrt:=xC hu K
    have hdf:=Ol hu K
    have ah7:=x4 hu
    rw[cN] at fE hrt hdf
    have NB:=Pa i
    have jZ:J++gX (s.defs.take i)++ue u=J++gX (s.defs.take (i+1)):=by rw[j6,x5,ao5]
    by_cases gR:gn u=[]
    ·have e:gY s=[]:=by unfold gY;rw[if_pos (.inr ⟨u,hm,gR⟩)]
     rw[gR,gv] at hrt
     simp(disch:=omega)only[aP,aa,simprocAttr,e1,e4,e5,F4,ny,fE,hrt,nH,e,an6,aq,ab]
    ·have aaL:(((gn u).length:Int)==0)=false:=by
      cases h:gn u with
      | nil=>exact absurd h gR
      | cons a r=>simp;omega
     have hlJ:(J++gX (s.defs.take i)).length<=10000000:=by rw[List.length_append];omega
     generalize J++gX (s.defs.take i)=acc at e4 jZ hlJ
     simp(disch:=omega)only[aP,aa,simprocAttr,e1,e4,e5,F4,ny,fE,hrt,hdf,aW,aaL,aq,ab]
     refine⟨bf,_,rfl,by simp(disch:=omega)only[aN,aa,simprocAttr,e1],by simp(disch:=omega)only[aN,aa,simprocAttr],by simp(disch:=omega)only[aN,aa,simprocAttr,jZ],?_⟩
     rw[j6]
     intro f hf
     rcases aog.1 hf with hf|hf
     ·exact dA f hf
     ·rw[aos.1 hf];exact gR
   ·rw[aoJ (by omega)] at e4 dA
    simp(disch:=omega)only[aP,aa,simprocAttr,e1,e4,e5,F4,ny,aq,ab]
    exact⟨_,rfl,by simp(disch:=omega)only[aN,aa,simprocAttr,e1],by simp(disch:=omega)only[aN,aa,simprocAttr,e4],dA⟩
  ·rintro st ⟨T,rfl,e1,e4,dA⟩
   have e:gY s=J++gX s.defs++s.fin:=by
    unfold gY
    rw[if_neg,<- hJ]
    rintro (h|⟨f,hf,h⟩)
    ·exact hc h
    ·exact dA f hf h
   have NB:=Pa s.defs.length
   rw[apm] at NB
   rw[e]
   have hlJ:(J++gX s.defs).length<=10000000:=by rw[List.length_append];omega
   generalize J++gX s.defs=acc at e4 hlJ
   simp(disch:=omega)only[aP,aa,simprocAttr,e1,e4,F4,nH,aq,ab]
  ·intro st hs;exact hs
  ·exact⟨_,rfl,by simp(disch:=omega)only[aN,aa,simprocAttr,e1],by simp(disch:=omega)only[aN,aa,simprocAttr,aoI],by simp(disch:=omega)only[aN,aa,simprocAttr,e4,aoV,gX,aol,aph,aoZ],by simp⟩
 refine fH 3 (R:=fun st=>∃ T,st=⟨T,K,H.length,0⟩/\T 1=.ref H.length 0/\T 4=.str (mB (fB s) s.head)) ?_ (fun st ⟨T,e,h1,h4⟩=>by rw[e];exact main T true h1 h4)
 simp only[aY.pre]
 generalize (!(isWord s.name&&s.cB.all isWord))=o at ht
 cases o<;>(
  simp(disch:=omega)only[aP,aa,simprocAttr,hK,ht,F4,aW,dn,hj,aq,ab]
  exact⟨_,rfl,by simp(disch:=omega)only[aN,aa,simprocAttr],by simp(disch:=omega)only[aN,aa,simprocAttr]⟩)
structure H2 (m:Nat) (f:Fm):Prop where
 k:0<=f.kind/\f.kind<=5
 a:f.name.length<=20
 sl:f.a8.length<=3
 sb:∀ s∈f.a8,FdB s
 w:wi 3 (.mk f.rn f.rk)
 b:oP m 5 f.body
 ll:f.layout.length<=19000+m
 lb:∀ s∈f.layout,s.length<=20
structure xh (m:Nat) (s:So):Prop where
 a:s.name.length<=20
 ul:s.cB.length<=2+m
 ub:∀ u∈s.cB,u.length<=20
 dl:s.defs.length<=3
 db:∀ f∈s.defs,H2 m f
 hl:s.head.length<=19000
 hb:∀ u∈s.head,u.length<=20
 e:s.fin.length<=20
theorem H2.B{m:Nat}{f:Fm}(hm:m<=8)(h:H2 m f):HP f:=⟨h.k,h.a,h.sl,h.sb,h.w,h.b.le hm _ _ _ (aoa _),by have:=h.ll;omega,h.lb⟩
theorem xh.B{m:Nat}{s:So}(hm:m<=8)(h:xh m s):To s:=⟨h.a,by have:=h.ul;omega,h.ub,h.dl,fun f hf=>(h.db f hf).B hm,by have:=h.hl;omega,h.hb,h.e⟩
theorem H2.up{m m' : Nat}{f:Fm}(hm:m<=m')(h:H2 m f):H2 m' f:=⟨h.k,h.a,h.sl,h.sb,h.w,h.b.up hm _ _ _ (aoa _),by have:=h.ll;omega,h.lb⟩
structure SA (c:Cc) (so:So) (b:Bool) (T:aQ):Prop where
 t2:T 2=.lbox 0 [.str [],.slice [] true,.slice [] true,.slice [] true,.str []]
 t3:T 3=.ref c.mm 0
 t5:T 5=.bool b
 t4:∃ g,T 4=.lbox g [.str so.name,.slice (strs so.cB) true,.slice (so.defs.map cN) true,.slice (strs so.head) true,.str so.fin]
def Yf(c:Cc)(K:ah)(b:Bool)(P:So->Prop)(s:AS):Prop:=∃ T p g so,s=⟨T,cP c p K,c.mm,g⟩/\SA c so b T/\xh 4 so/\P so
structure FA (c:Cc) (so:So) (b:Bool) (many i:Int) (f:Fm) (T:aQ):Prop where
 sa:SA c so b T
 t7:T 7=.int .i64 many
 t8:T 8=.int .i64 i
 t9:∃ g o1 o2 o3,T 9=.lbox g [.int .i64 f.kind,.str f.name,.slice (f.a8.map dX) true,.str f.rn,.slice (az f.rk) o1,.int .i64 f.body.kind,.int .i64 f.body.n,.str f.body.name,.str f.body.field,.str f.body.wn,.slice (az f.body.wk) o2,.slice (au f.body.kids) o2,.slice (strs f.body.names) o2,.slice (strs f.layout) o3]
def Ye(c:Cc)(K:ah)(so:So)(b:Bool)(many i:Int)(P:Fm->aQ->Prop)(s:AS):Prop:=∃ T p g f,s=⟨T,cP c p K,c.mm,g⟩/\FA c so b many i f T/\H2 4 f/\P f T
theorem C4{c:Cc}{p0:Int}{K:ah}(h:CH c p0 K)(p n:Int)(hn:0<n):∃ x p',0<=x/\x<n/\aD A 14 [.ref c.mm 0,.int .i64 n] (cP c p K)=some (.int .i64 x,some ⟨cP c p' K,c.mm⟩):=by
 obtain⟨x,p',a,b,e⟩:=kQ (h.set (p':=p)) n hn
 rw[bd] at e
 exact⟨x,p',a,b,e⟩
theorem K4{c:Cc}{p0:Int}{K:ah}(h:CH c p0 K)(p:Int):∃ s p',s.length<=20/\aD A 13 [.ref c.mm 0] (cP c p K)=some (.str s,some ⟨cP c p' K,c.mm⟩):=by
 obtain⟨s,p',a,e⟩:=mo (h.set (p':=p))
 rw[bd] at e
 exact⟨s,p',by have:=gU s a;omega,e⟩
theorem YR{c:Cc}{p0:Int}{K:ah}(h:CH c p0 K)(p:Int):∃ w p',wi 3 w/\aD A 17 [.ref c.mm 0,.int .i64 2] (cP c p K)=some (.agg [.str w.name,.slice (az w.kids) false],some ⟨cP c p' K,c.mm⟩):=by
 obtain⟨w,p',a,e⟩:=GB 2 p (cP c p K) (by omega) h.set
 rw[bd,iB] at e
 exact⟨w,p',S6 (by omega) a,e⟩
theorem BE{c:Cc} : ∀ d:Nat,d<=101->xI c d
 | 0,_=>agA
 | d+1,h=>agC (by omega) (BE d (by omega))
theorem Y8{c:Cc}{p0:Int}{K:ah}(h:CH c p0 K)(p:Int)(d:Nat)(hd:d<=4):∃ t p',oP 4 5 t/\aD A 18 [.ref c.mm 0,.int .i64 d] (cP c p K)=some (.agg [.int .i64 t.kind,.int .i64 t.n,.str t.name,.str t.field,.str t.wn,.slice (az t.wk) false,.slice (au t.kids) false,.slice (strs t.names) false],some ⟨cP c p' K,c.mm⟩):=by
 obtain⟨t,p',a,e⟩:=BE d (by omega) p (cP c p K) h.set
 rw[bd,an] at e
 exact⟨t,p',a.up (aoa _) _ _ _ (by omega),e⟩
theorem afA{c:Cc}{p0:Int}{K:ah}(h:CH c p0 K)(p:Int)(n:Nat)(hn:n<=12000):∃ (x:Int) (b:bq) (out:List bq) (p1 p2:Int),out.length<=19000/\(∀ s∈out,s.length<=20) /\
  aD A 14 [.ref c.mm 0,.int .i64 1000] (cP c p K)=some (.int .i64 x,some ⟨cP c p1 K,c.mm⟩) /\
  aD A 16 [.int .i64 x,.int .i64 0] (cP c p1 K)=some (.str b,none)/\aD A 15 [.ref c.mm 0,.int .i64 n,.str b] (cP c p1 K)=some (.slice (strs out) true,some ⟨cP c p2 K,c.mm⟩):=by
 obtain⟨x,p1,x0,x1,e1⟩:=C4 h p 1000 (by omega)
 obtain⟨b,hb,e2⟩:=Yq x 0 (cP c p1 K) (Bb x0 (by omega))
 obtain⟨out,p2,ol,ob,e3⟩:=Rw (h.set (p':=p1)) n (by omega) b hb
 rw[bd] at e3
 exact⟨x,b,out,p1,p2,by omega,ob,e1,e2,e3⟩
theorem Xo{c:Cc}{p0:Int}{K:ah}(h:CH c p0 K){so:So}{b:Bool}{T:aQ}{p:Int}{g:Nat}{Q:bP->AS->Prop}(hs:SA c so b T)(hG:xh 4 so)(hu:so.cB=[])(hd:so.defs=[]) :
  W A ((Bf.body.post 3).pre 0) ⟨T,cP c p K,c.mm,g⟩ (andThen (Yf c K b (fun wQ=>wQ.defs=[])) Q):=by
 obtain⟨q2,q3,q5,g4,q4⟩:=hs
 unfold Bf
 simp only[aY.post,aY.pre]
 simp(disch:=omega)only[aP,aa,simprocAttr,q2,q3,q4,q5]
 refine bM 2 0 (fun i s=>∃ T p g so,s=⟨T,cP c p K,c.mm,g⟩/\SA c so b T/\xh 4 so/\so.defs=[]/\T 6=.int .i64 i/\so.cB.length=i)
  (Yf c K b (fun wQ=>wQ.defs=[])) (fun _=>False) ?_ (fun s hs=>hs) (fun _ h=>h.elim) 0 _ (by omega) ?_
 ·rintro i s hi ⟨T,p,g,so,rfl,⟨q2,q3,q5,g4,q4⟩,hG,hd,q6,hl⟩
  obtain⟨x,p1,x0,x1,e1⟩:=C4 h p 3 (by omega)
  by_cases hc:(i:Int)<x
  ·obtain⟨u,p2,ul,e2⟩:=K4 h p1
   have a1:aC false 1 16 (.slice (strs so.cB) true) (.slice [[.str u]] true)=some (.slice (strs (so.cB++[u])) true):=fj (by omega)
   simp(disch:=omega)only[aP,aa,simprocAttr,q2,q3,q4,q5,q6,e1,e2,a1,aq,ak,an3,an4,ab,ar,aoc,aob,an8,a7]
   refine⟨by omega,_,_,_,{ so with cB:=so.cB++[u] },rfl,⟨?_,?_,?_,g4,?_⟩,⟨hG.a,by simp;omega,fun v hv=>?_,hG.dl,hG.db,hG.hl,hG.hb,hG.e⟩,hd,?_,by simp[hl]⟩
   ·simp(disch:=omega)only[aN,aa,simprocAttr,q2]
   ·simp(disch:=omega)only[aN,aa,simprocAttr,q3]
   ·simp(disch:=omega)only[aN,aa,simprocAttr,q5]
   ·simp(disch:=omega)only[aN,aa,simprocAttr]
   ·rcases aog.1 hv with hv|hv
    ·exact hG.ub v hv
    ·rw[aos.1 hv];exact ul
   ·simp(disch:=omega)only[aN,aa,simprocAttr]
  ·simp(disch:=omega)only[aP,aa,simprocAttr,q2,q3,q4,q5,q6,e1,ar,aoc,aob,an8,a7]
   refine⟨_,_,_,so,rfl,⟨?_,?_,?_,g4,?_⟩,hG,hd⟩
   ·simp(disch:=omega)only[aN,aa,simprocAttr,q2]
   ·simp(disch:=omega)only[aN,aa,simprocAttr,q3]
   ·simp(disch:=omega)only[aN,aa,simprocAttr,q5]
   ·simp(disch:=omega)only[aN,aa,simprocAttr,q4]
 ·refine⟨_,_,_,so,rfl,⟨?_,?_,?_,g4,?_⟩,hG,hd,?_,by rw[hu];rfl⟩
  ·simp(disch:=omega)only[aN,aa,simprocAttr,q2]
  ·simp(disch:=omega)only[aN,aa,simprocAttr,q3]
  ·simp(disch:=omega)only[aN,aa,simprocAttr,q5]
  ·simp(disch:=omega)only[aN,aa,simprocAttr,q4]
  ·simp(disch:=omega)only[aN,aa,simprocAttr,aoI]
theorem Xn{c:Cc}{p0:Int}{K:ah}(h:CH c p0 K){b:Bool}{s:AS}{Q:bP->AS->Prop}(hs:Yf c K b (fun wQ=>wQ.defs=[]) s) :
  W A ((Bf.body.post 4).pre 1) s (andThen (fun s=>∃ n:Nat,n<=3/\s.T 7=.int .i64 n/\Yf c K b (fun wQ=>wQ.defs=[]) s) Q):=by
 obtain⟨T,p,g,so,rfl,⟨q2,q3,q5,g4,q4⟩,hG,hd⟩:=hs
 unfold Bf
 simp only[aY.post,aY.pre]
 have hul:=hG.ul
 cases b with
 | true =>
  obtain⟨x,bs,out,p1,p2,ol,ob,e1,e2,e3⟩:=afA h p (2+2*so.cB.length) (by omega)
  have en:((2+2*so.cB.length:Nat):Int)=2+2*(so.cB.length:Int):=by omega
  rw[en] at e3
  obtain⟨n,p3,n0,n1,e4⟩:=C4 h p2 4 (by omega)
  simp(disch:=omega)only[aP,aa,simprocAttr,q2,q3,q4,q5,e1,e2,e3,e4,aW,aq,ak,an3,an4,ab,ar,aoc,aob,an8,a7]
  refine⟨n.toNat,by omega,?_,_,_,_,{ so with head:=out },rfl,⟨?_,?_,?_,g4,?_⟩,⟨hG.a,hG.ul,hG.ub,hG.dl,hG.db,ol,ob,hG.e⟩,hd⟩
  ·rw[aqb n0]
  ·simp(disch:=omega)only[aN,aa,simprocAttr,q2]
  ·simp(disch:=omega)only[aN,aa,simprocAttr,q3]
  ·simp(disch:=omega)only[aN,aa,simprocAttr,q5]
  ·simp(disch:=omega)only[aN,aa,simprocAttr]
 | false =>
  obtain⟨n,p3,n0,n1,e4⟩:=C4 h p 4 (by omega)
  simp(disch:=omega)only[aP,aa,simprocAttr,q2,q3,q4,q5,e4,ar,aoc,aob,an8,a7]
  refine⟨n.toNat,by omega,?_,_,_,_,so,rfl,⟨?_,?_,?_,g4,?_⟩,hG,hd⟩
  ·rw[aqb n0]
  ·simp(disch:=omega)only[aN,aa,simprocAttr,q2]
  ·simp(disch:=omega)only[aN,aa,simprocAttr,q3]
  ·simp(disch:=omega)only[aN,aa,simprocAttr,q5]
  ·simp(disch:=omega)only[aN,aa,simprocAttr,q4]
abbrev sy:aY:=Bf.body.sub [true,true,true,true,true,true,true,false,true,false,false,true,false,false]
abbrev j5:Tm:=.mk 0 0 [] [] [] [] [] []
theorem adj:oP 4 5 j5:=iZ (by omega) (by omega) (by decide)
theorem OU{c:Cc}{p0:Int}{K:ah}(h:CH c p0 K){so:So}{b:Bool}{many i:Int}{T:aQ}{p:Int}{g:Nat}{Q:bP->AS->Prop}(hs:SA c so b T)(h7:T 7=.int .i64 many)(h8:T 8=.int .i64 i) :
  W A (sy.pre 1) ⟨T,cP c p K,c.mm,g⟩ (andThen (Ye c K so b many i (fun f T=>f.a8=[]/\∃ n:Nat,n<=3/\T 10=.int .i64 n)) Q):=by
 obtain⟨q2,q3,q5,g4,q4⟩:=hs
 unfold sy Bf
 simp only[aY.sub,aY.pre]
 obtain⟨k,p1,k0,k1,e1⟩:=C4 h p 6 (by omega)
 obtain⟨u,p2,ul,e2⟩:=K4 h p1
 obtain⟨n,p3,n0,n1,e3⟩:=C4 h p2 4 (by omega)
 simp(disch:=omega)only[aP,aa,simprocAttr,q2,q3,q4,q5,e1,e2,e3,cn,ar,aoc,aob,an8,a7]
 refine⟨_,_,_,⟨k,u,[],[],[],j5,[]⟩,rfl,⟨⟨?_,?_,?_,g4,?_⟩,?_,?_,g,true,true,true,?_⟩,⟨by simp only;omega,ul,by simp,by simp,jX,adj,by simp,by simp⟩,rfl,n.toNat,by omega,?_⟩
 ·simp(disch:=omega)only[aN,aa,simprocAttr,q2]
 ·simp(disch:=omega)only[aN,aa,simprocAttr,q3]
 ·simp(disch:=omega)only[aN,aa,simprocAttr,q5]
 ·simp(disch:=omega)only[aN,aa,simprocAttr,q4]
 ·simp(disch:=omega)only[aN,aa,simprocAttr,h7]
 ·simp(disch:=omega)only[aN,aa,simprocAttr,h8]
 ·simp(disch:=omega)only[aN,aa,simprocAttr,j5,Tm.kind,Tm.n,Tm.name,Tm.field,Tm.wn,Tm.wk,Tm.kids,Tm.names,az,au,gv,aol]
 ·simp(disch:=omega)only[aN,aa,simprocAttr,aqb n0]
theorem OT{c:Cc}{p0:Int}{K:ah}(h:CH c p0 K){so:So}{b:Bool}{many i:Int}{s:AS}{Q:bP->AS->Prop}(hs:Ye c K so b many i (fun f T=>f.a8=[]/\∃ n:Nat,n<=3/\T 10=.int .i64 n) s) :
  W A ((sy.post 1).pre 0) s (andThen (Ye c K so b many i (fun _ _=>True)) Q):=by
 obtain⟨T,p,g,f,rfl,⟨⟨q2,q3,q5,g4,q4⟩,q7,q8,g9,o1,o2,o3,q9⟩,hF,uD,n,hn,xz⟩:=hs
 unfold sy Bf
 simp only[aY.sub,aY.pre,aY.post]
 simp(disch:=omega)only[aP,aa,simprocAttr,q2,q3,q4,q5]
 refine bM n 4 (fun j s=>∃ T p g f,s=⟨T,cP c p K,c.mm,g⟩/\FA c so b many i f T/\H2 4 f/\T 10=.int .i64 n/\T 11=.int .i64 j/\f.a8.length=j)
  (Ye c K so b many i (fun _ _=>True)) (fun _=>False) ?_ (fun s hs=>hs) (fun _ h=>h.elim) 0 _ (by omega) ?_
 ·rintro j s hj ⟨T,p,g,f,rfl,⟨⟨q2,q3,q5,g4,q4⟩,q7,q8,g9,o1,o2,o3,q9⟩,hF,xz,xA,hl⟩
  by_cases hc:j<n
  ·obtain⟨u,p1,ul,e1⟩:=K4 h p
   obtain⟨w,p2,wb,e2⟩:=YR h p1
   obtain⟨m,p3,m0,m1,e3⟩:=C4 h p2 12 (by omega)
   have fin:∀ (T' : aQ) (p' : Int) (g' : Nat) (x:Int),0<=x->x<12->SA c so b T'->T' 7=.int .i64 many->T' 8=.int .i64 i->T' 10=.int .i64 n->T' 11=.int .i64 ((j:Int)+1) ->
     T' 9=.lbox g9 [.int .i64 f.kind,.str f.name,.slice ((f.a8++[Fd.mk u w.name w.kids x]).map dX) true,.str f.rn,.slice (az f.rk) o1,.int .i64 f.body.kind,.int .i64 f.body.n,.str f.body.name,.str f.body.field,.str f.body.wn,.slice (az f.body.wk) o2,.slice (au f.body.kids) o2,.slice (strs f.body.names) o2,.slice (strs f.layout) o3] ->
     j<n/\∃ T p g f,(⟨T',cP c p' K,c.mm,g'⟩:AS)=⟨T,cP c p K,c.mm,g⟩/\FA c so b many i f T/\H2 4 f/\T 10=.int .i64 n/\T 11=.int .i64 ((j:Int)+1)/\f.a8.length=j+1:=by
    intro T' p' g' x x0 x1 Tf r7 r8 r10 r11 r9
    refine⟨hc,_,_,_,{ f with a8:=f.a8++[Fd.mk u w.name w.kids x] },rfl,⟨Tf,r7,r8,g9,o1,o2,o3,r9⟩,⟨hF.k,hF.a,by simp;omega,fun v hv=>?_,hF.w,hF.b,hF.ll,hF.lb⟩,r10,r11,by simp[hl]⟩
    rcases aog.1 hv with hv|hv
    ·exact hF.sb v hv
    ·rw[aos.1 hv];exact⟨ul,by cases w;exact wb,by simp only;omega⟩
   by_cases h4:f.kind=4
   ·have a1:aC false 4 64 (.slice (f.a8.map dX) true) (.slice [[.str u,.str w.name,.slice (az w.kids) false,.int .i64 m]] true)=some (.slice ((f.a8++[Fd.mk u w.name w.kids m]).map dX) true):=BQ (l:=f.a8) (u:=Fd.mk u w.name w.kids m) (by omega)
    simp(disch:=omega)only[aP,aa,simprocAttr,q2,q3,q4,q5,q7,q8,q9,xz,xA,e1,e2,e3,a1,cn,aq,ak,an3,an4,ab,ar,aoc,aob,an8,a7]
    refine fin _ _ _ m m0 m1 ⟨?_,?_,?_,g4,?_⟩ ?_ ?_ ?_ ?_ ?_
    ·simp(disch:=omega)only[aN,aa,simprocAttr,q2]
    ·simp(disch:=omega)only[aN,aa,simprocAttr,q3]
    ·simp(disch:=omega)only[aN,aa,simprocAttr,q5]
    ·simp(disch:=omega)only[aN,aa,simprocAttr,q4]
    ·simp(disch:=omega)only[aN,aa,simprocAttr,q7]
    ·simp(disch:=omega)only[aN,aa,simprocAttr,q8]
    ·simp(disch:=omega)only[aN,aa,simprocAttr,xz]
    ·simp(disch:=omega)only[aN,aa,simprocAttr]
    ·simp(disch:=omega)only[aN,aa,simprocAttr]
   ·have a1:aC false 4 64 (.slice (f.a8.map dX) true) (.slice [[.str u,.str w.name,.slice (az w.kids) false,.int .i64 0]] true)=some (.slice ((f.a8++[Fd.mk u w.name w.kids 0]).map dX) true):=BQ (l:=f.a8) (u:=Fd.mk u w.name w.kids 0) (by omega)
    simp(disch:=omega)only[aP,aa,simprocAttr,q2,q3,q4,q5,q7,q8,q9,xz,xA,e1,e2,a1,cn,aq,ak,an3,an4,ab,ar,aoc,aob,an8,a7]
    refine fin _ _ _ 0 (by omega) (by omega) ⟨?_,?_,?_,g4,?_⟩ ?_ ?_ ?_ ?_ ?_
    ·simp(disch:=omega)only[aN,aa,simprocAttr,q2]
    ·simp(disch:=omega)only[aN,aa,simprocAttr,q3]
    ·simp(disch:=omega)only[aN,aa,simprocAttr,q5]
    ·simp(disch:=omega)only[aN,aa,simprocAttr,q4]
    ·simp(disch:=omega)only[aN,aa,simprocAttr,q7]
    ·simp(disch:=omega)only[aN,aa,simprocAttr,q8]
    ·simp(disch:=omega)only[aN,aa,simprocAttr,xz]
    ·simp(disch:=omega)only[aN,aa,simprocAttr]
    ·simp(disch:=omega)only[aN,aa,simprocAttr]
  ·simp(disch:=omega)only[aP,aa,simprocAttr,q2,q3,q4,q5,xz,xA,ar,aoc,aob,an8,a7]
   refine⟨_,_,_,f,rfl,⟨⟨?_,?_,?_,g4,?_⟩,?_,?_,g9,o1,o2,o3,?_⟩,hF,trivial⟩
   ·simp(disch:=omega)only[aN,aa,simprocAttr,q2]
   ·simp(disch:=omega)only[aN,aa,simprocAttr,q3]
   ·simp(disch:=omega)only[aN,aa,simprocAttr,q5]
   ·simp(disch:=omega)only[aN,aa,simprocAttr,q4]
   ·simp(disch:=omega)only[aN,aa,simprocAttr,q7]
   ·simp(disch:=omega)only[aN,aa,simprocAttr,q8]
   ·simp(disch:=omega)only[aN,aa,simprocAttr,q9]
 ·refine⟨_,_,_,f,rfl,⟨⟨?_,?_,?_,g4,?_⟩,?_,?_,g9,o1,o2,o3,?_⟩,hF,?_,?_,by rw[uD];rfl⟩
  ·simp(disch:=omega)only[aN,aa,simprocAttr,q2]
  ·simp(disch:=omega)only[aN,aa,simprocAttr,q3]
  ·simp(disch:=omega)only[aN,aa,simprocAttr,q5]
  ·simp(disch:=omega)only[aN,aa,simprocAttr,q4]
  ·simp(disch:=omega)only[aN,aa,simprocAttr,q7]
  ·simp(disch:=omega)only[aN,aa,simprocAttr,q8]
  ·simp(disch:=omega)only[aN,aa,simprocAttr,q9]
  ·simp(disch:=omega)only[aN,aa,simprocAttr,xz]
  ·simp(disch:=omega)only[aN,aa,simprocAttr,aoI]
theorem T1{c:Cc}{p0:Int}{K:ah}(h:CH c p0 K){so:So}{b:Bool}{many i:Int}{s:AS}{Q:bP->AS->Prop}(hs:Ye c K so b many i (fun _ _=>True) s) :
  W A ((sy.post 2).pre 0) s (andThen (Ye c K so b many i (fun _ _=>True)) Q):=by
 obtain⟨T,p,g,f,rfl,⟨⟨q2,q3,q5,g4,q4⟩,q7,q8,g9,o1,o2,o3,q9⟩,hF, -⟩:=hs
 unfold sy Bf
 simp only[aY.sub,aY.pre,aY.post]
 have fin:∀ (T' : aQ) (p' : Int) (g' : Nat) (f' : Fm) (o1 o2:Bool),T' 2=.lbox 0 [.str [],.slice [] true,.slice [] true,.slice [] true,.str []]->T' 3=.ref c.mm 0->T' 5=.bool b->T' 4=.lbox g4 [.str so.name,.slice (strs so.cB) true,.slice (so.defs.map cN) true,.slice (strs so.head) true,.str so.fin]->T' 7=.int .i64 many->T' 8=.int .i64 i ->
   T' 9=.lbox g9 [.int .i64 f'.kind,.str f'.name,.slice (f'.a8.map dX) true,.str f'.rn,.slice (az f'.rk) o1,.int .i64 f'.body.kind,.int .i64 f'.body.n,.str f'.body.name,.str f'.body.field,.str f'.body.wn,.slice (az f'.body.wk) o2,.slice (au f'.body.kids) o2,.slice (strs f'.body.names) o2,.slice (strs f'.layout) o3]->H2 4 f'->Ye c K so b many i (fun _ _=>True) ⟨T',cP c p' K,c.mm,g'⟩ :=
  fun T' p' g' f' o1 o2 r2 r3 r5 r4 r7 r8 r9 hf=>⟨_,_,_,f',rfl,⟨⟨r2,r3,r5,g4,r4⟩,r7,r8,g9,o1,o2,o3,r9⟩,hf,trivial⟩
 by_cases k0:f.kind=0
 ·simp(disch:=omega)only[aP,aa,simprocAttr,q2,q3,q4,q5,q9,aq,ak,an3,an4,ab,ar,aoc,aob,an8,a7]
  refine fin _ _ _ f o1 o2 ?_ ?_ ?_ ?_ ?_ ?_ ?_ hF
  all_goals simp(disch:=omega)only[aN,aa,simprocAttr,q2,q3,q4,q5,q7,q8,q9]
 by_cases k1:f.kind=1
 ·simp(disch:=omega)only[aP,aa,simprocAttr,q2,q3,q4,q5,q9,aq,ak,an3,an4,ab,ar,aoc,aob,an8,a7]
  refine fin _ _ _ f o1 o2 ?_ ?_ ?_ ?_ ?_ ?_ ?_ hF
  all_goals simp(disch:=omega)only[aN,aa,simprocAttr,q2,q3,q4,q5,q7,q8,q9]
 obtain⟨w,p1,wb,e1⟩:=YR h p
 obtain⟨t,p2,tb,e2⟩:=Y8 h p1 4 (by omega)
 rw[show ((4:Nat):Int)=4 from rfl] at e2
 obtain⟨u,p3,ub,e3⟩:=Y8 h p2 0 (by omega)
 rw[show ((0:Nat):Int)=0 from rfl] at e3
 have wX:H2 4 { f with rn:=w.name,rk:=w.kids,body:=t }:=⟨hF.k,hF.a,hF.sl,hF.sb,by cases w;exact wb,tb,hF.ll,hF.lb⟩
 have F1:H2 4 { f with rn:=w.name,rk:=w.kids,body:=u }:=⟨hF.k,hF.a,hF.sl,hF.sb,by cases w;exact wb,ub,hF.ll,hF.lb⟩
 have e4:=xC (wX.B (by omega)) (cP c p2 K)
 rw[cN] at e4
 simp only at e4
 simp(disch:=omega)only[aP,aa,simprocAttr,q2,q3,q4,q5,q9,e1,e2,e4,aW,aq,ak,an3,an4,ab,ar,aoc,aob,an8,a7]
 refine jf ?_ ?_<;>intro hlen
 ·simp(disch:=omega)only[aP,aa,simprocAttr,q2,q3,q4,q5,q9,e3,aq,ak,an3,an4,ab,ar,aoc,aob,an8,a7]
  refine fin _ _ _ { f with rn:=w.name,rk:=w.kids,body:=u } false false ?_ ?_ ?_ ?_ ?_ ?_ ?_ F1
  all_goals simp(disch:=omega)only[aN,aa,simprocAttr,q2,q3,q4,q5,q7,q8,q9]
 ·simp(disch:=omega)only[aP,aa,simprocAttr,q2,q3,q4,q5,q9,aq,ak,an3,an4,ab,ar,aoc,aob,an8,a7]
  refine fin _ _ _ { f with rn:=w.name,rk:=w.kids,body:=t } false false ?_ ?_ ?_ ?_ ?_ ?_ ?_ wX
  all_goals simp(disch:=omega)only[aN,aa,simprocAttr,q2,q3,q4,q5,q7,q8,q9]
def NO(c:Cc)(K:ah)(b:Bool)(many i:Int)(nd:Nat)(s:AS):Prop:=∃ T p g so,s=⟨T,cP c p K,c.mm,g⟩/\SA c so b T/\xh 4 so/\T 7=.int .i64 many/\T 8=.int .i64 i/\so.defs.length=nd
theorem aaa{c:Cc}{p0:Int}{K:ah}(h:CH c p0 K){so:So}(hG:xh 4 so)(hd:so.defs.length<3){b:Bool}{many i:Int}{s:AS}{R:AS->Prop}{Q:bP->AS->Prop}(hs:Ye c K so b many i (fun _ _=>True) s)
  (hR:∀ s',NO c K b many i (so.defs.length+1) s'->R s'):W A (sy.post 3) s (andThen R Q):=by
 obtain⟨T,p,g,f,rfl,⟨⟨q2,q3,q5,g4,q4⟩,q7,q8,g9,o1,o2,o3,q9⟩,hF, -⟩:=hs
 unfold sy Bf
 simp only[aY.sub,aY.pre,aY.post]
 have rR:∀ f',H2 4 f'->xh 4 { so with defs:=so.defs++[f'] }:=fun f' hf=>⟨hG.a,hG.ul,hG.ub,by simp;omega,fun v hv=>by
  rcases aog.1 hv with hv|hv
  ·exact hG.db v hv
  ·rw[aos.1 hv];exact hf,hG.hl,hG.hb,hG.e⟩
 have fin:∀ (T' : aQ) (p' : Int) (g' : Nat) (f' : Fm),H2 4 f'->T' 2=.lbox 0 [.str [],.slice [] true,.slice [] true,.slice [] true,.str []]->T' 3=.ref c.mm 0->T' 5=.bool b->T' 4=.lbox g4 [.str so.name,.slice (strs so.cB) true,.slice ((so.defs++[f']).map cN) true,.slice (strs so.head) true,.str so.fin]->T' 7=.int .i64 many->T' 8=.int .i64 i->R ⟨T',cP c p' K,c.mm,g'⟩ :=
  fun T' p' g' f' hf r2 r3 r5 r4 r7 r8=>hR _ ⟨_,_,_,{ so with defs:=so.defs++[f'] },rfl,⟨r2,r3,r5,g4,r4⟩,rR f' hf,r7,r8,by simp⟩
 cases b with
 | false =>
  have a1:=BR (l:=so.defs) (f:=f) (o:=true) (by omega)
  simp(disch:=omega)only[aP,aa,simprocAttr,q2,q3,q4,q5,q9,a1,aq,ak,an3,an4,ab,ar,aoc,aob,an8,a7]
  refine fin _ _ _ f hF ?_ ?_ ?_ ?_ ?_ ?_
  all_goals simp(disch:=omega)only[aN,aa,simprocAttr,q2,q3,q4,q5,q7,q8,q9]
 | true =>
  have hB:=hF.B (by omega)
  have e4:=xC hB (cP c p K)
  rw[cN] at e4
  obtain⟨x,bs,out,p1,p2,ol,ob,e1,e2,e3⟩:=afA h p (gn f).length (by have:=sd hB;omega)
  have a1:=BR (l:=so.defs) (f:={ f with layout:=out }) (o:=true) (by omega)
  simp only at a1
  simp(disch:=omega)only[aP,aa,simprocAttr,q2,q3,q4,q5,q9,e1,e2,e3,e4,aW,a1,aq,ak,an3,an4,ab,ar,aoc,aob,an8,a7]
  refine fin _ _ _ { f with layout:=out } ⟨hF.k,hF.a,hF.sl,hF.sb,hF.w,hF.b,by simp only;omega,ob⟩ ?_ ?_ ?_ ?_ ?_ ?_
  all_goals simp(disch:=omega)only[aN,aa,simprocAttr,q2,q3,q4,q5,q7,q8,q9]
theorem kR:∀ (n:Nat) (c:aY),(c.post n).post 0=c.post (n+1)
 | 0,.seq a b=>by cases b<;>rfl
 | n+1,.seq a b=>kR n b
 | n,.skip|n,.region ..|n,.vn ..|n,.cond ..|n,.block ..|n,.loop ..|n,.exit ..|n,.ret=>by cases n<;>rfl
theorem Z9{c:Cc}{p0:Int}{K:ah}(h:CH c p0 K){so:So}(hG:xh 4 so)(hd:so.defs.length<3){b:Bool}{many i:Int}{T:aQ}{p:Int}{g:Nat}{R:AS->Prop}{Q:bP->AS->Prop}(hs:SA c so b T)(h7:T 7=.int .i64 many)(h8:T 8=.int .i64 i)
  (hR:∀ s',NO c K b many i (so.defs.length+1) s'->R s'):W A sy ⟨T,cP c p K,c.mm,g⟩ (andThen R Q):=by
 refine fH 1 _ (OU h hs h7 h8) fun s1 h1=>?_
 refine fH 0 _ (OT h h1) fun s2 h2=>?_
 rw[kR]
 refine fH 0 _ (T1 h h2) fun s3 h3=>?_
 rw[kR]
 exact aaa h hG hd h3 hR
theorem Xm{c:Cc}{p0:Int}{K:ah}(h:CH c p0 K){b:Bool}{s:AS}{Q:bP->AS->Prop}(hs:∃ n:Nat,n<=3/\s.T 7=.int .i64 n/\Yf c K b (fun wQ=>wQ.defs=[]) s) :
  W A ((Bf.body.post 6).pre 0) s (andThen (Yf c K b (fun _=>True)) Q):=by
 obtain⟨n,hn,q7,T,p,g,so,rfl,⟨q2,q3,q5,g4,q4⟩,hG,hd⟩:=hs
 unfold Bf
 simp only[aY.post,aY.pre]
 simp only at q7
 simp(disch:=omega)only[aP,aa,simprocAttr]
 have MF:∀ {T:aQ} {T' : aQ},SA c so b T->T' 2=T 2->T' 3=T 3->T' 4=T 4->T' 5=T 5->SA c so b T':=fun h a2 a3 a4 a5=>by
  obtain⟨q2,q3,q5,g4,q4⟩:=h
  exact⟨a2.trans q2,a3.trans q3,a5.trans q5,g4,a4.trans q4⟩
 refine bM n 2 (fun i s=>NO c K b n i i s) (Yf c K b (fun _=>True)) (fun _=>False) ?_ (fun s hs=>hs) (fun _ h=>h.elim) 0 _ (by omega) ?_
 ·rintro i s hi ⟨T,p,g,so,rfl,Tf,hG,q7,q8,hl⟩
  have MF:∀ {T T' : aQ} {so:So},SA c so b T->T' 2=T 2->T' 3=T 3->T' 4=T 4->T' 5=T 5->SA c so b T':=fun h a2 a3 a4 a5=>by
   obtain⟨q2,q3,q5,g4,q4⟩:=h
   exact⟨a2.trans q2,a3.trans q3,a5.trans q5,g4,a4.trans q4⟩
  by_cases hc:i<n
  ·refine NR (fun s'=>∃ T g,s'=⟨T,cP c p K,c.mm,g⟩/\SA c so b T/\T 7=.int .i64 n/\T 8=.int .i64 i) ?_ ?_
   ·simp(disch:=omega)only[aP,aa,simprocAttr,q7,q8]
    refine⟨_,_,rfl,MF Tf ?_ ?_ ?_ ?_,?_,?_⟩
    all_goals simp(disch:=omega)only[aN,aa,simprocAttr,q7,q8]
   ·rintro s' ⟨T,g,rfl,Tf,q7,q8⟩
    refine NR (NO c K b n i (i+1)) ?_ ?_
    ·rw[BN]
     refine vl (c:=sy) (Z9 h hG (by omega) Tf q7 q8 (R:=NO c K b n i (i+1)) (Q:=fun _ _=>False) (fun s h=>by rw[hl] at h;exact h)) ?_
     intro e s hs
     cases e with
     | normal=>exact hs
     | _=>exact hs.elim
    ·rintro s' ⟨T,p,g,so,rfl,Tf,hG,q7,q8,hl⟩
     simp(disch:=omega)only[aP,aa,simprocAttr,q7,q8]
     refine⟨hc,_,_,_,so,rfl,MF Tf ?_ ?_ ?_ ?_,hG,?_,?_,hl⟩
     all_goals simp(disch:=omega)only[aN,aa,simprocAttr,q7,q8]
  ·simp(disch:=omega)only[aP,aa,simprocAttr,q7,q8]
   refine⟨_,_,_,so,rfl,MF Tf ?_ ?_ ?_ ?_,hG,trivial⟩
   all_goals simp(disch:=omega)only[aN,aa,simprocAttr]
 ·refine⟨_,_,_,so,rfl,MF ⟨q2,q3,q5,g4,q4⟩ ?_ ?_ ?_ ?_,hG,?_,?_,by rw[hd];rfl⟩
  all_goals simp(disch:=omega)only[aN,aa,simprocAttr,q7,aoI]
theorem ahH{x:Int}(h0:0<=x)(h1:x<4):∃ s:bq,s.length<=20/\([[.str []],[.str [32]],[.str [35,32,101,110,100]],[.str [10,10]]]:List (List AV))[x.toNat]?=some [.str s]:=by
 have:x.toNat=0\/x.toNat=1\/x.toNat=2\/x.toNat=3:=by omega
 rcases this with e|e|e|e<;>rw[e]<;>exact⟨_,by decide,rfl⟩
theorem St{c:Cc}{K:ah}(h:CH c 0 K)(hK:K.take c.mm=K.take c.mm){b:Bool}{s:AS}(hs:Yf c K b (fun _=>True) s) :
  W A (Bf.body.post 7) s (x8 c.mm [.cell 2 true 5] fun x=>∃ so,xh 4 so/\(mC x.1,x.2)=(.agg (iL so),none)):=by
 obtain⟨T,p,g,so,rfl,⟨q2,q3,q5,g4,q4⟩,hG, -⟩:=hs
 unfold Bf
 simp only[aY.post]
 have NVr:=@gb
 cases b with
 | true =>
  obtain⟨x,p1,x0,x1,e1⟩:=C4 h p 4 (by omega)
  obtain⟨e,el,ee⟩:=ahH x0 x1
  simp(disch:=omega)only[aP,aa,simprocAttr,q2,q3,q4,q5,e1,ee,aq,ak,an3,an4,ab,ar,aoc,aob,an8,a7,cy,aoh,aol,cV,cw,cz,ca,cW,cX,cU,dY,gb,Bq]
  exact⟨{ so with fin:=e },⟨hG.a,hG.ul,hG.ub,hG.dl,hG.db,hG.hl,hG.hb,el⟩,rfl⟩
 | false =>
  simp(disch:=omega)only[aP,aa,simprocAttr,q2,q3,q4,q5,aq,ak,an3,an4,ab,ar,aoc,aob,an8,a7,cy,aoh,aol,cV,cw,cz,ca,cW,cX,cU,dY,gb,Bq]
  exact⟨so,hG,rfl⟩
theorem Ss(l:List Int)(hl:∀ n∈l,zO n)(H:ah):∃ so,xh 4 so/\aD A 4 [.slice (ints l) false] H=some (.agg (iL so),none):=by
 have key:∃ r,aD A 4 [.slice (ints l) false] H=some r/\∃ so,xh 4 so/\r=(.agg (iL so),none):=by
  obtain⟨c,hc⟩:∃ c:Cc,c=⟨H.length,l⟩:=⟨_,rfl⟩
  obtain⟨K,hK⟩:∃ K,K=H++[.box 61 [.slice (ints l) false,.int .i64 0]]:=⟨_,rfl⟩
  have hcm:c.mm=H.length:=by rw[hc]
  have h:CH c 0 K:=⟨by rw[hcm,hK];rw[hc];exact cr,by rw[hc];exact hl,by rw[hcm,hK];simp⟩
  have hs0:cP c 0 K=K:=by
   unfold cP
   refine ap3 fun j=>?_
   rw[api]
   split
   ·rename_i e;subst e;rw[if_pos h.lt,h.h0]
   ·rfl
  obtain⟨u,p1,ul,e1⟩:=K4 h 0
  rw[hs0] at e1
  obtain⟨x,p2,x0,x1,e2⟩:=C4 h p1 2 (by omega)
  refine mR (fn:=Bf) rfl rfl rfl rfl ?_
  rw[<- hcm]
  refine fH 3 (fun s=>∃ T p g b so,s=⟨T,cP c p K,c.mm,g⟩/\SA c so b T/\xh 4 so/\so.cB=[]/\so.defs=[]) ?_ ?_
  ·unfold Bf
   simp only[aY.pre]
   have hK' : H++[bZ.box 61 [.slice (ints l) false,.int .i64 0]]=K:=hK.symm
   simp(disch:=omega)only[aP,aa,simprocAttr,<- hcm,hK',e1,e2,cn,ar,aoc,aob,an8,a7]
   refine⟨_,_,_,x==1,⟨u,[],[],[],[]⟩,rfl,⟨?_,?_,?_,1,?_⟩,⟨ul,by simp,by simp,by simp,by simp,by simp,by simp,by simp⟩,rfl,rfl⟩
   all_goals simp(disch:=omega)only[aN,aa,simprocAttr,gv,aol]
  ·rintro s ⟨T,p,g,b,so,rfl,Tf,hG,hu,hd⟩
   refine fH 0 _ (Xo h Tf hG hu hd) fun s1 h1=>?_
   rw[kR]
   refine fH 1 _ (Xn h h1) fun s2 h2=>?_
   have e:(Bf.body.post 4).post 1=Bf.body.post 6:=rfl
   rw[e]
   refine fH 0 _ (Xm h h2) fun s3 h3=>?_
   rw[kR]
   exact St h rfl h3
 obtain⟨r,h1,so,h2,rfl⟩:=key
 exact⟨so,h2,h1⟩
theorem kM{z:Nat} : ∀ {rows:List (List AV)},(∀ r∈rows,r.length=z)->rows.flatten.length=rows.length*z
 | [],_=>by simp
 | r :: rows,h=>by
  rw[aoP,List.length_append,kM (fun r hr=>h r (apl _ hr)),h r (aoF ..),an5,aoT,ap8,aqM]
theorem rL{z:Nat} : ∀ {rows:List (List AV)} {i:Nat} {r:List AV} (j:Nat),(∀ r∈rows,r.length=z)->rows[i]?=some r->j<=z->rows.flatten.drop (i*z+j)=r.drop j++(rows.drop (i+1)).flatten
 | [],i,r,j,_,hi,_=>by simp at hi
 | a :: rows,0,r,j,h,hi,hj=>by
  simp only[aoB,an2] at hi
  subst hi
  have ha:=h a (aoF ..)
  rw[aqA,Nat.zero_add,aoP,List.drop_append_of_le_length (by omega)]
  rfl
 | a :: rows,i+1,r,j,h,hi,hj=>by
  have ha:=h a (aoF ..)
  have e:(i+1)*z+j=a.length+(i*z+j):=by rw[aoT,ap8,ha];omega
  rw[e,aoP,<- aqB,List.drop_left' rfl,rL j (fun r hr=>h r (apl _ hr)) (by simpa using hi) hj]
  rfl
theorem L'{z:Nat}{rows:List (List AV)}{i j:Nat}{r:List AV}(h:∀ r∈rows,r.length=z)(hi:rows[i]?=some r)(hj:j<z):rows.flatten[i*z+j]?=r[j]?:=by
 have hr:=h r (aoo hi)
 have:=rL j h hi (aqN hj)
 have e:rows.flatten[i*z+j]?=(rows.flatten.drop (i*z+j))[0]?:=by rw[aoU];rfl
 rw[e,this,aox (by rw[aqq];omega),aoU]
 rfl
theorem qJ{z:Nat} : ∀ {rows:List (List AV)} {i j:Nat} {r cs:List AV},(∀ r∈rows,r.length=z)->rows[i]?=some r->j+cs.length<=z->putAt rows.flatten (i*z+j) cs=(rows.set i (putAt r j cs)).flatten
 | [],i,j,r,cs,_,hi,_=>by simp at hi
 | a :: rows,0,j,r,cs,h,hi,hj=>by
  simp only[aoB,an2] at hi
  subst hi
  have ha:=h a (aoF ..)
  simp only[putAt,aqA,Nat.zero_add,aoP,List.set_cons_zero]
  rw[apJ (by omega),List.drop_append_of_le_length (by omega)]
  simp only[ao5]
 | a :: rows,i+1,j,r,cs,h,hi,hj=>by
  have ha:=h a (aoF ..)
  have ih:=qJ (j:=j) (cs:=cs) (fun r hr=>h r (apl _ hr)) (by simpa using hi) hj
  have e:(i+1)*z+j=a.length+(i*z+j):=by rw[aoT,ap8,ha];omega
  simp only[aoP,List.set_cons_succ,<- ih]
  simp only[putAt,e]
  rw[List.take_length_add_append,ap2,List.drop_length_add_append]
  simp only[ao5]
theorem qA{z:Nat} : ∀ {rows:List (List AV)},(∀ r∈rows,r.length=z)->chunks z rows.length rows.flatten=rows
 | [],_=>rfl
 | r :: rows,h=>by
  have hr:=h r (by simp)
  rw[an5,chunks,aoP,<- hr,List.take_left' rfl,List.drop_left' rfl,hr,qA fun r hr=>h r (by simp[hr])]
theorem rr{A:AP}{T:aQ}{H:ah}{lo gen t:Nat}{os:List aM}{K:AS->Prop}{x:aF} : WO A false (⟨some t,none,.xO x⟩ :: os) ⟨T,H,lo,gen⟩ K =
  bG ((x.eval A.aZ T).drop.cells.bind fun cs=>cond (cs.all aG) (some cs) none) fun cs=>WO A false os ⟨T.put t (.ref H.length 0),H++[.cS (cs.map AV.drop)],cond (Nat.blt H.length lo) H.length lo,gen⟩ K:=by
 rw[nZ rfl]
 simp only[aE]
 cases (x.eval A.aZ T).drop.cells with
 | none=>simp[bG]
 | some cs =>
  simp only[aoe]
  cases cs.all aG with
  | false=>simp[bG]
  | true=>simp only[cond_true,aH];rfl
theorem cC{cs:List AV}{agg:Bool}{sz off:Nat} : oV (some (.cS cs)) agg sz off=ab false agg sz off cs:=rfl
def qe:AV->Bool
 | .int .u8 _=>false
 | .int _ _=>true
 | .str _=>true
 | .bool _=>true
 | .slice _ o=>!o
 | _=>false
theorem o4{x:AV}(h:qe x=true):x.drop=x/\x.plain=true/\jq x=true/\∀ H b k,fN H b k x=x:=by
 cases x with
 | int k n=>cases k<;>first|(exact⟨rfl,rfl,rfl,fun H b k=>by cases k<;>rfl⟩)|(simp[qe] at h)
 | str s=>exact⟨rfl,rfl,rfl,fun H b k=>by cases k<;>rfl⟩
 | bool s=>exact⟨rfl,rfl,rfl,fun H b k=>by cases k<;>rfl⟩
 | slice e o =>
  cases o with
  | false=>exact⟨rfl,rfl,rfl,fun H b k=>by cases k<;>rfl⟩
  | true=>simp[qe] at h
 | _=>simp[qe] at h
theorem AZ{H:ah}{base l z k:Nat}{o:bZ}{rows:List (List AV)}(hb:base<=l)(hl:H[l]?=some o)(ho:mh o=some rows.flatten)(hw:∀ r∈rows,r.length=z)(hz:0<z)
  (hp:∀ r∈rows,r.all qe=true):fN H base (k+1) (.sref l 0 rows.length z)=.slice rows false:=by
 have hx:∀ x∈rows.flatten,qe x=true:=by
  intro x hx
  obtain⟨r,hr,hx⟩:=ap'.1 hx
  exact aof.1 (hp r hr) x hx
 have h1:(rows.flatten.all fun x=>(fN H base k x.drop).plain&&jq x)=true:=by
  rw[aof]
  intro x h
  obtain⟨a1,a2,a3,a4⟩:=o4 (hx x h)
  rw[a1,a4,a2,a3];rfl
 have h2:rows.flatten.map (fun x=>fN H base k x.drop)=rows.flatten:=by
  conv=>rhs;rw[<- List.map_id rows.flatten]
  refine aoD fun x h=>?_
  obtain⟨a1,a2,a3,a4⟩:=o4 (hx x h)
  rw[a1,a4];rfl
 have h4:=kM hw
 rw[fN]
 simp only[aoR hb,cond_true,hl,aoe,ho,h1,h2,h4,Nat.zero_add,apc,aoR (aoa _),Bool.and_true]
 rw[show Nat.blt 0 z=true by simpa [aoO] using hz,cond_true,qA hw]
theorem Bv{x:AV}{base:Nat}(h:x.plain=true):x.aU base=true:=by
 cases x<;>first|(simp[AV.plain] at h;done)|exact h
theorem K9{x:AV}{H:ah}{base k:Nat}(h:x.aU base=true):fN H base k x=x:=by
 cases k with
 | zero=>rfl
 | succ k =>
  cases x with
  | sref l o n z =>
   have:Nat.ble base l=false:=by
    simp only[AV.aU,aoO] at h
    cases hb:Nat.ble base l with
    | false=>rfl
    | true=>rw[ao2] at hb;omega
   simp only[fN,this,an8]
  | _=>rfl
theorem IJ(x:AV):x.drop.drop=x.drop:=by cases x<;>rfl
theorem pN(cs:List AV):(cs.map AV.drop).map AV.drop=cs.map AV.drop:=by
 rw[apE];exact aoD fun x _=>IJ x
theorem Cx{base tc tr n g:Nat}{fn:aJ}{s:AS}{cs out:List AV}{r:Int}(hr:fn.results=[.cell tc true n,.tmp tr])(m8:fn.muts.elem 888888=false)(m7:fn.muts.elem 777777=true)
  (hT:s.T tc=.lbox g cs) (hR:s.T tr=.int .i64 r) (hn:cs.length=n) (qp:s.lo=base) (tj:((cs.map AV.drop).map (fN s.H base 3)).all AV.plain=true) (ho:((cs.map AV.drop).map (fN s.H base 3)).map n2=out) :
  finish base fn s=some (.tuple [.agg out,.int .i64 r],none):=by
 have h1:lp base s=true:=by simp[lp,qp]
 have hc:hN s (.cell tc true n)=some (.agg (cs.map AV.drop)):=by
  simp only[hN,hT,ab,cond_true,Nat.zero_add,hn,aoR (aoa _),apc]
  rw[<- hn,apm]
 have ht:hN s (.tmp tr)=some (.int .i64 r):=by simp only[hN,hR,aG,cond_true]
 have dA:mu s [.cell tc true n,.tmp tr]=some [.agg (cs.map AV.drop),.int .i64 r]:=by
  simp only[mu,hc,ht,aoe,aok,AV.bD,pN,AV.drop]
 have h3:jU base fn s=some (.tuple [.agg ((cs.map AV.drop).map (fN s.H base 3)),.int .i64 r],none):=by
  unfold jU pQ mG
  rw[h1,m8,hr]
  simp only[cond_true,an8]
  cases hl:(cs.map AV.drop).all (AV.aU base) with
  | true =>
   have e:(cs.map AV.drop).map (fN s.H base 3)=cs.map AV.drop:=by
    conv=>rhs;rw[<- List.map_id (cs.map AV.drop)]
    exact aoD fun x hx=>K9 (aof.1 hl x hx)
   have h0:gA base [.cell tc true n,.tmp tr] s=some (.tuple [.agg (cs.map AV.drop),.int .i64 r],none):=by
    simp only[gA,kC,dA,aok,aoe,AV.leaves,ao6,apd,AV.bu,AV.aU,AV.plain,hl,Bool.and_true,cond_true,qp,apU]
   rw[h0,e]
  | false =>
   have h0:gA base [.cell tc true n,.tmp tr] s=none:=by
    simp only[gA,kC,dA,aok,aoe,AV.leaves,ao6,apd,AV.bu,AV.aU,AV.plain,hl,aoq,an8]
   have hp:oF base [.cell tc true n,.tmp tr] s=none:=by
    have q:pZ s base [.cell tc true n,.tmp tr]=none:=by
     have q1:nT s (.cell tc true n)=none:=rfl
     rw[pZ]
     cases pZ s base [.tmp tr] with
     | none=>rfl
     | some q=>simp only[aoe,q1,hc,AV.bD,pN,AV.bu,hl,an8]
    simp only[oF,q,Option.bind_none]
    rfl
   have hf:nr base [.cell tc true n,.tmp tr] s=some (.tuple [.agg ((cs.map AV.drop).map (fN s.H base 3)),.int .i64 r],none):=by
    have hx:((cs.map AV.drop).map (fN s.H base 3)).all (AV.aU base)=true:=by
     rw[aof] at tj ⊢
     exact fun x hx=>Bv (tj x hx)
    simp only[nr,rZ,dA,aok,aoe,aoh,aol,I4,AV.leaves,ao6,apd,AV.bu,hx,Bool.and_true,qp,apU,cond_true,show fN s.H base 3 (.int .i64 r)=.int .i64 r from rfl,AV.aU,AV.plain]
   rw[h0,hp,hf]
 unfold finish
 rw[h3,aok,za m7,abM]
 simp only[aoh,aol,abF,abG,ho]
theorem CA{H:ah}{a b:bZ} : (H++[a,b])[H.length]?=some a:=by simp
theorem HS{H:ah}{a b:bZ} : (H++[a,b])[H.length+1]?=some b:=by rw[aoz (by omega)];simp
theorem h2t{H:ah}{a b:bZ} : (H++[a,b]).take H.length=H:=by simp
theorem Xl{H:ah}{a b c:bZ} : (H++[a,b]).set H.length c=H++[c,b]:=by simp
theorem Sp{H:ah}{a b c:bZ} : (H++[a,b]).set (H.length+1) c=H++[a,c]:=by
 rw[ap1 _ _ (by omega)];simp
theorem h3a{H:ah}{a b c:bZ} : (H++[a,b,c])[H.length]?=some a:=by simp
theorem h3c{H:ah}{a b c:bZ} : (H++[a,b,c])[H.length+2]?=some c:=by rw[aoz (by omega)];simp
theorem h3t{H:ah}{a b c:bZ} : (H++[a,b,c]).take H.length=H:=by simp
theorem l2{H:ah}{a b:bZ} : (H++[a,b]).length=H.length+2:=by simp
theorem l1{H:ah}{a:bZ} : (H++[a]).length=H.length+1:=by simp
theorem CY{n:Nat} : decide (n+1<n)=false:=by simp
theorem xG{l:List Tm} : ∀ r∈au l,r.length=8:=fun r hr=>by
 rw[gS] at hr
 obtain⟨t,_,rfl⟩:=aoy.1 hr
 exact u6
theorem acV{t:Tm} : (cE t).all qe=true:=by rw[an];rfl
theorem Lm{l:List Tm} : ∀ r∈au l,r.all qe=true:=fun r hr=>by
 rw[gS] at hr
 obtain⟨t,_,rfl⟩:=aoy.1 hr
 exact acV
theorem ac2{l:List Tm}{i:Nat}{u:Tm}(h:l[i]?=some u):(((au l).flatten.drop (i*8)).take 8).map AV.drop=cE u:=by
 have hw:∀ r∈au l,r.length=8:=xG
 have:=rL (z:=8) 0 hw (sM h) (by omega)
 rw[aps] at this
 rw[this,apc,apJ (by rw[u6];omega),aoJ (by rw[u6];omega),an];rfl
theorem ac1{l:List Tm}{i:Nat}{u v:Tm}(h:l[i]?=some u):putAt (au l).flatten (i*8) (cE v)=(au (l.set i v)).flatten:=by
 have:=qJ (z:=8) (j:=0) (cs:=cE v) xG (sM h) (by rw[u6];omega)
 rw[aps] at this
 rw[this]
 have e:putAt (cE u) 0 (cE v)=cE v:=by
  simp only[putAt,aoV,ao8,Nat.zero_add]
  rw[List.drop_of_length_le (by rw[u6,u6];omega),aoZ]
 rw[e,gS,gS,List.map_set]
theorem XY{l:List Tm} : (au l).flatten.length=l.length*8:=by rw[kM xG,bB]
theorem SV{l:List Tm} : dP (au l)=true:=by
 simp only[dP,aof]
 intro r hr x hx
 exact (o4 (aof.1 (Lm r hr) x hx)).2.1
theorem Dz{l:List Tm} : gG 8 (au l)=true:=by
 cases l with
 | nil=>simp[au,gG]
 | cons a r=>simp only[au,gG,List.head?_cons,aok,apf,u6];rfl
def SpP(m h:Nat)(x:AV × Option gJ):Prop:=∃ t' r,oP (m+1) h t'/\-1<=r/\r<=100/\x=(.tuple [.agg (cE t'),.int .i64 r],none)
theorem Xx{m h:Nat}{t:Tm}(ht:zW m h t)(ih:∀ u,oP m h u->∀ (at' n9 b:Int),0<=at'->at'<=100->0<=n9->n9<8->0<=b->b<1000->∀ H,∃ x,aD A 21 [.agg (cE u),.int .i64 at',.int .i64 n9,.int .i64 b] H=some x/\SpP m h x)
  {at' n9 b:Int} (a0:0<at') (a1:at'<=100) (h0:0<=n9) (h1:n9<8) (b0:0<=b) (b1:b<1000) (H:ah):∃ x,aD A 21 [.agg (cE t),.int .i64 at',.int .i64 n9,.int .i64 b] H=some x/\SpP m (h+1) x:=by
 refine mQ (fn:=uI) rfl rfl rfl ?_
 rw[an]
 unfold uI
 have mV:=ht.kl
 have Mx:∀ u∈t.kids,oP (m+1) h u:=fun u hu=>(ht.kb u hu).up (by omega) _ _ _ (aoa _)
 have fin:∀ (acc:List Tm),acc.length=t.kids.length->(∀ u∈acc,oP (m+1) h u)->oP (m+1) (h+1) (.mk t.kind t.n t.name t.field t.wn t.wk acc t.names) :=
  fun acc hl hk=>.mk h _ _ _ _ _ _ _ _ ht.n ht.k ⟨ht.a,ht.f⟩ ht.w (by omega) hk ⟨by have:=ht.nl;omega,ht.nb⟩
 have eN:∀ acc:List Tm,cE (.mk t.kind t.n t.name t.field t.wn t.wk acc t.names)=[.int .i64 t.kind,.int .i64 t.n,.str t.name,.str t.field,.str t.wn,.slice (az t.wk) false,.slice (au acc) false,.slice (strs t.names) false]:=fun acc=>by rw[an];rfl
 by_cases hk:t.kids=[]
 ·have e0:au t.kids=[]:=by rw[hk];simp[au]
  rw[e0]
  have en:wL .aj (.slice [] false)=some .aj:=rfl
  simp(disch:=omega)only[aP,aa,simprocAttr,rr,Ku en,cr,heap_set,cC,aq,ak,an3,an4,ab]
  refine bM 0 0 (fun i s=>∃ T,s=⟨T,H++[.cS [.int .i64 t.kind,.int .i64 t.n,.str t.name,.str t.field,.str t.wn,.slice (az t.wk) false,.aj,.slice (strs t.names) false]],H.length,1⟩/\T 4=.ref H.length 0/\T 8=.lbox 0 [.int .i64 0,.int .i64 0,.str [],.str [],.str [],.aj,.aj,.aj]/\T 1=.int .i64 (at' - 1)/\T 11=.int .i64 0)
   (fun s=>∃ T,s=⟨T,H++[.cS [.int .i64 t.kind,.int .i64 t.n,.str t.name,.str t.field,.str t.wn,.slice (az t.wk) false,.aj,.slice (strs t.names) false]],H.length,1⟩/\T 4=.ref H.length 0/\T 8=.lbox 0 [.int .i64 0,.int .i64 0,.str [],.str [],.str [],.aj,.aj,.aj]/\T 1=.int .i64 (at' - 1)) (fun _=>False) ?_ ?_ (fun _ h=>h.elim) 0 _ (by omega) ?_
  ·rintro i s hi ⟨T,rfl,q4,q8,q1,xA⟩
   simp(disch:=omega)only[aP,aa,simprocAttr,q4,q8,q1,xA,cr,cC,aq,ak,an3,an4,ab]
   exact⟨_,rfl,by simp(disch:=omega)only[aN,aa,simprocAttr,q4],by simp(disch:=omega)only[aN,aa,simprocAttr,q8],by simp(disch:=omega)only[aN,aa,simprocAttr,q1]⟩
  ·rintro s ⟨T,rfl,q4,q8,q1⟩
   simp(disch:=omega)only[aP,aa,simprocAttr,q4,q8,q1,cr,cC,aq,ak,an3,an4,ab]
   refine⟨_,Cx (tc:=8) (tr:=9) (n:=8) (g:=0) (cs:=[.int .i64 t.kind,.int .i64 t.n,.str t.name,.str t.field,.str t.wn,.slice (az t.wk) false,.aj,.slice (strs t.names) false]) (out:=cE (.mk t.kind t.n t.name t.field t.wn t.wk [] t.names)) (r:=at' - 1) rfl (by decide) (by decide) rfl rfl rfl rfl rfl ?_,_,_,fin [] (by rw[hk]) (by simp),by omega,by omega,rfl⟩
   rw[eN]
   show [n2 _,n2 _,n2 _,n2 _,n2 _,n2 (.slice (az t.wk) false),_,n2 (.slice (strs t.names) false)]=_
   rw[ca,ca,gH,gb,Ll];rfl
  ·exact⟨_,rfl,by simp(disch:=omega)only[aN,aa,simprocAttr],by simp(disch:=omega)only[aN,aa,simprocAttr],by simp(disch:=omega)only[aN,aa,simprocAttr],by simp(disch:=omega)only[aN,aa,simprocAttr]⟩
 ·have dn:∃ u r,t.kids=u :: r:=by cases h:t.kids with|nil=>exact absurd h hk|cons u r=>exact⟨u,r,rfl⟩
  obtain⟨u0,r0,vJ⟩:=dn
  have Nx:au t.kids=cE u0 :: au r0:=by rw[vJ,au]
  have tR:=fun (os:List aM) (T0:aQ) (lo gen:Nat) (Q:AS->Prop)=>Ih (A:=A) (T:=T0) (lo:=lo) (gen:=gen) (K:=Q) (os:=os) (t:=20) (H:=H++[.cS [.int .i64 t.kind,.int .i64 t.n,.str t.name,.str t.field,.str t.wn,.slice (az t.wk) false,.slice (au t.kids) false,.slice (strs t.names) false]]) (sz:=8) (bytes:=136) (r:=cE u0) (f:=au r0) (own:=false)
   (by rw[<- Nx];simp only[cF,an6,Nat.zero_add,bB,Dz,Bool.and_true];rw[aoR (by omega),aoR (by omega)];rfl) (by rw[<- Nx];exact SV)
  rw[<- Nx] at tR
  have DI:(au r0).length+1=t.kids.length:=by rw[bB,vJ];rfl
  rw[DI] at tR
  simp(disch:=omega)only[aP,aa,simprocAttr,rr,tR,cr,l1,CY,CA,Xl,cC,aq,ak,an3,an4,ab]
  refine bM t.kids.length 0 (fun i s=>∃ T acc a,s=⟨T,H++[.cS [.int .i64 t.kind,.int .i64 t.n,.str t.name,.str t.field,.str t.wn,.slice (az t.wk) false,.sref (H.length+1) 0 t.kids.length 8,.slice (strs t.names) false],.box bV (au acc).flatten],H.length,1⟩/\T 4=.ref H.length 0/\T 8=.lbox 0 [.int .i64 0,.int .i64 0,.str [],.str [],.str [],.aj,.aj,.aj]/\T 1=.int .i64 a/\-1<=a/\a<=100/\T 2=.int .i64 n9/\T 3=.int .i64 b/\T 11=.int .i64 i/\acc.length=t.kids.length/\(∀ u∈acc,oP (m+1) h u)/\(∀ j,i<=j->acc[j]?=t.kids[j]?))
   (fun s=>∃ T acc a,s=⟨T,H++[.cS [.int .i64 t.kind,.int .i64 t.n,.str t.name,.str t.field,.str t.wn,.slice (az t.wk) false,.sref (H.length+1) 0 t.kids.length 8,.slice (strs t.names) false],.box bV (au acc).flatten],H.length,1⟩/\T 4=.ref H.length 0/\T 8=.lbox 0 [.int .i64 0,.int .i64 0,.str [],.str [],.str [],.aj,.aj,.aj]/\T 1=.int .i64 a/\-1<=a/\a<=100/\acc.length=t.kids.length/\∀ u∈acc,oP (m+1) h u) (fun _=>False) ?_ ?_ (fun _ h=>h.elim) 0 _ (by omega) ?_
  ·rintro i s hi ⟨T,acc,a,rfl,q4,q8,q1,a2,a3,q2,q3,xA,DE,hak,Ba⟩
   by_cases bf:i<t.kids.length
   ·by_cases ha:0<=a
    ·have hx:acc[i]?=some t.kids[i]:=by rw[Ba i (aoa _)];exact an' bf
     have hm:=aoW bf
     generalize t.kids[i]=u at hx hm
     have hld:=ac2 hx
     obtain⟨x,qh,u',r,zU,KV,hr1,rfl⟩:=ih u (ht.kb u hm) a n9 b ha a3 h0 h1 b0 b1 (H++[.cS [.int .i64 t.kind,.int .i64 t.n,.str t.name,.str t.field,.str t.wn,.slice (az t.wk) false,.sref (H.length+1) 0 t.kids.length 8,.slice (strs t.names) false],.box bV (au acc).flatten])
     have jN:=ac1 (v:=u') hx
     have yF:=XY (l:=acc)
     rw[DE] at yF
     rw[an u] at hld qh
     rw[an u'] at jN qh
     simp only[putAt,an5,an6] at jN
     simp(disch:=omega)only[aP,aa,simprocAttr,q4,q8,q1,q2,q3,xA,CA,HS,Sp,CY,hld,qh,yF,jN,Nat.zero_add,cC,aq,ak,an3,an4,ab]
     refine⟨bf,_,acc.set i u',r,rfl,?_,?_,?_,KV,hr1,?_,?_,?_,by rw[List.length_set];exact DE,fun v hv=>?_,fun j hj=>?_⟩
     ·simp(disch:=omega)only[aN,aa,simprocAttr,q4]
     ·simp(disch:=omega)only[aN,aa,simprocAttr,q8]
     ·simp(disch:=omega)only[aN,aa,simprocAttr]
     ·simp(disch:=omega)only[aN,aa,simprocAttr,q2]
     ·simp(disch:=omega)only[aN,aa,simprocAttr,q3]
     ·simp(disch:=omega)only[aN,aa,simprocAttr]
     ·rcases ap6 hv with hv|rfl
      ·exact hak v hv
      ·exact zU
     ·rw[List.getElem?_set_ne (by omega)];exact Ba j (by omega)
    ·simp(disch:=omega)only[aP,aa,simprocAttr,q4,q8,q1,xA,CA,cC,aq,ak,an3,an4,ab]
     exact⟨_,acc,a,rfl,by simp(disch:=omega)only[aN,aa,simprocAttr,q4],by simp(disch:=omega)only[aN,aa,simprocAttr,q8],by simp(disch:=omega)only[aN,aa,simprocAttr,q1],a2,a3,DE,hak⟩
   ·simp(disch:=omega)only[aP,aa,simprocAttr,q4,q8,q1,xA,CA,cC,aq,ak,an3,an4,ab]
    exact⟨_,acc,a,rfl,by simp(disch:=omega)only[aN,aa,simprocAttr,q4],by simp(disch:=omega)only[aN,aa,simprocAttr,q8],by simp(disch:=omega)only[aN,aa,simprocAttr,q1],a2,a3,DE,hak⟩
  ·rintro s ⟨T,acc,a,rfl,q4,q8,q1,a2,a3,DE,hak⟩
   simp(disch:=omega)only[aP,aa,simprocAttr,q4,q8,q1,CA,cC,aq,ak,an3,an4,ab]
   have ef:fN (H++[.cS [.int .i64 t.kind,.int .i64 t.n,.str t.name,.str t.field,.str t.wn,.slice (az t.wk) false,.sref (H.length+1) 0 t.kids.length 8,.slice (strs t.names) false],.box bV (au acc).flatten]) H.length 3 (.sref (H.length+1) 0 t.kids.length 8)=.slice (au acc) false:=by
    have:=AZ (k:=2) (base:=H.length) (rows:=au acc) (z:=8) (o:=.box bV (au acc).flatten) (show H.length<=H.length+1 by omega) (HS (a:=.cS [.int .i64 t.kind,.int .i64 t.n,.str t.name,.str t.field,.str t.wn,.slice (az t.wk) false,.sref (H.length+1) 0 t.kids.length 8,.slice (strs t.names) false])) rfl xG (by omega) Lm
    rwa [bB,DE] at this
   have hz:(([.int .i64 t.kind,.int .i64 t.n,.str t.name,.str t.field,.str t.wn,.slice (az t.wk) false,.sref (H.length+1) 0 t.kids.length 8,.slice (strs t.names) false]:List AV).map AV.drop).map (fN (H++[.cS [.int .i64 t.kind,.int .i64 t.n,.str t.name,.str t.field,.str t.wn,.slice (az t.wk) false,.sref (H.length+1) 0 t.kids.length 8,.slice (strs t.names) false],.box bV (au acc).flatten]) H.length 3)=[.int .i64 t.kind,.int .i64 t.n,.str t.name,.str t.field,.str t.wn,.slice (az t.wk) false,.slice (au acc) false,.slice (strs t.names) false]:=by
    simp only[aoh,aol,AV.drop]
    rw[ef];rfl
   refine⟨_,Cx (tc:=8) (tr:=9) (n:=8) (g:=0) (cs:=[.int .i64 t.kind,.int .i64 t.n,.str t.name,.str t.field,.str t.wn,.slice (az t.wk) false,.sref (H.length+1) 0 t.kids.length 8,.slice (strs t.names) false]) (out:=cE (.mk t.kind t.n t.name t.field t.wn t.wk acc t.names)) (r:=a) rfl (by decide) (by decide) rfl rfl rfl rfl ?_ ?_,_,_,fin acc DE hak,a2,a3,rfl⟩
   ·rw[hz];rfl
   ·rw[hz,eN]
    show [n2 _,n2 _,n2 _,n2 _,n2 _,n2 (.slice (az t.wk) false),n2 (.slice (au acc) false),n2 (.slice (strs t.names) false)]=_
    rw[ca,ca,ca,gH,gb,gM];rfl
  ·exact⟨_,t.kids,at' - 1,rfl,by simp(disch:=omega)only[aN,aa,simprocAttr],by simp(disch:=omega)only[aN,aa,simprocAttr],by simp(disch:=omega)only[aN,aa,simprocAttr],by omega,by omega,by simp(disch:=omega)only[aN,aa,simprocAttr],by simp(disch:=omega)only[aN,aa,simprocAttr],by simp(disch:=omega)only[aN,aa,simprocAttr,aoI],rfl,Mx,fun _ _=>rfl⟩
theorem Mp{H L:ah}{a:bZ} : (H++a :: L)[H.length]?=some a:=by simp
theorem sk{H L:ah}{a b:bZ} : (H++a :: L).set H.length b=H++b :: L:=by simp
theorem hgj{H L:ah}{a:bZ}{j:Nat} : (H++a :: L)[H.length+1+j]?=L[j]?:=by
 rw[aoz (by omega),show H.length+1+j-H.length=j+1 by omega];rfl
theorem aeL{H L:ah}{a b:bZ}{j:Nat} : (H++a :: L).set (H.length+1+j) b=H++a :: L.set j b:=by
 rw[ap1 _ _ (by omega),show H.length+1+j-H.length=j+1 by omega];rfl
theorem hgl{H L:ah}{a:bZ} : (H++a :: L).length=H.length+1+L.length:=by simp;omega
theorem BG{l:List bq} : (strs l).flatten=l.map AV.str:=by
 rw[strs];induction l with
 | nil=>rfl
 | cons a r ih=>simp only[aoh,aoP,ih];rfl
theorem ahE{k:IntKind}{n:Int} : (AV.int k n).drop=.int k n:=rfl
theorem adZ{s:bq} : (AV.str s).drop=.str s:=rfl
theorem adY{e:List (List AV)} : (AV.slice e false).drop=.slice e false:=rfl
theorem ajg{k:IntKind}{n:Int} : (AV.int k n).plain=true:=rfl
theorem aji{s:bq} : (AV.str s).plain=true:=rfl
theorem ajh{e:List (List AV)} : (AV.slice e false).plain=true:=rfl
theorem ahP{H:ah}{b:Nat}{k:IntKind}{n:Int} : fN H b 3 (.int k n)=.int k n:=rfl
theorem aef{H:ah}{b:Nat}{s:bq} : fN H b 3 (.str s)=.str s:=rfl
theorem aee{H:ah}{b:Nat}{e:List (List AV)} : fN H b 3 (.slice e false)=.slice e false:=rfl
def H4(H HT:ah)(NM:AV)(L:List bq):Prop:=(NM=.aj/\L=[])\/∃ j,NM=.sref (H.length+1+j) 0 L.length 1/\HT[j]?=some (.box bV (L.map .str))
theorem H4.ok{H HT:ah}{NM:AV}{L:List bq}(h:H4 H HT NM L)(a:bZ):aG NM=true/\NM.drop=NM/\(fN (H++a :: HT) H.length 3 NM).plain=true/\n2 (fN (H++a :: HT) H.length 3 NM)=.slice (strs L) false:=by
 rcases h with ⟨rfl,rfl⟩|⟨j,rfl,hj⟩
 ·exact⟨rfl,rfl,rfl,rfl⟩
 ·have hz:fN (H++a :: HT) H.length 3 (.sref (H.length+1+j) 0 L.length 1)=.slice (strs L) false:=by
   have:=AZ (k:=2) (base:=H.length) (H:=H++a :: HT) (l:=H.length+1+j) (rows:=strs L) (z:=1) (o:=.box bV (L.map .str)) (by omega) (by rw[hgj];exact hj) (by rw[BG];rfl)
    (fun r hr=>by simp only[strs,aoy] at hr;obtain⟨s,_,rfl⟩:=hr;rfl) (by omega) (fun r hr=>by simp only[strs,aoy] at hr;obtain⟨s,_,rfl⟩:=hr;rfl)
   rwa [aW] at this
  exact⟨rfl,rfl,by rw[hz];rfl,by rw[hz,ca,gb]⟩
structure H5 (WK:AV) (wk:List Wd):Prop where
 f:aG WK=true
 d:WK.drop=WK
 z:∀ (H:ah) (b:Nat),fN H b 3 WK=WK
 p:WK.plain=true
 n:n2 WK=.slice (az wk) false
theorem H5.self{wk:List Wd} : H5 (.slice (az wk) false) wk:=⟨rfl,rfl,fun _ _=>rfl,rfl,by rw[ca,gH]⟩
def SpQ(m h:Nat)(H:ah)(s:AS):Prop:=∃ T HT t NM WK,s=⟨T,H++.cS [.int .i64 t.kind,.int .i64 t.n,.str t.name,.str t.field,.str t.wn,WK,.slice (au t.kids) false,NM] :: HT,H.length,1⟩/\T 4=.ref H.length 0/\T 8=.lbox 0 [.int .i64 0,.int .i64 0,.str [],.str [],.str [],.aj,.aj,.aj]/\H4 H HT NM t.names/\H5 WK t.wk/\oP (m+1) (h+1) t
theorem acS{m h:Nat}{H:ah}{s:AS}(hs:SpQ m h H s):W A (uI.body.post 4) s (Ce H.length uI (SpP m (h+1))):=by
 obtain⟨T,HT,t,NM,WK,rfl,q4,q8,O1,⟨w1,w2,w3,w4,w5⟩,ht⟩:=hs
 obtain⟨n1',n2',n3',n4'⟩:=O1.ok (.cS [.int .i64 t.kind,.int .i64 t.n,.str t.name,.str t.field,.str t.wn,WK,.slice (au t.kids) false,NM])
 unfold uI
 simp only[aY.post]
 simp(disch:=omega)only[aP,aa,simprocAttr,q4,q8,Mp,n1',n2',w1,w2,cC,aq,ak,an3,an4,ab]
 have hz:(([.int .i64 t.kind,.int .i64 t.n,.str t.name,.str t.field,.str t.wn,WK,.slice (au t.kids) false,NM]:List AV).map AV.drop).map (fN (H++.cS [.int .i64 t.kind,.int .i64 t.n,.str t.name,.str t.field,.str t.wn,WK,.slice (au t.kids) false,NM] :: HT) H.length 3)=[.int .i64 t.kind,.int .i64 t.n,.str t.name,.str t.field,.str t.wn,WK,.slice (au t.kids) false,(fN (H++.cS [.int .i64 t.kind,.int .i64 t.n,.str t.name,.str t.field,.str t.wn,WK,.slice (au t.kids) false,NM] :: HT) H.length 3 NM)]:=by
  simp only[aoh,aol,n2',w2,w3,ahE,adZ,adY,ahP,aef,aee]
 refine⟨_,Cx (fn:=uI) (tc:=8) (tr:=9) (n:=8) (g:=0) (cs:=[.int .i64 t.kind,.int .i64 t.n,.str t.name,.str t.field,.str t.wn,WK,.slice (au t.kids) false,NM]) (out:=cE t) (r:=-1) rfl (by decide) (by decide) rfl rfl rfl rfl ?_ ?_,t, -1,ht,by omega,by omega,rfl⟩
 ·rw[hz];simp only[ao6,apd,n3',w4,ajg,aji,ajh,Bool.and_true]
 ·rw[hz];simp only[aoh,aol,n4',w5,ca,gH,gM,cV,cw]
  rw[an]
theorem SF{m h:Nat}{t:Tm}(ht:zW m h t)(hm:m<=100){n9 b:Int}(H:ah){Q:bP->AS->Prop} :
  W A (uI.body.pre 3) ⟨gu [.agg (cE t),.int .i64 0,.int .i64 n9,.int .i64 b],H,H.length,0⟩ (andThen (fun s=>∃ T HT NM,s=⟨T,H++.cS [.int .i64 t.kind,.int .i64 t.n,.str t.name,.str t.field,.str t.wn,.slice (az t.wk) false,.slice (au t.kids) false,NM] :: HT,H.length,1⟩/\T 4=.ref H.length 0/\T 8=.lbox 0 [.int .i64 0,.int .i64 0,.str [],.str [],.str [],.aj,.aj,.aj]/\T 2=.int .i64 n9/\T 3=.int .i64 b/\H4 H HT NM t.names/\(t.names=[]/\HT=[]\/HT.length=1)) Q):=by
 rw[an]
 unfold uI
 simp only[aY.pre]
 have qk:=ht.nl
 by_cases hk:t.names=[]
 ·have en:wL .aj (.slice [] false)=some .aj:=rfl
  rw[hk,gv]
  simp(disch:=omega)only[aP,aa,simprocAttr,rr,Ku en,cr,heap_set,cC,aq,ak,an3,an4,ab]
  refine⟨_,[],.aj,rfl,?_,?_,?_,?_,.inl ⟨rfl,rfl⟩,.inl rfl⟩
  all_goals simp(disch:=omega)only[aN,aa,simprocAttr]
 ·have dn:∃ u r,t.names=u :: r:=by cases h:t.names with|nil=>exact absurd h hk|cons u r=>exact⟨u,r,rfl⟩
  obtain⟨u0,r0,vJ⟩:=dn
  have Nx:strs t.names=[.str u0] :: strs r0:=by rw[vJ];rfl
  have hph:gG 1 (strs t.names)=true:=by rw[Nx];rfl
  have lM:dP (strs t.names)=true:=by
   simp only[dP,aof]
   intro r hr x hx
   simp only[strs,aoy] at hr
   obtain⟨s,_,rfl⟩:=hr
   rw[aos.1 hx];rfl
  have tR:=fun (os:List aM) (T0:aQ) (lo gen:Nat) (Q:AS->Prop)=>Ih (A:=A) (T:=T0) (lo:=lo) (gen:=gen) (K:=Q) (os:=os) (t:=54) (H:=H++[.cS [.int .i64 t.kind,.int .i64 t.n,.str t.name,.str t.field,.str t.wn,.slice (az t.wk) false,.slice (au t.kids) false,.slice (strs t.names) false]]) (sz:=1) (bytes:=16) (r:=[.str u0]) (f:=strs r0) (own:=false)
   (by rw[<- Nx];simp only[cF,an6,Nat.zero_add,aW,hph,Bool.and_true];rw[aoR (by omega),aoR (by omega)];rfl) (by rw[<- Nx];exact lM)
  rw[<- Nx] at tR
  have DI:(strs r0).length+1=t.names.length:=by rw[aW,vJ];rfl
  rw[DI,BG] at tR
  simp(disch:=omega)only[aP,aa,simprocAttr,rr,tR,cr,l1,CY,CA,Xl,cC,aq,ak,an3,an4,ab]
  refine⟨_,[.box bV (t.names.map .str)],.sref (H.length+1) 0 t.names.length 1,rfl,?_,?_,?_,?_,.inr ⟨0,rfl,rfl⟩,.inr rfl⟩
  all_goals simp(disch:=omega)only[aN,aa,simprocAttr]
theorem XB{x:Int}(h0:0<=x)(h1:x<7):∃ v:Int, -2199023255552<=v/\v<=2199023255552/\([[.int .i64 (-1)],[.int .i64 0],[.int .i64 1],[.int .i64 11],[.int .i64 12],[.int .i64 1099511627777],[.int .i64 (-1099511627777)]]:List (List AV))[x.toNat]?=some [.int .i64 v]:=by
 have:x.toNat=0\/x.toNat=1\/x.toNat=2\/x.toNat=3\/x.toNat=4\/x.toNat=5\/x.toNat=6:=by omega
 rcases this with e|e|e|e|e|e|e<;>rw[e]<;>exact⟨_,by decide,by decide,rfl⟩
theorem XC{x:Int}(h0:0<=x)(h1:x<8):∃ s:bq,s.length<=20/\([[.str []],[.str [105,102]],[.str [97,46,98]],[.str [97,46,98,46,99]],[.str [46,97]],[.str [97,46]],[.str [97,86,101,114,121,76,111,110,103,78,97,109,101,49,50,51,52]],[.str [120,32,121]]]:List (List AV))[x.toNat]?=some [.str s]:=by
 have:x.toNat=0\/x.toNat=1\/x.toNat=2\/x.toNat=3\/x.toNat=4\/x.toNat=5\/x.toNat=6\/x.toNat=7:=by omega
 rcases this with e|e|e|e|e|e|e|e<;>rw[e]<;>exact⟨_,by decide,rfl⟩
theorem Xz{x:Int}(h0:0<=x)(h1:x<4):∃ s:bq,s.length<=20/\([[.str []],[.str [100,111]],[.str [121]],[.str [97,46,98]]]:List (List AV))[x.toNat]?=some [.str s]:=by
 have:x.toNat=0\/x.toNat=1\/x.toNat=2\/x.toNat=3:=by omega
 rcases this with e|e|e|e<;>rw[e]<;>exact⟨_,by decide,rfl⟩
theorem Xy{x:Int}(h0:0<=x)(h1:x<3):∃ s:bq,s.length<=20/\([[.str []],[.str [73,110,116]],[.str [97,46,98]]]:List (List AV))[x.toNat]?=some [.str s]:=by
 have:x.toNat=0\/x.toNat=1\/x.toNat=2:=by omega
 rcases this with e|e|e<;>rw[e]<;>exact⟨_,by decide,rfl⟩
theorem gf{m h:Nat}{k n:Int}{a f wn:bq}{wk:List Wd}{ks:List Tm}{ns:List bq}(hn:-2199023255552<=n/\n<=2199023255552)(hk:-100<=k/\k<=100)(ha:a.length<=20)(hf:f.length<=20)(hw:wi 3 (.mk wn wk))(h1:ks.length<=3)(h2:∀ u∈ks,oP m h u)(h3:ns.length<=m)(h4:∀ s∈ns,s.length<=20):zW m h (.mk k n a f wn wk ks ns):=⟨hn,hk,ha,hf,hw,h1,h2,h3,h4⟩
theorem XA{x:Int}(h0:0<=x)(h1:x<5):∃ (w:Wd) (WK:AV),wi 3 w/\H5 WK w.kids/\([[.str [],.aj],[.str [73,110,116],.aj],[.str [76,105,115,116],.aj],[.str [66,111,111,108],.slice [[.str [73,110,116],.aj]] false],[.str [102,111,108,100],.aj]]:List (List AV))[x.toNat]?=some [.str w.name,WK]:=by
 have lf:∀ s:bq,s.length<=20->wi 3 (.mk s []):=fun s hs=>mM hs
 have w0:H5 .aj []:=⟨rfl,rfl,fun _ _=>rfl,rfl,by rw[tO];rfl⟩
 have:x.toNat=0\/x.toNat=1\/x.toNat=2\/x.toNat=3\/x.toNat=4:=by omega
 rcases this with e|e|e|e|e<;>rw[e]
 ·exact⟨.mk [] [],_,lf _ (by decide),w0,rfl⟩
 ·exact⟨.mk [73,110,116] [],_,lf _ (by decide),w0,rfl⟩
 ·exact⟨.mk [76,105,115,116] [],_,lf _ (by decide),w0,rfl⟩
 ·exact⟨.mk [66,111,111,108] [.mk [73,110,116] []],.slice [[.str [73,110,116],.aj]] false,⟨by decide,by decide,fun k hk=>by rw[aos.1 hk];exact mM (by decide)⟩,⟨rfl,rfl,fun _ _=>rfl,rfl,by simp only[Wd.kids,az,gz];rfl⟩,rfl⟩
 ·exact⟨.mk [102,111,108,100] [],_,lf _ (by decide),w0,rfl⟩
theorem acR{m h:Nat}{t:Tm}(ht:zW m h t)(hm:m<=100){n9 b:Int}(h0:0<=n9)(h1:n9<8)(b0:0<=b)(b1:b<1000){H:ah}{s:AS}{Q:bP->AS->Prop}
  (hs:∃ T HT NM,s=⟨T,H++.cS [.int .i64 t.kind,.int .i64 t.n,.str t.name,.str t.field,.str t.wn,.slice (az t.wk) false,.slice (au t.kids) false,NM] :: HT,H.length,1⟩/\T 4=.ref H.length 0/\T 8=.lbox 0 [.int .i64 0,.int .i64 0,.str [],.str [],.str [],.aj,.aj,.aj]/\T 2=.int .i64 n9/\T 3=.int .i64 b/\H4 H HT NM t.names/\(t.names=[]/\HT=[]\/HT.length=1)) :
  W A ((uI.body.post 3).pre 0) s (andThen (SpQ m h H) Q):=by
 obtain⟨T,HT,NM,rfl,q4,q8,q2,q3,O1,hHT⟩:=hs
 have Mx:∀ u∈t.kids,oP (m+1) h u:=fun u hu=>(ht.kb u hu).up (by omega) _ _ _ (aoa _)
 have qk:=ht.nl
 have fin:∀ (T' : aQ) (t' : Tm),zW (m+1) h t'->H4 H HT NM t'.names->T' 4=.ref H.length 0->T' 8=.lbox 0 [.int .i64 0,.int .i64 0,.str [],.str [],.str [],.aj,.aj,.aj]->SpQ m h H ⟨T',H++.cS [.int .i64 t'.kind,.int .i64 t'.n,.str t'.name,.str t'.field,.str t'.wn,.slice (az t'.wk) false,.slice (au t'.kids) false,NM] :: HT,H.length,1⟩ :=
  fun T' t' h1 h2 h4 h8=>⟨T',HT,t',NM,_,rfl,h4,h8,h2,H5.self,h1.mk'⟩
 unfold uI
 simp only[aY.post,aY.pre]
 by_cases k0:n9=0
 ·have hd:(0:Int)<=b % 14/\b % 14<14:=by omega
  simp(disch:=omega)only[aP,aa,simprocAttr,q2,q3,q4,gp,Mp,sk,cC,aq,ak,an3,an4,ab]
  exact fin _ (.mk (b % 14) t.n t.name t.field t.wn t.wk t.kids t.names) (gf ht.n (by omega) ht.a ht.f ht.w ht.kl Mx (by omega) ht.nb) O1 (by simp(disch:=omega)only[aN,aa,simprocAttr,q4]) (by simp(disch:=omega)only[aN,aa,simprocAttr,q8])
 by_cases k1:n9=1
 ·obtain⟨v,v0,v1,hv⟩:=XB (x:=b % 7) (by omega) (by omega)
  simp(disch:=omega)only[aP,aa,simprocAttr,q2,q3,q4,gp,Mp,sk,hv,cC,aq,ak,an3,an4,ab]
  refine fin _ (.mk t.kind v t.name t.field t.wn t.wk t.kids t.names) (gf ⟨v0,v1⟩ ht.k ht.a ht.f ht.w ht.kl Mx (by omega) ht.nb) O1 ?_ ?_
  all_goals simp(disch:=omega)only[aN,aa,simprocAttr,q4,q8]
 by_cases k2:n9=2
 ·obtain⟨v,v0,hv⟩:=XC (x:=b % 8) (by omega) (by omega)
  simp(disch:=omega)only[aP,aa,simprocAttr,q2,q3,q4,gp,Mp,sk,hv,cC,aq,ak,an3,an4,ab]
  refine fin _ (.mk t.kind t.n v t.field t.wn t.wk t.kids t.names) (gf ht.n ht.k v0 ht.f ht.w ht.kl Mx (by omega) ht.nb) O1 ?_ ?_
  all_goals simp(disch:=omega)only[aN,aa,simprocAttr,q4,q8]
 by_cases k3:n9=3
 ·obtain⟨v,v0,hv⟩:=Xz (x:=b % 4) (by omega) (by omega)
  simp(disch:=omega)only[aP,aa,simprocAttr,q2,q3,q4,gp,Mp,sk,hv,cC,aq,ak,an3,an4,ab]
  refine fin _ (.mk t.kind t.n t.name v t.wn t.wk t.kids t.names) (gf ht.n ht.k ht.a v0 ht.w ht.kl Mx (by omega) ht.nb) O1 ?_ ?_
  all_goals simp(disch:=omega)only[aN,aa,simprocAttr,q4,q8]
 by_cases k6:n9=6
 ·by_cases hk:t.kids=[]
  ·have vJ:t.kids.length=0:=by rw[hk];rfl
   simp(disch:=omega)only[aP,aa,simprocAttr,q2,q3,q4,Mp,sk,bB,cC,aq,ak,an3,an4,ab]
   refine fin _ t ⟨ht.n,ht.k,ht.a,ht.f,ht.w,ht.kl,Mx,by omega,ht.nb⟩ O1 ?_ ?_
   all_goals simp(disch:=omega)only[aN,aa,simprocAttr,q4,q8]
  ·have vJ:0<t.kids.length:=by cases h:t.kids with|nil=>exact absurd h hk|cons a r=>simp
   have j6:(au t.kids).take t.kids.length=au t.kids:=aoJ (by rw[bB];omega)
   have hdr:(au t.kids).drop 1=au (t.kids.drop 1):=by rw[gS,gS,List.map_drop]
   simp(disch:=omega)only[aP,aa,simprocAttr,q2,q3,q4,Mp,sk,bB,Dz,j6,hdr,cC,aq,ak,an3,an4,ab]
   refine fin _ (.mk t.kind t.n t.name t.field t.wn t.wk (t.kids.drop 1) t.names) (gf ht.n ht.k ht.a ht.f ht.w (by have:=ht.kl;rw[aqq];omega) (fun u hu=>Mx u (aqL hu)) (by omega) ht.nb) O1 ?_ ?_
   all_goals simp(disch:=omega)only[aN,aa,simprocAttr,q4,q8]
 by_cases k7:n9=7
 ·obtain⟨w,WK,wb,⟨w1,w2,w3,w4,w5⟩,hv⟩:=XA (x:=b % 5) (by omega) (by omega)
  simp(disch:=omega)only[aP,aa,simprocAttr,q2,q3,q4,gp,Mp,sk,hv,w1,w2,cn,cC,aq,ak,an3,an4,ab]
  refine⟨_,HT,.mk t.kind t.n t.name t.field w.name w.kids t.kids t.names,NM,WK,rfl,?_,?_,O1,⟨w1,w2,w3,w4,w5⟩,(gf ht.n ht.k ht.a ht.f (by cases w;exact wb) ht.kl Mx (by omega) ht.nb).mk'⟩
  all_goals simp(disch:=omega)only[aN,aa,simprocAttr,q4,q8]
 have OP:∀ (T' : aQ) (HT' : ah) (NM' : AV) (ns:List bq),zW (m+1) h (.mk t.kind t.n t.name t.field t.wn t.wk t.kids ns)->H4 H HT' NM' ns->T' 4=.ref H.length 0->T' 8=.lbox 0 [.int .i64 0,.int .i64 0,.str [],.str [],.str [],.aj,.aj,.aj]->SpQ m h H ⟨T',H++.cS [.int .i64 t.kind,.int .i64 t.n,.str t.name,.str t.field,.str t.wn,.slice (az t.wk) false,.slice (au t.kids) false,NM'] :: HT',H.length,1⟩ :=
  fun T' HT' NM' ns h1 h2 h4 h8=>⟨T',HT',.mk t.kind t.n t.name t.field t.wn t.wk t.kids ns,NM',_,rfl,h4,h8,h2,H5.self,h1.mk'⟩
 by_cases k4:n9=4
 ·have hg:zW (m+1) h (.mk t.kind t.n t.name t.field t.wn t.wk t.kids (t.names++[[97]])):=gf ht.n ht.k ht.a ht.f ht.w ht.kl Mx (by simp;omega) (fun s hs=>by
   rcases aog.1 hs with hs|hs
   ·exact ht.nb s hs
   ·rw[aos.1 hs];decide)
  rcases O1 with ⟨rfl,hL⟩|⟨j,rfl,hj⟩
  ·have w6:decide (H.length+1+HT.length<H.length)=false:=by simp;omega
   have tR:=fun (os:List aM) (T0:aQ) (lo gen:Nat) (Q:AS->Prop)=>Ih (A:=A) (T:=T0) (lo:=lo) (gen:=gen) (K:=Q) (os:=os) (t:=91) (H:=H++.cS [.int .i64 t.kind,.int .i64 t.n,.str t.name,.str t.field,.str t.wn,.slice (az t.wk) false,.slice (au t.kids) false,.aj] :: HT) (sz:=1) (bytes:=16) (r:=[.str [97]]) (f:=[]) (own:=true) rfl rfl
   rw[hgl] at tR
   simp(disch:=omega)only[aP,aa,simprocAttr,q2,q3,q4,Mp,tR,w6,an6,aoP,aph,aoZ,ao5,apu,sk,cC,aq,ak,an3,an4,ab]
   refine OP _ (HT++[.box bV [.str [97]]]) (.sref (H.length+1+HT.length) 0 (0+1) 1) (t.names++[[97]]) hg (.inr ⟨HT.length,by rw[hL];rfl,by rw[hL];simp⟩) ?_ ?_
   all_goals simp(disch:=omega)only[aN,aa,simprocAttr,q4,q8]
  ·have sn:j<HT.length:=(an9.1 hj).1
   have w6:decide (H.length+1+j<H.length)=false:=by simp;omega
   have F4:(H++.cS [.int .i64 t.kind,.int .i64 t.n,.str t.name,.str t.field,.str t.wn,.slice (az t.wk) false,.slice (au t.kids) false,.sref (H.length+1+j) 0 t.names.length 1] :: HT)[H.length+1+j]?=some (.box bV (t.names.map .str)):=by rw[hgj];exact hj
   have tR:=fun (os:List aM) (T0:aQ) (lo gen:Nat) (Q:AS->Prop)=>Kt (A:=A) (T:=T0) (lo:=lo) (gen:=gen) (K:=Q) (os:=os) (t:=91) (sz:=1) (bytes:=16) (n:=t.names.length) (f:=[[.str [97]]]) (own:=true) F4 (by rw[aoA];omega) (by simp only[an5,an6];omega) (by simp only[an5,an6];omega) rfl rfl
   rw[hgl,aeL] at tR
   simp(disch:=omega)only[aP,aa,simprocAttr,q2,q3,q4,Mp,tR,w6,an5,an6,aoP,aph,aoZ,ao5,apu,sk,cC,aq,ak,an3,an4,ab]
   refine OP _ (HT.set j .dead++[.box bV (t.names.map .str++[.str [97]])]) (.sref (H.length+1+HT.length) 0 (t.names.length+(0+1)) 1) (t.names++[[97]]) hg (.inr ⟨HT.length,by simp,?_⟩) ?_ ?_
   ·rw[aoz (by rw[List.length_set];omega),List.length_set,aqa,List.map_append];rfl
   all_goals simp(disch:=omega)only[aN,aa,simprocAttr,q4,q8]
 have k5:n9=5:=by omega
 rcases O1 with ⟨rfl,hL⟩|⟨j,rfl,hj⟩
 ·simp(disch:=omega)only[aP,aa,simprocAttr,q2,q3,q4,Mp,cC,aq,ak,an3,an4,ab]
  refine OP _ HT .aj t.names ⟨ht.n,ht.k,ht.a,ht.f,ht.w,ht.kl,Mx,by have:=ht.nl;exact Nat.le_succ_of_le this,ht.nb⟩ (.inl ⟨rfl,hL⟩) ?_ ?_
  all_goals simp(disch:=omega)only[aN,aa,simprocAttr,q4,q8]
 by_cases hn0:t.names.length=0
 ·simp(disch:=omega)only[aP,aa,simprocAttr,q2,q3,q4,Mp,cC,aq,ak,an3,an4,ab]
  refine OP _ HT (.sref (H.length+1+j) 0 t.names.length 1) t.names ⟨ht.n,ht.k,ht.a,ht.f,ht.w,ht.kl,Mx,by have:=ht.nl;exact Nat.le_succ_of_le this,ht.nb⟩ (.inr ⟨j,rfl,hj⟩) ?_ ?_
  all_goals simp(disch:=omega)only[aN,aa,simprocAttr,q4,q8]
 ·obtain⟨v,v0,hv⟩:=Xy (x:=b % 3) (by omega) (by omega)
  have sn:j<HT.length:=(an9.1 hj).1
  have w6:decide (H.length+1+j<H.length)=false:=by simp;omega
  have F4:(H++.cS [.int .i64 t.kind,.int .i64 t.n,.str t.name,.str t.field,.str t.wn,.slice (az t.wk) false,.slice (au t.kids) false,.sref (H.length+1+j) 0 t.names.length 1] :: HT)[H.length+1+j]?=some (.box bV (t.names.map .str)):=by rw[hgj];exact hj
  have Pl:(t.names.map AV.str).length=t.names.length:=aoA _
  simp(disch:=omega)only[aP,aa,simprocAttr,q2,q3,q4,Mp,F4,Pl,aeL,w6,gp,hv,cC,aq,ak,an3,an4,ab]
  have hlen:(v :: t.names.drop 1).length=t.names.length:=by rw[an5,aqq];omega
  refine OP _ (HT.set j (.box bV (.str v :: (t.names.map .str).drop 1))) (.sref (H.length+1+j) 0 t.names.length 1) (v :: t.names.drop 1) (gf ht.n ht.k ht.a ht.f ht.w ht.kl Mx (by rw[hlen];omega) (fun s hs=>?_)) (.inr ⟨j,by rw[hlen],by rw[List.getElem?_set_self sn,aoh,List.map_drop]⟩) ?_ ?_
  ·rcases aoN.1 hs with rfl|hs
   ·exact v0
   ·exact ht.nb s (aqL hs)
  all_goals simp(disch:=omega)only[aN,aa,simprocAttr,q4,q8]
theorem ags{m:Nat}(hm:m<=100):∀ (h:Nat) (u:Tm),oP m h u->∀ (at' n9 b:Int),0<=at'->at'<=100->0<=n9->n9<8->0<=b->b<1000->∀ H,∃ x,aD A 21 [.agg (cE u),.int .i64 at',.int .i64 n9,.int .i64 b] H=some x/\SpP m h x:=by
 intro h
 induction h with
 | zero=>intro u hu;cases hu
 | succ h ih =>
  intro u hu at' n9 b a0 a1 h0 h1 b0 b1 H
  by_cases ha:0<at'
  ·exact Xx hu.out ih ha a1 h0 h1 b0 b1 H
  ·obtain rfl:at'=0:=by omega
   refine mQ (fn:=uI) rfl rfl rfl ?_
   refine fH 3 _ (SF hu.out hm H) fun s1 OZ=>?_
   refine fH 0 _ (acR hu.out hm h0 h1 b0 b1 OZ) fun s2 h2=>?_
   rw[kR]
   exact acS h2
theorem KH{base tc n g:Nat}{fn:aJ}{s:AS}{cs out:List AV}(hr:fn.results=[.cell tc true n])(m8:fn.muts.elem 888888=false)(m7:fn.muts.elem 777777=true)
  (hT:s.T tc=.lbox g cs) (hn:cs.length=n) (qp:s.lo=base) (tj:((cs.map AV.drop).map (fN s.H base 3)).all AV.plain=true) (ho:((cs.map AV.drop).map (fN s.H base 3)).map n2=out) :
  finish base fn s=some (.agg out,none):=by
 have h1:lp base s=true:=by simp[lp,qp]
 have hc:hN s (.cell tc true n)=some (.agg (cs.map AV.drop)):=by
  simp only[hN,hT,ab,cond_true,Nat.zero_add,hn,aoR (aoa _),apc]
  rw[<- hn,apm]
 have q1:nT s (.cell tc true n)=none:=rfl
 have h3:jU base fn s=some (.agg ((cs.map AV.drop).map (fN s.H base 3)),none):=by
  unfold jU pQ mG
  rw[h1,m8,hr]
  simp only[cond_true,an8]
  cases hl:(cs.map AV.drop).all (AV.aU base) with
  | true =>
   have e:(cs.map AV.drop).map (fN s.H base 3)=cs.map AV.drop:=by
    conv=>rhs;rw[<- List.map_id (cs.map AV.drop)]
    exact aoD fun x hx=>K9 (aof.1 hl x hx)
   have h0:gA base [.cell tc true n] s=some (.agg (cs.map AV.drop),none):=by
    simp only[gA,kC,q1,hc,aoe,AV.leaves,AV.bu,hl,cond_true,qp,apU]
   rw[h0,e]
  | false =>
   have h0:gA base [.cell tc true n] s=none:=by
    simp only[gA,kC,q1,hc,aoe,AV.leaves,AV.bu,hl,an8]
   have hp:oF base [.cell tc true n] s=none:=rfl
   have hf:nr base [.cell tc true n] s=some (.agg ((cs.map AV.drop).map (fN s.H base 3)),none):=by
    have hx:((cs.map AV.drop).map (fN s.H base 3)).all (AV.aU base)=true:=by
     rw[aof] at tj ⊢
     exact fun x hx=>Bv (tj x hx)
    simp only[nr,rZ,hc,aok,aoe,AV.bD,pN,I4,AV.leaves,AV.bu,hx,qp,apU,cond_true]
   rw[h0,hp,hf]
 unfold finish
 rw[h3,aok,za m7,cy,ho]
theorem I2{H:ah}{base l z k:Nat}{o:bZ}{rows:List (List AV)}(hb:base<=l)(hl:H[l]?=some o)(ho:mh o=some rows.flatten)(hw:∀ r∈rows,r.length=z)(hz:0<z)
  (hp:∀ r∈rows,∀ x∈r,qe x.drop=true) (zT:∀ r∈rows,∀ x∈r,jq x=true):fN H base (k+1) (.sref l 0 rows.length z)=.slice (rows.map fun r=>r.map AV.drop) false:=by
 have h1:(rows.flatten.all fun x=>(fN H base k x.drop).plain&&jq x)=true:=by
  rw[aof]
  intro x h
  obtain⟨r,hr,hx⟩:=ap'.1 h
  obtain⟨a1,a2,a3,a4⟩:=o4 (hp r hr x hx)
  rw[a4,a2,zT r hr x hx];rfl
 have h2:rows.flatten.map (fun x=>fN H base k x.drop)=(rows.map fun r=>r.map AV.drop).flatten:=by
  rw[<- List.map_flatten]
  refine aoD fun x h=>?_
  obtain⟨r,hr,hx⟩:=ap'.1 h
  obtain⟨a1,a2,a3,a4⟩:=o4 (hp r hr x hx)
  rw[a4]
 have YO:∀ r∈rows.map (fun r=>r.map AV.drop),r.length=z:=fun r hr=>by
  obtain⟨q,hq,rfl⟩:=aoy.1 hr
  rw[aoA];exact hw q hq
 have h4:=kM YO
 have h5:=qA YO
 rw[aoA] at h4 h5
 have h6:=kM hw
 rw[fN]
 simp only[aoR hb,cond_true,hl,aoe,ho,h1,h2,h4,h6,Nat.zero_add,apc,aoR (aoa _),Bool.and_true]
 rw[show Nat.blt 0 z=true by simpa [aoO] using hz,cond_true,h5]
theorem pR{l:List Fm} : ∀ r∈l.map cN,r.length=14:=fun r hr=>by obtain⟨f,_,rfl⟩:=aoy.1 hr;rfl
theorem OK{f:Fm} : ∀ x∈cN f,qe x=true:=aof.1 (show (cN f).all qe=true from rfl)
theorem OS{l:List Fm} : dP (l.map cN)=true:=by
 simp only[dP,aof]
 intro r hr x hx
 obtain⟨f,_,rfl⟩:=aoy.1 hr
 exact (o4 (OK x hx)).2.1
theorem T2{l:List Fm} : gG 14 (l.map cN)=true:=by cases l<;>rfl
structure my (rows:List (List AV)) (l:List Fm):Prop where
 d:(rows.map fun r=>r.map AV.drop)=l.map cN
 nb:∀ r∈rows,∀ x∈r,jq x=true
theorem my.wide{rows:List (List AV)}{l:List Fm}(h:my rows l):∀ r∈rows,r.length=14:=fun r hr=>by
 have:r.map AV.drop∈l.map cN:=by rw[<- h.d];exact aoy.2 ⟨r,hr,rfl⟩
 have:=pR _ this
 simpa using this
theorem my.flat{rows:List (List AV)}{l:List Fm}(h:my rows l):∀ r∈rows,∀ x∈r,qe x.drop=true:=fun r hr x hx=>by
 have h1:r.map AV.drop∈l.map cN:=by rw[<- h.d];exact aoy.2 ⟨r,hr,rfl⟩
 obtain⟨f,_,hf⟩:=aoy.1 h1
 exact OK x.drop (by rw[hf];exact aoy.2 ⟨x,hx,rfl⟩)
theorem ad9{f:Fm} : ∀ x∈cN f,jq x=true:=aof.1 (show (cN f).all jq=true from rfl)
theorem L4{f:Fm} : (cN f).map AV.drop=cN f:=rfl
theorem my.self{l:List Fm} : my (l.map cN) l:=⟨by rw[apE];exact aoD fun f _=>L4,fun r hr x hx=>by obtain⟨f,_,rfl⟩:=aoy.1 hr;exact ad9 x hx⟩
theorem my.set{rows:List (List AV)}{l:List Fm}(h:my rows l){k:Nat}{row:List AV}{f:Fm}(h1:row.map AV.drop=cN f)(h2:∀ x∈row,jq x=true):my (rows.set k row) (l.set k f):=⟨by rw[List.map_set,h.d,h1,List.map_set],fun r hr x hx=>by
 rcases ap6 hr with hr|rfl
 ·exact h.nb r hr x hx
 ·exact h2 x hx⟩
def SwP(m n:Nat)(H:ah)(s:AS):Prop:=∃ T so rows o1 o2 X,s=⟨T,H++[.cS [.str so.name,.slice (strs so.cB) o1,X,.slice (strs so.head) o2,.str so.fin],.box bV rows.flatten],H.length,1⟩/\T 4=.ref H.length 0/\T 8=.lbox 0 [.str [],.aj,.aj,.aj,.str []]/\T 9=.sref (H.length+1) 0 n 14/\my rows so.defs/\xh m so/\rows.length=n
theorem acU{m n:Nat}{H:ah}{s:AS}(hs:SwP m n H s):W A (ME.body.post 4) s (Ce H.length ME (fun x=>∃ so,xh m so/\x=(.agg (iL so),none))):=by
 obtain⟨T,so,rows,o1,o2,X,rfl,q4,q8,q9,hR,hG,hn⟩:=hs
 unfold ME
 simp only[aY.post]
 simp(disch:=omega)only[aP,aa,simprocAttr,q4,q8,q9,CA,Xl,cC,aq,ak,an3,an4,ab]
 have hz:fN (H++[.cS [.str so.name,.slice (strs so.cB) o1,.sref (H.length+1) 0 n 14,.slice (strs so.head) o2,.str so.fin],.box bV rows.flatten]) H.length 3 (.sref (H.length+1) 0 n 14)=.slice (so.defs.map cN) false:=by
  have:=I2 (k:=2) (base:=H.length) (H:=H++[.cS [.str so.name,.slice (strs so.cB) o1,.sref (H.length+1) 0 n 14,.slice (strs so.head) o2,.str so.fin],.box bV rows.flatten]) (l:=H.length+1) (rows:=rows) (z:=14) (by omega) HS rfl hR.wide (by omega) hR.flat hR.nb
  rwa [hn,hR.d] at this
 have hz2:(([.str so.name,.slice (strs so.cB) false,.sref (H.length+1) 0 n 14,.slice (strs so.head) false,.str so.fin]:List AV).map AV.drop).map (fN (H++[.cS [.str so.name,.slice (strs so.cB) o1,.sref (H.length+1) 0 n 14,.slice (strs so.head) o2,.str so.fin],.box bV rows.flatten]) H.length 3)=iL so:=by
  simp only[aoh,aol,show (AV.sref (H.length+1) 0 n 14).drop=.sref (H.length+1) 0 n 14 from rfl,adZ,adY,aef,aee,hz]
  rfl
 refine⟨_,KH (fn:=ME) (tc:=8) (n:=5) (g:=0) (cs:=[.str so.name,.slice (strs so.cB) false,.sref (H.length+1) 0 n 14,.slice (strs so.head) false,.str so.fin]) (out:=iL so) rfl (by decide) (by decide) rfl rfl rfl ?_ ?_,so,hG,rfl⟩
 ·rw[hz2];rfl
 ·rw[hz2,iL];simp only[aoh,aol,cw,ca,gb,Bq]
theorem sl3{x:Int}(h0:0<=x)(h1:x<3):∃ s:bq,s.length<=20/\([[.str []],[.str [105,102]],[.str [109]]]:List (List AV))[x.toNat]?=some [.str s]:=by
 have:x.toNat=0\/x.toNat=1\/x.toNat=2:=by omega
 rcases this with e|e|e<;>rw[e]<;>exact⟨_,by decide,rfl⟩
theorem sl4{x:Int}(h0:0<=x)(h1:x<4):∃ s:bq,s.length<=20/\([[.str []],[.str [105,102]],[.str [120,32,121]],[.str [122]]]:List (List AV))[x.toNat]?=some [.str s]:=by
 have:x.toNat=0\/x.toNat=1\/x.toNat=2\/x.toNat=3:=by omega
 rcases this with e|e|e|e<;>rw[e]<;>exact⟨_,by decide,rfl⟩
theorem sl2{x:Int}(h0:0<=x)(h1:x<2):∃ s:bq,s.length<=20/\([[.str [107]],[.str [117,115,101]]]:List (List AV))[x.toNat]?=some [.str s]:=by
 have:x.toNat=0\/x.toNat=1:=by omega
 rcases this with e|e<;>rw[e]<;>exact⟨_,by decide,rfl⟩
theorem xh.up{m m' : Nat}{s:So}(hm:m<=m')(h:xh m s):xh m' s:=⟨h.a,by have:=h.ul;omega,h.ub,h.dl,fun f hf=>(h.db f hf).up hm,h.hl,h.hb,h.e⟩
theorem acT{m:Nat}(hm:m<=100){so:So}(hG:xh m so){a n9 b:Int}(ha:zO a)(hh:zO n9)(hb:zO b){H:ah}{s:AS}{Q:bP->AS->Prop}
  (hs:∃ T k,s=⟨T,H++[.cS [.str so.name,.slice (strs so.cB) false,.slice (so.defs.map cN) false,.slice (strs so.head) false,.str so.fin],.box bV (so.defs.map cN).flatten],H.length,1⟩/\T 4=.ref H.length 0/\T 8=.lbox 0 [.str [],.aj,.aj,.aj,.str []]/\T 9=.sref (H.length+1) 0 so.defs.length 14/\T 1=.int .i64 a/\T 2=.int .i64 n9/\T 3=.int .i64 b/\T 10=.int .i64 k/\0<=k/\k<so.defs.length) :
  W A ((ME.body.post 3).pre 0) s (andThen (SwP (m+1) so.defs.length H) Q):=by
 obtain⟨T,k,rfl,q4,q8,q9,q1,q2,q3,xz,k0,k1⟩:=hs
 have fin:∀ (T' : aQ) (wQ:So) (rows:List (List AV)) (o1 o2:Bool),my rows wQ.defs->xh (m+1) wQ->rows.length=so.defs.length->T' 4=.ref H.length 0->T' 8=.lbox 0 [.str [],.aj,.aj,.aj,.str []]->T' 9=.sref (H.length+1) 0 so.defs.length 14 ->
   SwP (m+1) so.defs.length H ⟨T',H++[.cS [.str wQ.name,.slice (strs wQ.cB) o1,.slice (so.defs.map cN) false,.slice (strs wQ.head) o2,.str wQ.fin],.box bV rows.flatten],H.length,1⟩ :=
  fun T' wQ rows o1 o2 hR hG hl h4 h8 h9=>⟨T',wQ,rows,o1,o2,_,rfl,h4,h8,h9,hR,hG,hl⟩
 have hw5:=fun K=>j7 n9 5 K hh (by omega)
 obtain⟨w0,w1⟩:=fT (n:=n9) (k:=5) (by omega)
 obtain⟨kk,KQ⟩:∃ kk:Nat,k=kk:=⟨k.toNat,by omega⟩
 subst KQ
 have bf:kk<so.defs.length:=by omega
 have hx:=an' bf
 have hfm:=aoW bf
 generalize so.defs[kk]=f at hx hfm
 have hf:=hG.db f hfm
 have KY:(so.defs.map cN)[kk]?=some (cN f):=FQ hx
 have yF:(so.defs.map cN).flatten.length=so.defs.length*14:=by rw[kM pR,aoA]
 have uC:∀ f',H2 (m+1) f'->xh (m+1) { so with defs:=so.defs.set kk f' }:=fun f' hf'=>by
  have h:=hG.up (ao' m)
  exact⟨h.a,h.ul,h.ub,by rw[List.length_set];exact h.dl,fun v hv=>by
   rcases ap6 hv with hv|rfl
   ·exact h.db v hv
   ·exact hf',h.hl,h.hb,h.e⟩
 have xt:=hf.up (ao' m)
 have hdl:=hG.dl
 unfold ME
 simp only[aY.post,aY.pre]
 generalize hwv:lJ n9 5=w at hw5 w0 w1
 have MF:∀ (T' : aQ),T' 4=T 4->T' 8=T 8->T' 9=T 9->T' 4=.ref H.length 0/\T' 8=.lbox 0 [.str [],.aj,.aj,.aj,.str []]/\T' 9=.sref (H.length+1) 0 so.defs.length 14:=fun T' a b c=>⟨a.trans q4,b.trans q8,c.trans q9⟩
 by_cases c0:w=0
 ·subst c0
  have cx:(so.defs.map cN).flatten[kk*14+13]?=some (.slice (strs f.layout) false):=by rw[L' pR KY (by omega)];rfl
  have a1:aC false 1 16 (.slice [] true) (.slice (strs f.layout) false)=some (.slice (strs f.layout) true):=cb (l:=[]) (by have:=hf.ll;simp;omega)
  have a2:aC false 1 16 (.slice (strs f.layout) true) (.slice [[.str [32]]] true)=some (.slice (strs (f.layout++[[32]])) true):=fj (by have:=hf.ll;omega)
  have jN:=qJ (z:=14) (j:=13) (cs:=[.slice (strs (f.layout++[[32]])) true]) pR KY (by simp)
  simp only[putAt,an5,an6] at jN
  simp(disch:=omega)only[aP,aa,simprocAttr,q4,q8,q9,xz,q1,q2,q3,CA,HS,Xl,Sp,CY,hw5,cx,a1,a2,yF,jN,Nat.zero_add,cC,aq,ak,an3,an4,ab]
  refine fin _ { so with defs:=so.defs.set kk { f with layout:=f.layout++[[32]] } } _ false false (my.self.set (f:={ f with layout:=f.layout++[[32]] }) ?_ ?_) (uC _ ⟨xt.k,xt.a,xt.sl,xt.sb,xt.w,xt.b,by have:=hf.ll;simp only[List.length_append,an5,an6];omega,fun s hs=>?_⟩) (by rw[List.length_set,aoA]) ?_ ?_ ?_
  ·rfl
  ·exact aof.1 rfl
  ·rcases aog.1 hs with hs|hs
   ·exact hf.lb s hs
   ·rw[aos.1 hs];decide
  all_goals simp(disch:=omega)only[aN,aa,simprocAttr,q4,q8,q9]
 by_cases c1:w=1
 ·subst c1
  obtain⟨x0,x1⟩:=fT (n:=b) (k:=4) (by omega)
  have hw4:=fun K=>j7 b 4 K hb (by omega)
  obtain⟨v,v0,hv⟩:=sl4 x0 x1
  have jN:=qJ (z:=14) (j:=1) (cs:=[.str v]) pR KY (by simp)
  simp only[putAt,an5,an6] at jN
  simp(disch:=omega)only[aP,aa,simprocAttr,q4,q8,q9,xz,q1,q2,q3,CA,HS,Xl,Sp,CY,hw5,hw4,hv,yF,jN,Nat.zero_add,cC,aq,ak,an3,an4,ab]
  refine fin _ { so with defs:=so.defs.set kk { f with name:=v } } _ false false (my.self.set (f:={ f with name:=v }) ?_ ?_) (uC _ ⟨xt.k,v0,xt.sl,xt.sb,xt.w,xt.b,xt.ll,xt.lb⟩) (by rw[List.length_set,aoA]) ?_ ?_ ?_
  ·rfl
  ·exact aof.1 rfl
  all_goals simp(disch:=omega)only[aN,aa,simprocAttr,q4,q8,q9]
 by_cases c2:w=2
 ·subst c2
  obtain⟨x0,x1⟩:=fT (n:=a) (k:=12) (by omega)
  have aiW:=fun K=>j7 a 12 K ha (by omega)
  obtain⟨y0,y1⟩:=fT (n:=b) (k:=8) (by omega)
  have hw8:=fun K=>j7 b 8 K hb (by omega)
  obtain⟨z0,z1⟩:=fT (n:=n9) (k:=1000) (by omega)
  have aa0:=fun K=>j7 n9 1000 K hh (by omega)
  obtain⟨x,qh,u,r,hu,r0,r1,rfl⟩:=ags hm 5 f.body hf.b (lJ a 12) (lJ b 8) (lJ n9 1000) x0 (by omega) y0 y1 z0 z1 (H++[.cS [.str so.name,.slice (strs so.cB) false,.slice (so.defs.map cN) false,.slice (strs so.head) false,.str so.fin],.box bV (so.defs.map cN).flatten])
  have hld:(((so.defs.map cN).flatten.drop (kk*14+5)).take 8).map AV.drop=cE f.body:=by
   rw[rL 5 pR KY (by omega),an];rfl
  have jN:=qJ (z:=14) (j:=5) (cs:=cE u) pR KY (by rw[u6];omega)
  rw[an] at qh hld
  rw[an] at qh jN
  simp only[putAt,an5,an6] at jN
  simp(disch:=omega)only[aP,aa,simprocAttr,q4,q8,q9,xz,q1,q2,q3,CA,HS,Xl,Sp,CY,hw5,aiW,hw8,aa0,hld,qh,yF,jN,Nat.zero_add,cC,aq,ak,an3,an4,ab]
  refine fin _ { so with defs:=so.defs.set kk { f with body:=u } } _ false false (my.self.set (f:={ f with body:=u }) ?_ ?_) (uC _ ⟨xt.k,xt.a,xt.sl,xt.sb,xt.w,hu,xt.ll,xt.lb⟩) (by rw[List.length_set,aoA]) ?_ ?_ ?_
  ·rfl
  ·exact aof.1 rfl
  all_goals simp(disch:=omega)only[aN,aa,simprocAttr,q4,q8,q9]
 by_cases c3:w=3
 ·subst c3
  simp(disch:=omega)only[aP,aa,simprocAttr,q4,q8,q9,xz,q1,q2,q3,CA,HS,Xl,Sp,CY,hw5,cC,aq,ak,an3,an4,ab]
  have h:=hG.up (ao' m)
  refine fin _ { so with head:=[[10]] } _ false true my.self ⟨h.a,h.ul,h.ub,h.dl,h.db,by simp,fun s hs=>by rw[aos.1 hs];decide,h.e⟩ (by rw[aoA]) ?_ ?_ ?_
  all_goals simp(disch:=omega)only[aN,aa,simprocAttr,q4,q8,q9]
 ·obtain rfl:w=4:=by omega
  obtain⟨x0,x1⟩:=fT (n:=b) (k:=2) (by omega)
  have YO:=fun K=>j7 b 2 K hb (by omega)
  obtain⟨v,v0,hv⟩:=sl2 x0 x1
  have hul:=hG.ul
  have a1:aC false 1 16 (.slice [] true) (.slice (strs so.cB) false)=some (.slice (strs so.cB) true):=cb (l:=[]) (by simp;omega)
  have a2:aC false 1 16 (.slice (strs so.cB) true) (.slice [[.str v]] true)=some (.slice (strs (so.cB++[v])) true):=fj (by omega)
  simp(disch:=omega)only[aP,aa,simprocAttr,q4,q8,q9,xz,q1,q2,q3,CA,HS,Xl,Sp,CY,hw5,YO,hv,a1,a2,cC,aq,ak,an3,an4,ab]
  have h:=hG.up (ao' m)
  refine fin _ { so with cB:=so.cB++[v] } _ true false my.self ⟨h.a,by simp;omega,fun u hu=>?_,h.dl,h.db,h.hl,h.hb,h.e⟩ (by rw[aoA]) ?_ ?_ ?_
  ·rcases aog.1 hu with hu|hu
   ·exact hG.ub u hu
   ·rw[aos.1 hu];exact v0
  all_goals simp(disch:=omega)only[aN,aa,simprocAttr,q4,q8,q9]
theorem Y7{m:Nat}(hm:m<=100){so:So}(hG:xh m so){a n9 b:Int}(ha:zO a)(hh:zO n9)(hb:zO b)(H:ah):∃ wQ,xh (m+1) wQ/\aD A 5 [.agg (iL so),.int .i64 a,.int .i64 n9,.int .i64 b] H=some (.agg (iL wQ),none):=by
 have key:∃ r,aD A 5 [.agg (iL so),.int .i64 a,.int .i64 n9,.int .i64 b] H=some r/\∃ wQ,xh (m+1) wQ/\r=(.agg (iL wQ),none):=by
  have hdl:=hG.dl
  refine mQ (fn:=ME) rfl rfl rfl ?_
  by_cases hd:so.defs=[]
  ·have h0:so.defs.length=0:=by rw[hd];rfl
   obtain⟨x0,x1⟩:=fT (n:=b) (k:=3) (by omega)
   have hw3:=fun K=>j7 b 3 K hb (by omega)
   obtain⟨v,v0,hv⟩:=sl3 x0 x1
   rw[iL]
   unfold ME
   simp(disch:=omega)only[aP,aa,simprocAttr,rr,cr,heap_set,ny,hw3,hv,cC,aq,ak,an3,an4,ab]
   have h:=hG.up (ao' m)
   refine⟨_,KH (fn:=ME) (tc:=8) (n:=5) (g:=0) (cs:=[.str v,.slice (strs so.cB) false,.slice (so.defs.map cN) false,.slice (strs so.head) false,.str so.fin]) (out:=iL { so with name:=v }) rfl (by decide) (by decide) rfl rfl rfl rfl ?_,{ so with name:=v },⟨v0,h.ul,h.ub,h.dl,h.db,h.hl,h.hb,h.e⟩,rfl⟩
   rw[iL]
   show [n2 _,n2 (.slice (strs so.cB) false),n2 (.slice (so.defs.map cN) false),n2 (.slice (strs so.head) false),n2 _]=_
   rw[ca,ca,ca,gb,gb,Bq];rfl
  ·have dn:∃ f r,so.defs=f :: r:=by cases h:so.defs with|nil=>exact absurd h hd|cons u r=>exact⟨u,r,rfl⟩
   obtain⟨f0,r0,vJ⟩:=dn
   have h0:0<so.defs.length:=by rw[vJ];simp
   obtain⟨x0,x1⟩:=fT (n:=a) (k:=so.defs.length) (by omega)
   have hwk:=fun K=>j7 a so.defs.length K ha (by omega)
   refine fH 3 (fun s=>∃ T k,s=⟨T,H++[.cS [.str so.name,.slice (strs so.cB) false,.slice (so.defs.map cN) false,.slice (strs so.head) false,.str so.fin],.box bV (so.defs.map cN).flatten],H.length,1⟩/\T 4=.ref H.length 0/\T 8=.lbox 0 [.str [],.aj,.aj,.aj,.str []]/\T 9=.sref (H.length+1) 0 so.defs.length 14/\T 1=.int .i64 a/\T 2=.int .i64 n9/\T 3=.int .i64 b/\T 10=.int .i64 k/\0<=k/\k<so.defs.length) ?_ fun s1 h1=>?_
   ·rw[iL]
    unfold ME
    simp only[aY.pre]
    have Nx:so.defs.map cN=cN f0 :: r0.map cN:=by rw[vJ];rfl
    have tR:=fun (os:List aM) (T0:aQ) (lo gen:Nat) (Q:AS->Prop)=>Zk (A:=A) (T:=T0) (lo:=lo) (gen:=gen) (K:=Q) (os:=os) (t:=25) (H:=H++[.cS [.str so.name,.slice (strs so.cB) false,.slice (so.defs.map cN) false,.slice (strs so.head) false,.str so.fin]]) (sz:=14) (bytes:=248) (r:=cN f0) (f:=r0.map cN) (own:=false)
     (by rw[<- Nx];simp only[cF,an6,Nat.zero_add,aoA,T2,Bool.and_true];rw[aoR (by omega),aoR (by omega)];rfl) (by rw[<- Nx];exact OS)
    rw[<- Nx] at tR
    have DI:(r0.map cN).length+1=so.defs.length:=by rw[aoA,vJ];rfl
    rw[DI] at tR
    have Po:((so.defs.length:Int)==0)=false:=by simp;omega
    simp(disch:=omega)only[aP,aa,simprocAttr,rr,tR,cr,l1,CY,CA,Xl,ny,Po,hwk,cC,aq,ak,an3,an4,ab]
    refine⟨_,lJ a so.defs.length,rfl,?_,?_,?_,?_,?_,?_,?_,x0,x1⟩
    all_goals simp(disch:=omega)only[aN,aa,simprocAttr]
   ·refine fH 0 _ (acT hm hG ha hh hb h1) fun s2 h2=>?_
    rw[kR]
    exact acU h2
 obtain⟨r,h1,wQ,h2,rfl⟩:=key
 exact⟨wQ,h2,h1⟩
theorem aei:A.aZ 1=dZ.map .str:=rfl
theorem aej:A.aZ 2=[.func (.func 113) [] [],.func (.func 191) [] [],.func (.func 192) [] [],.func (.func 192) [] []]:=rfl
theorem aek:A.aZ 3=kF.map .str:=rfl
theorem rf{c:UInt8} : jb c=decide (kindOf c=1):=by
 unfold kindOf
 cases h:jb c<;>cases h2:isDigit c<;>simp
theorem tA{c:UInt8} : isDigit c=decide (kindOf c=2):=by
 unfold kindOf
 cases h:jb c<;>cases h2:isDigit c<;>simp
 simp only[jb,isDigit,apZ,aod,aov] at h h2
 omega
def mL(s:bq):List bq->Nat
 | []=>0
 | x :: r=>if x.isPrefixOf s then x.length else mL s r
theorem uX{b:UInt8}{r:bq} : ∀ l:bq,mL (b :: r) (l.map fun x=>[x])=if l.contains b=true then 1 else 0
 | []=>rfl
 | x :: l=>by
  simp only[aoh,mL,List.isPrefixOf,List.isPrefixOf_nil_left,Bool.and_true,apY,apZ,uX l,an5,an6]
  by_cases h:x=b
  ·subst h;simp
  ·have h1:(x==b)=false:=by simpa using h
   have h2:(b==x)=false:=by simpa using fun e=>h e.symm
   simp[h1,h2]
theorem Hv{b:UInt8}{r:bq}(h:kindOf b=0):mL (b :: r) kF=og (b :: r):=by
 simp only[og]
 rw[if_neg (by omega)]
 have An:lP [b]=lT.contains b:=by unfold lP;simp
 rw[An]
 have two:(1<=r.length/\lP ((b :: r).take 2)=true)↔([61,61].isPrefixOf (b :: r)=true\/[45,62].isPrefixOf (b :: r)=true):=by
  cases r with
  | nil=>simp[List.isPrefixOf]
  | cons c r' =>
   simp only[apr,aoV,lP,List.isPrefixOf,an5,an6]
   simp
   constructor
   ·rintro (⟨rfl,rfl⟩|⟨rfl,rfl⟩)<;>simp
   ·rintro (⟨rfl,rfl⟩|⟨rfl,rfl⟩)<;>simp
 have e:kF=[61,61] :: [45,62] :: (lT.map fun x=>[x]):=rfl
 rw[e]
 simp only[mL,uX]
 by_cases h2:[61,61].isPrefixOf (b :: r)=true
 ·rw[if_pos h2,if_pos (two.2 (.inl h2))];rfl
 rw[if_neg h2]
 by_cases h3:[45,62].isPrefixOf (b :: r)=true
 ·rw[if_pos h3,if_pos (two.2 (.inr h3))];rfl
 rw[if_neg h3,if_neg (fun h=>(two.1 h).elim h2 h3)]
theorem Lk(s:bq)(H:ah)(Mj:s≠[])(hs:s.length<=4611686018427387904):aD A 97 [.str s] H=some (.int .i64 (og s),none):=by
 refine aB (fn:=Rn) rfl rfl rfl ?_
 unfold Rn
 obtain⟨b,r,rQ⟩:∃ b r,s=b :: r:=by cases s with|nil=>exact absurd rfl Mj|cons b r=>exact⟨b,r,rfl⟩
 have hb:s[0]?=some b:=by rw[rQ];rfl
 have hd:s.drop 1=r:=by rw[rQ];rfl
 simp(disch:=omega)only[ib,aa,simprocAttr,aej]
 cases hl:jb b with
 | true =>
  have hk:kindOf b=1:=by rw[rf] at hl;simpa using hl
  refine tS ?_
  simp(disch:=omega)only[ib,aa,simprocAttr,br,putAt,hb,pd,hl]
  refine bM s.length 2 (fun i=>Hd (fun T=>T 0=.str s/\T 4=.lbox 0 [.func (.func 113) [] [],.func (.func 191) [] []]/\T 5=.int .i64 i/\1<=i/\1+dJ 1 r=i+dJ 1 (s.drop i)) H H.length 1)
   (Hd (fun T=>T 5=.int .i64 ((1+dJ 1 r:Nat):Int)) H H.length 1) (fun _=>False) ?_ ?_ (fun _ h=>h.elim) 1 _ (by rw[rQ];simp) ?_
  ·rintro i st hi jN
   obtain⟨T,rfl,h0,h4,h5,hi1,hc⟩:=jN.out
   by_cases h:i<s.length
   ·rw[aoQ h] at hc
    have Ak:s[i]?=some s[i]:=an' h
    generalize s[i]=c at hc Ak
    simp only[dJ,apD] at hc
    have he:(jb c || isDigit c)=decide (kindOf c=2\/kindOf c=1):=by rw[rf,tA];by_cases e1:kindOf c=1<;>by_cases e2:kindOf c=2<;>simp[e1,e2]
    by_cases qi:kindOf c=2\/kindOf c=1
    ·rw[if_pos qi] at hc
     simp(disch:=omega)only[aN,aa,simprocAttr,h0,h4,h5,Ak,Fw,he,qi]
     omega
    ·rw[if_neg qi] at hc
     simp(disch:=omega)only[aN,aa,simprocAttr,h0,h4,h5,Ak,Fw,he,qi]
     omega
   ·have:i=s.length:=by omega
    subst this
    rw[ap9] at hc
    simp only[dJ] at hc
    simp(disch:=omega)only[aN,aa,simprocAttr,h0,h4,h5]
    omega
  ·intro st jN
   obtain⟨T,rfl,h5⟩:=jN.out
   have ht:og s=if 16<1+dJ 1 r then 0 else 1+dJ 1 r:=by rw[rQ];simp only[og,hk,if_pos (show (0:Int)<1 by omega)]
   by_cases h16:16<1+dJ 1 r
   ·rw[if_pos h16] at ht
    simp(disch:=omega)only[aN,aa,simprocAttr,h5,ht]
   ·rw[if_neg h16] at ht
    simp(disch:=omega)only[aN,aa,simprocAttr,h5,ht]
  ·simp(disch:=omega)only[ib,aa,simprocAttr,hd]
 | false =>
  refine tS ?_
  simp(disch:=omega)only[ib,aa,simprocAttr,br,putAt,hb,pd,hl]
  refine tS ?_
  cases hl2:isDigit b with
  | true =>
   have hk:kindOf b=2:=by rw[tA] at hl2;simpa using hl2
   simp(disch:=omega)only[ib,aa,simprocAttr,br,putAt,hb,uf,hl2]
   refine bM s.length 2 (fun i=>Hd (fun T=>T 0=.str s/\T 4=.lbox 1 [.func (.func 192) [] [],.func (.func 192) [] []]/\T 5=.int .i64 i/\1<=i/\1+dJ 2 r=i+dJ 2 (s.drop i)) H H.length 2)
    (Hd (fun T=>T 5=.int .i64 ((1+dJ 2 r:Nat):Int)) H H.length 2) (fun _=>False) ?_ ?_ (fun _ h=>h.elim) 1 _ (by rw[rQ];simp) ?_
   ·rintro i st hi jN
    obtain⟨T,rfl,h0,h4,h5,hi1,hc⟩:=jN.out
    by_cases h:i<s.length
    ·rw[aoQ h] at hc
     have Ak:s[i]?=some s[i]:=an' h
     generalize s[i]=c at hc Ak
     simp only[dJ,show ((2:Int)=1)=False by simp,aqJ,aqH] at hc
     have he:isDigit c=decide (kindOf c=2):=tA
     by_cases qi:kindOf c=2
     ·rw[if_pos qi] at hc
      simp(disch:=omega)only[aN,aa,simprocAttr,h0,h4,h5,Ak,uf,he,qi]
      omega
     ·rw[if_neg qi] at hc
      simp(disch:=omega)only[aN,aa,simprocAttr,h0,h4,h5,Ak,uf,he,qi]
      omega
    ·have:i=s.length:=by omega
     subst this
     rw[ap9] at hc
     simp only[dJ] at hc
     simp(disch:=omega)only[aN,aa,simprocAttr,h0,h4,h5]
     omega
   ·intro st jN
    obtain⟨T,rfl,h5⟩:=jN.out
    have ht:og s=if 16<1+dJ 2 r then 0 else 1+dJ 2 r:=by rw[rQ];simp only[og,hk,if_pos (show (0:Int)<2 by omega)]
    by_cases h16:16<1+dJ 2 r
    ·rw[if_pos h16] at ht
     simp(disch:=omega)only[aN,aa,simprocAttr,h5,ht]
    ·rw[if_neg h16] at ht
     simp(disch:=omega)only[aN,aa,simprocAttr,h5,ht]
   ·simp(disch:=omega)only[ib,aa,simprocAttr,hd]
  | false =>
   have hk:kindOf b=0:=by unfold kindOf;rw[hl,hl2];rfl
   simp(disch:=omega)only[ib,aa,simprocAttr,br,putAt,hb,uf,hl2]
   refine tS ?_
   simp(disch:=omega)only[ib,aa,simprocAttr,aek]
   refine Y6 (.agg (kF.map .str)) (by kernel_rfl) rfl ?_
   simp(disch:=omega)only[ib,aa,simprocAttr]
   have aiK:mL s kF=og s:=by rw[rQ];exact Hv hk
   have h18:kF.length=18:=rfl
   refine bM 18 4 (fun i=>Hd (fun T=>T 0=.str s/\T 36=.agg (kF.map .str)/\T 37=.int .i64 i/\og s=mL s (kF.drop i)) H H.length 2)
    (Hd (fun T=>og s=0) H H.length 2) (Hd (fun T=>T 2=.int .i64 (og s)) H H.length 2) ?_ ?_ ?_ 0 _ (by omega) ?_
   ·rintro i st hi jN
    obtain⟨T,rfl,h0,h36,h37,hc⟩:=jN.out
    by_cases h:i<18
    ·have lD:i<kF.length:=by rw[h18];exact h
     have hx:(kF.map AV.str)[i]?=some (.str kF[i]):=by rw[aor,an' lD];rfl
     rw[aoQ lD] at hc
     simp only[mL] at hc
     generalize kF[i]=x at hc hx
     cases hp:x.isPrefixOf s with
     | true =>
      rw[if_pos hp] at hc
      simp(disch:=omega)only[aN,aa,simprocAttr,h0,h36,h37,apT,hx,wA,hp]
      omega
     | false =>
      rw[if_neg (by simp[hp])] at hc
      simp(disch:=omega)only[aN,aa,simprocAttr,h0,h36,h37,apT,hx,wA,hp]
      exact⟨h,hc⟩
    ·have:i=18:=by omega
     subst this
     rw[show kF.drop 18=[] from rfl] at hc
     simp only[mL] at hc
     simp(disch:=omega)only[aN,aa,simprocAttr,h37,hc]
   ·intro st jN
    obtain⟨T,rfl,hc⟩:=jN.out
    simp(disch:=omega)only[ib,aa,simprocAttr,hc]
   ·intro st jN
    obtain⟨T,rfl,hc⟩:=jN.out
    simp(disch:=omega)only[ib,aa,simprocAttr,hc]
   ·simp(disch:=omega)only[ib,aa,simprocAttr,aiK]
theorem X5(s:bq)(H:ah)(hs:s.length<=4611686018427387904):aD A 76 [.str s] H=some (.bool (isWord s),none):=by
 refine aB (fn:=Ra) rfl rfl rfl ?_
 unfold Ra
 cases rQ:s with
 | nil=>simp(disch:=omega)only[ib,aa,simprocAttr,isWord,bne_self_eq_false]
 | cons b r =>
 rw[<- rQ]
 have dn:s≠[]:=by rw[rQ];simp
 have hl:(s==[])=false:=by simpa using dn
 have h27:dZ.length=27:=rfl
 have hb:s[0]?=some b:=by rw[rQ];rfl
 have hw:isWord s=(decide (kindOf b=1)&&!dZ.contains s&&decide (og s=s.length)):=by rw[rQ];rfl
 have hk:=rf (c:=b)
 rw[hw]
 by_cases vK:kindOf b=1
 ·by_cases ht:og s=s.length
  ·simp(disch:=omega)only[aN,aa,simprocAttr,hl,hb,pd,hk,vK,Lk s H dn hs,ht,aei,h27,IG dZ s H (by omega)]
  ·simp(disch:=omega)only[aN,aa,simprocAttr,hl,hb,pd,hk,vK,Lk s H dn hs,ht]
 ·simp(disch:=omega)only[aN,aa,simprocAttr,hl,hb,pd,hk,vK]
end Go.Proofs.YtbdnnjjcdcacnaaGreatDoor
