/-
  A part of the proof of PrintNames: S16, S17, S18, S19, S20, S21, S22, S23, S24, S25, S26, S27, S28, S29, S30, S31, S32, S33, S34.
-/
import Derived.Test.YtocbgffdpfiidaaGreatDoorP11
set_option linter.unusedSimpArgs false
set_option linter.unusedVariables false
set_option linter.defProp false
set_option maxHeartbeats 1000000
set_option maxRecDepth 100000
namespace Go.Proofs.YtocbgffdpfiidaaGreatDoor
open Go Go.Abs Go.Proofs
theorem jZ{t:Tm}(h:gA t=false):bD t=false:=by rw[lW,h,ajr]
theorem yQ:∀ (h:Nat) (t:Tm) (H:ag),Ks h t->aA A 59 [.agg (gk t)] H=some (.bool (bD t),none)
 | 0,t,H,hb=>by cases hb
 | h+1,t,H,hb=>by
  have ih:=yQ h
  have hF:=hb.out
  refine bb (fn:=oQ) rfl rfl rfl ?_
  refine ib 2 _ (aco hF fun hx=>jZ (by unfold gA;rw[hx];rfl)) ?_
  rintro s1 ⟨Ac,b1⟩
  refine ib 1 _ (acp hF (fun hx=>jZ (by unfold gA;rw[hx];simp)) s1 Ac) ?_
  rintro s2 ⟨QW,b2⟩
  refine ib 1 _ (acq hF (fun hx=>jZ (by unfold gA;rw[hx];simp)) s2 QW) ?_
  rintro s3 ⟨hs3,b3⟩
  refine ib 0 _ (acr hF (fun hx=>jZ (by unfold gA;rw[hx];simp)) s3 hs3) ?_
  rintro s4 ⟨hs4,b4⟩
  refine ib 0 _ (acs hF (fun hx=>jZ (by unfold gA;rw[hx];simp)) s4 hs4) ?_
  rintro s5 ⟨hs5,b5⟩
  refine ib 0 _ (acu hF (fun hx=>jZ (by unfold gA;rw[hx];simp)) s5 hs5) ?_
  rintro s6 ⟨⟨T,rfl,e1⟩,b6⟩
  have ho:gA t=true:=by unfold gA;rw[b1,b2,b3,b4,b5,b6];rfl
  have hp:bD t=t.kids.all bD:=by rw[lW,ho,ajo,kZ]
  rw[hp]
  have yq:=hF.kl
  unfold oQ
  simp only[aZ.post]
  simp(disch:=omega)only[aW,aa,simprocAttr]
  refine bY t.kids.length 0 (fun i s=>∃ T,s=⟨T,H,H.length,1⟩/\T 1=.lbox 0 [.int .i64 t.kind,.int .i64 t.n,.str t.name,.str t.field,.str t.wn,.slice (aO t.wk) false,.slice (aK t.kids) false,.slice (strs t.names) false]/\T 7=.int .i64 i/\t.kids.all bD=(t.kids.drop i).all bD)
   (fun s=>∃ T,s=⟨T,H,H.length,1⟩/\t.kids.all bD=true) (fun s=>∃ T,s=⟨T,H,H.length,1⟩/\T 2=.bool false/\t.kids.all bD=false) ?_ ?_ ?_ 0 _ (ajy _) ?_
  ·rintro i st hi ⟨T,rfl,e1,e7,hc⟩
   by_cases a7:i<t.kids.length
   ·have hx:=aiJ a7
    have hd:=ajc a7
    have hm:=ajA a7
    generalize t.kids[i]=u at hx hd hm
    have hu:=ih u H (hF.kb u hm)
    have kV:=DG hx
    rw[ax] at hu kV
    rw[hd,ajV] at hc
    cases F8:bD u with
    | false =>
     rw[F8] at hu hc
     simp(disch:=omega)only[aW,aa,simprocAttr,e1,e7,b8,kV,hu]
     exact⟨_,rfl,by simp(disch:=omega)only[aM,aa,simprocAttr],by rw[hc];rfl⟩
    | true =>
     rw[F8] at hu hc
     simp(disch:=omega)only[aW,aa,simprocAttr,e1,e7,b8,kV,hu]
     exact⟨a7,_,rfl,by simp(disch:=omega)only[aM,aa,simprocAttr,e1],by simp(disch:=omega)only[aM,aa,simprocAttr],by rw[hc,ajo]⟩
   ·have e:t.kids.drop i=[]:=ajS (by omega)
    rw[e,ak8] at hc
    simp(disch:=omega)only[aW,aa,simprocAttr,e1,e7,b8]
    exact⟨_,rfl,hc⟩
  ·rintro st ⟨T,rfl,hc⟩
   simp(disch:=omega)only[aW,aa,simprocAttr,hc]
  ·rintro st ⟨T,rfl,h2,hc⟩
   simp(disch:=omega)only[aW,aa,simprocAttr,h2,hc]
  ·exact⟨_,rfl,by simp(disch:=omega)only[aM,aa,simprocAttr,e1],by simp(disch:=omega)only[aM,aa,simprocAttr],by simp⟩
theorem jm(a l:List aV)(x y:aV)(H:ag)(ha:a.length<=1000000)(hl:l.length<=1000000)(o o' : Bool) :
  aA A 61 [.slice (strs a) false,.str x,.slice (strs l) false,.str y] H=some (.slice (strs (a++[x]++l++[y])) true,none):=by
 have h1:aq false 1 16 (.slice [] true) (.slice (strs a) false)=some (.slice (strs a) true):=bR (l:=[]) (by simp;omega)
 have h2:aq false 1 16 (.slice (strs a) true) (.slice [[.str x]] true)=some (.slice (strs (a++[x])) true):=dF (by omega)
 have h3:aq false 1 16 (.slice (strs (a++[x])) true) (.slice (strs l) false)=some (.slice (strs (a++[x]++l)) true):=bR (by simp;omega)
 have h4:aq false 1 16 (.slice (strs (a++[x]++l)) true) (.slice [[.str y]] true)=some (.slice (strs (a++[x]++l++[y])) true):=dF (by simp;omega)
 generalize a++[x]++l++[y]=l3 at h4 ⊢
 generalize a++[x]++l=l2 at h3 h4
 generalize a++[x]=l1 at h2 h3
 refine bb (fn:=NT) rfl rfl rfl ?_
 unfold NT
 simp(disch:=omega)only[aW,aa,simprocAttr,h1,h2,h3,h4]
def ra(k:Nat):aV:=dj (k+1) k []
theorem re:∀ (f g n:Nat) (acc:aV),n<f->n<g->dj f n acc=dj g n acc
 | 0,_,n,acc,h,_=>by omega
 | f+1,0,n,acc,_,h=>by omega
 | f+1,g+1,n,acc,h,h2=>by
  unfold dj
  cases hn:Nat.blt n 10 with
  | true=>rfl
  | false =>
   have:¬ n<10:=fun h=>by
    have:Nat.blt n 10=true:=by simpa [ajb] using h
    rw[hn] at this;cases this
   simp only[aiQ]
   exact re f g (n / 10) _ (by omega) (by omega)
theorem vb(k:Nat)(H:ag)(hk:k<=2199023255552):aA A 32 [.int .i64 k] H=some (.str (ra k),none):=by
 refine bb (fn:=NI) rfl rfl rfl ?_
 unfold NI
 simp(disch:=omega)only[aW,aa,simprocAttr]
 refine zg 0 (fun m s=>∃ T acc,s=⟨T,H,H.length,0⟩/\m<=2199023255552/\T 0=.int .i64 m/\T 3=.str acc/\acc.length+m<=k/\ra k=dj (m+1) m acc)
  (fun s=>∃ T acc m,s=⟨T,H,H.length,0⟩/\m<10/\T 0=.int .i64 (m:Nat)/\T 3=.str acc/\acc.length+m<=k/\ra k=UInt8.ofNat (48+m) :: acc) (fun _=>False) ?_ ?_ (fun _ h=>h.elim) k _ ?_
 ·rintro m s ⟨T,acc,rfl,hm,e0,e3,hl,hc⟩
  by_cases h9:9<m
  ·have hb:Nat.blt m 10=false:=by cases h:Nat.blt m 10 with|false=>rfl|true=>simp[ajb] at h;omega
   have e:dj (m+1) m acc=dj (m / 10+1) (m / 10) (UInt8.ofNat (48+m % 10) :: acc):=by
    rw[dj,hb,aiQ]
    exact re _ _ _ _ (by omega) (by omega)
   rw[e] at hc
   simp(disch:=omega)only[aW,aa,simprocAttr,e0,e3,gX,nP,PG,ji,ko,ajV,ak8,bytesOf]
   have em:(48+(m:Int) % 10).toNat=48+m % 10:=by omega
   have ed:(m:Int) / 10=((m / 10:Nat):Int):=by omega
   exact⟨m / 10,by omega,_,UInt8.ofNat (48+m % 10) :: acc,rfl,by omega,by simp(disch:=omega)only[aM,aa,simprocAttr,ed],by simp(disch:=omega)only[aM,aa,simprocAttr,em],by simp only[List.length_cons];omega,hc⟩
  ·have hb:Nat.blt m 10=true:=by simp[ajb];omega
   have e:dj (m+1) m acc=UInt8.ofNat (48+m) :: acc:=by rw[dj,hb,cond_true]
   rw[e] at hc
   simp(disch:=omega)only[aW,aa,simprocAttr,e0,e3]
   exact⟨_,acc,m,rfl,by omega,by simp(disch:=omega)only[aM,aa,simprocAttr,e0],by simp(disch:=omega)only[aM,aa,simprocAttr,e3],hl,hc⟩
 ·rintro s ⟨T,acc,m,rfl,hm,e0,e3,hl,hc⟩
  simp(disch:=omega)only[aW,aa,simprocAttr,e0,e3,PG,ji,ko,ajV,ak8,bytesOf]
  rw[hc,show (48+(m:Int)).toNat=48+m by omega]
 ·exact⟨_,[],rfl,hk,by simp(disch:=omega)only[aM,aa,simprocAttr],by simp(disch:=omega)only[aM,aa,simprocAttr],by simp,rfl⟩
def pI(p:List aV × Int)(least:Int):List aV:=if p.2<least then [[40]]++p.1++[[41]] else p.1
def aH:List (List aV)->List aV
 | []=>[]
 | [a]=>a
 | a :: b :: r=>a++[[44]]++aH (b :: r)
theorem kD(x:List aV):∀ l:List (List aV),aH (l++[x])=if l=[] then x else aH l++[[44]]++x
 | []=>by simp[aH]
 | [a]=>by simp[aH]
 | a :: b :: r=>by
  have:=kD x (b :: r)
  simp only[aj7,aH] at this ⊢
  rw[this]
  simp
def jF(k n:Int)(a f:aV)(w:Wd)(ns:List aV)(tl:List (List aV × Int)):List aV :=
 if k=0 then (if n<0 then [[45],ra (-n).toNat] else [ra n.toNat])
 else if k=1 then [if n=0 then [102,97,108,115,101] else [116,114,117,101]]
 else if k=2 then [a]
 else if k=3 then cu a++[[40]]++aH (tl.map (·.1))++[[41]]
 else if k=4 then (match tl with
  | [x]=>[(fm n).1]++pI x 7
  | [x,y]=>pI x (if (fm n).2=3 then 4 else (fm n).2)++[(fm n).1]++pI y ((fm n).2+1)
  | _=>[])
 else if k=5 then (match tl with|[x,y,z]=>[[105,102]]++x.1++[[116,104,101,110]]++y.1++[[101,108,115,101]]++z.1|_=>[])
 else if k=6 then (match tl,ns with|[x,y],[s]=>[[108,101,116],s,[61]]++x.1++[[105,110]]++y.1|_,_=>[])
 else if k=7 then cu a++[[123]]++aH (List.zipWith (fun s (x:List aV × Int)=>[s,[61]]++x.1) ns tl)++[[125]]
 else if k=8 then (match tl with|[x]=>cu a++[[58],f]++[[91]]++x.1++[[93]]|_=>[])
 else if k=9 then (match tl with|[x]=>cu a++[[58],f]++[[40]]++x.1++[[41]]|_=>[])
 else if k=10 then (match tl,ns with
  | [x,y],[p,q]=>[[109,97,116,99,104]]++cu a++[[40]]++x.1++[[41]]++[[123]]++([p,q,[45,62]]++y.1)++[[125]]
  | [x,y,z],[p,q,r,u]=>[[109,97,116,99,104]]++cu a++[[40]]++x.1++[[41]]++[[123]]++([p,q,[45,62]]++y.1++[[44]]++[r,u,[45,62]]++z.1)++[[125]]
  | _,_=>[])
 else if k=11 then [gH]++[[40]]++dn w++[[41]]++[[91]]++aH (tl.map (·.1))++[[93]]
 else if k=12 then (match tl,ns with|[x,y,z],[s,u]=>[[102,111,108,100],s,[44],u,[61]]++y.1++[[111,118,101,114]]++x.1++[[100,111]]++z.1|_,_=>[])
 else []
mutual
def aj:Tm->List aV
 | .mk k n a f wn wk ks ns=>jF k n a f (.mk wn wk) ns (wS ks)
def wS:List Tm->List (List aV × Int)
 | []=>[]
 | t :: r=>(aj t,dm t) :: wS r
end
theorem wT:∀ l:List Tm,wS l=l.map fun t=>(aj t,dm t)
 | []=>by simp[wS]
 | t :: r=>by simp[wS,wT r]
theorem dY(t:Tm):aj t=jF t.kind t.n t.name t.field (.mk t.wn t.wk) t.names (t.kids.map fun t=>(aj t,dm t)):=by
 cases t;rw[aj,wT,Tm.kind,Tm.n,Tm.name,Tm.field,Tm.wn,Tm.wk,Tm.names,Tm.kids]
structure oq (t:Tm):Prop where
 d:∀ H,aA A 33 [.agg (gk t)] H=some (.slice (strs (aj t)) true,none)
 len:(aj t).length<=100000
theorem Oc{t:Tm}(h:oq t)(least:Int)(H:ag):aA A 64 [.agg (gk t),.int .i64 least] H=some (.slice (strs (pI (aj t,dm t) least)) true,none):=by
 have h1:=h.d H
 have h2:=SF t H
 have hl:=h.len
 rw[ax] at h1 h2 ⊢
 have a1:aq false 1 16 (.slice [[.str [40]]] true) (.slice (strs (aj t)) true)=some (.slice (strs ([[40]]++aj t)) true):=bR (l:=[[40]]) (by simp;omega)
 have a2:aq false 1 16 (.slice (strs ([[40]]++aj t)) true) (.slice [[.str [41]]] true)=some (.slice (strs ([[40]]++aj t++[[41]])) true):=dF (by simp;omega)
 unfold pI
 generalize [[40]]++aj t++[[41]]=l2 at a2 ⊢
 generalize [[40]]++aj t=l1 at a1 a2
 refine bb (fn:=NW) rfl rfl rfl ?_
 unfold NW
 by_cases hc:dm t<least
 ·rw[if_pos hc]
  simp(disch:=omega)only[aW,aa,simprocAttr,h1,h2,a1,a2]
 ·rw[if_neg hc]
  simp(disch:=omega)only[aW,aa,simprocAttr,h1,h2]
theorem fS:∀ (l:List (List aV)) (n:Nat),(∀ x∈l,x.length<=n)->(aH l).length<=l.length*(n+1)
 | [],_,_=>by simp[aH]
 | [a],n,h=>by have:=h a (by simp);simp only[aH,List.length_cons,aiR];omega
 | a :: b :: r,n,h=>by
  have h1:=h a (by simp)
  have h2:=fS (b :: r) n (fun x hx=>h x (by simp only[aja] at hx ⊢;exact .inr hx))
  simp only[aH,List.length_append,List.length_cons,aiR] at h2 ⊢
  rw[ajj (r.length+1) 1 (n+1)]
  omega
theorem CW{l:List Tm}(hl:l.length<=10)(h:∀ t∈l,oq t)(H:ag):aA A 62 [.slice (aK l) false] H=some (.slice (strs (aH (l.map aj))) false,none):=by
 refine bb (fn:=NU) rfl rfl rfl ?_
 unfold NU
 simp(disch:=omega)only[aW,aa,simprocAttr]
 refine bY l.length 0 (fun i s=>∃ T,s=⟨T,H,H.length,0⟩/\T 0=.slice (aK l) false/\T 3=.slice (strs (aH ((l.take i).map aj))) true/\T 4=.int .i64 i)
  (fun s=>∃ T,s=⟨T,H,H.length,0⟩/\T 3=.slice (strs (aH (l.map aj))) true) (fun _=>False) ?_ ?_ (fun _ h=>h.elim) 0 _ (ajy _) ?_
 ·rintro i s hi ⟨T,rfl,e0,e3,e4⟩
  by_cases a7:i<l.length
  ·have hx:=aiJ a7
   have hm:=ajA a7
   have Gb:l.take (i+1)=l.take i++[l[i]]:=by rw[akl,hx];rfl
   generalize l[i]=u at hx hm Gb
   have hu:=(h u hm).d H
   have hul:=(h u hm).len
   have kV:=DG hx
   rw[ax] at hu kV
   have Cn:(aH ((l.take i).map aj)).length<=10*100001:=by
    have h1:=fS ((l.take i).map aj) 100000 (fun x hx=>by
     obtain⟨t,ht,rfl⟩:=ai5.1 hx
     exact (h t (ajR ht)).len)
    have h2:((l.take i).map aj).length<=10:=by simp;omega
    exact ajt h1 (aiZ _ h2)
   have mf:(l.take (i+1)).map aj=(l.take i).map aj++[aj u]:=by rw[Gb];simp
   have hs:=kD (aj u) ((l.take i).map aj)
   rw[<- mf] at hs
   by_cases h0:i=0
   ·subst h0
    simp only[ajJ,aiX,ajY] at hs e3
    have a1:aq false 1 16 (.slice (strs (aH [])) true) (.slice (strs (aj u)) true)=some (.slice (strs (aj u)) true):=bR (l:=[]) (by simp;omega)
    simp(disch:=omega)only[aW,aa,simprocAttr,e0,e3,e4,b8,kV,hu,a1]
    exact⟨a7,_,rfl,by simp(disch:=omega)only[aM,aa,simprocAttr,e0],by rw[hs];simp(disch:=omega)only[aM,aa,simprocAttr],by simp(disch:=omega)only[aM,aa,simprocAttr]⟩
   ·have cU:¬ ((l.take i).map aj=[]):=fun e=>by
     have:=ak2 List.length e
     rw[ai9,List.length_take,aiR] at this
     omega
    rw[if_neg cU] at hs
    generalize aH ((l.take i).map aj)=acc at e3 Cn hs
    have a1:aq false 1 16 (.slice (strs acc) true) (.slice [[.str [44]]] true)=some (.slice (strs (acc++[[44]])) true):=dF (by omega)
    have a2:aq false 1 16 (.slice (strs (acc++[[44]])) true) (.slice (strs (aj u)) true)=some (.slice (strs (acc++[[44]]++aj u)) true):=bR (by simp;omega)
    generalize acc++[[44]]++aj u=l2 at a2 hs
    generalize acc++[[44]]=l1 at a1 a2
    simp(disch:=omega)only[aW,aa,simprocAttr,e0,e3,e4,b8,kV,hu,a1,a2]
    exact⟨a7,_,rfl,by simp(disch:=omega)only[aM,aa,simprocAttr,e0],by rw[hs];simp(disch:=omega)only[aM,aa,simprocAttr],by simp(disch:=omega)only[aM,aa,simprocAttr]⟩
  ·rw[aji (by omega)] at e3
   simp(disch:=omega)only[aW,aa,simprocAttr,e0,e3,e4,b8]
   exact⟨_,rfl,by simp(disch:=omega)only[aM,aa,simprocAttr,e3]⟩
 ·rintro s ⟨T,rfl,e3⟩
  simp(disch:=omega)only[aW,aa,simprocAttr,e3]
 ·exact⟨_,rfl,by simp(disch:=omega)only[aM,aa,simprocAttr],by simp(disch:=omega)only[aM,aa,simprocAttr,ajJ,aiX,aH,strs],by simp(disch:=omega)only[aM,aa,simprocAttr]⟩
section
structure w7 (t:Tm):Prop where
 b1:mK t=false
 b2:nx t=false
 b3:n8 t=false
 b4:ny t=false
 b5:mL t=false
 b6:ox t=false
 kids:∀ u∈t.kids,bD u=true
theorem HW{t:Tm}(h:bD t=true):w7 t:=by
 rw[lW,aiL,kZ] at h
 obtain⟨h1,h2⟩:=h
 simp only[gA,akk,akO] at h1
 obtain⟨⟨⟨⟨⟨a1,a2⟩,a3⟩,a4⟩,a5⟩,a6⟩:=h1
 exact⟨a1,a2,a3,a4,a5,a6,fun u hu=>aiO.1 h2 u hu⟩
theorem fi{t:Tm}(h:w7 t){c1 c2:Int}(hc:bP t.kind t.n t.kids.length=(c1,c2)):c1≠-2/\(0<=c1->(t.kids.length:Int)=c1)/\(t.names.length:Int)=c2:=by
 have h1:=h.b1
 unfold mK at h1
 rw[hc] at h1
 simp only[kn,akO,akb,not_and,Decidable.not_not] at h1
 exact⟨h1.1.1.1,h1.1.1.2,h1.1.2⟩
theorem OD{t:Tm}(h:w7 t):0<=t.kind/\t.kind<=12:=by
 rcases Gn t.kind with e|e|e|e|e|e|e|e|e|e|e|e|e|e
 all_goals first|omega|skip
 have hc:bP t.kind t.n t.kids.length=(-2,0):=by
  unfold bP
  repeat rw[if_neg (by omega)]
 exact absurd rfl (fi h hc).1
theorem SD{α:Type}{l:List α}(h:l.length=1):∃ a,l=[a]:=by
 match l,h with
 | [a],_=>exact⟨a,rfl⟩
theorem Oj{α:Type}{l:List α}(h:l.length=2):∃ a b,l=[a,b]:=by
 match l,h with
 | [a,b],_=>exact⟨a,b,rfl⟩
theorem XT{α:Type}{l:List α}(h:l.length=3):∃ a b c,l=[a,b,c]:=by
 match l,h with
 | [a,b,c],_=>exact⟨a,b,c,rfl⟩
section
variable {t:Tm}{h:Nat}(hF:Hh h t)(hO:w7 t)(hK:∀ u∈t.kids,oq u)(H:ag)
include hF hO hK
theorem tk0(hk:t.kind=0):aA A 33 [.agg (gk t)] H=some (.slice (strs (aj t)) true,none):=by
 have _:=hF
 have _:=hK
 have hn:=hO.b5
 unfold mL at hn
 rw[decide_eq_true hk] at hn
 simp only[cond_true,akb,not_or,Int.not_lt] at hn
 rw[dY,ax]
 refine bb (fn:=jf) rfl rfl rfl ?_
 unfold jf
 by_cases h0:t.n<0
 ·obtain⟨m,hm⟩:∃ m:Nat, -t.n=m:=⟨(-t.n).toNat,by omega⟩
  have hm0:0-t.n=m:=by omega
  have hd:=vb m H (by omega)
  have e:jF t.kind t.n t.name t.field (.mk t.wn t.wk) t.names (t.kids.map fun t=>(aj t,dm t))=[[45],ra m]:=by
   unfold jF;rw[if_pos hk,if_pos h0,hm];rfl
  rw[e]
  simp(disch:=omega)only[aW,aa,simprocAttr,hk,hm0,hd,strs,aiU,aiX]
 ·obtain⟨m,hm⟩:∃ m:Nat,t.n=m:=⟨t.n.toNat,by omega⟩
  have hd:=vb m H (by omega)
  have e:jF t.kind t.n t.name t.field (.mk t.wn t.wk) t.names (t.kids.map fun t=>(aj t,dm t))=[ra m]:=by
   unfold jF;rw[if_pos hk,if_neg h0,hm];rfl
  rw[e]
  simp(disch:=omega)only[aW,aa,simprocAttr,hk,hm,hd,strs,aiU,aiX]
theorem tk2(hk:t.kind=2):aA A 33 [.agg (gk t)] H=some (.slice (strs (aj t)) true,none):=by
 have _:=hF
 have _:=hO
 have _:=hK
 rw[dY,ax]
 refine bb (fn:=jf) rfl rfl rfl ?_
 unfold jf
 have e:jF t.kind t.n t.name t.field (.mk t.wn t.wk) t.names (t.kids.map fun t=>(aj t,dm t))=[t.name]:=by
  rw[hk];rfl
 rw[e]
 simp(disch:=omega)only[aW,aa,simprocAttr,hk,strs,aiU,aiX]
theorem tk3(hk:t.kind=3):aA A 33 [.agg (gk t)] H=some (.slice (strs (aj t)) true,none):=by
 have _:=hO
 have hq:=pB t.name H (by have:=hF.a;omega)
 have hl:=CW (l:=t.kids) (by have:=hF.kl;omega) hK H
 have hb:=jm (cu t.name) (aH (t.kids.map aj)) [40] [41] H (by have:=iN t.name;omega) (by
  have h1:=fS (t.kids.map aj) 100000 (fun x hx=>by obtain⟨u,hu,rfl⟩:=ai5.1 hx;exact (hK u hu).len)
  rw[ai9] at h1
  have:=hF.kl
  have h2:t.kids.length*(100000+1)<=3*100001:=aiZ _ this
  omega) true false
 rw[dY,ax]
 have e:jF t.kind t.n t.name t.field (.mk t.wn t.wk) t.names (t.kids.map fun t=>(aj t,dm t))=cu t.name++[[40]]++aH (t.kids.map aj)++[[41]]:=by
  rw[hk]
  show cu t.name++[[40]]++aH ((t.kids.map fun t=>(aj t,dm t)).map (·.1))++[[41]]=_
  rw[ake]
  rfl
 rw[e]
 generalize cu t.name++[[40]]++aH (t.kids.map aj)++[[41]]=out at hb ⊢
 refine bb (fn:=jf) rfl rfl rfl ?_
 unfold jf
 simp(disch:=omega)only[aW,aa,simprocAttr,hk,hq,hl,hb]
theorem tk1(hk:t.kind=1):aA A 33 [.agg (gk t)] H=some (.slice (strs (aj t)) true,none):=by
 have _:=hF
 have _:=hK
 have hn:=hO.b5
 unfold mL at hn
 rw[ajO (show ¬ t.kind=0 by omega),decide_eq_true hk] at hn
 simp only[cond_true,aiQ,akb,not_and,Decidable.not_not] at hn
 rw[dY,ax]
 refine bb (fn:=jf) rfl rfl rfl ?_
 unfold jf
 by_cases h0:t.n=0
 ·have e:jF t.kind t.n t.name t.field (.mk t.wn t.wk) t.names (t.kids.map fun t=>(aj t,dm t))=[[102,97,108,115,101]]:=by
   rw[hk,h0];rfl
  rw[e]
  simp(disch:=omega)only[aW,aa,simprocAttr,hk,h0,strs,aiU,aiX]
  first|done|rfl
 ·have h1:=hn h0
  have e:jF t.kind t.n t.name t.field (.mk t.wn t.wk) t.names (t.kids.map fun t=>(aj t,dm t))=[[116,114,117,101]]:=by
   rw[hk,h1];rfl
  rw[e]
  simp(disch:=omega)only[aW,aa,simprocAttr,hk,h1,strs,aiU,aiX]
  first|done|rfl
theorem tk5(hk:t.kind=5):aA A 33 [.agg (gk t)] H=some (.slice (strs (aj t)) true,none):=by
 have _:=hF
 have hc:=fi hO (c1:=3) (c2:=0) (by rw[hk];rfl)
 have hl:=hc.2.1 (by omega)
 obtain⟨x,y,z,kC⟩:=XT (show t.kids.length=3 by omega)
 have hx:=hK x (by rw[kC];simp)
 have hy:=hK y (by rw[kC];simp)
 have hz:=hK z (by rw[kC];simp)
 have dx:=hx.d H
 have dy:=hy.d H
 have dz:=hz.d H
 have lx:=hx.len
 have ly:=hy.len
 have lz:=hz.len
 have kt:aK t.kids=[[.int .i64 x.kind,.int .i64 x.n,.str x.name,.str x.field,.str x.wn,.slice (aO x.wk) false,.slice (aK x.kids) false,.slice (strs x.names) false],
   [.int .i64 y.kind,.int .i64 y.n,.str y.name,.str y.field,.str y.wn,.slice (aO y.wk) false,.slice (aK y.kids) false,.slice (strs y.names) false],
   [.int .i64 z.kind,.int .i64 z.n,.str z.name,.str z.field,.str z.wn,.slice (aO z.wk) false,.slice (aK z.kids) false,.slice (strs z.names) false]]:=by
  rw[kC,aK,aK,aK,aK,ax,ax,ax]
 rw[ax] at dx dy dz
 have a1:aq false 1 16 (.slice [[.str [105,102]]] true) (.slice (strs (aj x)) true)=some (.slice (strs ([[105,102]]++aj x)) true):=bR (l:=[[105,102]]) (by simp;omega)
 have a2:aq false 1 16 (.slice (strs ([[105,102]]++aj x)) true) (.slice [[.str [116,104,101,110]]] true)=some (.slice (strs ([[105,102]]++aj x++[[116,104,101,110]])) true):=dF (by simp;omega)
 have a3:aq false 1 16 (.slice (strs ([[105,102]]++aj x++[[116,104,101,110]])) true) (.slice (strs (aj y)) true)=some (.slice (strs ([[105,102]]++aj x++[[116,104,101,110]]++aj y)) true):=bR (by simp;omega)
 have a4:aq false 1 16 (.slice (strs ([[105,102]]++aj x++[[116,104,101,110]]++aj y)) true) (.slice [[.str [101,108,115,101]]] true)=some (.slice (strs ([[105,102]]++aj x++[[116,104,101,110]]++aj y++[[101,108,115,101]])) true):=dF (by simp;omega)
 have a5:aq false 1 16 (.slice (strs ([[105,102]]++aj x++[[116,104,101,110]]++aj y++[[101,108,115,101]])) true) (.slice (strs (aj z)) true)=some (.slice (strs ([[105,102]]++aj x++[[116,104,101,110]]++aj y++[[101,108,115,101]]++aj z)) true):=bR (by simp;omega)
 have e:aj t=[[105,102]]++aj x++[[116,104,101,110]]++aj y++[[101,108,115,101]]++aj z:=by
  rw[dY,hk,kC];rfl
 rw[e,ax]
 generalize [[105,102]]++aj x++[[116,104,101,110]]++aj y++[[101,108,115,101]]++aj z=l5 at a5 ⊢
 generalize [[105,102]]++aj x++[[116,104,101,110]]++aj y++[[101,108,115,101]]=l4 at a4 a5
 generalize [[105,102]]++aj x++[[116,104,101,110]]++aj y=l3 at a3 a4
 generalize [[105,102]]++aj x++[[116,104,101,110]]=l2 at a2 a3
 generalize [[105,102]]++aj x=l1 at a1 a2
 refine bb (fn:=jf) rfl rfl rfl ?_
 unfold jf
 rw[kt]
 simp(disch:=omega)only[aW,aa,simprocAttr,hk,dx,dy,dz,a1,a2,a3,a4,a5]
end
end
section
section
variable {t:Tm}{h:Nat}(hF:Hh h t)(hO:w7 t)(hK:∀ u∈t.kids,oq u)(H:ag)
include hF hO hK
theorem tk6(hk:t.kind=6):aA A 33 [.agg (gk t)] H=some (.slice (strs (aj t)) true,none):=by
 have _:=hF
 have hc:=fi hO (c1:=2) (c2:=1) (by rw[hk];rfl)
 have hl:=hc.2.1 (by omega)
 have og:=hc.2.2
 obtain⟨x,y,kC⟩:=Oj (show t.kids.length=2 by omega)
 obtain⟨s,sQ⟩:=SD (show t.names.length=1 by omega)
 have hx:=hK x (by rw[kC];simp)
 have dx:=hx.d H
 have lx:=hx.len
 have hy:=hK y (by rw[kC];simp)
 have dy:=hy.d H
 have ly:=hy.len
 have kt:aK t.kids=[[.int .i64 x.kind,.int .i64 x.n,.str x.name,.str x.field,.str x.wn,.slice (aO x.wk) false,.slice (aK x.kids) false,.slice (strs x.names) false],[.int .i64 y.kind,.int .i64 y.n,.str y.name,.str y.field,.str y.wn,.slice (aO y.wk) false,.slice (aK y.kids) false,.slice (strs y.names) false]]:=by
  rw[kC,aK,aK,aK,ax,ax]
 have nt:strs t.names=[[.str s]]:=by rw[sQ];rfl
 rw[ax] at dx dy
 have a1:aq false 1 16 (.slice [[.str [108,101,116]],[.str s],[.str [61]]] true) (.slice (strs (aj x)) true)=some (.slice (strs ([[108,101,116],s,[61]]++aj x)) true):=bR (l:=[[108,101,116],s,[61]]) (by simp;omega)
 have a2:aq false 1 16 (.slice (strs ([[108,101,116],s,[61]]++aj x)) true) (.slice [[.str [105,110]]] true)=some (.slice (strs ([[108,101,116],s,[61]]++aj x++[[105,110]])) true):=dF (by simp;omega)
 have a3:aq false 1 16 (.slice (strs ([[108,101,116],s,[61]]++aj x++[[105,110]])) true) (.slice (strs (aj y)) true)=some (.slice (strs ([[108,101,116],s,[61]]++aj x++[[105,110]]++aj y)) true):=bR (by simp;omega)
 have e:aj t=[[108,101,116],s,[61]]++aj x++[[105,110]]++aj y:=by
  rw[dY,hk,kC,sQ];rfl
 rw[e,ax]
 generalize [[108,101,116],s,[61]]++aj x++[[105,110]]++aj y=q3 at a3 ⊢
 generalize [[108,101,116],s,[61]]++aj x++[[105,110]]=q2 at a2 a3
 generalize [[108,101,116],s,[61]]++aj x=q1 at a1 a2
 refine bb (fn:=jf) rfl rfl rfl ?_
 unfold jf
 rw[kt,nt]
 simp(disch:=omega)only[aW,aa,simprocAttr,hk,dx,dy,a1,a2,a3]
theorem ae8(hk:t.kind=12):aA A 33 [.agg (gk t)] H=some (.slice (strs (aj t)) true,none):=by
 have _:=hF
 have hc:=fi hO (c1:=3) (c2:=2) (by rw[hk];rfl)
 have hl:=hc.2.1 (by omega)
 have og:=hc.2.2
 obtain⟨x,y,z,kC⟩:=XT (show t.kids.length=3 by omega)
 obtain⟨s,u,sQ⟩:=Oj (show t.names.length=2 by omega)
 have hx:=hK x (by rw[kC];simp)
 have dx:=hx.d H
 have lx:=hx.len
 have hy:=hK y (by rw[kC];simp)
 have dy:=hy.d H
 have ly:=hy.len
 have hz:=hK z (by rw[kC];simp)
 have dz:=hz.d H
 have lz:=hz.len
 have kt:aK t.kids=[[.int .i64 x.kind,.int .i64 x.n,.str x.name,.str x.field,.str x.wn,.slice (aO x.wk) false,.slice (aK x.kids) false,.slice (strs x.names) false],[.int .i64 y.kind,.int .i64 y.n,.str y.name,.str y.field,.str y.wn,.slice (aO y.wk) false,.slice (aK y.kids) false,.slice (strs y.names) false],[.int .i64 z.kind,.int .i64 z.n,.str z.name,.str z.field,.str z.wn,.slice (aO z.wk) false,.slice (aK z.kids) false,.slice (strs z.names) false]]:=by
  rw[kC,aK,aK,aK,aK,ax,ax,ax]
 have nt:strs t.names=[[.str s],[.str u]]:=by rw[sQ];rfl
 rw[ax] at dx dy dz
 have a1:aq false 1 16 (.slice [[.str [102,111,108,100]],[.str s],[.str [44]],[.str u],[.str [61]]] true) (.slice (strs (aj y)) true)=some (.slice (strs ([[102,111,108,100],s,[44],u,[61]]++aj y)) true):=bR (l:=[[102,111,108,100],s,[44],u,[61]]) (by simp;omega)
 have a2:aq false 1 16 (.slice (strs ([[102,111,108,100],s,[44],u,[61]]++aj y)) true) (.slice [[.str [111,118,101,114]]] true)=some (.slice (strs ([[102,111,108,100],s,[44],u,[61]]++aj y++[[111,118,101,114]])) true):=dF (by simp;omega)
 have a3:aq false 1 16 (.slice (strs ([[102,111,108,100],s,[44],u,[61]]++aj y++[[111,118,101,114]])) true) (.slice (strs (aj x)) true)=some (.slice (strs ([[102,111,108,100],s,[44],u,[61]]++aj y++[[111,118,101,114]]++aj x)) true):=bR (by simp;omega)
 have a4:aq false 1 16 (.slice (strs ([[102,111,108,100],s,[44],u,[61]]++aj y++[[111,118,101,114]]++aj x)) true) (.slice [[.str [100,111]]] true)=some (.slice (strs ([[102,111,108,100],s,[44],u,[61]]++aj y++[[111,118,101,114]]++aj x++[[100,111]])) true):=dF (by simp;omega)
 have a5:aq false 1 16 (.slice (strs ([[102,111,108,100],s,[44],u,[61]]++aj y++[[111,118,101,114]]++aj x++[[100,111]])) true) (.slice (strs (aj z)) true)=some (.slice (strs ([[102,111,108,100],s,[44],u,[61]]++aj y++[[111,118,101,114]]++aj x++[[100,111]]++aj z)) true):=bR (by simp;omega)
 have e:aj t=[[102,111,108,100],s,[44],u,[61]]++aj y++[[111,118,101,114]]++aj x++[[100,111]]++aj z:=by
  rw[dY,hk,kC,sQ];rfl
 rw[e,ax]
 generalize [[102,111,108,100],s,[44],u,[61]]++aj y++[[111,118,101,114]]++aj x++[[100,111]]++aj z=q5 at a5 ⊢
 generalize [[102,111,108,100],s,[44],u,[61]]++aj y++[[111,118,101,114]]++aj x++[[100,111]]=q4 at a4 a5
 generalize [[102,111,108,100],s,[44],u,[61]]++aj y++[[111,118,101,114]]++aj x=q3 at a3 a4
 generalize [[102,111,108,100],s,[44],u,[61]]++aj y++[[111,118,101,114]]=q2 at a2 a3
 generalize [[102,111,108,100],s,[44],u,[61]]++aj y=q1 at a1 a2
 refine bb (fn:=jf) rfl rfl rfl ?_
 unfold jf
 rw[kt,nt]
 simp(disch:=omega)only[aW,aa,simprocAttr,hk,dx,dy,dz,a1,a2,a3,a4,a5]
end
end
section
section
variable {t:Tm}{h:Nat}(hF:Hh h t)(hO:w7 t)(hK:∀ u∈t.kids,oq u)(H:ag)
include hF hO hK
theorem tk8(hk:t.kind=8):aA A 33 [.agg (gk t)] H=some (.slice (strs (aj t)) true,none):=by
 have hc:=fi hO (c1:=1) (c2:=0) (by rw[hk];rfl)
 have hl:=hc.2.1 (by omega)
 obtain⟨x,kC⟩:=SD (show t.kids.length=1 by omega)
 have hx:=hK x (by rw[kC];simp)
 have dx:=hx.d H
 have lx:=hx.len
 have kt:aK t.kids=[[.int .i64 x.kind,.int .i64 x.n,.str x.name,.str x.field,.str x.wn,.slice (aO x.wk) false,.slice (aK x.kids) false,.slice (strs x.names) false]]:=by
  rw[kC,aK,aK,ax]
 rw[ax] at dx
 have hq:=pB t.name H (by have:=hF.a;omega)
 have hql:=iN t.name
 have a1:aq false 1 16 (.slice (strs (cu t.name)) true) (.slice [[.str [58]],[.str t.field]] true)=some (.slice (strs (cu t.name++[[58],t.field])) true):=D4 (by omega)
 have hb:=jm (cu t.name++[[58],t.field]) (aj x) [91] [93] H (by simp;omega) (by omega) true true
 have e:aj t=cu t.name++[[58],t.field]++[[91]]++aj x++[[93]]:=by
  rw[dY,hk,kC];rfl
 rw[e,ax]
 generalize cu t.name++[[58],t.field]++[[91]]++aj x++[[93]]=q2 at hb ⊢
 generalize cu t.name++[[58],t.field]=q1 at a1 hb
 refine bb (fn:=jf) rfl rfl rfl ?_
 unfold jf
 rw[kt]
 simp(disch:=omega)only[aW,aa,simprocAttr,hk,dx,hq,a1,hb]
theorem tk9(hk:t.kind=9):aA A 33 [.agg (gk t)] H=some (.slice (strs (aj t)) true,none):=by
 have hc:=fi hO (c1:=1) (c2:=0) (by rw[hk];rfl)
 have hl:=hc.2.1 (by omega)
 obtain⟨x,kC⟩:=SD (show t.kids.length=1 by omega)
 have hx:=hK x (by rw[kC];simp)
 have dx:=hx.d H
 have lx:=hx.len
 have kt:aK t.kids=[[.int .i64 x.kind,.int .i64 x.n,.str x.name,.str x.field,.str x.wn,.slice (aO x.wk) false,.slice (aK x.kids) false,.slice (strs x.names) false]]:=by
  rw[kC,aK,aK,ax]
 rw[ax] at dx
 have hq:=pB t.name H (by have:=hF.a;omega)
 have hql:=iN t.name
 have a1:aq false 1 16 (.slice (strs (cu t.name)) true) (.slice [[.str [58]],[.str t.field]] true)=some (.slice (strs (cu t.name++[[58],t.field])) true):=D4 (by omega)
 have hb:=jm (cu t.name++[[58],t.field]) (aj x) [40] [41] H (by simp;omega) (by omega) true true
 have e:aj t=cu t.name++[[58],t.field]++[[40]]++aj x++[[41]]:=by
  rw[dY,hk,kC];rfl
 rw[e,ax]
 generalize cu t.name++[[58],t.field]++[[40]]++aj x++[[41]]=q2 at hb ⊢
 generalize cu t.name++[[58],t.field]=q1 at a1 hb
 refine bb (fn:=jf) rfl rfl rfl ?_
 unfold jf
 rw[kt]
 simp(disch:=omega)only[aW,aa,simprocAttr,hk,dx,hq,a1,hb]
theorem ae7(hk:t.kind=11):aA A 33 [.agg (gk t)] H=some (.slice (strs (aj t)) true,none):=by
 have hp:bE (.mk t.wn t.wk)=true:=by
  have h4:=hO.b4
  unfold ny at h4
  rw[decide_eq_true hk] at h4
  simpa using h4
 have hw:=A1 3 (.mk t.wn t.wk) H (by omega) hF.w hp
 rw[jO] at hw
 have hwl:=iO 3 (.mk t.wn t.wk) hF.w
 have hl:=CW (l:=t.kids) (by have:=hF.kl;omega) hK H
 have HH:(aH (t.kids.map aj)).length<=3*100001:=by
  have h1:=fS (t.kids.map aj) 100000 (fun x hx=>by obtain⟨u,hu,rfl⟩:=ai5.1 hx;exact (hK u hu).len)
  rw[ai9] at h1
  exact ajt h1 (aiZ _ hF.kl)
 have b1:=jm [gH] (dn (.mk t.wn t.wk)) [40] [41] H (by simp) (by omega) true true
 have b2:=jm ([gH]++[[40]]++dn (.mk t.wn t.wk)++[[41]]) (aH (t.kids.map aj)) [91] [93] H (by simp;omega) (by omega) true true
 have e:aj t=[gH]++[[40]]++dn (.mk t.wn t.wk)++[[41]]++[[91]]++aH (t.kids.map aj)++[[93]]:=by
  rw[dY,hk]
  show [gH]++[[40]]++dn (.mk t.wn t.wk)++[[41]]++[[91]]++aH ((t.kids.map fun t=>(aj t,dm t)).map (·.1))++[[93]]=_
  rw[ake]
  rfl
 rw[e,ax]
 generalize [gH]++[[40]]++dn (.mk t.wn t.wk)++[[41]]++[[91]]++aH (t.kids.map aj)++[[93]]=q2 at b2 ⊢
 generalize [gH]++[[40]]++dn (.mk t.wn t.wk)++[[41]]=q1 at b1 b2
 rw[show strs [gH]=[[.str [76,105,115,116]]] from rfl] at b1
 refine bb (fn:=jf) rfl rfl rfl ?_
 unfold jf
 simp(disch:=omega)only[aW,aa,simprocAttr,hk,hw,hl,b1,b2]
end
end
section
theorem rI{p:List aV × Int}{k:Int} : (pI p k).length<=p.1.length+2:=by
 unfold pI
 split
 ·simp
 ·omega
section
variable {t:Tm}{h:Nat}(hF:Hh h t)(hO:w7 t)(hK:∀ u∈t.kids,oq u)(H:ag)
include hF hO hK
theorem tk4(hk:t.kind=4):aA A 33 [.agg (gk t)] H=some (.slice (strs (aj t)) true,none):=by
 have _:=hF
 have hs:=AN t.n H
 by_cases s0:(fm t.n).1=[]
 ·exact absurd rfl (fi hO (c1:=-2) (c2:=0) (by rw[hk];simp[bP,s0])).1
 by_cases s7:(fm t.n).2=7
 ·have hc:=fi hO (c1:=1) (c2:=0) (by rw[hk];simp[bP,s0,s7])
  have hl:=hc.2.1 (by omega)
  obtain⟨x,kC⟩:=SD (show t.kids.length=1 by omega)
  have hx:=hK x (by rw[kC];simp)
  have dx:=Oc hx 7 H
  have lx:=hx.len
  have kl:=rI (p:=(aj x,dm x)) (k:=7)
  simp only at kl
  have kt:aK t.kids=[[.int .i64 x.kind,.int .i64 x.n,.str x.name,.str x.field,.str x.wn,.slice (aO x.wk) false,.slice (aK x.kids) false,.slice (strs x.names) false]]:=by
   rw[kC,aK,aK,ax]
  rw[ax] at dx
  have e:aj t=[(fm t.n).1]++pI (aj x,dm x) 7:=by rw[dY,hk,kC];rfl
  rw[e,ax]
  generalize pI (aj x,dm x) 7=kx at dx kl ⊢
  generalize (fm t.n).1=sg at hs ⊢
  have a1:aq false 1 16 (.slice [[.str sg]] true) (.slice (strs kx) true)=some (.slice (strs ([sg]++kx)) true):=bR (l:=[sg]) (by simp;omega)
  generalize [sg]++kx=q1 at a1 ⊢
  refine bb (fn:=jf) rfl rfl rfl ?_
  unfold jf
  rw[kt]
  simp(disch:=omega)only[aW,aa,simprocAttr,hk,hs,s7,dx,a1]
 ·have hc:=fi hO (c1:=2) (c2:=0) (by rw[hk];simp[bP,s0,s7])
  have hl:=hc.2.1 (by omega)
  obtain⟨x,y,kC⟩:=Oj (show t.kids.length=2 by omega)
  have hx:=hK x (by rw[kC];simp)
  have hy:=hK y (by rw[kC];simp)
  have lx:=hx.len
  have ly:=hy.len
  obtain⟨lv,Ki⟩:∃ lv,lv=(fm t.n).2:=⟨_,rfl⟩
  have hlr:0<=lv/\lv<=7:=by
   rw[Ki]
   unfold fm
   split
   ·exact⟨by decide,by decide⟩
   ·rename_i hn
    rcases Pm (x:=t.n) (by omega) (by omega) with e|e|e|e|e|e|e|e|e|e|e|e<;>rw[e]<;>exact⟨by decide,by decide⟩
  have dx:=fun l=>Oc hx l H
  have dy:=Oc hy (lv+1) H
  have kt:aK t.kids=[[.int .i64 x.kind,.int .i64 x.n,.str x.name,.str x.field,.str x.wn,.slice (aO x.wk) false,.slice (aK x.kids) false,.slice (strs x.names) false],
    [.int .i64 y.kind,.int .i64 y.n,.str y.name,.str y.field,.str y.wn,.slice (aO y.wk) false,.slice (aK y.kids) false,.slice (strs y.names) false]]:=by
   rw[kC,aK,aK,aK,ax,ax]
  rw[ax] at dx dy
  have e:aj t=pI (aj x,dm x) (if lv=3 then 4 else lv)++[(fm t.n).1]++pI (aj y,dm y) (lv+1):=by rw[dY,hk,kC,Ki];rfl
  rw[e,ax]
  rw[<- Ki] at hs s7
  have klx:=rI (p:=(aj x,dm x)) (k:=if lv=3 then 4 else lv)
  have kly:=rI (p:=(aj y,dm y)) (k:=lv+1)
  simp only at klx kly
  have dx:=dx (if lv=3 then 4 else lv)
  generalize pI (aj x,dm x) (if lv=3 then 4 else lv)=kx at dx klx ⊢
  generalize pI (aj y,dm y) (lv+1)=ky at dy kly ⊢
  generalize (fm t.n).1=sg at hs ⊢
  have a1:aq false 1 16 (.slice (strs kx) true) (.slice [[.str sg]] true)=some (.slice (strs (kx++[sg])) true):=dF (by omega)
  have a2:aq false 1 16 (.slice (strs (kx++[sg])) true) (.slice (strs ky) true)=some (.slice (strs (kx++[sg]++ky)) true):=bR (by simp;omega)
  generalize kx++[sg]++ky=q2 at a2 ⊢
  generalize kx++[sg]=q1 at a1 a2
  refine bb (fn:=jf) rfl rfl rfl ?_
  unfold jf
  rw[kt]
  by_cases l3:lv=3
  ·rw[if_pos l3] at dx
   rw[l3] at hs dy
   rw[show (3:Int)+1=4 from rfl] at dy
   simp(disch:=omega)only[aW,aa,simprocAttr,hk,hs,dx,dy,a1,a2]
  ·rw[if_neg l3] at dx
   simp(disch:=omega)only[aW,aa,simprocAttr,hk,hs,dx,dy,a1,a2]
end
end
section
section
variable {t:Tm}{h:Nat}(hF:Hh h t)(hO:w7 t)(hK:∀ u∈t.kids,oq u)(H:ag)
include hF hO hK
theorem tk7(hk:t.kind=7):aA A 33 [.agg (gk t)] H=some (.slice (strs (aj t)) true,none):=by
 have hc:=fi hO (c1:=-1) (c2:=t.kids.length) (by rw[hk];rfl)
 have og:=hc.2.2
 have yq:=hF.kl
 have hq:=pB t.name H (by have:=hF.a;omega)
 have hql:=iN t.name
 obtain⟨ws,hws⟩:∃ ws,ws=List.zipWith (fun s (x:List aV × Int)=>[s,[61]]++x.1) t.names (t.kids.map fun t=>(aj t,dm t)):=⟨_,rfl⟩
 have hwl:ws.length=t.kids.length:=by rw[hws,List.length_zipWith,ai9];omega
 have kV:∀ (i:Nat) (s:aV) (u:Tm),t.names[i]?=some s->t.kids[i]?=some u->ws[i]?=some ([s,[61]]++aj u):=by
  intro i s u h1 h2
  rw[hws,List.getElem?_zipWith,aiW,h1,h2]
  rfl
 have hwb:∀ x∈ws,x.length<=100002:=by
  intro x hx
  obtain⟨i,hi⟩:=ai' hx
  have a7:=(aiI.1 hi).1
  have h1:=aiJ (l:=t.names) (i:=i) (by omega)
  have h2:=aiJ (l:=t.kids) (i:=i) (by omega)
  have h3:=kV i _ _ h1 h2
  rw[hi] at h3
  injection h3 with h3
  rw[h3]
  have:=(hK _ (ajA (l:=t.kids) (n:=i) (by omega))).len
  simp only[List.length_append,List.length_cons,aiR];omega
 have Cu:∀ i,(aH (ws.take i)).length<=3*100003:=fun i=>by
  have h1:=fS (ws.take i) 100002 (fun x hx=>hwb x (ajR hx))
  have h2:(ws.take i).length<=3:=by rw[List.length_take];omega
  exact ajt h1 (aiZ _ h2)
 have hb:=jm (cu t.name) (aH ws) [123] [125] H (by omega) (by have:=Cu ws.length;rw[ajU] at this;omega) true true
 have e:aj t=cu t.name++[[123]]++aH ws++[[125]]:=by rw[dY,hk,hws];rfl
 rw[e,ax]
 generalize cu t.name++[[123]]++aH ws++[[125]]=out at hb ⊢
 refine bb (fn:=jf) rfl rfl rfl ?_
 unfold jf
 simp(disch:=omega)only[aW,aa,simprocAttr,hk]
 refine bY t.kids.length 1 (fun i s=>∃ T,s=⟨T,H,H.length,1⟩/\T 1=.lbox 0 [.int .i64 7,.int .i64 t.n,.str t.name,.str t.field,.str t.wn,.slice (aO t.wk) false,.slice (aK t.kids) false,.slice (strs t.names) false]/\T 8=.slice (strs (aH (ws.take i))) true/\T 9=.int .i64 i)
  (fun s=>∃ T,s=⟨T,H,H.length,1⟩/\T 1=.lbox 0 [.int .i64 7,.int .i64 t.n,.str t.name,.str t.field,.str t.wn,.slice (aO t.wk) false,.slice (aK t.kids) false,.slice (strs t.names) false]/\T 8=.slice (strs (aH ws)) true) (fun _=>False) ?_ ?_ (fun _ h=>h.elim) 0 _ (ajy _) ?_
 ·rintro i st hi ⟨T,rfl,e1,e8,e9⟩
  by_cases a7:i<t.kids.length
  ·obtain⟨u,hu⟩:∃ u,t.kids[i]?=some u:=⟨_,aiJ a7⟩
   obtain⟨s,hs⟩:∃ s,t.names[i]?=some s:=⟨_,aiJ (by omega)⟩
   have hw:=kV i s u hs hu
   have hm:=hK u (aiT hu)
   have du:=hm.d H
   have lu:=hm.len
   have UC:=DG hu
   have atn:=bk hs
   rw[ax] at du UC
   have Gb:ws.take (i+1)=ws.take i++[[s,[61]]++aj u]:=by rw[akl,hw];rfl
   have yz:=kD ([s,[61]]++aj u) (ws.take i)
   rw[<- Gb] at yz
   have Cn:=Cu i
   by_cases h0:i=0
   ·subst h0
    simp only[ajJ,ajY] at yz e8
    have a1:aq false 1 16 (.slice (strs (aH [])) true) (.slice [[.str s],[.str [61]]] true)=some (.slice (strs [s,[61]]) true):=bR (l:=[]) (m:=[s,[61]]) (by simp)
    have a2:aq false 1 16 (.slice (strs [s,[61]]) true) (.slice (strs (aj u)) true)=some (.slice (strs ([s,[61]]++aj u)) true):=bR (by simp;omega)
    generalize [s,[61]]++aj u=q2 at a2 yz
    generalize [s,[61]]=q1 at a1 a2
    simp(disch:=omega)only[aW,aa,simprocAttr,e1,e8,e9,b8,UC,atn,du,a1,a2]
    exact⟨a7,_,rfl,by simp(disch:=omega)only[aM,aa,simprocAttr,e1],by rw[yz];simp(disch:=omega)only[aM,aa,simprocAttr],by simp(disch:=omega)only[aM,aa,simprocAttr]⟩
   ·have cU:¬ (ws.take i=[]):=fun e=>by
     have:=ak2 List.length e
     rw[List.length_take,aiR] at this
     omega
    rw[if_neg cU,<- akc] at yz
    generalize aH (ws.take i)=acc at e8 Cn yz
    have a0:aq false 1 16 (.slice (strs acc) true) (.slice [[.str [44]]] true)=some (.slice (strs (acc++[[44]])) true):=dF (by omega)
    have a1:aq false 1 16 (.slice (strs (acc++[[44]])) true) (.slice [[.str s],[.str [61]]] true)=some (.slice (strs (acc++[[44]]++[s,[61]])) true):=bR (m:=[s,[61]]) (by simp;omega)
    have a2:aq false 1 16 (.slice (strs (acc++[[44]]++[s,[61]])) true) (.slice (strs (aj u)) true)=some (.slice (strs (acc++[[44]]++[s,[61]]++aj u)) true):=bR (by simp;omega)
    generalize acc++[[44]]++[s,[61]]++aj u=q2 at a2 yz
    generalize acc++[[44]]++[s,[61]]=q1 at a1 a2
    generalize acc++[[44]]=q0 at a0 a1
    simp(disch:=omega)only[aW,aa,simprocAttr,e1,e8,e9,b8,UC,atn,du,a0,a1,a2]
    exact⟨a7,_,rfl,by simp(disch:=omega)only[aM,aa,simprocAttr,e1],by rw[yz];simp(disch:=omega)only[aM,aa,simprocAttr],by simp(disch:=omega)only[aM,aa,simprocAttr]⟩
  ·rw[aji (by omega)] at e8
   simp(disch:=omega)only[aW,aa,simprocAttr,e1,e8,e9,b8]
   exact⟨_,rfl,by simp(disch:=omega)only[aM,aa,simprocAttr,e1],by simp(disch:=omega)only[aM,aa,simprocAttr,e8]⟩
 ·rintro st ⟨T,rfl,e1,e8⟩
  simp(disch:=omega)only[aW,aa,simprocAttr,e1,e8,hq,hb]
 ·exact⟨_,rfl,by simp(disch:=omega)only[aM,aa,simprocAttr],by simp(disch:=omega)only[aM,aa,simprocAttr,ajJ,aH,strs,aiX],by simp(disch:=omega)only[aM,aa,simprocAttr]⟩
end
end
section
section
variable {t:Tm}{h:Nat}(hF:Hh h t)(hO:w7 t)(hK:∀ u∈t.kids,oq u)(H:ag)
include hF hO hK
theorem ac7(hk:t.kind=10):∃ (ws:List (List aV)) (x:Tm),t.kids[0]?=some x/\2<=t.kids.length/\ws.length+1=t.kids.length/\t.names.length=2*ws.length /\
  (∀ (j:Nat) (p q:aV) (u:Tm),t.names[2*j]?=some p->t.names[2*j+1]?=some q->t.kids[j+1]?=some u->ws[j]?=some ([p,q,[45,62]]++aj u)) /\
  aj t=[[109,97,116,99,104]]++cu t.name++[[40]]++aj x++[[41]]++[[123]]++aH ws++[[125]]:=by
 have _:=hK
 have yq:=hF.kl
 have h2:¬ t.kids.length<2:=fun a7=>absurd rfl (fi hO (c1:=-2) (c2:=0) (by rw[hk];simp[bP,a7])).1
 have hc:=fi hO (c1:=-1) (c2:=2*((t.kids.length:Int)-1)) (by rw[hk];simp[bP,h2])
 have og:=hc.2.2
 by_cases h3:t.kids.length=2
 ·obtain⟨x,y,kC⟩:=Oj h3
  obtain⟨p,q,sQ⟩:=Oj (show t.names.length=2 by omega)
  refine⟨[[p,q,[45,62]]++aj y],x,by rw[kC];rfl,by omega,by simp;omega,by simp;omega,?_,?_⟩
  ·intro j a b u e1 e2 e3
   rw[sQ] at e1 e2
   rw[kC] at e3
   cases j with
   | zero=>injection e1 with e1;injection e2 with e2;injection e3 with e3;subst e1 e2 e3;rfl
   | succ j=>simp at e3
  ·rw[dY,hk,kC,sQ];rfl
 ·obtain⟨x,y,z,kC⟩:=XT (show t.kids.length=3 by omega)
  obtain⟨p,q,r,s,sQ⟩:∃ p q r s,t.names=[p,q,r,s]:=by
   have h4:t.names.length=4:=by omega
   match hn:t.names,h4 with
   | [p,q,r,s],_=>exact⟨p,q,r,s,rfl⟩
  refine⟨[[p,q,[45,62]]++aj y,[r,s,[45,62]]++aj z],x,by rw[kC];rfl,by omega,by simp;omega,by simp;omega,?_,?_⟩
  ·intro j a b u e1 e2 e3
   rw[sQ] at e1 e2
   rw[kC] at e3
   match j with
   | 0=>injection e1 with e1;injection e2 with e2;injection e3 with e3;subst e1 e2 e3;rfl
   | 1=>injection e1 with e1;injection e2 with e2;injection e3 with e3;subst e1 e2 e3;rfl
   | j+2=>simp at e3
  ·rw[dY,hk,kC,sQ]
   show [[109,97,116,99,104]]++cu t.name++[[40]]++aj x++[[41]]++[[123]]++([p,q,[45,62]]++aj y++[[44]]++[r,s,[45,62]]++aj z)++[[125]]=_
   simp[aH]
theorem ae6(hk:t.kind=10):aA A 33 [.agg (gk t)] H=some (.slice (strs (aj t)) true,none):=by
 obtain⟨ws,x,vL,h2,hwl,og,kV,e⟩:=ac7 hF hO hK hk
 have yq:=hF.kl
 have hq:=pB t.name H (by have:=hF.a;omega)
 have hql:=iN t.name
 have hxK:=hK x (aiT vL)
 have dx:=hxK.d H
 have lx:=hxK.len
 have atx:=DG vL
 rw[ax] at dx atx
 have abe:∀ i,i<ws.length->∃ p q u,t.names[2*i]?=some p/\t.names[2*i+1]?=some q/\t.kids[i+1]?=some u/\ws[i]?=some ([p,q,[45,62]]++aj u):=by
  intro i hi
  have h1:=aiJ (l:=t.names) (i:=2*i) (by omega)
  have h3:=aiJ (l:=t.names) (i:=2*i+1) (by omega)
  have h4:=aiJ (l:=t.kids) (i:=i+1) (by omega)
  exact⟨_,_,_,h1,h3,h4,kV i _ _ _ h1 h3 h4⟩
 have hwb:∀ x∈ws,x.length<=100003:=by
  intro y hy
  obtain⟨i,hi⟩:=ai' hy
  obtain⟨p,q,u,_,_,h4,h5⟩:=abe i (aiI.1 hi).1
  rw[hi] at h5
  injection h5 with h5
  rw[h5]
  have:=(hK u (aiT h4)).len
  simp only[List.length_append,List.length_cons,aiR];omega
 have Cu:∀ i,(aH (ws.take i)).length<=3*100004:=fun i=>by
  have h1:=fS (ws.take i) 100003 (fun x hx=>hwb x (ajR hx))
  have h2:(ws.take i).length<=3:=by rw[List.length_take];omega
  exact ajt h1 (aiZ _ h2)
 have hlw:(aH ws).length<=3*100004:=by have:=Cu ws.length;rwa [ajU] at this
 have a1:aq false 1 16 (.slice [[.str [109,97,116,99,104]]] true) (.slice (strs (cu t.name)) true)=some (.slice (strs ([[109,97,116,99,104]]++cu t.name)) true):=bR (l:=[[109,97,116,99,104]]) (by simp;omega)
 have b1:=jm ([[109,97,116,99,104]]++cu t.name) (aj x) [40] [41] H (by simp;omega) (by omega) true true
 have b2:=jm ([[109,97,116,99,104]]++cu t.name++[[40]]++aj x++[[41]]) (aH ws) [123] [125] H (by simp;omega) (by omega) true true
 rw[e,ax]
 generalize [[109,97,116,99,104]]++cu t.name++[[40]]++aj x++[[41]]++[[123]]++aH ws++[[125]]=out at b2 ⊢
 generalize [[109,97,116,99,104]]++cu t.name++[[40]]++aj x++[[41]]=o1 at b1 b2
 generalize [[109,97,116,99,104]]++cu t.name=o0 at a1 b1
 refine bb (fn:=jf) rfl rfl rfl ?_
 unfold jf
 simp(disch:=omega)only[aW,aa,simprocAttr,hk]
 refine bY ws.length 3 (fun i s=>∃ T,s=⟨T,H,H.length,1⟩/\T 1=.lbox 0 [.int .i64 10,.int .i64 t.n,.str t.name,.str t.field,.str t.wn,.slice (aO t.wk) false,.slice (aK t.kids) false,.slice (strs t.names) false]/\T 10=.slice (strs (aH (ws.take i))) true/\T 11=.int .i64 ((i+1:Nat):Int))
  (fun s=>∃ T,s=⟨T,H,H.length,1⟩/\T 1=.lbox 0 [.int .i64 10,.int .i64 t.n,.str t.name,.str t.field,.str t.wn,.slice (aO t.wk) false,.slice (aK t.kids) false,.slice (strs t.names) false]/\T 10=.slice (strs (aH ws)) true) (fun _=>False) ?_ ?_ (fun _ h=>h.elim) 0 _ (ajy _) ?_
 ·rintro i st hi ⟨T,rfl,e1,e8,e9⟩
  by_cases a7:i<ws.length
  ·obtain⟨p,q,u,n1,n2,k1,hw⟩:=abe i a7
   have hm:=hK u (aiT k1)
   have du:=hm.d H
   have lu:=hm.len
   have UC:=DG k1
   have Vx:=bk n1
   have Vy:=bk n2
   rw[ax] at du UC
   have x1:(2:Int)*((i+1:Nat):Int)-2=((2*i:Nat):Int):=by omega
   have x2:(2:Int)*((i+1:Nat):Int)-1=((2*i+1:Nat):Int):=by omega
   have x3:((i+1:Nat):Int)+1=((i+1+1:Nat):Int):=by omega
   have hi1:1<=i+1:=by omega
   generalize QR:i+1=i1 at e9 x1 x2 x3 k1 UC hi1 ⊢
   generalize ZA:2*i+1=i2 at x2 n2 Vy
   generalize hm3:2*i=i3 at x1 n1 Vx
   have Gb:ws.take (i+1)=ws.take i++[[p,q,[45,62]]++aj u]:=by rw[akl,hw];rfl
   have yz:=kD ([p,q,[45,62]]++aj u) (ws.take i)
   rw[<- Gb] at yz
   have Cn:=Cu i
   rw[QR] at Gb yz
   by_cases h0:i=0
   ·subst h0
    simp only[ajJ,ajY] at yz e8
    have a1:aq false 1 16 (.slice (strs (aH [])) true) (.slice [[.str p],[.str q],[.str [45,62]]] true)=some (.slice (strs [p,q,[45,62]]) true):=bR (l:=[]) (m:=[p,q,[45,62]]) (by simp)
    have a2:aq false 1 16 (.slice (strs [p,q,[45,62]]) true) (.slice (strs (aj u)) true)=some (.slice (strs ([p,q,[45,62]]++aj u)) true):=bR (by simp;omega)
    generalize [p,q,[45,62]]++aj u=q2 at a2 yz
    generalize [p,q,[45,62]]=q1 at a1 a2
    simp(disch:=omega)only[aW,aa,simprocAttr,e1,e8,e9,b8,x1,x2,UC,Vx,Vy,du,a1,a2]
    exact⟨by omega,_,rfl,by simp(disch:=omega)only[aM,aa,simprocAttr,e1],by rw[yz];simp(disch:=omega)only[aM,aa,simprocAttr],by first|(simp(disch:=omega)only[aM,aa,simprocAttr];done)|(simp(disch:=omega)only[aM,aa,simprocAttr];rw[<- x3])|(rw[<- x3];simp(disch:=omega)only[aM,aa,simprocAttr])⟩
   ·have cU:¬ (ws.take i=[]):=fun e=>by
     have:=ak2 List.length e
     rw[List.length_take,aiR] at this
     omega
    rw[if_neg cU,<- akc] at yz
    generalize aH (ws.take i)=acc at e8 Cn yz
    have a0:aq false 1 16 (.slice (strs acc) true) (.slice [[.str [44]]] true)=some (.slice (strs (acc++[[44]])) true):=dF (by omega)
    have a1:aq false 1 16 (.slice (strs (acc++[[44]])) true) (.slice [[.str p],[.str q],[.str [45,62]]] true)=some (.slice (strs (acc++[[44]]++[p,q,[45,62]])) true):=bR (m:=[p,q,[45,62]]) (by simp;omega)
    have a2:aq false 1 16 (.slice (strs (acc++[[44]]++[p,q,[45,62]])) true) (.slice (strs (aj u)) true)=some (.slice (strs (acc++[[44]]++[p,q,[45,62]]++aj u)) true):=bR (by simp;omega)
    generalize acc++[[44]]++[p,q,[45,62]]++aj u=q2 at a2 yz
    generalize acc++[[44]]++[p,q,[45,62]]=q1 at a1 a2
    generalize acc++[[44]]=q0 at a0 a1
    simp(disch:=omega)only[aW,aa,simprocAttr,e1,e8,e9,b8,x1,x2,UC,Vx,Vy,du,a0,a1,a2]
    exact⟨by omega,_,rfl,by simp(disch:=omega)only[aM,aa,simprocAttr,e1],by rw[yz];simp(disch:=omega)only[aM,aa,simprocAttr],by first|(simp(disch:=omega)only[aM,aa,simprocAttr];done)|(simp(disch:=omega)only[aM,aa,simprocAttr];rw[<- x3])|(rw[<- x3];simp(disch:=omega)only[aM,aa,simprocAttr])⟩
  ·rw[aji (by omega)] at e8
   simp(disch:=omega)only[aW,aa,simprocAttr,e1,e8,e9,b8]
   exact⟨_,rfl,by simp(disch:=omega)only[aM,aa,simprocAttr,e1],by simp(disch:=omega)only[aM,aa,simprocAttr,e8]⟩
 ·rintro st ⟨T,rfl,e1,e8⟩
  simp(disch:=omega)only[aW,aa,simprocAttr,e1,e8,hq,a1,atx,dx,b1,b2]
 ·exact⟨_,rfl,by simp(disch:=omega)only[aM,aa,simprocAttr],by simp(disch:=omega)only[aM,aa,simprocAttr,ajJ,aH,strs,aiX],by simp(disch:=omega)only[aM,aa,simprocAttr];first|done|rfl⟩
end
end
theorem Zb{t:Tm}{h:Nat}(hF:Hh h t)(hO:w7 t)(hK:∀ u∈t.kids,oq u)(H:ag):aA A 33 [.agg (gk t)] H=some (.slice (strs (aj t)) true,none):=by
 have hk:=OD hO
 rcases Gn t.kind with e|e|e|e|e|e|e|e|e|e|e|e|e|e
 ·exact tk0 hF hO hK H e
 ·exact tk1 hF hO hK H e
 ·exact tk2 hF hO hK H e
 ·exact tk3 hF hO hK H e
 ·exact tk4 hF hO hK H e
 ·exact tk5 hF hO hK H e
 ·exact tk6 hF hO hK H e
 ·exact tk7 hF hO hK H e
 ·exact tk8 hF hO hK H e
 ·exact tk9 hF hO hK H e
 ·exact ae6 hF hO hK H e
 ·exact ae7 hF hO hK H e
 ·exact ae8 hF hO hK H e
 ·omega
theorem vR{p:List aV × Int}{k:Int}{B:Nat}(h:p.1.length<=B):(pI p k).length<=B+2:=ajt rI (by omega)
theorem Uw{B:Nat}(ns:List aV)(tl:List (List aV × Int))(h:∀ p∈tl,p.1.length<=B):(aH (List.zipWith (fun s (x:List aV × Int)=>[s,[61]]++x.1) ns tl)).length<=tl.length*(B+3):=by
 have h1:=fS (List.zipWith (fun s (x:List aV × Int)=>[s,[61]]++x.1) ns tl) (B+2) (fun y hy=>by
  obtain⟨i,hi⟩:=ai' hy
  rw[List.getElem?_zipWith] at hi
  cases hs:ns[i]? with
  | none=>rw[hs] at hi;cases hi
  | some s =>
   cases hx:tl[i]? with
   | none=>rw[hs,hx] at hi;cases hi
   | some x =>
    rw[hs,hx] at hi
    injection hi with hi
    rw[<- hi]
    have:=h x (aiT hx)
    simp only[List.length_append,List.length_cons,aiR];omega)
 have h2:(List.zipWith (fun s (x:List aV × Int)=>[s,[61]]++x.1) ns tl).length<=tl.length:=by rw[List.length_zipWith];omega
 exact ajt h1 (aiZ _ h2)
theorem QF{B:Nat}(tl:List (List aV × Int))(h:∀ p∈tl,p.1.length<=B):(aH (tl.map (·.1))).length<=tl.length*(B+1):=by
 have h1:=fS (tl.map (·.1)) B (fun y hy=>by obtain⟨x,hx,rfl⟩:=ai5.1 hy;exact h x hx)
 rwa [ai9] at h1
theorem Iu{k n:Int}{a f:aV}{w:Wd}{ns:List aV}{tl:List (List aV × Int)}{B:Nat}(h:∀ p∈tl,p.1.length<=B)(hl:tl.length<=3)(hw:(dn w).length<=12):(jF k n a f w ns tl).length<=3*B+60:=by
 have hq:=iN a
 have h1:=QF tl h
 have h2:=Uw ns tl h
 have m1:tl.length*(B+1)<=3*(B+1):=aiZ _ hl
 have m2:tl.length*(B+3)<=3*(B+3):=aiZ _ hl
 unfold jF
 by_cases h0:k=0
 rw[if_pos h0]
 rotate_left
 rw[if_neg h0]
 by_cases QH:k=1
 rw[if_pos QH]
 rotate_left
 rw[if_neg QH]
 by_cases UL:k=2
 rw[if_pos UL]
 rotate_left
 rw[if_neg UL]
 by_cases h3:k=3
 rw[if_pos h3]
 rotate_left
 rw[if_neg h3]
 by_cases h4:k=4
 rw[if_pos h4]
 rotate_left
 rw[if_neg h4]
 by_cases h5:k=5
 rw[if_pos h5]
 rotate_left
 rw[if_neg h5]
 by_cases h6:k=6
 rw[if_pos h6]
 rotate_left
 rw[if_neg h6]
 by_cases h7:k=7
 rw[if_pos h7]
 rotate_left
 rw[if_neg h7]
 by_cases h8:k=8
 rw[if_pos h8]
 rotate_left
 rw[if_neg h8]
 by_cases h9:k=9
 rw[if_pos h9]
 rotate_left
 rw[if_neg h9]
 by_cases h10:k=10
 rw[if_pos h10]
 rotate_left
 rw[if_neg h10]
 by_cases Zs:k=11
 rw[if_pos Zs]
 rotate_left
 rw[if_neg Zs]
 by_cases UK:k=12
 rw[if_pos UK]
 rotate_left
 rw[if_neg UK]
 simp
 all_goals first|(split<;>first
   | (simp only[List.length_append,List.length_cons,aiR];omega)
   | (rename_i x;have hx:=h x (by simp);have hk7:=vR (k:=7) hx;simp only[List.length_append,List.length_cons,aiR];omega)
   | (rename_i x y;have hx:=h x (by simp);have hy:=h y (by simp);have hky:=vR (k:=(fm n).2+1) hy;have PO:=vR (k:=if (fm n).2=3 then 4 else (fm n).2) hx;simp only[List.length_append,List.length_cons,aiR];omega)
   | (rename_i x y z;have hx:=h x (by simp);have hy:=h y (by simp);have hz:=h z (by simp);simp only[List.length_append,List.length_cons,aiR];omega)
   | (rename_i x y z a;have hx:=h x (by simp);have hy:=h y (by simp);simp only[List.length_append,List.length_cons,aiR];omega)
   | (rename_i x y p q;have hx:=h x (by simp);have hy:=h y (by simp);simp only[List.length_append,List.length_cons,aiR];omega)
   | (rename_i x y z p q;have hx:=h x (by simp);have hy:=h y (by simp);have hz:=h z (by simp);simp only[List.length_append,List.length_cons,aiR];omega)
   | (rename_i x y z p q r u;have hx:=h x (by simp);have hy:=h y (by simp);have hz:=h z (by simp);simp only[List.length_append,List.length_cons,aiR];omega)
   | (rename_i x y s;have hx:=h x (by simp);have hy:=h y (by simp);simp only[List.length_append,List.length_cons,aiR];omega))|(simp only[List.length_append,List.length_cons,aiR];omega)
def bT:Nat->Nat
 | 0=>0
 | h+1=>3*bT h+60
theorem o6:∀ (h:Nat) (t:Tm),Ks h t->(aj t).length<=bT h
 | 0,t,hb=>by cases hb
 | h+1,t,hb=>by
  have hF:=hb.out
  rw[dY]
  refine Iu (B:=bT h) (fun p hp=>?_) (by rw[ai9];exact hF.kl) (iO 3 _ hF.w)
  obtain⟨u,hu,rfl⟩:=ai5.1 hp
  exact o6 h u (hF.kb u hu)
theorem KK{h:Nat}(hh:h<=6):bT h<=100000:=by
 have:h=0\/h=1\/h=2\/h=3\/h=4\/h=5\/h=6:=by omega
 rcases this with rfl|rfl|rfl|rfl|rfl|rfl|rfl<;>decide
theorem DF:∀ (h:Nat) (t:Tm),h<=6->Ks h t->bD t=true->oq t
 | 0,t,_,hb,_=>by cases hb
 | h+1,t,hh,hb,hp=>by
  have hF:=hb.out
  have hO:=HW hp
  have hK:∀ u∈t.kids,oq u:=fun u hu=>DF h u (by omega) (hF.kb u hu) (hO.kids u hu)
  exact⟨fun H=>Zb hF hO hK H,ajt (o6 _ t hb) (KK hh)⟩
theorem YZ(a b:List aV)(H:ag)(o o' : Bool)(ha:a.length<=1000000):aA A 26 [.slice (strs a) false,.slice (strs b) false] H=some (.bool (a==b),none):=by
 refine bb (fn:=NG) rfl rfl rfl ?_
 unfold NG
 simp(disch:=omega)only[fV,aa,simprocAttr,aE]
 refine ku ?_ ?_<;>intro hlen
 ·have cU:a≠b:=fun e=>by subst e;simp at hlen
  simp(disch:=omega)only[fV,aa,simprocAttr,show (a==b)=false by simpa using cU]
 have yt:a.length=b.length:=by
  have:(a.length:Int)=b.length:=by simpa using hlen
  omega
 simp(disch:=omega)only[fV,aa,simprocAttr]
 refine zf a.length (fun i=>Hd (fun T=>T 0=.slice (strs a) false/\T 1=.slice (strs b) false/\T 5=.int .i64 i/\(a==b)=(a.drop i==b.drop i)) H H.length 0) ?_ 0 _ (ajy _) ?_
 ·rintro i s hi hs
  obtain⟨T,rfl,h0,h1,h5,hc⟩:=hs.out
  simp(disch:=omega)only[fV,aa,simprocAttr,h0,h5,aE]
  refine gK ?_ ?_<;>intro h
  ·have jW:i<a.length:=by omega
   have uH:i<b.length:=by omega
   simp(disch:=omega)only[fV,aa,simprocAttr,h0,h1,h5,bk (aiJ jW),bk (aiJ uH)]
   refine ku ?_ ?_<;>intro hb
   ·simp(disch:=omega)only[fV,aa,simprocAttr,hc,ajc jW,ajc uH,ale,show (a[i]==b[i])=false by simpa using hb]
   ·simp(disch:=omega)only[fV,aa,simprocAttr,h0,h1,h5]
    exact⟨jW,by rw[hc,ajc jW,ajc uH,ale,show (a[i]==b[i])=true by simpa using hb,ajo]⟩
  ·have:i=a.length:=by omega
   subst this
   simp(disch:=omega)only[fV,aa,simprocAttr,hc,akr,show b.drop a.length=[] by rw[yt,akr]]
 ·simp(disch:=omega)only[fV,aa,simprocAttr,ajW,ajl]
def kM(a b:aV):Bool:=b==[41] || b==[93] || b==[44] || b==[46] || a==[40] || a==[91] || a==[46]
theorem Ul(a b:aV)(H:ag):aA A 65 [.str a,.str b] H=some (.bool (kM a b),none):=by
 refine bb (fn:=NX) rfl rfl rfl ?_
 unfold NX kM
 cases h1:(b==[41]) with
 | true=>simp(disch:=omega)only[fV,aa,simprocAttr,h1]
 | false =>
 cases h2:(b==[93]) with
 | true=>simp(disch:=omega)only[fV,aa,simprocAttr,h1,h2]
 | false =>
 cases h3:(b==[44]) with
 | true=>simp(disch:=omega)only[fV,aa,simprocAttr,h1,h2,h3]
 | false =>
 cases h4:(b==[46]) with
 | true=>simp(disch:=omega)only[fV,aa,simprocAttr,h1,h2,h3,h4]
 | false =>
 cases h5:(a==[40]) with
 | true=>simp(disch:=omega)only[fV,aa,simprocAttr,h1,h2,h3,h4,h5]
 | false =>
 cases h6:(a==[91]) with
 | true=>simp(disch:=omega)only[fV,aa,simprocAttr,h1,h2,h3,h4,h5,h6]
 | false=>simp(disch:=omega)only[fV,aa,simprocAttr,h1,h2,h3,h4,h5,h6]
def cS(l:List aV)(i:Nat):aV:=if 1<=i/\i<l.length/\kM (l.getD (i-1) []) (l.getD i [])=false then [32] else []
def dh(l:List aV):List aV:=(List.range (l.length+1)).map (cS l)
def part(l:List aV)(i:Nat):List AV:=(List.range (l.length+1)).map fun j=>AV.str (if j<i then cS l j else [])
theorem Dc(l:List aV)(i:Nat):(part l i).length=l.length+1:=by simp[part]
theorem OF(l:List aV)(i:Nat)(h:l.length<=i):part l i=(dh l).map .str:=by
 simp only[part,dh,ake]
 refine ai6 fun j hj=>?_
 simp only[List.mem_range] at hj
 simp only[Function.comp]
 by_cases mV:j<i
 ·rw[if_pos mV]
 ·rw[if_neg mV]
  have:j=l.length:=by omega
  simp[cS,this]
theorem yO(l:List aV):(List.replicate (l.length+1) [AV.str []]).flatten=part l 1:=by
 refine akd fun j=>?_
 have e:(List.replicate (l.length+1) [AV.str []]).flatten=List.replicate (l.length+1) (AV.str []):=by
  generalize l.length+1=n
  induction n with
  | zero=>rfl
  | succ n ih=>rw[List.replicate_succ,ajx,ih,List.replicate_succ];rfl
 rw[e,ak3]
 simp only[part,aiW]
 by_cases hj:j<l.length+1
 ·rw[if_pos hj,aj3 hj]
  simp only[aiV,aiG,AV.str.injEq]
  split
  ·have:j=0:=by omega
   subst this;simp[cS]
  ·rfl
 ·rw[if_neg hj,ajk (by simpa using akS hj)];rfl
theorem OG(l:List aV)(i:Nat)(h1:1<=i)(h:i<l.length)(ht:kM (l.getD (i-1) []) (l.getD i [])=false):(part l i).take i++([AV.str [32]]++(part l i).drop (i+1))=part l (i+1):=by
 refine akd fun j=>?_
 have hp:(part l i).length=l.length+1:=Dc l i
 rw[aju]
 simp only[List.length_take,hp,show min i (l.length+1)=i by omega]
 split
 ·rename_i hj
  rw[ai0,if_pos hj]
  simp only[part,aiW,aj3 (show j<l.length+1 by omega),aiV]
  rw[if_pos hj,if_pos (by omega)]
 ·rename_i hj
  by_cases mV:j=i
  ·subst mV
   simp only[akJ,part,aiW,aj3 (show j<l.length+1 by omega),aiV]
   rw[if_pos (by omega)]
   rw[cS,if_pos ⟨h1,h,ht⟩];rfl
  ·rw[ai7 (by simp;omega),aje]
   simp only[List.length_cons,aiR]
   rw[show i+1+(j-i-(0+1))=j by omega]
   simp only[part,aiW]
   by_cases hj2:j<l.length+1
   ·rw[aj3 hj2]
    simp only[aiV]
    rw[if_neg (by omega),if_neg (by omega)]
   ·rw[ajk (by simpa using akS hj2)];rfl
theorem JH(l:List aV)(i:Nat)(ht:cS l i=[]):part l i=part l (i+1):=by
 simp only[part]
 refine ai6 fun j hj=>?_
 by_cases mV:j<i
 ·rw[if_pos mV,if_pos (by omega)]
 ·rw[if_neg mV]
  by_cases h2:j=i
  ·subst h2;rw[if_pos (by omega),ht]
  ·rw[if_neg (by omega)]
theorem cX{H:ag}{o:de} : (H++[o])[H.length]?=some o:=by simp
theorem heap_set{H:ag}{o o' : de} : (H++[o]).set H.length o'=H++[o']:=by simp
theorem yn{H:ag}{o:de} : (H++[o]).take H.length=H:=by simp
theorem cb{n:Nat} : Nat.blt n n=false:=by simp[<- akN,ajb]
theorem getD_at{α:Type}{l:List α}{i:Nat}{d:α}(h:i<l.length):l.getD i d=l[i]:=by simp[List.getD,aiJ h]
theorem tH{base t l off n z:Nat}{fn:au}{s:AS}{ty:TypeId}{cs:List AV}(hr:fn.results=[.tmp t])(hm:fn.muts.elem 888888=true)(hT:s.T t=.sref l off n z)(hH:s.H[l]?=some (.box ty cs))(hl:base<=l)(hp:cs.all AV.plain=true)(w5:s.lo=base)(hn:fn.muts.elem 777777=false:=by rfl) :
  finish base fn s=some (.sref base off n z,some ⟨s.H.take base++[.dL cs],s.lo⟩):=by
 have h1:mB base s=true:=by simp[mB,w5]
 have h2:Nat.ble base l=true:=by simpa [ajg] using hl
 have h3:kU base fn s=some (.sref base off n z,some ⟨s.H.take base++[.dL cs],s.lo⟩):=by
  unfold kU rj nC
  rw[h1,hm,hr]
  simp only[cond_true,oG,iE,hT,ar,aiP,hH,h2,hp,ajN]
 unfold finish
 rw[h3,aiV,rO hn]
theorem wQ{l:List aV} : (l.map AV.str).all AV.plain=true:=by simp[AV.plain]
theorem Uo(l:List aV)(H:ag)(hl:l.length<=1000000) :
  aA A 34 [.slice (strs l) false] H=some (.sref H.length 0 (l.length+1) 1,some ⟨H++[.dL ((dh l).map .str)],H.length⟩):=by
 have key:∃ r,aA A 34 [.slice (strs l) false] H=some r/\r=(.sref H.length 0 (l.length+1) 1,some ⟨H++[.dL ((dh l).map .str)],H.length⟩):=by
  refine pa (fn:=NJ) rfl rfl rfl ?_
  unfold NJ
  simp(disch:=omega)only[aW,aa,simprocAttr,aE,yO]
  refine bY (l.length+1) 0 (fun i s=>1<=i/\Ib (fun T=>T 0=.slice (strs l) false/\T 3=.sref H.length 0 (l.length+1) 1/\T 4=.int .i64 i) (H++[.box cO (part l i)]) H.length s)
   (Ib (fun T=>T 3=.sref H.length 0 (l.length+1) 1) (H++[.box cO ((dh l).map .str)]) H.length) (fun _=>False) ?_ ?_ ?_ 1 _ (by omega) ?_
  ·rintro i s hi ⟨h1i,hs⟩
   obtain⟨T,g,rfl,h0,h3,h4⟩:=hs.out
   simp(disch:=omega)only[aW,aa,simprocAttr,h0,h3,h4,aE]
   refine gK ?_ ?_<;>intro h
   ·have jW:i<l.length:=by omega
    have e1:=aiJ jW
    have e2:=aiJ (show i-1<l.length by omega)
    have en:asNat (.int .i64 ((i:Int)-1))=some (i-1):=by rw[fl (by omega)];congr 1;omega
    simp(disch:=omega)only[aW,aa,simprocAttr,h0,h3,h4,en,bk e1,bk e2,Ul]
    cases ht:kM l[i-1] l[i] with
    | true =>
     have hu:cS l i=[]:=by
      rw[cS,if_neg]
      rintro ⟨_,_,h⟩
      rw[getD_at jW,getD_at (show i-1<l.length by omega),ht] at h
      cases h
     simp(disch:=omega)only[aW,aa,simprocAttr,h0,h3,h4]
     exact⟨by omega,by rw[JH l i hu]⟩
    | false =>
     have hu:kM (l.getD (i-1) []) (l.getD i [])=false:=by rw[getD_at jW,getD_at (show i-1<l.length by omega),ht]
     simp(disch:=omega)only[evA,lB,jb,oV,lF,GI,bQ,ai,dX,ak.eval,AS.ca,↓reduceIte,Nat.reduceEqDiff,Option.isSome,Option.isNone,cond_true,aiQ,Nat.reduceBEq,Nat.reduceAdd,Nat.reduceMul,aa,jE,eq_self,reduceCtorEq,AY,jL,jH,gB,bound,n7,AS.cq,bO,fK,dG,Nat.reduceLeDiff,jY,putAt,Int.reduceEq,Int.reduceLT,Int.reduceLE,Int.reduceBEq,Int.reduceBNe,Int.reduceAdd,Int.reduceNeg,Int.reduceSub,Int.reduceMul,Ma,L',L9,L8,L7,L6,Md,Mc,ba,fl,Int.toNat_natCast,aki,h0,h3,h4,cX,heap_set,Dc,cb]
     exact⟨by omega,by rw[akf,akc,OG l i h1i jW hu]⟩
   ·simp(disch:=omega)only[aW,aa,simprocAttr,h3]
    rw[OF l i (by omega)]
  ·intro s hs
   obtain⟨T,g,rfl,h3⟩:=hs.out
   simp(disch:=omega)only[aW,aa,simprocAttr,h3]
   exact⟨_,tH (t:=2) (off:=0) (n:=l.length+1) (z:=1) rfl (by decide) (by simp[aC.put]) cX (aiK _) wQ rfl,by simp[yn]⟩
  ·intro s hs;exact hs.elim
  ·simp(disch:=omega)only[aW,aa,simprocAttr]
   rw[show ((l.length:Int)+1).toNat=l.length+1 by omega,yO];exact⟨rfl,rfl⟩
 obtain⟨r,h,rfl⟩:=key
 exact h
theorem tu{l:List aV}{i:Nat}(h:i<l.length+1):(dh l)[i]?=some (cS l i):=by simp[dh,aj3 h]
theorem gO{l:List aV} : (dh l).length=l.length+1:=by simp[dh]
theorem nQ{l:List aV}{i:Nat}(h:i<l.length+1):(dh l).take (i+1)=(dh l).take i++[cS l i]:=by
 rw[akl,tu h];rfl
theorem wU{l:List aV}{i:Nat}(h1:1<=i)(h:i<=l.length):cS l i=if i=l.length\/l.getD (i-1) []=[40]\/l.getD (i-1) []=[91]\/l.getD (i-1) []=[46]\/l.getD i []=[41]\/l.getD i []=[93]\/l.getD i []=[44]\/l.getD i []=[46] then [] else [32]:=by
 unfold cS kM
 by_cases hi:i=l.length
 ·rw[if_neg (by omega),if_pos (.inl hi)]
 ·have a7:i<l.length:=by omega
  generalize l.getD (i-1) []=a
  generalize l.getD i []=b
  by_cases c1:a=[40]
  ·simp[c1,hi]
  by_cases c2:a=[91]
  ·simp[c2,hi]
  by_cases c3:a=[46]
  ·simp[c3,hi]
  by_cases c4:b=[41]
  ·simp[c4,hi]
  by_cases c5:b=[93]
  ·simp[c5,hi]
  by_cases c6:b=[44]
  ·simp[c6,hi]
  by_cases c7:b=[46]
  ·simp[c7,hi]
  simp[c1,c2,c3,c4,c5,c6,c7,hi,h1,a7]
theorem PB(l:List aV)(H:ag)(hl:l.length<=1000000):aA A 15 [.slice (strs l) false] H=some (.sref H.length 0 (l.length+1) 1,some ⟨H++[.dL ((dh l).map .str)],H.length⟩):=by
 have key:∃ r,aA A 15 [.slice (strs l) false] H=some r/\r=(.sref H.length 0 (l.length+1) 1,some ⟨H++[.dL ((dh l).map .str)],H.length⟩):=by
  refine pa (fn:=No) rfl rfl rfl ?_
  unfold No
  simp(disch:=omega)only[aW,aa,simprocAttr,aE,show ff [[AV.str []]]=true from rfl,ajx,ajT,ajh,List.length_cons,aiR]
  refine bY (l.length+1) 0 (fun i s=>1<=i/\∃ T D g,s=⟨T,D++[.box cO (((dh l).take i).map .str)],H.length,g⟩/\H.length<=D.length/\D.take H.length=H/\T 0=.slice (strs l) false/\T 3=.sref D.length 0 i 1/\T 4=.int .i64 i)
   (fun s=>∃ T D g,s=⟨T,D++[.box cO ((dh l).map .str)],H.length,g⟩/\H.length<=D.length/\D.take H.length=H/\T 3=.sref D.length 0 (l.length+1) 1) (fun _=>False) ?_ ?_ ?_ 1 _ (by omega) ?_
  ·rintro i s hi ⟨h1i,T,D,g,rfl,hD,hDt,h0,h3,h4⟩
   simp(disch:=omega)only[aW,aa,simprocAttr,h0,h4,aE]
   refine gK ?_ ?_<;>intro h
   ·have jW:i<=l.length:=by omega
    have e2:=aiJ (show i-1<l.length by omega)
    have en:asNat (.int .i64 ((i:Int)-1))=some (i-1):=by rw[fl (by omega)];congr 1;omega
    have hu:=wU h1i jW
    have ht:=nQ (l:=l) (i:=i) (by omega)
    have hlen:(((dh l).take i).map AV.str).length=i*1:=by rw[ai9,List.length_take,gO];omega
    have sN:decide (D.length<H.length)=false:=by simp;omega
    have Kc:=fun (x:aV) (os:List az) (T0:aC) (lo gen:Nat) (Q:AS->Prop)=>PZ (A:=A) (T:=T0) (lo:=lo) (gen:=gen) (K:=Q) (os:=os) (t:=64) (H:=D++[.box cO (((dh l).take i).map .str)]) (sz:=1) (bytes:=16) (n:=i) (l:=D.length) (ty:=cO) (cs:=((dh l).take i).map .str) (f:=[[.str x]]) (own:=true) cX hlen (by simp only[List.length_cons,aiR];omega) (by simp only[List.length_cons,aiR];omega) rfl rfl
    rw[getD_at (show i-1<l.length by omega)] at hu
    have CZ:=fun h=>hu.trans (if_pos h)
    have mk1:=fun h=>hu.trans (if_neg h)
    have fin:∀ (T' : aC) (g' : Nat) (x:aV),(dh l).take (i+1)=(dh l).take i++[x]->T' 0=.slice (strs l) false->T' 3=.sref (D.length+1) 0 (i+1) 1->T' 4=.int .i64 ((i:Int)+1) ->
      i<l.length+1/\∃ T D0 g,(⟨T',D++[de.dead,de.box cO (((dh l).take i).map .str++[.str x])],H.length,g'⟩:AS)=⟨T,D0++[.box cO (((dh l).take (i+1)).map .str)],H.length,g⟩/\H.length<=D0.length/\D0.take H.length=H/\T 0=.slice (strs l) false/\T 3=.sref D0.length 0 (i+1) 1/\T 4=.int .i64 ((i:Int)+1):=by
     intro T' g' x hx q0 q3 q4
     refine⟨by omega,T',D++[.dead],g',?_,by rw[List.length_append];omega,by rw[alb hD,hDt],q0,by rw[q3,List.length_append];rfl,q4⟩
     rw[hx,List.map_append,akc];rfl
    cases c0:((i:Int)==(l.length:Int)) with
    | true =>
     rw[CZ (.inl (by have:=ajq.1 c0;omega))] at ht
     simp(disch:=omega)only[aW,aa,simprocAttr,h0,h3,h4,en,bk e2,aE,c0,Kc,List.length_cons,aiR,ajx,ajT,ajh,sN]
     refine fin _ _ _ ht ?_ ?_ ?_
     ·simp(disch:=omega)only[aM,aa,simprocAttr,h0]
     ·simp(disch:=omega)only[aM,aa,simprocAttr,List.length_append,List.length_cons,aiR]
     ·simp(disch:=omega)only[aM,aa,simprocAttr]
    | false =>
    cases c1:(l[i-1]==[40]) with
    | true =>
     rw[CZ (.inr (.inl (ajq.1 c1)))] at ht
     simp(disch:=omega)only[aW,aa,simprocAttr,h0,h3,h4,en,bk e2,aE,c0,c1,Kc,List.length_cons,aiR,ajx,ajT,ajh,sN]
     refine fin _ _ _ ht ?_ ?_ ?_
     ·simp(disch:=omega)only[aM,aa,simprocAttr,h0]
     ·simp(disch:=omega)only[aM,aa,simprocAttr,List.length_append,List.length_cons,aiR]
     ·simp(disch:=omega)only[aM,aa,simprocAttr]
    | false =>
    cases c2:(l[i-1]==[91]) with
    | true =>
     rw[CZ (.inr (.inr (.inl (ajq.1 c2))))] at ht
     simp(disch:=omega)only[aW,aa,simprocAttr,h0,h3,h4,en,bk e2,aE,c0,c1,c2,Kc,List.length_cons,aiR,ajx,ajT,ajh,sN]
     refine fin _ _ _ ht ?_ ?_ ?_
     ·simp(disch:=omega)only[aM,aa,simprocAttr,h0]
     ·simp(disch:=omega)only[aM,aa,simprocAttr,List.length_append,List.length_cons,aiR]
     ·simp(disch:=omega)only[aM,aa,simprocAttr]
    | false =>
    cases c3:(l[i-1]==[46]) with
    | true =>
     rw[CZ (.inr (.inr (.inr (.inl (ajq.1 c3)))))] at ht
     simp(disch:=omega)only[aW,aa,simprocAttr,h0,h3,h4,en,bk e2,aE,c0,c1,c2,c3,Kc,List.length_cons,aiR,ajx,ajT,ajh,sN]
     refine fin _ _ _ ht ?_ ?_ ?_
     ·simp(disch:=omega)only[aM,aa,simprocAttr,h0]
     ·simp(disch:=omega)only[aM,aa,simprocAttr,List.length_append,List.length_cons,aiR]
     ·simp(disch:=omega)only[aM,aa,simprocAttr]
    | false =>
    have cU:¬ (i:Int)=l.length:=by
     intro e;rw[e] at c0;simp at c0
    have a7:i<l.length:=by omega
    have e1:=aiJ a7
    have eb:=getD_at (d:=([]:aV)) a7
    cases c4:(l[i]==[41]) with
    | true =>
     rw[CZ (.inr (.inr (.inr (.inr (.inl (eb.trans (ajq.1 c4)))))))] at ht
     simp(disch:=omega)only[aW,aa,simprocAttr,h0,h3,h4,en,bk e2,aE,bk e1,c0,c1,c2,c3,c4,Kc,List.length_cons,aiR,ajx,ajT,ajh,sN]
     refine fin _ _ _ ht ?_ ?_ ?_
     ·simp(disch:=omega)only[aM,aa,simprocAttr,h0]
     ·simp(disch:=omega)only[aM,aa,simprocAttr,List.length_append,List.length_cons,aiR]
     ·simp(disch:=omega)only[aM,aa,simprocAttr]
    | false =>
    cases c5:(l[i]==[93]) with
    | true =>
     rw[CZ (.inr (.inr (.inr (.inr (.inr (.inl (eb.trans (ajq.1 c5))))))))] at ht
     simp(disch:=omega)only[aW,aa,simprocAttr,h0,h3,h4,en,bk e2,aE,bk e1,c0,c1,c2,c3,c4,c5,Kc,List.length_cons,aiR,ajx,ajT,ajh,sN]
     refine fin _ _ _ ht ?_ ?_ ?_
     ·simp(disch:=omega)only[aM,aa,simprocAttr,h0]
     ·simp(disch:=omega)only[aM,aa,simprocAttr,List.length_append,List.length_cons,aiR]
     ·simp(disch:=omega)only[aM,aa,simprocAttr]
    | false =>
    cases c6:(l[i]==[44]) with
    | true =>
     rw[CZ (.inr (.inr (.inr (.inr (.inr (.inr (.inl (eb.trans (ajq.1 c6)))))))))] at ht
     simp(disch:=omega)only[aW,aa,simprocAttr,h0,h3,h4,en,bk e2,aE,bk e1,c0,c1,c2,c3,c4,c5,c6,Kc,List.length_cons,aiR,ajx,ajT,ajh,sN]
     refine fin _ _ _ ht ?_ ?_ ?_
     ·simp(disch:=omega)only[aM,aa,simprocAttr,h0]
     ·simp(disch:=omega)only[aM,aa,simprocAttr,List.length_append,List.length_cons,aiR]
     ·simp(disch:=omega)only[aM,aa,simprocAttr]
    | false =>
    cases c7:(l[i]==[46]) with
    | true =>
     rw[CZ (.inr (.inr (.inr (.inr (.inr (.inr (.inr (eb.trans (ajq.1 c7)))))))))] at ht
     simp(disch:=omega)only[aW,aa,simprocAttr,h0,h3,h4,en,bk e2,aE,bk e1,c0,c1,c2,c3,c4,c5,c6,c7,Kc,List.length_cons,aiR,ajx,ajT,ajh,sN]
     refine fin _ _ _ ht ?_ ?_ ?_
     ·simp(disch:=omega)only[aM,aa,simprocAttr,h0]
     ·simp(disch:=omega)only[aM,aa,simprocAttr,List.length_append,List.length_cons,aiR]
     ·simp(disch:=omega)only[aM,aa,simprocAttr]
    | false =>
    have c1':=ajs.1 c1;have c2':=ajs.1 c2;have c3':=ajs.1 c3;have c4':=ajs.1 c4;have c5':=ajs.1 c5;have c6':=ajs.1 c6;have c7':=ajs.1 c7
    rw[mk1 (by rw[eb];simp[show ¬ i=l.length by omega,c1',c2',c3',c4',c5',c6',c7'])] at ht
    simp(disch:=omega)only[aW,aa,simprocAttr,h0,h3,h4,en,bk e2,aE,bk e1,c0,c1,c2,c3,c4,c5,c6,c7,Kc,List.length_cons,aiR,ajx,ajT,ajh,sN]
    refine fin _ _ _ ht ?_ ?_ ?_
    ·simp(disch:=omega)only[aM,aa,simprocAttr,h0]
    ·simp(disch:=omega)only[aM,aa,simprocAttr,List.length_append,List.length_cons,aiR]
    ·simp(disch:=omega)only[aM,aa,simprocAttr]
   ·simp(disch:=omega)only[aW,aa,simprocAttr,h3]
    exact⟨_,D,_,by rw[aji (by rw[gO];omega)],hD,hDt,by simp(disch:=omega)only[aM,aa,simprocAttr,h3,show i=l.length+1 by omega]⟩
  ·rintro s ⟨T,D,g,rfl,hD,hDt,h3⟩
   simp(disch:=omega)only[aW,aa,simprocAttr,h3]
   exact⟨_,tH (t:=2) (off:=0) (n:=l.length+1) (z:=1) rfl (by decide) (by simp[aC.put]) cX hD wQ rfl,by rw[alb hD,hDt]⟩
  ·intro s hs;exact hs.elim
  ·simp(disch:=omega)only[aW,aa,simprocAttr]
   have e1:(dh l).take 1=[[]]:=by rw[show (1:Nat)=0+1 from rfl,nQ (by omega)];simp[cS]
   refine⟨_,H,_,by rw[e1];rfl,aiK _,ajU,?_,?_,?_⟩
   ·simp(disch:=omega)only[aM,aa,simprocAttr]
   ·simp(disch:=omega)only[aM,aa,simprocAttr]
   ·simp(disch:=omega)only[aM,aa,simprocAttr]
 obtain⟨r,h,rfl⟩:=key
 exact h
def Fp(p:Nat->Bool):Nat->Nat
 | 0=>0
 | n+1=>if Fp p n=n/\p n=true then n+1 else Fp p n
theorem u6(p:Nat->Bool):∀ n,Fp p n<=n
 | 0=>aiK _
 | n+1=>by
  unfold Fp
  split
  ·exact aiK _
  ·have:=u6 p n;omega
theorem zC(p:Nat->Bool):∀ n j,j<Fp p n->p j=true
 | 0,j,h=>by simp[Fp] at h
 | n+1,j,h=>by
  unfold Fp at h
  split at h
  ·rename_i hc
   by_cases hj:j=n
   ·rw[hj];exact hc.2
   ·exact zC p n j (by omega)
  ·exact zC p n j h
theorem BA(p:Nat->Bool):∀ n,Fp p n<n->p (Fp p n)=false
 | 0,h=>by omega
 | n+1,h=>by
  unfold Fp at h ⊢
  split at h
  ·omega
  ·rename_i hc
   rw[if_neg hc]
   by_cases hn:Fp p n=n
   ·rw[hn]
    cases hp:p n with
    | false=>rfl
    | true=>exact absurd ⟨hn,hp⟩ hc
   ·exact BA p n (by have:=u6 p n;omega)
theorem zD(p:Nat->Bool){n i:Nat}(h1:i<=n)(h2:∀ j,j<i->p j=true)(h3:i<n->p i=false):Fp p n=i:=by
 rcases akD (Fp p n) i with h|h|h
 ·have:=BA p n (by omega)
  rw[h2 _ h] at this;cases this
 ·exact h
 ·have:=zC p n i h
  rw[h3 (by have:=u6 p n;omega)] at this;cases this
def gv(old now:List aV):Nat:=Fp (fun i=>old.getD i []==now.getD i []) (min old.length now.length)
def cc(old now:List aV):Nat:=Fp (fun i=>old.getD (old.length-1-i) []==now.getD (now.length-1-i) []) (min old.length now.length-gv old now)
theorem Cd(old now:List aV):gv old now<=min old.length now.length:=u6 _ _
theorem HQ(old now:List aV):cc old now<=min old.length now.length-gv old now:=u6 _ _
structure Fd where
 name:aV
 wn:aV
 wk:List Wd
 iU:Int
structure Fm where
 kind:Int
 name:aV
 bA:List Fd
 rn:aV
 rk:List Wd
 body:Tm
 layout:List aV
structure So where
 name:aV
 k9:List aV
 defs:List Fm
 head:List aV
 fin:aV
def gm(f:Fd):List AV:=[.str f.name,.str f.wn,.slice (aO f.wk) false,.int .i64 f.iU]
def jI(f:Fm):List AV:=[.int .i64 f.kind,.str f.name,.slice (f.bA.map gm) false,.str f.rn,.slice (aO f.rk) false,
 .int .i64 f.body.kind,.int .i64 f.body.n,.str f.body.name,.str f.body.field,.str f.body.wn,.slice (aO f.body.wk) false,.slice (aK f.body.kids) false,.slice (strs f.body.names) false,.slice (strs f.layout) false]
def Qh(s:So):List AV:=[.str s.name,.slice (strs s.k9) false,.slice (s.defs.map jI) false,.slice (strs s.head) false,.str s.fin]
structure FdB (f:Fd):Prop where
 a:f.name.length<=20
 w:w4 3 (.mk f.wn f.wk)
 m:-2199023255552<=f.iU/\f.iU<=2199023255552
structure PM (f:Fm):Prop where
 k:0<=f.kind/\f.kind<=5
 a:f.name.length<=20
 sl:f.bA.length<=3
 sb:∀ s∈f.bA,FdB s
 w:w4 3 (.mk f.rn f.rk)
 b:Ks 5 f.body
 ll:f.layout.length<=20000
 lb:∀ s∈f.layout,s.length<=20
theorem UH{l:List Fd}{i:Nat}{e:Fd}(h:l[i]?=some e):(l.map gm)[i]?=some (gm e):=by simp[h]
theorem aad{l:List Fm}{i:Nat}{e:Fm}(h:l[i]?=some e):(l.map jI)[i]?=some (jI e):=by simp[h]
theorem jV{l:List Fd} : (l.map gm).length=l.length:=ai9 _
theorem zX{l:List Fm} : (l.map jI).length=l.length:=ai9 _
def pY(n:aV)(ks:List Wd):Bool:=n==[]&&ks.isEmpty
def fD(t:Tm):Bool:=t.kind==0&&(t.n==0&&(t.name==[]&&(t.field==[]&&(pY t.wn t.wk&&(t.names==[]&&t.kids.isEmpty)))))
def gf(k:Int)(f:Fd):Bool:=isWord f.name&&bE (.mk f.wn f.wk)&&decide (0<=f.iU)&&decide (f.iU<=1099511627776)&&(decide (k=4) || decide (f.iU=0))
def dC(f:Fm):Bool:=isWord f.name&&f.bA.all (gf f.kind)&&bif decide (f.kind=0) || decide (f.kind=1) then pY f.rn f.rk&&fD f.body else bE (.mk f.rn f.rk)&&bD f.body
def dc(k:Int)(f:Fd):List aV:=[f.name]++dn (.mk f.wn f.wk)++(if k=4 then [ra f.iU.toNat] else [])
def df(f:Fm):List aV:=[qy.getD f.kind.toNat [],f.name,[40]]++aH (f.bA.map (dc f.kind))++[[41]]++(if f.kind=0\/f.kind=1 then [] else dn (.mk f.rn f.rk)++[[61]]++aj f.body)
theorem Zd:aO []=[]:=by simp[aO]
theorem Pb(n:aV)(ks:List Wd)(H:ag):aA A 92 [.agg [.str n,.slice (aO ks) false],.agg [.str [],.slice [] false]] H=some (.bool (pY n ks),none):=by
 refine bb (fn:=N3) rfl rfl rfl ?_
 unfold N3
 cases h1:(n==[]) with
 | false=>simp(disch:=omega)only[aW,aa,simprocAttr,h1,pY,ajr]
 | true =>
 cases ks with
 | cons k r =>
  have e:¬ (((aO (k :: r)).length:Int)=0):=by rw[qL,List.length_cons];omega
  simp(disch:=omega)only[aW,aa,simprocAttr,h1,e,aiR,ajl,pY,List.isEmpty_cons,Bool.and_false]
 | nil =>
  simp(disch:=omega)only[aW,aa,simprocAttr,h1,Zd,aiR,ajl,pY,List.isEmpty_nil,akw,ajo]
  refine bY 0 0 (fun i s=>Ib (fun T=>T 2=.lbox 0 [.str n,.slice [] false]/\T 5=.int .i64 0) H H.length s) (Ib (fun T=>True) H H.length) (fun _=>False) ?_ ?_ (fun _ h=>h.elim) 0 _ (aiK _) ?_
  ·rintro i s hi hs
   obtain⟨T,g,rfl,e2,e5⟩:=hs.out
   simp(disch:=omega)only[aW,aa,simprocAttr,e2,e5,aiR,ajl]
  ·intro s hs
   obtain⟨T,g,rfl, -⟩:=hs.out
   simp(disch:=omega)only[aW,aa,simprocAttr]
  ·simp(disch:=omega)only[aW,aa,simprocAttr]
theorem Pa(t:Tm)(og:t.names.length<=1000000)(H:ag):aA A 58 [.agg (gk t),.agg [.int .i64 0,.int .i64 0,.str [],.str [],.str [],.slice [] false,.slice [] false,.slice [] false]] H=some (.bool (fD t),none):=by
 have hw:=Pb t.wn t.wk H
 have hs:=YZ t.names [] H false false og
 rw[o5] at hs
 refine bb (fn:=NR) rfl rfl rfl ?_
 unfold NR
 rw[ax]
 cases c1:(t.kind==0) with
 | false=>simp(disch:=omega)only[aW,aa,simprocAttr,c1,hw,hs,bne,og,fD,ajr,ajo,ajp,ajz]
 | true =>
 cases c2:(t.n==0) with
 | false=>simp(disch:=omega)only[aW,aa,simprocAttr,c1,c2,hw,hs,bne,og,fD,ajr,ajo,ajp,ajz]
 | true =>
 cases c3:(t.name==[]) with
 | false=>simp(disch:=omega)only[aW,aa,simprocAttr,c1,c2,c3,hw,hs,bne,og,fD,ajr,ajo,ajp,ajz]
 | true =>
 cases c4:(t.field==[]) with
 | false=>simp(disch:=omega)only[aW,aa,simprocAttr,c1,c2,c3,c4,hw,hs,bne,og,fD,ajr,ajo,ajp,ajz]
 | true =>
 cases c5:pY t.wn t.wk with
 | false=>simp(disch:=omega)only[aW,aa,simprocAttr,c1,c2,c3,c4,c5,hw,hs,bne,og,fD,ajr,ajo,ajp,ajz]
 | true =>
 cases c6:(t.names==[]) with
 | false=>simp(disch:=omega)only[aW,aa,simprocAttr,c1,c2,c3,c4,c5,c6,hw,hs,bne,og,fD,ajr,ajo,ajp,ajz]
 | true =>
 cases hk:t.kids.isEmpty with
 | false =>
  have e:((t.kids.length:Int)==0)=false:=by
   cases h:t.kids with
   | nil=>rw[h] at hk;cases hk
   | cons a r=>simp;omega
  simp(disch:=omega)only[aW,aa,simprocAttr,c1,c2,c3,c4,c5,c6,hw,hs,bne,og,hk,e,b8,aiR,ajl,fD,ajr,ajo,ajp,ajz]
 | true =>
  have e:t.kids=[]:=akQ.1 hk
  rw[e]
  simp(disch:=omega)only[aW,aa,simprocAttr,c1,c2,c3,c4,c5,c6,hw,hs,bne,og,hk,aK,b8,aiR,ajl,fD,ajr,ajo,ajp,ajz]
  refine bY 0 0 (fun i s=>Ib (fun T=>T 2=.lbox 0 [.int .i64 t.kind,.int .i64 t.n,.str t.name,.str t.field,.str t.wn,.slice (aO t.wk) false,.slice [] false,.slice (strs t.names) false]/\T 5=.int .i64 0) H H.length s) (Ib (fun T=>True) H H.length) (fun _=>False) ?_ ?_ (fun _ h=>h.elim) 0 _ (aiK _) ?_
  ·rintro i s hi hs
   obtain⟨T,g,rfl,e2,e5⟩:=hs.out
   simp(disch:=omega)only[aW,aa,simprocAttr,e2,e5,aiR,ajl]
  ·intro s hs
   obtain⟨T,g,rfl, -⟩:=hs.out
   simp(disch:=omega)only[aW,aa,simprocAttr]
  ·simp(disch:=omega)only[aW,aa,simprocAttr]
theorem y5{α:Type}{l:List α}{i:Nat}{u:α}(h:l[i]?=some u):l.take (i+1)=l.take i++[u]:=by rw[akl,h];rfl
theorem S8{f:Fm}(hb:PM f)(H:ag):aA A 30 [.agg (jI f)] H=some (.bool (dC f),none):=by
 have hw:=nS f.name H (by have:=hb.a;omega)
 obtain⟨k0,k5⟩:=hb.k
 have hr:=s8 3 (.mk f.rn f.rk) H hb.w
 rw[jO] at hr
 have hpt:=yQ 5 f.body H hb.b
 have og:f.body.names.length<=1000000:=by have:=hb.b.out.nl;omega
 have hz:=Pa f.body og H
 rw[ax] at hpt hz
 refine bb (fn:=NH) rfl rfl rfl ?_
 rw[jI]
 unfold NH
 cases hn:isWord f.name with
 | false =>
  have e:dC f=false:=by unfold dC;rw[hn];rfl
  simp(disch:=omega)only[aW,aa,simprocAttr,hw,hn,e]
 | true =>
 simp(disch:=omega)only[aW,aa,simprocAttr,hw,hn]
 refine bY f.bA.length 0 (fun i s=>∃ T g,s=⟨T,H,H.length,g⟩/\T 1=.lbox 0 [.int .i64 f.kind,.str f.name,.slice (f.bA.map gm) false,.str f.rn,.slice (aO f.rk) false,.int .i64 f.body.kind,.int .i64 f.body.n,.str f.body.name,.str f.body.field,.str f.body.wn,.slice (aO f.body.wk) false,.slice (aK f.body.kids) false,.slice (strs f.body.names) false,.slice (strs f.layout) false]/\T 3=.int .i64 i/\(f.bA.take i).all (gf f.kind)=true)
  (fun s=>∃ T g,s=⟨T,H,H.length,g⟩/\T 1=.lbox 0 [.int .i64 f.kind,.str f.name,.slice (f.bA.map gm) false,.str f.rn,.slice (aO f.rk) false,.int .i64 f.body.kind,.int .i64 f.body.n,.str f.body.name,.str f.body.field,.str f.body.wn,.slice (aO f.body.wk) false,.slice (aK f.body.kids) false,.slice (strs f.body.names) false,.slice (strs f.layout) false]/\f.bA.all (gf f.kind)=true) (fun s=>fin H.length [.tmp 2] s=some (.bool (dC f),none)) ?_ ?_ ?_ 0 _ (ajy _) ?_
 ·rintro i s hi ⟨T,g,rfl,e1,e3,fg⟩
  by_cases a7:i<f.bA.length
  ·have hx:=aiJ a7
   have hm:=ajA a7
   have Gb:=y5 hx
   generalize f.bA[i]=u at hx hm Gb
   have kV:=UH hx
   rw[gm] at kV
   have hu:=hb.sb u hm
   obtain⟨m0,m1⟩:=hu.m
   have W2:=nS u.name H (by have:=hu.a;omega)
   have F8:=s8 3 (.mk u.wn u.wk) H hu.w
   rw[jO] at F8
   have ur:gf f.kind u=false->dC f=false:=by
    intro h
    have:f.bA.all (gf f.kind)=false:=by rw[List.all_eq_false];exact⟨u,hm,by rw[h];decide⟩
    unfold dC;rw[this,Bool.and_false];rfl
   have UT:gf f.kind u=true->(f.bA.take (i+1)).all (gf f.kind)=true:=by
    intro h;rw[Gb,alk,fg,ajV,h];rfl
   unfold gf at ur UT
   have hf4:f.bA.length<=3:=hb.sl
   cases a1:isWord u.name with
   | false =>
    have e:=ur (by simp[a1])
    simp(disch:=omega)only[aW,aa,simprocAttr,e1,e3,jV,kV,W2,F8,a1,e]
   | true =>
   cases a2:bE (.mk u.wn u.wk) with
   | false =>
    have e:=ur (by simp[a1,a2])
    simp(disch:=omega)only[aW,aa,simprocAttr,e1,e3,jV,kV,W2,F8,a1,a2,e]
   | true =>
   by_cases a3:u.iU<0
   ·have e:=ur (by simp[show ¬ 0<=u.iU by omega])
    simp(disch:=omega)only[aW,aa,simprocAttr,e1,e3,jV,kV,W2,F8,a1,a2,e]
   by_cases a4:1099511627776<u.iU
   ·have e:=ur (by simp[show ¬ u.iU<=1099511627776 by omega])
    simp(disch:=omega)only[aW,aa,simprocAttr,e1,e3,jV,kV,W2,F8,a1,a2,e]
   by_cases a5:f.kind=4
   ·have e:=UT (by simp[a1,a2,a5];omega)
    simp(disch:=omega)only[aW,aa,simprocAttr,e1,e3,jV,kV,W2,F8,a1,a2]
    exact⟨a7,_,_,rfl,by simp(disch:=omega)only[aM,aa,simprocAttr,e1],by simp(disch:=omega)only[aM,aa,simprocAttr],e⟩
   by_cases a6:u.iU=0
   ·have e:=UT (by simp[a1,a2,a6])
    simp(disch:=omega)only[aW,aa,simprocAttr,e1,e3,jV,kV,W2,F8,a1,a2]
    exact⟨a7,_,_,rfl,by simp(disch:=omega)only[aM,aa,simprocAttr,e1],by simp(disch:=omega)only[aM,aa,simprocAttr],e⟩
   ·have e:=ur (by simp[a5,a6])
    simp(disch:=omega)only[aW,aa,simprocAttr,e1,e3,jV,kV,W2,F8,a1,a2,e]
  ·simp(disch:=omega)only[aW,aa,simprocAttr,e1,e3,jV]
   exact⟨_,_,rfl,by simp(disch:=omega)only[aM,aa,simprocAttr,e1],by rw[<- fg,aji (by omega)]⟩
 ·rintro s ⟨T,g,rfl,e1,fg⟩
  have hp:dC f=bif decide (f.kind=0) || decide (f.kind=1) then pY f.rn f.rk&&fD f.body else bE (.mk f.rn f.rk)&&bD f.body:=by
   unfold dC;rw[hn,fg];rfl
  by_cases b0:f.kind=0\/f.kind=1
  ·have e:dC f=(pY f.rn f.rk&&fD f.body):=by
    rw[hp];rcases b0 with b|b<;>simp[b]
   rw[e]
   unfold pY
   have hk:(f.kind==0)=true\/(f.kind==0)=false/\(f.kind==1)=true:=by
    rcases b0 with b|b
    ·exact .inl (by simp[b])
    ·exact .inr (by simp[b])
   rcases hk with hk|⟨hk,PO⟩
   ·cases d1:(f.rn==[]) with
    | false=>simp(disch:=omega)only[aW,aa,simprocAttr,e1,hk,d1,ajr]
    | true =>
    cases d2:f.rk.isEmpty with
    | false =>
     have e2:((f.rk.length:Int)==0)=false:=by
      cases h:f.rk with
      | nil=>rw[h] at d2;cases d2
      | cons a r=>simp;omega
     simp(disch:=omega)only[aW,aa,simprocAttr,e1,hk,d1,d2,e2,qL,ajr,ajo]
    | true =>
     have e2:((f.rk.length:Int)==0)=true:=by rw[akQ.1 d2];rfl
     simp(disch:=omega)only[aW,aa,simprocAttr,e1,hk,d1,d2,e2,hz,qL,ajo,cF]
   ·cases d1:(f.rn==[]) with
    | false=>simp(disch:=omega)only[aW,aa,simprocAttr,e1,hk,PO,d1,ajr]
    | true =>
    cases d2:f.rk.isEmpty with
    | false =>
     have e2:((f.rk.length:Int)==0)=false:=by
      cases h:f.rk with
      | nil=>rw[h] at d2;cases d2
      | cons a r=>simp;omega
     simp(disch:=omega)only[aW,aa,simprocAttr,e1,hk,PO,d1,d2,e2,qL,ajr,ajo]
    | true =>
     have e2:((f.rk.length:Int)==0)=true:=by rw[akQ.1 d2];rfl
     simp(disch:=omega)only[aW,aa,simprocAttr,e1,hk,PO,d1,d2,e2,hz,qL,ajo,cF]
  ·have e:dC f=(bE (.mk f.rn f.rk)&&bD f.body):=by
    rw[hp,show (decide (f.kind=0) || decide (f.kind=1))=false by simpa using b0];rfl
   rw[e]
   have c0:f.kind≠0:=fun h=>b0 (.inl h)
   have c1:f.kind≠1:=fun h=>b0 (.inr h)
   cases a1:bE (.mk f.rn f.rk) with
   | false=>simp(disch:=omega)only[aW,aa,simprocAttr,e1,hr,a1,ajr]
   | true=>simp(disch:=omega)only[aW,aa,simprocAttr,e1,hr,hpt,a1,ajo]
 ·intro s hs;exact hs
 ·exact⟨_,_,rfl,by simp(disch:=omega)only[aM,aa,simprocAttr],by simp(disch:=omega)only[aM,aa,simprocAttr,ajl],by simp⟩
def wz(f:Fm):List aV:=if dC f=true then df f else []
theorem Od{f:Fm}(hb:PM f):([[.str [114,101,99]],[.str [99,97,115,101]],[.str [102,117,110]],[.str [111,110]],[.str [116,101,115,116]],[.str [99,111,110,118]]]:List (List AV))[f.kind.toNat]?=some [.str (qy.getD f.kind.toNat [])]:=by
 obtain⟨k0,k5⟩:=hb.k
 have:f.kind.toNat=0\/f.kind.toNat=1\/f.kind.toNat=2\/f.kind.toNat=3\/f.kind.toNat=4\/f.kind.toNat=5:=by omega
 rcases this with h|h|h|h|h|h<;>rw[h]<;>rfl
theorem qi{k:Int}{u:Fd}(h:FdB u):(dc k u).length<=14:=by
 have:=iO 3 _ h.w
 unfold dc
 split<;>simp only[List.length_append,List.length_cons,aiR]<;>omega
theorem GR{f:Fm}(h:dC f=true):(∀ u∈f.bA,gf f.kind u=true)/\(f.kind=0\/f.kind=1\/(bE (.mk f.rn f.rk)=true/\bD f.body=true)):=by
 unfold dC at h
 simp only[aiL] at h
 obtain⟨⟨_,h1⟩,h2⟩:=h
 refine⟨aiO.1 h1,?_⟩
 by_cases b0:f.kind=0
 ·exact .inl b0
 by_cases b1:f.kind=1
 ·exact .inr (.inl b1)
 simp[b0,b1] at h2
 exact .inr (.inr h2)
theorem yj{f:Fm}(hb:PM f):(df f).length<=10000:=by
 have h1:=fS (f.bA.map (dc f.kind)) 14 (fun x hx=>by
  obtain⟨u,hu,rfl⟩:=ai5.1 hx
  exact qi (hb.sb u hu))
 have h2:=iO 3 _ hb.w
 have h3:(aj f.body).length<=7260:=o6 5 f.body hb.b
 have h4:=hb.sl
 rw[ai9] at h1
 have h5:f.bA.length*(14+1)<=45:=by omega
 unfold df
 split<;>simp only[List.length_append,List.length_cons,aiR]<;>omega
theorem AJ{f:Fm}(hb:PM f)(H:ag):aA A 8 [.agg (jI f)] H=some (.slice (strs (wz f)) (!(dC f) || !(decide (f.kind=0) || decide (f.kind=1))),none):=by
 have hp:=S8 hb H
 obtain⟨k0,k5⟩:=hb.k
 refine bb (fn:=ir8) rfl rfl rfl ?_
 rw[jI] at hp ⊢
 unfold ir8 wz
 cases hpf:dC f with
 | false =>
  rw[if_neg (by decide)]
  simp(disch:=omega)only[aW,aa,simprocAttr,hp,hpf,o5,ajp,akF]
 | true =>
 rw[if_pos rfl]
 obtain⟨tP,aa6⟩:=GR hpf
 have adW:=Od hb
 simp(disch:=omega)only[aW,aa,simprocAttr,hp,hpf,adW]
 generalize uy:([qy.getD f.kind.toNat [],f.name,[40]]:List aV)=pre
 have afO:pre.length=3:=by rw[<- uy];rfl
 have hpc:([[.str (qy.getD f.kind.toNat [])],[.str f.name],[.str [40]]]:List (List AV))=strs pre:=by rw[<- uy];rfl
 simp only[hpc]
 have LM:df f=pre++aH (f.bA.map (dc f.kind))++[[41]]++(if f.kind=0\/f.kind=1 then [] else dn (.mk f.rn f.rk)++[[61]]++aj f.body):=by unfold df;rw[uy]
 have hlen:=yj hb
 have hf4:f.bA.length<=3:=hb.sl
 refine bY f.bA.length 0 (fun i s=>∃ T g,s=⟨T,H,H.length,g⟩/\T 1=.lbox 0 [.int .i64 f.kind,.str f.name,.slice (f.bA.map gm) false,.str f.rn,.slice (aO f.rk) false,.int .i64 f.body.kind,.int .i64 f.body.n,.str f.body.name,.str f.body.field,.str f.body.wn,.slice (aO f.body.wk) false,.slice (aK f.body.kids) false,.slice (strs f.body.names) false,.slice (strs f.layout) false]/\T 4=.int .i64 i/\T 3=.slice (strs (pre++aH ((f.bA.take i).map (dc f.kind)))) true)
  (fun s=>∃ T g,s=⟨T,H,H.length,g⟩/\T 1=.lbox 0 [.int .i64 f.kind,.str f.name,.slice (f.bA.map gm) false,.str f.rn,.slice (aO f.rk) false,.int .i64 f.body.kind,.int .i64 f.body.n,.str f.body.name,.str f.body.field,.str f.body.wn,.slice (aO f.body.wk) false,.slice (aK f.body.kids) false,.slice (strs f.body.names) false,.slice (strs f.layout) false]/\T 3=.slice (strs (pre++aH (f.bA.map (dc f.kind)))) true) (fun _=>False) ?_ ?_ (fun _ h=>h.elim) 0 _ (ajy _) ?_
 ·rintro i s hi ⟨T,g,rfl,e1,e4,e3⟩
  by_cases a7:i<f.bA.length
  ·have hx:=aiJ a7
   have hm:=ajA a7
   have Gb:=y5 hx
   generalize f.bA[i]=u at hx hm Gb
   have kV:=UH hx
   rw[gm] at kV
   have hu:=hb.sb u hm
   have F8:=tP u hm
   unfold gf at F8
   simp only[aiL,ai2,akh] at F8
   obtain⟨⟨⟨⟨u1,u2⟩,u3⟩,u4⟩,u5⟩:=F8
   have Q2:=A1 3 (.mk u.wn u.wk) H (by omega) hu.w u2
   have hwl:=iO 3 _ hu.w
   rw[jO] at Q2
   have QN:aA A 32 [.int .i64 u.iU] H=some (.str (ra u.iU.toNat),none):=by
    have:=vb u.iU.toNat H (by omega)
    rwa [akt u3] at this
   have hs:=kD (dc f.kind u) ((f.bA.take i).map (dc f.kind))
   have mf:(f.bA.take (i+1)).map (dc f.kind)=(f.bA.take i).map (dc f.kind)++[dc f.kind u]:=by rw[Gb];simp
   rw[<- mf] at hs
   have Cn:(aH ((f.bA.take i).map (dc f.kind))).length<=45:=by
    have h1:=fS ((f.bA.take i).map (dc f.kind)) 14 (fun x hx=>by
     obtain⟨v,hv,rfl⟩:=ai5.1 hx
     exact qi (hb.sb v (ajR hv)))
    rw[ai9,List.length_take] at h1
    have:min i f.bA.length<=3:=by omega
    have:min i f.bA.length*(14+1)<=45:=by omega
    omega
   have step:∀ (base:List aV),base.length<=100->base++dc f.kind u=pre++aH ((f.bA.take (i+1)).map (dc f.kind)) ->
     aq false 1 16 (.slice (strs base) true) (.slice [[.str u.name]] true)=some (.slice (strs (base++[u.name])) true) /\
     aq false 1 16 (.slice (strs (base++[u.name])) true) (.slice (strs (dn (.mk u.wn u.wk))) true)=some (.slice (strs (base++[u.name]++dn (.mk u.wn u.wk))) true) /\
     (f.kind=4->aq false 1 16 (.slice (strs (base++[u.name]++dn (.mk u.wn u.wk))) true) (.slice [[.str (ra u.iU.toNat)]] true)=some (.slice (strs (pre++aH ((f.bA.take (i+1)).map (dc f.kind)))) true)) /\
     (f.kind≠4->base++[u.name]++dn (.mk u.wn u.wk)=pre++aH ((f.bA.take (i+1)).map (dc f.kind))):=by
    intro base LC he
    refine⟨dF (by omega),bR (by simp;omega),fun h4=>?_,fun h4=>?_⟩
    ·rw[<- he];unfold dc;rw[if_pos h4]
     simp only[<- akc]
     exact dF (by simp;omega)
    ·rw[<- he];unfold dc;rw[if_neg h4]
     simp only[<- akc,ajh]
   have IY:∀ (T' : aC) (g' : Nat),T' 1=.lbox 0 [.int .i64 f.kind,.str f.name,.slice (f.bA.map gm) false,.str f.rn,.slice (aO f.rk) false,.int .i64 f.body.kind,.int .i64 f.body.n,.str f.body.name,.str f.body.field,.str f.body.wn,.slice (aO f.body.wk) false,.slice (aK f.body.kids) false,.slice (strs f.body.names) false,.slice (strs f.layout) false]->T' 4=.int .i64 ((i:Int)+1)->T' 3=.slice (strs (pre++aH ((f.bA.take (i+1)).map (dc f.kind)))) true ->
     i<f.bA.length/\∃ T g,(⟨T',H,H.length,g'⟩:AS)=⟨T,H,H.length,g⟩/\T 1=.lbox 0 [.int .i64 f.kind,.str f.name,.slice (f.bA.map gm) false,.str f.rn,.slice (aO f.rk) false,.int .i64 f.body.kind,.int .i64 f.body.n,.str f.body.name,.str f.body.field,.str f.body.wn,.slice (aO f.body.wk) false,.slice (aK f.body.kids) false,.slice (strs f.body.names) false,.slice (strs f.layout) false]/\T 4=.int .i64 ((i:Int)+1)/\T 3=.slice (strs (pre++aH ((f.bA.take (i+1)).map (dc f.kind)))) true :=
    fun T' g' q1 q2 q3=>⟨a7,_,_,rfl,q1,q2,q3⟩
   by_cases h0:i=0
   ·subst h0
    simp only[ajJ,aiX] at hs e3
    rw[if_pos trivial] at hs
    rw[show aH ([]:List (List aV))=[] from rfl,ajh] at e3
    obtain⟨a1,a2,a3,a4⟩:=step pre (by omega) (by rw[hs])
    generalize pre++aH ((f.bA.take (0+1)).map (dc f.kind))=out at a3 a4 IY ⊢
    generalize pre++[u.name]++dn (.mk u.wn u.wk)=b2 at a2 a3 a4
    generalize pre++[u.name]=b1 at a1 a2
    by_cases h4:f.kind=4
    ·have a3:=a3 h4
     simp(disch:=omega)only[aW,aa,simprocAttr,e1,e3,e4,jV,kV,Q2,QN,a1,a2,a3]
     refine IY _ _ ?_ ?_ ?_
     ·simp(disch:=omega)only[aM,aa,simprocAttr,e1]
     ·simp(disch:=omega)only[aM,aa,simprocAttr,e4]
     ·simp(disch:=omega)only[aM,aa,simprocAttr]
    ·have a4:=a4 h4
     simp(disch:=omega)only[aW,aa,simprocAttr,e1,e3,e4,jV,kV,Q2,QN,a1,a2]
     refine IY _ _ ?_ ?_ ?_
     ·simp(disch:=omega)only[aM,aa,simprocAttr,e1]
     ·simp(disch:=omega)only[aM,aa,simprocAttr,e4]
     ·simp(disch:=omega)only[aM,aa,simprocAttr,a4]
   ·have cU:¬ ((f.bA.take i).map (dc f.kind)=[]):=fun e=>by
     have:=ak2 List.length e
     rw[ai9,List.length_take,aiR] at this
     omega
    rw[if_neg cU] at hs
    generalize aH ((f.bA.take i).map (dc f.kind))=acc at e3 Cn hs
    have a0:aq false 1 16 (.slice (strs (pre++acc)) true) (.slice [[.str [44]]] true)=some (.slice (strs (pre++acc++[[44]])) true):=dF (by simp;omega)
    obtain⟨a1,a2,a3,a4⟩:=step (pre++acc++[[44]]) (by simp;omega) (by rw[hs];simp)
    generalize pre++aH ((f.bA.take (i+1)).map (dc f.kind))=out at a3 a4 IY ⊢
    generalize pre++acc++[[44]]++[u.name]++dn (.mk u.wn u.wk)=b2 at a2 a3 a4
    generalize pre++acc++[[44]]++[u.name]=b1 at a1 a2
    generalize pre++acc++[[44]]=b0 at a0 a1
    by_cases h4:f.kind=4
    ·have a3:=a3 h4
     simp(disch:=omega)only[aW,aa,simprocAttr,e1,e3,e4,jV,kV,Q2,QN,a0,a1,a2,a3]
     refine IY _ _ ?_ ?_ ?_
     ·simp(disch:=omega)only[aM,aa,simprocAttr,e1]
     ·simp(disch:=omega)only[aM,aa,simprocAttr,e4]
     ·simp(disch:=omega)only[aM,aa,simprocAttr]
    ·have a4:=a4 h4
     simp(disch:=omega)only[aW,aa,simprocAttr,e1,e3,e4,jV,kV,Q2,QN,a0,a1,a2]
     refine IY _ _ ?_ ?_ ?_
     ·simp(disch:=omega)only[aM,aa,simprocAttr,e1]
     ·simp(disch:=omega)only[aM,aa,simprocAttr,e4]
     ·simp(disch:=omega)only[aM,aa,simprocAttr,a4]
  ·rw[aji (by omega)] at e3
   simp(disch:=omega)only[aW,aa,simprocAttr,e1,e3,e4,jV]
   exact⟨_,_,rfl,by simp(disch:=omega)only[aM,aa,simprocAttr,e1],by simp(disch:=omega)only[aM,aa,simprocAttr,e3]⟩
 ·rintro s ⟨T,g,rfl,e1,e3⟩
  have QQ:(pre++aH (f.bA.map (dc f.kind))).length<=10000:=by
   rw[LM,List.length_append,List.length_append] at hlen;omega
  have a1:aq false 1 16 (.slice (strs (pre++aH (f.bA.map (dc f.kind)))) true) (.slice [[.str [41]]] true)=some (.slice (strs (pre++aH (f.bA.map (dc f.kind))++[[41]])) true):=dF (by omega)
  by_cases b0:f.kind=0\/f.kind=1
  ·rw[if_pos b0,ajh] at LM
   rw[<- LM] at a1
   have eo:(!(decide (f.kind=0) || decide (f.kind=1)))=false:=by rcases b0 with b|b<;>simp[b]
   rw[eo]
   rcases b0 with b|b<;>simp(disch:=omega)only[aW,aa,simprocAttr,e1,e3,a1]
  ·rw[if_neg b0] at LM
   have eo:(!(decide (f.kind=0) || decide (f.kind=1)))=true:=by simpa using b0
   rw[eo]
   have c0:f.kind≠0:=fun h=>b0 (.inl h)
   have c1:f.kind≠1:=fun h=>b0 (.inr h)
   obtain⟨r1,r2⟩:bE (.mk f.rn f.rk)=true/\bD f.body=true:=by
    rcases aa6 with h|h|h
    ·exact absurd h c0
    ·exact absurd h c1
    ·exact h
   have Q2:=A1 3 (.mk f.rn f.rk) H (by omega) hb.w r1
   have htt:=(DF 5 f.body (by omega) hb.b r2).d H
   rw[jO] at Q2
   rw[ax] at htt
   have hwl:=iO 3 _ hb.w
   have ZD:(aj f.body).length<=7260:=o6 5 f.body hb.b
   generalize dn (.mk f.rn f.rk)=w at Q2 hwl LM
   generalize aj f.body=tt at htt ZD LM
   generalize pre++aH (f.bA.map (dc f.kind))=b0 at a1 e3 QQ LM
   have a2:aq false 1 16 (.slice (strs (b0++[[41]])) true) (.slice (strs w) true)=some (.slice (strs (b0++[[41]]++w)) true):=bR (by simp;omega)
   have a3:aq false 1 16 (.slice (strs (b0++[[41]]++w)) true) (.slice [[.str [61]]] true)=some (.slice (strs (b0++[[41]]++w++[[61]])) true):=dF (by simp;omega)
   have a4:aq false 1 16 (.slice (strs (b0++[[41]]++w++[[61]])) true) (.slice (strs tt) true)=some (.slice (strs (b0++[[41]]++w++[[61]]++tt)) true):=bR (by simp;omega)
   rw[show df f=b0++[[41]]++w++[[61]]++tt by rw[LM];simp]
   generalize b0++[[41]]++w++[[61]]++tt=b5 at a4 ⊢
   generalize b0++[[41]]++w++[[61]]=b4 at a3 a4
   generalize b0++[[41]]++w=b3 at a2 a3
   generalize b0++[[41]]=b1 at a1 a2
   simp(disch:=omega)only[aW,aa,simprocAttr,e1,e3,a1,a2,a3,a4,Q2,htt]
 ·exact⟨_,_,rfl,by simp(disch:=omega)only[aM,aa,simprocAttr],by simp(disch:=omega)only[aM,aa,simprocAttr,ajl],by simp(disch:=omega)only[aM,aa,simprocAttr,ajJ,aiX,aH,ajh]⟩
theorem Ht{l:List Fd} : tA 4 (l.map gm):=⟨fun r hr=>by obtain⟨t,_,rfl⟩:=ai5.1 hr;rfl,sX fun r hr=>by obtain⟨t,_,rfl⟩:=ai5.1 hr;rfl⟩
theorem KB{l:List Fd}{u:Fd}{o:Bool}(h:l.length<=10000000):aq false 4 64 (.slice (l.map gm) true) (.slice [[.str u.name,.str u.wn,.slice (aO u.wk) false,.int .i64 u.iU]] o)=some (.slice ((l++[u]).map gm) true):=by
 have e:([[.str u.name,.str u.wn,.slice (aO u.wk) false,.int .i64 u.iU]]:List (List AV))=[u].map gm:=rfl
 rw[e,sq Ht Ht (by simp;omega) (by simp;omega),List.map_append]
theorem Hx{l:List Fm} : tA 14 (l.map jI):=⟨fun r hr=>by obtain⟨t,_,rfl⟩:=ai5.1 hr;rfl,sX fun r hr=>by obtain⟨t,_,rfl⟩:=ai5.1 hr;rfl⟩
theorem KC{l:List Fm}{f:Fm}{o:Bool}(h:l.length<=10000000):aq false 14 248 (.slice (l.map jI) true) (.slice [[.int .i64 f.kind,.str f.name,.slice (f.bA.map gm) false,.str f.rn,.slice (aO f.rk) false,
  .int .i64 f.body.kind,.int .i64 f.body.n,.str f.body.name,.str f.body.field,.str f.body.wn,.slice (aO f.body.wk) false,.slice (aK f.body.kids) false,.slice (strs f.body.names) false,.slice (strs f.layout) false]] o)=some (.slice ((l++[f]).map jI) true):=by
 have e:([[.int .i64 f.kind,.str f.name,.slice (f.bA.map gm) false,.str f.rn,.slice (aO f.rk) false,
  .int .i64 f.body.kind,.int .i64 f.body.n,.str f.body.name,.str f.body.field,.str f.body.wn,.slice (aO f.body.wk) false,.slice (aK f.body.kids) false,.slice (strs f.body.names) false,.slice (strs f.layout) false]]:List (List AV))=[f].map jI:=rfl
 rw[e,sq Hx Hx (by simp;omega) (by simp;omega),List.map_append]
theorem Vd{l:List Fm} : ((l.map jI).map fun r=>r.map n1)=l.map jI:=by
 rw[ake]
 exact ai6 fun w _=>rfl
theorem kq:∀ L:List aV,chunks 1 L.length (L.map AV.str)=strs L
 | []=>rfl
 | a :: r=>by
  have:=kq r
  simp only[strs,List.length_cons,aiU,chunks,ajP,ajJ,ako,ajW] at this ⊢
  rw[this]
theorem B8{base t l n:Nat}{fn:au}{s:AS}{L:List aV}{o:de}(hr:fn.results=[.tmp t])(m8:fn.muts.elem 888888=false)(m7:fn.muts.elem 777777=false)(hT:s.T t=.sref l 0 n 1)
  (hH:s.H[l]?=some o) (ho:mY o=some (L.map .str)) (hl:base<=l) (hn:n=L.length) (w5:s.lo=base):finish base fn s=some (.slice (strs L) false,none):=by
 have h1:mB base s=true:=by simp[mB,w5]
 have hb:Nat.blt l base=false:=by rw[<- akN,ajb];omega
 have jA:Nat.ble base l=true:=by simpa [ajg] using hl
 have h0:jJ base [.tmp t] s=none:=by
  simp only[jJ,lZ,nL,iE,hT,ar,cond_true,aiP,AV.leaves,AV.bg,AV.aN,hb,aiQ]
 have hp:qk base [.tmp t] s=none:=by simp only[qk,List.length_cons,aiR];rfl
 have hc:(L.map AV.str).all (fun x=>(oa s.H base 2 x.drop).plain&&py x)=true:=by
  rw[aiO]
  intro x hx
  obtain⟨a,_,rfl⟩:=ai5.1 hx
  rfl
 have hm:(L.map AV.str).map (fun x=>oa s.H base 2 x.drop)=L.map AV.str:=by
  rw[ake]
  exact ai6 fun a _=>rfl
 have LC:Nat.ble (0+n*1) (L.map AV.str).length=true:=by rw[ajg,ai9];omega
 have hz:oa s.H base 3 (.sref l 0 n 1)=.slice (strs L) false:=by
  rw[oa]
  simp only[jA,cond_true,hH,aiP,ho,hc,hm,LC,ajW,akw,show Nat.blt 0 1=true from rfl]
  rw[hn,kq]
 have hf:qj base [.tmp t] s=some (.slice (strs L) false,none):=by
  simp only[qj,uL,iE,hT,ar,cond_true,aiV,AV.bf,AV.drop,Lt,hz,aiP,AV.leaves,w5,akI]
 have h3:kU base fn s=some (.slice (strs L) false,none):=by
  unfold kU rj nC
  rw[h1,m8,hr]
  simp only[cond_true,aiQ,h0,hp,hf]
 unfold finish
 rw[h3,aiV,rO m7]
def gT(l:List aV):List aV:=(dh l).take l.length++[[10]]
theorem qJ{l:List aV} : (gT l).length=l.length+1:=by unfold gT;rw[List.length_append,List.length_take,gO];simp
theorem JQ(l:List aV):((dh l).map AV.str).take l.length++([AV.str [10]]++((dh l).map AV.str).drop (l.length+1))=(gT l).map AV.str:=by
 have:((dh l).map AV.str).drop (l.length+1)=[]:=ajS (by rw[ai9,gO];omega)
 rw[this,ajh,<- List.map_take,gT,List.map_append];rfl
theorem DH(l:List aV)(H:ag)(hl:l.length<=1000000):aA A 9 [.slice (strs l) false] H=some (.slice (strs (gT l)) false,none):=by
 have key:∃ r,aA A 9 [.slice (strs l) false] H=some r/\r=(.slice (strs (gT l)) false,none):=by
  refine pa (fn:=ir9) rfl rfl rfl ?_
  have hu:=PB l H hl
  unfold ir9
  have en:asNat (.int .i64 ((l.length:Int)+1-1))=some l.length:=by rw[fl (by omega)];congr 1;omega
  have iT:((dh l).map AV.str).length=l.length+1:=by rw[ai9,gO]
  simp(disch:=omega)only[evA,lB,jb,oV,lF,GI,bQ,ai,dX,ak.eval,AS.ca,↓reduceIte,Nat.reduceEqDiff,Option.isSome,Option.isNone,cond_true,aiQ,Nat.reduceBEq,Nat.reduceAdd,Nat.reduceMul,aa,jE,eq_self,reduceCtorEq,AY,jL,jH,gB,bound,n7,AS.cq,bO,fK,dG,Nat.reduceLeDiff,jY,putAt,Int.reduceEq,Int.reduceLT,Int.reduceLE,Int.reduceBEq,Int.reduceBNe,Int.reduceAdd,Int.reduceNeg,Int.reduceSub,Int.reduceMul,Ma,L',L9,L8,L7,L6,Md,Mc,ba,fl,Int.toNat_natCast,aki,hu,en,cX,heap_set,iT,cb]
  exact⟨_,B8 (t:=2) (l:=H.length) (n:=l.length+1) (L:=gT l) (o:=.dL ((gT l).map .str)) rfl (by decide) (by decide) (by simp[aC.put]) (by rw[<- JQ];simp) rfl (aiK _) qJ.symm rfl,rfl⟩
 obtain⟨r,h,rfl⟩:=key
 exact h
def gE(l lay:List aV)(i:Nat):aV:=((List.range i).map fun j=>lay.getD j []++l.getD j []).flatten
theorem qv{l lay:List aV}{i:Nat} : gE l lay (i+1)=gE l lay i++(lay.getD i []++l.getD i []):=by
 unfold gE;rw[List.range_succ,List.map_append,List.flatten_append];simp
theorem sU{l lay:List aV}{B:Nat}(h1:∀ s∈l,s.length<=B)(h2:∀ s∈lay,s.length<=B):∀ i,(gE l lay i).length<=i*(2*B)
 | 0=>by simp[gE]
 | i+1=>by
  have ih:=sU h1 h2 i
  have a1:(lay.getD i []).length<=B:=by
   by_cases h:i<lay.length
   ·rw[getD_at h];exact h2 _ (ajA h)
   ·simp[List.getD,ajk (akS h)]
  have a2:(l.getD i []).length<=B:=by
   by_cases h:i<l.length
   ·rw[getD_at h];exact h1 _ (ajA h)
   ·simp[List.getD,ajk (akS h)]
  rw[qv,List.length_append,List.length_append,ajj]
  omega
def rL(l lay:List aV):List aV:=if lay.length=l.length+1 then lay else gT l
def CE(l lay:List aV):aV:=gE l (rL l lay) l.length++(rL l lay).getD l.length []
theorem Og{l lay:List aV} : (rL l lay).length=l.length+1:=by
 unfold rL
 split
 ·assumption
 ·exact qJ
theorem Up{l:List aV} : ∀ s∈gT l,s.length<=40:=by
 intro s hs
 unfold gT at hs
 rcases aiM.1 hs with h|h
 ·have h:=ajR h
  unfold dh at h
  obtain⟨i,_,rfl⟩:=ai5.1 h
  unfold cS
  split<;>simp
 ·rw[aiY.1 h];simp
theorem XS{l lay:List aV}(h:∀ s∈lay,s.length<=40):∀ s∈rL l lay,s.length<=40:=by
 unfold rL;split
 ·exact h
 ·exact Up
theorem sL{l:List aV}{B:Nat}(h:∀ s∈l,s.length<=B)(i:Nat):(l.getD i []).length<=B:=by
 by_cases hi:i<l.length
 ·rw[getD_at hi];exact h _ (ajA hi)
 ·simp[List.getD,ajk (akS hi)]
theorem gN{l:List aV}{i:Nat}(h:i<l.length):(strs l)[i]?=some [.str (l.getD i [])]:=by rw[getD_at h];exact bk (aiJ h)
theorem Sw(l lay:List aV)(H:ag)(hl:l.length<=20000)(hb:∀ s∈l,s.length<=40)(jA:∀ s∈lay,s.length<=40)(HH:lay.length<=1000000) :
  aA A 12 [.slice (strs l) false,.slice (strs lay) false] H=some (.str (CE l lay),none):=by
 refine bb (fn:=Gg) rfl rfl rfl ?_
 have hu:=DH l H (by omega)
 have hy:=XS (l:=l) jA
 have hyl:=Og (l:=l) (lay:=lay)
 unfold Gg
 have main:∀ (s:AS),(∃ T,s=⟨T,H,H.length,0⟩/\T 0=.slice (strs l) false/\T 1=.slice (strs (rL l lay)) false) ->
   W A (Gg.body.post 1) s (done H.length [.tmp 4] (.str (CE l lay),none)):=by
  rintro s ⟨T,rfl,e0,e1⟩
  unfold Gg CE
  simp only[aZ.post]
  generalize rL l lay=y at e1 hy hyl
  have y0:=gN (l:=y) (i:=0) (by omega)
  simp(disch:=omega)only[aW,aa,simprocAttr,e0,e1,y0]
  refine bY l.length 0 (fun i s=>∃ T,s=⟨T,H,H.length,0⟩/\T 0=.slice (strs l) false/\T 1=.slice (strs y) false/\T 6=.int .i64 i/\T 5=.str (gE l y i++y.getD i []))
   (fun s=>∃ T,s=⟨T,H,H.length,0⟩/\T 5=.str (gE l y l.length++y.getD l.length [])) (fun _=>False) ?_ ?_ (fun _ h=>h.elim) 0 _ (ajy _) ?_
  ·rintro i s hi ⟨T,rfl,e0,e1,e6,e5⟩
   by_cases a7:i<l.length
   ·have q1:=gN a7
    have q2:=gN (l:=y) (i:=i+1) (by omega)
    have j1:=sU hb hy i
    have j1' : i*(2*40)<=20000*(2*40):=aiZ _ (by omega)
    have j2:=sL hy i
    have j3:=sL hb i
    have j4:=sL hy (i+1)
    have en:asNat (.int .i64 ((i:Int)+1))=some (i+1):=by rw[fl (by omega)];rfl
    have hs:gE l y i++y.getD i []++l.getD i []++y.getD (i+1) []=gE l y (i+1)++y.getD (i+1) []:=by rw[qv];simp
    have aaN:(gE l y i++y.getD i []).length<=2000000:=by rw[List.length_append];omega
    generalize gE l y i++y.getD i []=acc at e5 hs aaN
    have vI:(acc++l.getD i []).length<=3000000:=by rw[List.length_append];omega
    simp(disch:=omega)only[aW,aa,simprocAttr,e0,e1,e5,e6,aE,q1,q2,en]
    exact⟨a7,_,rfl,by simp(disch:=omega)only[aM,aa,simprocAttr,e0],by simp(disch:=omega)only[aM,aa,simprocAttr,e1],by simp(disch:=omega)only[aM,aa,simprocAttr],by simp(disch:=omega)only[aM,aa,simprocAttr,hs]⟩
   ·obtain rfl:i=l.length:=by omega
    simp(disch:=omega)only[aW,aa,simprocAttr,e0,e5,e6,aE]
    exact⟨_,rfl,by simp(disch:=omega)only[aM,aa,simprocAttr,e5]⟩
  ·rintro s ⟨T,rfl,e5⟩
   simp(disch:=omega)only[aW,aa,simprocAttr,e5]
  ·exact⟨_,rfl,by simp(disch:=omega)only[aM,aa,simprocAttr,e0],by simp(disch:=omega)only[aM,aa,simprocAttr,e1],by simp(disch:=omega)only[aM,aa,simprocAttr,ajl],by simp(disch:=omega)only[aM,aa,simprocAttr,gE,List.range_zero,aiX,ajT,aj5]⟩
 refine ib 1 (R:=fun s=>∃ T,s=⟨T,H,H.length,0⟩/\T 0=.slice (strs l) false/\T 1=.slice (strs (rL l lay)) false) ?_ main
 simp only[aZ.pre]
 by_cases hc:lay.length=l.length+1
 ·have e:rL l lay=lay:=by unfold rL;rw[if_pos hc]
  simp(disch:=omega)only[aW,aa,simprocAttr,aE]
  exact⟨_,rfl,by simp(disch:=omega)only[aM,aa,simprocAttr],by rw[e];simp(disch:=omega)only[aM,aa,simprocAttr]⟩
 ·have e:rL l lay=gT l:=by unfold rL;rw[if_neg hc]
  simp(disch:=omega)only[aW,aa,simprocAttr,aE,hu]
  exact⟨_,rfl,by simp(disch:=omega)only[aM,aa,simprocAttr],by rw[e];simp(disch:=omega)only[aM,aa,simprocAttr]⟩
theorem vd:∀ (k f n:Nat) (acc:aV),n<10 ^ (k+1)->(dj f n acc).length<=acc.length+k+1
 | _,0,n,acc,_=>by rw[dj];omega
 | 0,f+1,n,acc,h=>by
  have:Nat.blt n 10=true:=by simp[ajb];omega
  rw[dj,this,cond_true];simp
 | k+1,f+1,n,acc,h=>by
  rw[dj]
  cases hb:Nat.blt n 10 with
  | true=>simp only[cond_true,List.length_cons];omega
  | false =>
   simp only[aiQ]
   have h2:n / 10<10 ^ (k+1):=by rw[Nat.pow_succ] at h;omega
   have:=vd k f (n / 10) (UInt8.ofNat (48+n % 10) :: acc) h2
   rw[List.length_cons] at this
   omega
theorem KY{n:Nat}(h:n<=2199023255552):(ra n).length<=14:=by
 have:=vd 12 (n+1) n [] (by omega)
 unfold ra
 rw[aiR] at this
 omega
theorem JU{f:Fm}(h:PM f):(wz f).length<=10000:=by
 unfold wz;split
 ·exact yj h
 ·simp
end Go.Proofs.YtocbgffdpfiidaaGreatDoor
